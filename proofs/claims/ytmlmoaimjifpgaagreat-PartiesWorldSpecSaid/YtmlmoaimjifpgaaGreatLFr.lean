/- Loops that build lists, which are seen as never written any more behind them. -/
import Derived.Test.YtmlmoaimjifpgaaGreatLVf
namespace Go.Pv
theorem View.acc {α:Type}{row:List α->List PV}{k:Nat}{T:TypeId}{a:Option (Acc α)}(h0:row []=[]){e e':Env}{st st':q5c}(ha:accOk row k st' a)(hs:StLe (q6c T st' a) st)
  (he:∀ q ∈ e',q6d e q.1=q.2\/(q6d e q.1=q7n a/\q.2=.list false (row (q5u a)) (q5u a).length)):View ⟨e,st⟩ ⟨e',st'⟩:=by
 cases a with
 | none=>
  refine View.ple hs fun q hq=>?_
  rcases he q hq with h |⟨h1,h2⟩
  ·exact PLe.of_eq h
  ·rw [h1,h2]
   simp only [k1b,q78,h0,List.length_nil]
   exact PLe.nil1
 | some a=>
  obtain⟨h1,h2⟩:=ha
  refine View.frz h2 hs fun q hq=>?_
  rcases he q hq with h |⟨h3,h4⟩
  ·exact Frz.of_eq h
  ·rw [h3,h4]; exact Frz.acc h1
def NextF {σ:Type}(E:σ->Env)(S:σ->q5c)(inv:σ->Prop)(μ:σ->Nat)(fin:σ->Prop)(Ef:σ->Env)(Sf:σ->q5c)(x:σ)(s1:PS)(_:Tok (E,S,inv,μ,fin,Ef,Sf,x):=⟨⟩):Prop:=
 ∃ y,inv y/\μ y<μ x/\((¬ fin y/\View s1 ⟨E y,S y⟩)\/(fin y/\View s1 ⟨Ef y,Sf y⟩))
theorem NextF.intro {σ:Type}{E:σ->Env}{S:σ->q5c}{inv:σ->Prop}{μ:σ->Nat}{fin:σ->Prop}{Ef:σ->Env}{Sf:σ->q5c}{x:σ}{e:Env}{st:q5c}
  (hv:∀ x,inv x->fin x->View ⟨E x,S x⟩ ⟨Ef x,Sf x⟩) (y:σ) (hi:inv y) (hm:μ y<μ x) (he:∀ q ∈ E y,q6d e q.1=q.2) (hs:StLe (S y) st):NextF E S inv μ fin Ef Sf x ⟨e,st⟩:=by
 have h:=View.weak he hs
 by_cases hf:fin y
 ·exact⟨y,hi,hm,.inr ⟨hf,h.trans (hv y hi hf)⟩⟩
 ·exact⟨y,hi,hm,.inl ⟨hf,h⟩⟩
theorem j8f {P:Program}{c:MCode}{Q:q68}{e:Env}{st:q5c}{σ:Type}(E:σ->Env)(S:σ->q5c)(inv:σ->Prop)(μ:σ->Nat)(fin:σ->Prop)(Ef:σ->Env)(Sf:σ->q5c)
  (hv:∀ x,inv x->fin x->View ⟨E x,S x⟩ ⟨Ef x,Sf x⟩) (x0:σ) (h0:inv x0)
  (he:∀ q ∈ E x0,q6d e q.1=q.2) (hs:StLe (S x0) st)
  (hf:∀ x,inv x->fin x->xwp P c (fun e s=>k7s (fun s1=>NextF E S inv μ fin Ef Sf x s1) Q e s) ⟨Ef x,Sf x⟩)
  (h:∀ x,inv x->¬ fin x->xwp P c (fun e s=>k7s (fun s1=>NextF E S inv μ fin Ef Sf x s1) Q e s) ⟨E x,S x⟩):y1r P c Q ⟨e,st⟩:=by
 refine⟨fun n s=>∃ x,inv x/\μ x=n/\((¬ fin x/\s=⟨E x,S x⟩)\/(fin x/\s=⟨Ef x,Sf x⟩)), ?_, ?_⟩
 ·have h1:=View.weak he hs
  by_cases hf:fin x0
  ·exact⟨μ x0,_,h1.trans (hv x0 h0 hf),x0,h0,rfl,.inr ⟨hf,rfl⟩⟩
  ·exact⟨μ x0,_,h1,x0,h0,rfl,.inl ⟨hf,rfl⟩⟩
 ·rintro n s ⟨x,hx,rfl,hs⟩
  have hh:xwp P c (fun e s=>k7s (fun s1=>NextF E S inv μ fin Ef Sf x s1) Q e s) s:=by
   rcases hs with⟨h1,rfl⟩|⟨h1,rfl⟩
   ·exact h x hx h1
   ·exact hf x hx h1
  have e1:(fun e s=>k7s (fun s1=>NextF E S inv μ fin Ef Sf x s1) Q e s)=j1w (fun s1=>NextF E S inv μ fin Ef Sf x s1) Q:=rfl
  have e2:(fun s1=>NextF E S inv μ fin Ef Sf x s1)=(fun s1=>∃ m,m<μ x/\∃ s',View s1 s'/\∃ y,inv y/\μ y=m/\((¬ fin y/\s'=⟨E y,S y⟩)\/(fin y/\s'=⟨Ef y,Sf y⟩))):=by
   funext s1
   refine propext ⟨?_, ?_⟩
   ·rintro⟨y,h1,h2,⟨h3,h4⟩|⟨h3,h4⟩⟩
    ·exact⟨μ y,h2,_,h4,y,h1,rfl,.inl ⟨h3,rfl⟩⟩
    ·exact⟨μ y,h2,_,h4,y,h1,rfl,.inr ⟨h3,rfl⟩⟩
   ·rintro⟨m,h1,s',h2,y,h3,rfl,⟨h4,rfl⟩|⟨h4,rfl⟩⟩
    ·exact⟨y,h3,h1,.inl ⟨h4,h2⟩⟩
    ·exact⟨y,h3,h1,.inr ⟨h4,h2⟩⟩
  rw [e1,e2] at hh
  exact hh
theorem k7e {α β:Type}{row:List α->List PV}{k:Nat}(hrl:∀ l,(row l).length=l.length*k)(hra:∀ l m,row (l++m)=row l++row m){row':List β->List PV}{k':Nat}{T T':TypeId}{bytes:Nat}{st:q5c}{K:PV->q5c->Prop}
  (o:Option (Acc α)) (q:Option (Acc β)) (ho:accOk row k st o) (hq:accOk row' k' (q6c T st o) q) (xs:List α) {new:List PV} {m:Nat} (hnew:row xs=new) (hm:xs.length=m) (hm0:0<m) (hsz:((q5u o).length+m)*bytes<=140737488355328)
  (h:∀ o':Option (Acc α),accOk row k (q6c T' st q) o'->q5u o'=q5u o++xs->K (q7n o') (q6c T (q6c T' st q) o')):q61 T bytes k (q7n o) new m (q6c T' (q6c T st o) q) K:=by
 cases o with
 | none=>
  refine q9j hrl xs hnew hm hm0 (by simpa using hsz) fun a' ha' hl' hb'=>?_
  exact h (some a') ⟨ha',hb'⟩ (by simpa using hl')
 | some a=>
  obtain⟨ha,hb⟩:=ho
  have hg:q55 (q6c T' (q6c T st (some a)) q) a.b=some (.arr T a.R):=by
   cases q with
   | none=>simp
   | some y=>
    have h1:¬ a.b=y.b:=by
     have:=hq.2
     simp only [q5y,q50] at this
     exact this.1.1
    have h2:¬ y.b=a.b:=fun e=>h1 e.symm
    simp [q55,h2]
  refine q7t hrl hra ha hg xs hnew hm hsz fun a' ha' hl' hb'=>?_
  have e:k2d a.b (q6c T' (q6c T st (some a)) q)=q6c T' st q:=by
   cases q with
   | none=>simp [q7s hb]
   | some y=>
    have h1:¬ a.b=y.b:=by
     have:=hq.2
     simp only [q5y,q50] at this
     exact this.1.1
    have h2:¬ y.b=a.b:=fun e=>h1 e.symm
    simp [k2d,q7s hb,h2]
  rw [e] at hb' ⊢
  exact h (some a') ⟨ha',hb'⟩ hl'
def accT {α:Type}:Option (Acc α)->PV
 | none=>.list true [] 0
 | some a=>.own a.b 0 a.l.length a.cap
@[simp] theorem y7c {α:Type}:accT (none:Option (Acc α))=.list true [] 0:=rfl
@[simp] theorem y7d {α:Type}(a:Acc α):accT (some a)=.own a.b 0 a.l.length a.cap:=rfl
theorem k88 {P:Program}{g:FuncId}{ps qs:List PV}{b:Nat}{o:PObj}{st st':q5c}{p:PV}(hb:q50 st' b)(hs:StLe ((b,o)::st') st)(ha:Frzs b o ps qs)(h:Rets P g qs st' p){Q:PEnd->q5c->Prop}(hk:Q (.ret p) st'):xcall P g ps st Q:=
 PCalls.mono (PCalls.frz hb hs ha h) fun e s ⟨h1,h2⟩=>by subst h1; subst h2; exact hk
def q7v (l:List Int):List PV:=l.map .int
abbrev q6l (t:Bool)(l:List Int):PV:=.list t (q7v l) l.length
@[simp] theorem y4t:q7v []=[]:=rfl
theorem k3j (l:List Int):(q7v l).length=l.length*1:=by simp [q7v]
@[simp] theorem k5l (l:List Int):(q7v l).length=l.length:=by simp [q7v]
theorem q9u (l m:List Int):q7v (l++m)=q7v l++q7v m:=by simp [q7v]
@[simp] theorem k6n (l:List Int)(i:Nat)(h:i<l.length):(q7v l)[i]?=some (.int l[i]):=by simp [q7v,h]
end Go.Pv

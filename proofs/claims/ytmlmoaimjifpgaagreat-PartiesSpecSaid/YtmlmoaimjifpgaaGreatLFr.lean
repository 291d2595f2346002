/- Loops that build lists, which are seen as never written any more behind them. -/
import Derived.Test.YtmlmoaimjifpgaaGreatLVf
namespace Go.Pv
theorem View.acc {α:Type}{row:List α->List PV}{k:Nat}{T:TypeId}{a:Option (Acc α)}(h0:row []=[]){e e':Env}{st st':q5f}(ha:accOk row k st' a)(hs:StLe (q6e T st' a) st)
  (he:∀ q ∈ e',q6g e q.1=q.2\/(q6g e q.1=q7s a/\q.2=.list false (row (q50 a)) (q50 a).length)):View ⟨e,st⟩ ⟨e',st'⟩:=by
 cases a with
 | none=>
  refine View.ple hs fun q hq=>?_
  rcases he q hq with h |⟨h1,h2⟩
  ·exact PLe.of_eq h
  ·rw [h1,h2]
   simp only [k1l,q8x,h0,List.length_nil]
   exact PLe.nil1
 | some a=>
  obtain⟨h1,h2⟩:=ha
  refine View.frz h2 hs fun q hq=>?_
  rcases he q hq with h |⟨h3,h4⟩
  ·exact Frz.of_eq h
  ·rw [h3,h4]; exact Frz.acc h1
def NextF {σ:Type}(E:σ->Env)(S:σ->q5f)(inv:σ->Prop)(μ:σ->Nat)(fin:σ->Prop)(Ef:σ->Env)(Sf:σ->q5f)(x:σ)(s1:PS)(_:Tok (E,S,inv,μ,fin,Ef,Sf,x):=⟨⟩):Prop:=
 ∃ y,inv y/\μ y<μ x/\((¬ fin y/\View s1 ⟨E y,S y⟩)\/(fin y/\View s1 ⟨Ef y,Sf y⟩))
theorem NextF.intro {σ:Type}{E:σ->Env}{S:σ->q5f}{inv:σ->Prop}{μ:σ->Nat}{fin:σ->Prop}{Ef:σ->Env}{Sf:σ->q5f}{x:σ}{e:Env}{st:q5f}
  (hv:∀ x,inv x->fin x->View ⟨E x,S x⟩ ⟨Ef x,Sf x⟩) (y:σ) (hi:inv y) (hm:μ y<μ x) (he:∀ q ∈ E y,q6g e q.1=q.2) (hs:StLe (S y) st):NextF E S inv μ fin Ef Sf x ⟨e,st⟩:=by
 have h:=View.weak he hs
 by_cases hf:fin y
 ·exact⟨y,hi,hm,.inr ⟨hf,h.trans (hv y hi hf)⟩⟩
 ·exact⟨y,hi,hm,.inl ⟨hf,h⟩⟩
theorem j8a {P:Program}{c:MCode}{Q:q7e}{e:Env}{st:q5f}{σ:Type}(E:σ->Env)(S:σ->q5f)(inv:σ->Prop)(μ:σ->Nat)(fin:σ->Prop)(Ef:σ->Env)(Sf:σ->q5f)
  (hv:∀ x,inv x->fin x->View ⟨E x,S x⟩ ⟨Ef x,Sf x⟩) (x0:σ) (h0:inv x0)
  (he:∀ q ∈ E x0,q6g e q.1=q.2) (hs:StLe (S x0) st)
  (hf:∀ x,inv x->fin x->xwp P c (fun e s=>k70 (fun s1=>NextF E S inv μ fin Ef Sf x s1) Q e s) ⟨Ef x,Sf x⟩)
  (h:∀ x,inv x->¬ fin x->xwp P c (fun e s=>k70 (fun s1=>NextF E S inv μ fin Ef Sf x s1) Q e s) ⟨E x,S x⟩):y11 P c Q ⟨e,st⟩:=by
 refine⟨fun n s=>∃ x,inv x/\μ x=n/\((¬ fin x/\s=⟨E x,S x⟩)\/(fin x/\s=⟨Ef x,Sf x⟩)), ?_, ?_⟩
 ·have h1:=View.weak he hs
  by_cases hf:fin x0
  ·exact⟨μ x0,_,h1.trans (hv x0 h0 hf),x0,h0,rfl,.inr ⟨hf,rfl⟩⟩
  ·exact⟨μ x0,_,h1,x0,h0,rfl,.inl ⟨hf,rfl⟩⟩
 ·rintro n s ⟨x,hx,rfl,hs⟩
  have hh:xwp P c (fun e s=>k70 (fun s1=>NextF E S inv μ fin Ef Sf x s1) Q e s) s:=by
   rcases hs with⟨h1,rfl⟩|⟨h1,rfl⟩
   ·exact h x hx h1
   ·exact hf x hx h1
  have e1:(fun e s=>k70 (fun s1=>NextF E S inv μ fin Ef Sf x s1) Q e s)=j1k (fun s1=>NextF E S inv μ fin Ef Sf x s1) Q:=rfl
  have e2:(fun s1=>NextF E S inv μ fin Ef Sf x s1)=(fun s1=>∃ m,m<μ x/\∃ s',View s1 s'/\∃ y,inv y/\μ y=m/\((¬ fin y/\s'=⟨E y,S y⟩)\/(fin y/\s'=⟨Ef y,Sf y⟩))):=by
   funext s1
   refine propext ⟨?_, ?_⟩
   ·rintro⟨y,h1,h2,⟨h3,h4⟩|⟨h3,h4⟩⟩
    ·exact⟨μ y,h2,_,h4,y,h1,rfl,.inl ⟨h3,rfl⟩⟩
    ·exact⟨μ y,h2,_,h4,y,h1,rfl,.inr ⟨h3,rfl⟩⟩
   ·rintro⟨m,h1,s',h2,y,h3,rfl,⟨h4,rfl⟩|⟨h4,rfl⟩⟩
    ·exact⟨y,h3,h1,.inl ⟨h4,h2⟩⟩
    ·exact⟨y,h3,h1,.inr ⟨h4,h2⟩⟩
  rw [e1,e2] at hh
  exact hh
theorem k7l {α β:Type}{row:List α->List PV}{k:Nat}(hrl:∀ l,(row l).length=l.length*k)(hra:∀ l m,row (l++m)=row l++row m){row':List β->List PV}{k':Nat}{T T':TypeId}{bytes:Nat}{st:q5f}{K:PV->q5f->Prop}
  (o:Option (Acc α)) (q:Option (Acc β)) (ho:accOk row k st o) (hq:accOk row' k' (q6e T st o) q) (xs:List α) {new:List PV} {m:Nat} (hnew:row xs=new) (hm:xs.length=m) (hm0:0<m) (hsz:((q50 o).length+m)*bytes<=140737488355328)
  (h:∀ o':Option (Acc α),accOk row k (q6e T' st q) o'->q50 o'=q50 o++xs->K (q7s o') (q6e T (q6e T' st q) o')):q67 T bytes k (q7s o) new m (q6e T' (q6e T st o) q) K:=by
 cases o with
 | none=>
  refine q9s hrl xs hnew hm hm0 (by simpa using hsz) fun a' ha' hl' hb'=>?_
  exact h (some a') ⟨ha',hb'⟩ (by simpa using hl')
 | some a=>
  obtain⟨ha,hb⟩:=ho
  have hg:q55 (q6e T' (q6e T st (some a)) q) a.b=some (.arr T a.R):=by
   cases q with
   | none=>simp
   | some y=>
    have h1:¬ a.b=y.b:=by
     have:=hq.2
     simp only [q52,q54] at this
     exact this.1.1
    have h2:¬ y.b=a.b:=fun e=>h1 e.symm
    simp [q55,h2]
  refine q8l hrl hra ha hg xs hnew hm hsz fun a' ha' hl' hb'=>?_
  have e:k2l a.b (q6e T' (q6e T st (some a)) q)=q6e T' st q:=by
   cases q with
   | none=>simp [q7x hb]
   | some y=>
    have h1:¬ a.b=y.b:=by
     have:=hq.2
     simp only [q52,q54] at this
     exact this.1.1
    have h2:¬ y.b=a.b:=fun e=>h1 e.symm
    simp [k2l,q7x hb,h2]
  rw [e] at hb' ⊢
  exact h (some a') ⟨ha',hb'⟩ hl'
def accT {α:Type}:Option (Acc α)->PV
 | none=>.list true [] 0
 | some a=>.own a.b 0 a.l.length a.cap
@[simp] theorem y7b {α:Type}:accT (none:Option (Acc α))=.list true [] 0:=rfl
@[simp] theorem y7c {α:Type}(a:Acc α):accT (some a)=.own a.b 0 a.l.length a.cap:=rfl
theorem k88 {P:Program}{g:FuncId}{ps qs:List PV}{b:Nat}{o:PObj}{st st':q5f}{p:PV}(hb:q54 st' b)(hs:StLe ((b,o)::st') st)(ha:Frzs b o ps qs)(h:Rets P g qs st' p){Q:PEnd->q5f->Prop}(hk:Q (.ret p) st'):xcall P g ps st Q:=
 PCalls.mono (PCalls.frz hb hs ha h) fun e s ⟨h1,h2⟩=>by subst h1; subst h2; exact hk
def q7z (l:List Int):List PV:=l.map .int
abbrev j0n (t:Bool)(l:List Int):PV:=.list t (q7z l) l.length
@[simp] theorem y4t:q7z []=[]:=rfl
theorem k3s (l:List Int):(q7z l).length=l.length*1:=by simp [q7z]
@[simp] theorem j8b (l:List Int):(q7z l).length=l.length:=by simp [q7z]
theorem q95 (l m:List Int):q7z (l++m)=q7z l++q7z m:=by simp [q7z]
@[simp] theorem j17 (l:List Int)(i:Nat)(h:i<l.length):(q7z l)[i]?=some (.int l[i]):=by simp [q7z,h]
end Go.Pv

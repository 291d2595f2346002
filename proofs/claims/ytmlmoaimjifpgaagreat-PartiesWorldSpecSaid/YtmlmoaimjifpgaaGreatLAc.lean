/- A list that is being built, amid other objects of the store. -/
import Derived.Test.YtmlmoaimjifpgaaGreatLFr
import Derived.Test.YtmlmoaimjifpgaaGreatLVf
import Derived.Test.YtmlmoaimjifpgaaGreatLBx
namespace Go.Pv
theorem k3l {c:Nat}:∀ {pre st:q5c},q50 (pre++st) c ↔ q50 pre c/\q50 st c
 | [],st=>by simp [q50]
 | (b,o)::pre,st=>by
  rw [List.cons_append]
  show (¬b=c/\¬c=b)/\q50 (pre++st) c ↔ ((¬b=c/\¬c=b)/\q50 pre c)/\q50 st c
  rw [k3l (pre:=pre)]
  exact⟨fun⟨a,b,c⟩=>⟨⟨a,b⟩,c⟩,fun⟨⟨a,b⟩,c⟩=>⟨a,b,c⟩⟩
theorem k79 {c:Nat}:∀ {pre st:q5c},q50 pre c->q55 (pre++st) c=q55 st c
 | [],_,_=>rfl
 | (b,o)::pre,st,h=>by
  simp only [q50] at h
  rw [List.cons_append]
  simp only [q55,if_neg h.1.1]
  exact k79 h.2
theorem j08 {c:Nat}:∀ {pre st:q5c},q50 pre c->k2d c (pre++st)=pre++k2d c st
 | [],_,_=>rfl
 | (b,o)::pre,st,h=>by
  simp only [q50] at h
  rw [List.cons_append]
  simp only [k2d,if_neg h.1.1]
  rw [j08 h.2,List.cons_append]
@[simp] theorem y43 {α:Type}(o:Option (Acc α)):(q7n o).cells=some [q7n o]:=by cases o <;> rfl
theorem StLe.mid {b:Nat}{o:PObj}{pre st:q5c}(h:q50 pre b):StLe (pre++(b,o)::st) ((b,o)::(pre++st)):=fun d y hd=>by
 by_cases h1:b=d
 ·subst h1
  rw [k79 h] at hd
  simpa [q55] using hd
 ·simp only [q55,if_neg h1]
  induction pre with
  | nil=>simpa [q55,h1] using hd
  | cons x pre ih=>
   obtain⟨c,z⟩:=x
   simp only [q50] at h
   rw [List.cons_append] at hd ⊢
   simp only [q55] at hd ⊢
   split
   ·rename_i e; rw [if_pos e] at hd; exact hd
   ·rename_i e; rw [if_neg e] at hd; exact ih h.2 hd
theorem StLe.dim {b:Nat}{o:PObj}{pre st:q5c}(h:q50 pre b):StLe ((b,o)::(pre++st)) (pre++(b,o)::st):=fun d y hd=>by
 by_cases h1:b=d
 ·subst h1
  rw [k79 h]
  simpa [q55] using hd
 ·simp only [q55,if_neg h1] at hd
  induction pre with
  | nil=>simpa [q55,h1] using hd
  | cons x pre ih=>
   obtain⟨c,z⟩:=x
   simp only [q50] at h
   rw [List.cons_append] at hd ⊢
   simp only [q55] at hd ⊢
   split
   ·rename_i e; rw [if_pos e] at hd; exact hd
   ·rename_i e; rw [if_neg e] at hd; exact ih h.2 hd
section
variable {α:Type} {row:List α->List PV} {k:Nat}
def k1c (pre:q5c)(o:Option (Acc α)):Prop:=∀ a,o=some a->q50 pre a.b
theorem accOk.app {pre st:q5c}{o:Option (Acc α)}:accOk row k (pre++st) o ↔ accOk row k st o/\k1c pre o:=by
 cases o with
 | none=>exact⟨fun _=>⟨trivial,fun a h=>by cases h⟩,fun _=>trivial⟩
 | some a=>
  constructor
  ·rintro⟨h1,h2⟩
   rw [k3l] at h2
   exact⟨⟨h1,h2.2⟩,fun b hb=>by cases hb; exact h2.1⟩
  ·rintro⟨⟨h1,h2⟩,h3⟩
   exact⟨h1,k3l.2 ⟨h3 a rfl,h2⟩⟩
theorem StLe.accMid {T:TypeId}{pre st:q5c}{o:Option (Acc α)}(h:k1c pre o):StLe (pre++q6c T st o) (q6c T (pre++st) o):=by
 cases o with
 | none=>exact .refl _
 | some a=>exact StLe.mid (h a rfl)
theorem StLe.accDim {T:TypeId}{pre st:q5c}{o:Option (Acc α)}(h:k1c pre o):StLe (q6c T (pre++st) o) (pre++q6c T st o):=by
 cases o with
 | none=>exact .refl _
 | some a=>exact StLe.dim (h a rfl)
theorem k7g (hrl:∀ l,(row l).length=l.length*k)(hra:∀ l m,row (l++m)=row l++row m){T:TypeId}{bytes:Nat}{pre st:q5c}{K:PV->q5c->Prop}
  (o:Option (Acc α)) (ho:accOk row k st o) (hp:k1c pre o) (xs:List α) {new:List PV} {m:Nat} (hnew:row xs=new) (hm:xs.length=m) (hm0:0<m) (hsz:((q5u o).length+m)*bytes<=140737488355328)
  (h:∀ o':Option (Acc α),accOk row k (pre++st) o'->q5u o'=q5u o++xs->K (q7n o') (q6c T (pre++st) o')):q61 T bytes k (q7n o) new m (pre++q6c T st o) K:=by
 cases o with
 | none=>
  refine q9j hrl xs hnew hm hm0 (by simpa using hsz) fun a' ha' hl' hb'=>?_
  exact h (some a') ⟨ha',hb'⟩ (by simpa using hl')
 | some a=>
  obtain⟨ha,hb⟩:=ho
  have hpa:=hp a rfl
  have hg:q55 (pre++q6c T st (some a)) a.b=some (.arr T a.R):=by
   rw [k79 hpa]
   simp
  refine q7t hrl hra ha hg xs hnew hm hsz fun a' ha' hl' hb'=>?_
  have e:k2d a.b (pre++q6c T st (some a))=pre++st:=by
   rw [j08 hpa]
   simp [q7s hb]
  rw [e] at hb' ⊢
  exact h (some a') ⟨ha',hb'⟩ hl'
theorem RetView.accF {T:TypeId}{st0 st:q5c}{o:Option (Acc α)}{c:PV->PEnd}{Q:PEnd->q5c->Prop}{p:PV}(q:PV)(ho:accOk row k st o)(hs:StLe (q6c T st o) st0)(h0:o=none->PLe p q)(h1:∀ a,o=some a->Frz a.b (.arr T a.R) p q)
  (h:RetView c q st Q):RetView c p st0 Q:=by
 cases o with
 | none=>exact RetView.sees (Sees.drop hs) (RetView.sees ⟨fun I _ v a b=>⟨I,I.le_refl,a,h0 rfl I v b⟩⟩ h)
 | some a=>exact RetView.sees (Sees.drop hs) (RetView.freeze q ho.2 (h1 a rfl) h)
end
theorem Frzs.app {b:Nat}{o:PObj}:∀ {ps qs rs us:List PV},Frzs b o ps qs->Frzs b o rs us->Frzs b o (ps++rs) (qs++us)
 | _,_,_,_,.nil,h=>h
 | _,_,_,_,.cons h t,h2=>.cons h (Frzs.app t h2)
theorem PsLe.app:∀ {ps qs rs us:List PV},PsLe ps qs->PsLe rs us->PsLe (ps++rs) (qs++us)
 | [],[],_,_,_,h=>h
 | _::_,_::_,_,_,⟨a,b⟩,h=>⟨a,PsLe.app b h⟩
 | [],_::_,_,_,h,_=>nomatch h
 | _::_,[],_,_,h,_=>nomatch h
section
variable {α:Type} {row:List α->List PV} {k:Nat} {T:TypeId} {P:Program} {g:FuncId} {ps:List PV}
theorem PCalls.amid {pre st:q5c}{o:Option (Acc α)}(ho:accOk row k st o)(hp:k1c pre o){Q:Option (Acc α)->PEnd->Prop}
  (h:∀ st,accOk row k st o->PCalls P g ps (q6c T st o) fun e s=>∃ o',accOk row k st o'/\Q o' e/\s=q6c T st o') :
  PCalls P g ps (pre++q6c T st o) fun e s=>∃ o',accOk row k st o'/\k1c pre o'/\Q o' e/\s=pre++q6c T st o':=by
 refine PCalls.le (StLe.accDim hp) (PCalls.shrink (PCalls.mono (h (pre++st) (accOk.app.2 ⟨ho,hp⟩)) fun e s hs=>?_))
 obtain⟨o',h1,h2,rfl⟩:=hs
 obtain⟨h3,h4⟩:=accOk.app.1 h1
 exact⟨_,StLe.accMid h4,o',h3,h4,h2,rfl⟩
end
section
variable {α β:Type} {row:List α->List PV} {k:Nat} {row':List β->List PV} {k':Nat} {T T':TypeId}
abbrev S3 (T T':TypeId)(w:Nat)(W:PObj)(a:Option (Acc α))(b:Option (Acc β))(st:q5c):q5c:=(w,W)::q6c T' (q6c T st a) b
structure Ok3 (row:List α->List PV)(k:Nat)(row':List β->List PV)(k':Nat)(T T':TypeId)(w:Nat)(a:Option (Acc α))(b:Option (Acc β))(st:q5c):Prop where
 oa:accOk row k st a
 ob:accOk row' k' (q6c T st a) b
 ow:q50 (q6c T' (q6c T st a) b) w
def j3r (T':TypeId)(w:Nat)(W:PObj)(b:Option (Acc β)):q5c:=(w,W)::q6c T' [] b
theorem k3m (T':TypeId)(w:Nat)(W:PObj)(b:Option (Acc β))(st:q5c):j3r T' w W b++st=(w,W)::q6c T' st b:=by cases b <;> rfl
theorem j09 (T':TypeId)(b:Option (Acc β))(st:q5c):q6c T' [] b++st=q6c T' st b:=by cases b <;> rfl
theorem Ok3.pre {w:Nat}{W:PObj}{a:Option (Acc α)}{b:Option (Acc β)}{st:q5c}(h:Ok3 row k row' k' T T' w a b st):k1c (j3r T' w W b) a:=fun x hx=>by
 subst hx
 have hw:=h.ow
 have hb:=h.ob
 cases b with
 | none=>
  simp only [q8p,q5y,q50] at hw
  exact⟨⟨fun e=>hw.1.2 e,fun e=>hw.1.1 e⟩,trivial⟩
 | some y=>
  simp only [q5y,q50] at hw
  have h2:=hb.2
  simp only [q5y,q50] at h2
  exact⟨⟨hw.2.1.2,hw.2.1.1⟩,⟨h2.1.2,h2.1.1⟩,trivial⟩
theorem Ok3.parts {w:Nat}{a:Option (Acc α)}{b:Option (Acc β)}{st:q5c}(h:Ok3 row k row' k' T T' w a b st):accOk row' k' st b/\q50 (q6c T' st b) w:=by
 have hw:=h.ow
 have hb:=h.ob
 cases a with
 | none=>exact⟨hb,hw⟩
 | some x=>
  cases b with
  | none=>
   simp only [q8p,q5y,q50] at hw
   exact⟨trivial,hw.2⟩
  | some y=>
   simp only [q5y,q50] at hw
   have h2:=hb.2
   simp only [q5y,q50] at h2
   exact⟨⟨hb.1,h2.2⟩,hw.1,hw.2.2⟩
theorem Ok3.of {w:Nat}{W:PObj}{a:Option (Acc α)}{b:Option (Acc β)}{st:q5c}(ha:accOk row k st a)(hp:k1c (j3r T' w W b) a)(h:accOk row' k' st b/\q50 (q6c T' st b) w):Ok3 row k row' k' T T' w a b st:=by
 obtain⟨hb,hw⟩:=h
 cases a with
 | none=>exact⟨ha,hb,hw⟩
 | some x=>
  have hx:=hp x rfl
  cases b with
  | none=>
   simp only [j3r,q8p,q50] at hx
   exact⟨ha,trivial,⟨⟨hx.1.2,hx.1.1⟩,hw⟩⟩
  | some y=>
   simp only [j3r,q5y,q50] at hx
   simp only [q5y,q50] at hw
   exact⟨ha,⟨hb.1,⟨hx.2.1.2,hx.2.1.1⟩,hb.2⟩,⟨hw.1,⟨hx.1.2,hx.1.1⟩,hw.2⟩⟩
theorem Ok3.callA {w:Nat}{W:PObj}{a:Option (Acc α)}{b:Option (Acc β)}{st:q5c}{P:Program}{g:FuncId}{ps:List PV}{Q:Option (Acc α)->PEnd->Prop}(h:Ok3 row k row' k' T T' w a b st)
  (hq:∀ st,accOk row k st a->PCalls P g ps (q6c T st a) fun e s=>∃ o',accOk row k st o'/\Q o' e/\s=q6c T st o') :
  PCalls P g ps (S3 T T' w W a b st) fun e s=>∃ a',Ok3 row k row' k' T T' w a' b st/\Q a' e/\s=(w,W)::q6c T' (q6c T st a') b:=by
 have e1:=k3m T' w W b
 unfold S3
 rw [<-e1]
 refine PCalls.mono (PCalls.amid h.oa h.pre hq) fun e s hs=>?_
 obtain⟨o',h1,h2,h3,rfl⟩:=hs
 exact⟨o',Ok3.of h1 h2 h.parts,h3,e1 _⟩
theorem Ok3.callB {w:Nat}{W:PObj}{a:Option (Acc α)}{b:Option (Acc β)}{st:q5c}{P:Program}{g:FuncId}{ps:List PV}{Q:Option (Acc β)->PEnd->Prop}(h:Ok3 row k row' k' T T' w a b st)
  (hq:∀ st,accOk row' k' st b->PCalls P g ps (q6c T' st b) fun e s=>∃ o',accOk row' k' st o'/\Q o' e/\s=q6c T' st o') :
  PCalls P g ps (S3 T T' w W a b st) fun e s=>∃ b',Ok3 row k row' k' T T' w a b' st/\Q b' e/\s=(w,W)::q6c T' (q6c T st a) b':=by
 have hp:k1c [(w,W)] b:=fun x hx=>by
  subst hx
  have:=h.ow
  simp only [q5y,q50] at this
  exact⟨⟨this.1.2,this.1.1⟩,trivial⟩
 refine PCalls.mono (PCalls.amid (pre:=[(w,W)]) h.ob hp hq) fun e s hs=>?_
 obtain⟨o',h1,h2,h3,rfl⟩:=hs
 refine⟨o',⟨h.oa,h1, ?_⟩,h3,rfl⟩
 have hw:=h.ow
 cases o' with
 | none=>
  cases b with
  | none=>exact hw
  | some y=>exact hw.2
 | some z=>
  have hz:=h2 z rfl
  simp only [q50] at hz
  refine⟨⟨hz.1.2,hz.1.1⟩, ?_⟩
  cases b with
  | none=>exact hw
  | some y=>exact hw.2
theorem Ok3.appA (hrl:∀ l,(row l).length=l.length*k)(hra:∀ l m,row (l++m)=row l++row m){w q:Nat}{W N:PObj}{a:Option (Acc α)}{b:Option (Acc β)}{st:q5c}{K:PV->q5c->Prop}{bytes:Nat}(h:Ok3 row k row' k' T T' w a b st)
  (hq:q50 (S3 T T' w W a b st) q) (xs:List α) {new:List PV} {m:Nat} (hnew:row xs=new) (hm:xs.length=m) (hm0:0<m) (hsz:((q5u a).length+m)*bytes<=140737488355328)
  (hk:∀ a' st',Ok3 row k row' k' T T' w a' b st->q5u a'=q5u a++xs->q55 st' w=some W->(∀ X,StLe (S3 T T' w X a' b st) (q8u st' w X))->K (q7n a') st'):q61 T bytes k (q7n a) new m ((q,N)::S3 T T' w W a b st) K:=by
 have e1:=k3m T' w W b
 have hp:=h.pre (W:=W)
 have hqa:k1c ((q,N)::j3r T' w W b) a:=fun x hx=>by
  refine⟨?_,hp x hx⟩
  subst hx
  unfold S3 at hq
  rw [<-e1,k3l] at hq
  have:=hq.2
  simp only [q5y,q50] at this
  exact⟨this.1.2,this.1.1⟩
 have e2:(q,N)::S3 T T' w W a b st=((q,N)::j3r T' w W b)++q6c T st a:=by
  unfold S3
  rw [<-e1,List.cons_append]
 rw [e2]
 refine k7g hrl hra a h.oa hqa xs hnew hm hm0 hsz fun a' ha' hl'=>?_
 obtain⟨h1,h2⟩:=accOk.app.1 ha'
 have h3:k1c (j3r T' w W b) a':=fun x hx=>(h2 x hx).2
 have hok:Ok3 row k row' k' T T' w a' b st:=Ok3.of h1 h3 h.parts
 refine hk a' _ hok hl' ?_ fun X=>?_
 ·have:q55 ((q,N)::j3r T' w W b++st) w=some W:=by
   rw [List.cons_append,e1]
   have h4:¬ q=w:=by
    unfold S3 at hq
    simp only [q50] at hq
    exact hq.1.2
   simp [q55,h4]
  cases a' with
  | none=>exact this
  | some x=>
   have h5:=(h2 x rfl).2.1
   simp only [q5y,q55]
   rw [if_neg h5.2]
   exact this
 ·have h4:¬ q=w:=by
   unfold S3 at hq
   simp only [q50] at hq
   exact hq.1.2
  have hset:q8u (q6c T ((q,N)::j3r T' w W b++st) a') w X=q6c T ((q,N)::j3r T' w X b++st) a':=by
   rw [List.cons_append,e1,List.cons_append,k3m]
   cases a' with
   | none=>simp [q8u,h4]
   | some x=>
    have h5:=(h2 x rfl).2.1
    simp [q8u,h4,h5.2]
  rw [hset]
  unfold S3
  rw [<-k3m]
  have h7:k1c (j3r T' w X b) a':=fun x hx=>h3 x hx
  refine (StLe.accMid h7).trans ?_
  cases a' with
  | none=>
   refine StLe.fresh ?_
   rw [k3m]
   unfold S3 at hq
   have hq2:=hq
   simp only [q50] at hq2 ⊢
   refine⟨hq2.1, ?_⟩
   have:=hq2.2
   rw [<-j09,k3l] at this ⊢
   refine⟨this.1, ?_⟩
   cases a with
   | none=>exact this.2
   | some y=>exact this.2.2
  | some x=>
   refine k1a (StLe.fresh ?_)
   rw [k3m]
   unfold S3 at hq
   have hq2:=hq
   simp only [q50] at hq2 ⊢
   refine⟨hq2.1, ?_⟩
   have:=hq2.2
   rw [<-j09,k3l] at this ⊢
   refine⟨this.1, ?_⟩
   cases a with
   | none=>exact this.2
   | some y=>exact this.2.2
theorem Ok3.appB (hrl:∀ l,(row' l).length=l.length*k')(hra:∀ l m,row' (l++m)=row' l++row' m){w q:Nat}{W N:PObj}{a:Option (Acc α)}{b:Option (Acc β)}{st:q5c}{K:PV->q5c->Prop}{bytes:Nat}(h:Ok3 row k row' k' T T' w a b st)
  (hq:q50 (S3 T T' w W a b st) q) (xs:List β) {new:List PV} {m:Nat} (hnew:row' xs=new) (hm:xs.length=m) (hm0:0<m) (hsz:((q5u b).length+m)*bytes<=140737488355328)
  (hk:∀ b' st',Ok3 row k row' k' T T' w a b' st->q5u b'=q5u b++xs->q55 st' w=some W->(∀ X,StLe (S3 T T' w X a b' st) (q8u st' w X))->K (q7n b') st'):q61 T' bytes k' (q7n b) new m ((q,N)::S3 T T' w W a b st) K:=by
 have hw:=h.ow
 have hp:k1c ((q,N)::[(w,W)]) b:=fun x hx=>by
  subst hx
  simp only [q5y,q50] at hw
  simp only [q5y,q50] at hq
  exact⟨⟨hq.2.1.2,hq.2.1.1⟩,⟨hw.1.2,hw.1.1⟩,trivial⟩
 refine k7g (pre:=(q,N)::[(w,W)]) hrl hra b h.ob hp xs hnew hm hm0 hsz fun b' hb' hl'=>?_
 obtain⟨h1,h2⟩:=accOk.app.1 hb'
 have hqw:¬ q=w:=by
  simp only [q50] at hq
  exact hq.1.2
 have hqs:q50 (q6c T st a) q:=by
  simp only [q50] at hq
  cases b with
  | none=>exact hq.2
  | some y=>exact hq.2.2
 have hws:q50 (q6c T st a) w:=by
  cases b with
  | none=>exact hw
  | some y=>exact hw.2
 refine hk b' _ ⟨h.oa,h1, ?_⟩ hl' ?_ fun X=>?_
 ·cases b' with
  | none=>exact hws
  | some z=>
   have hz:=(h2 z rfl).2.1
   exact⟨⟨hz.2,hz.1⟩,hws⟩
 ·cases b' with
  | none=>simp [q55,hqw]
  | some z=>
   have hz:=(h2 z rfl).2.1
   simp [q55,hqw,hz.2]
 ·cases b' with
  | none=>
   simp only [q8p,List.cons_append,List.nil_append,q8u,if_neg hqw,if_true,S3]
   exact StLe.fresh ⟨⟨fun e=>hqw e.symm,hqw⟩,hqs⟩
  | some z=>
   have hz:=h2 z rfl
   simp only [q50] at hz
   simp only [q5y,List.cons_append,List.nil_append,q8u,if_neg hqw,if_neg hz.2.1.2,if_true,S3]
   exact (StLe.swap hz.2.1.1).trans (k1a (StLe.fresh ⟨⟨fun e=>hqw e.symm,hqw⟩,hqs⟩))
end
section
variable {α:Type} {row:List α->List PV} {k:Nat} {T:TypeId} {b:Nat} {x:PObj} {st:q5c} {o:Option (Acc α)}
theorem z3v (ho:accOk row k ((b,x)::st) o):q55 (q6c T ((b,x)::st) o) b=some x:=by
 cases o with
 | none=>simp [q55]
 | some a=>
  have:=ho.2.1
  simp [q55,this.2]
theorem z3w (ho:accOk row k ((b,x)::st) o)(y:PObj):q8u (q6c T ((b,x)::st) o) b y=q6c T ((b,y)::st) o:=by
 cases o with
 | none=>simp [q8u]
 | some a=>
  have:=ho.2.1
  simp [q8u,this.2]
theorem accOk.rebox {y:PObj}(ho:accOk row k ((b,x)::st) o):accOk row k ((b,y)::st) o:=by
 cases o with
 | none=>trivial
 | some a=>exact ho
theorem StLe.acc {st0:q5c}(ho:accOk row k st o)(h:StLe st0 st):StLe st0 (q6c T st o):=by
 cases o with
 | none=>exact h
 | some a=>exact h.trans (.fresh ho.2)
end
end Go.Pv

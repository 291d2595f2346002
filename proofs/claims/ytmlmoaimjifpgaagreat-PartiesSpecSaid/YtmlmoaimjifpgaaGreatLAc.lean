/- A list that is being built, amid other objects of the store. -/
import Derived.Test.YtmlmoaimjifpgaaGreatLFr
import Derived.Test.YtmlmoaimjifpgaaGreatLVf
import Derived.Test.YtmlmoaimjifpgaaGreatLBx
namespace Go.Pv
theorem k3t {c:Nat}:∀ {pre st:q5f},q54 (pre++st) c ↔ q54 pre c/\q54 st c
 | [],st=>by simp [q54]
 | (b,o)::pre,st=>by
  rw [List.cons_append]
  show (¬b=c/\¬c=b)/\q54 (pre++st) c ↔ ((¬b=c/\¬c=b)/\q54 pre c)/\q54 st c
  rw [k3t (pre:=pre)]
  exact⟨fun⟨a,b,c⟩=>⟨⟨a,b⟩,c⟩,fun⟨⟨a,b⟩,c⟩=>⟨a,b,c⟩⟩
theorem k8a {c:Nat}:∀ {pre st:q5f},q54 pre c->q55 (pre++st) c=q55 st c
 | [],_,_=>rfl
 | (b,o)::pre,st,h=>by
  simp only [q54] at h
  rw [List.cons_append]
  simp only [q55,if_neg h.1.1]
  exact k8a h.2
theorem j0z {c:Nat}:∀ {pre st:q5f},q54 pre c->k2l c (pre++st)=pre++k2l c st
 | [],_,_=>rfl
 | (b,o)::pre,st,h=>by
  simp only [q54] at h
  rw [List.cons_append]
  simp only [k2l,if_neg h.1.1]
  rw [j0z h.2,List.cons_append]
@[simp] theorem y43 {α:Type}(o:Option (Acc α)):(q7s o).cells=some [q7s o]:=by cases o <;> rfl
theorem StLe.mid {b:Nat}{o:PObj}{pre st:q5f}(h:q54 pre b):StLe (pre++(b,o)::st) ((b,o)::(pre++st)):=fun d y hd=>by
 by_cases h1:b=d
 ·subst h1
  rw [k8a h] at hd
  simpa [q55] using hd
 ·simp only [q55,if_neg h1]
  induction pre with
  | nil=>simpa [q55,h1] using hd
  | cons x pre ih=>
   obtain⟨c,z⟩:=x
   simp only [q54] at h
   rw [List.cons_append] at hd ⊢
   simp only [q55] at hd ⊢
   split
   ·rename_i e; rw [if_pos e] at hd; exact hd
   ·rename_i e; rw [if_neg e] at hd; exact ih h.2 hd
theorem StLe.dim {b:Nat}{o:PObj}{pre st:q5f}(h:q54 pre b):StLe ((b,o)::(pre++st)) (pre++(b,o)::st):=fun d y hd=>by
 by_cases h1:b=d
 ·subst h1
  rw [k8a h]
  simpa [q55] using hd
 ·simp only [q55,if_neg h1] at hd
  induction pre with
  | nil=>simpa [q55,h1] using hd
  | cons x pre ih=>
   obtain⟨c,z⟩:=x
   simp only [q54] at h
   rw [List.cons_append] at hd ⊢
   simp only [q55] at hd ⊢
   split
   ·rename_i e; rw [if_pos e] at hd; exact hd
   ·rename_i e; rw [if_neg e] at hd; exact ih h.2 hd
section
variable {α:Type} {row:List α->List PV} {k:Nat}
def k1n (pre:q5f)(o:Option (Acc α)):Prop:=∀ a,o=some a->q54 pre a.b
theorem accOk.app {pre st:q5f}{o:Option (Acc α)}:accOk row k (pre++st) o ↔ accOk row k st o/\k1n pre o:=by
 cases o with
 | none=>exact⟨fun _=>⟨trivial,fun a h=>by cases h⟩,fun _=>trivial⟩
 | some a=>
  constructor
  ·rintro⟨h1,h2⟩
   rw [k3t] at h2
   exact⟨⟨h1,h2.2⟩,fun b hb=>by cases hb; exact h2.1⟩
  ·rintro⟨⟨h1,h2⟩,h3⟩
   exact⟨h1,k3t.2 ⟨h3 a rfl,h2⟩⟩
theorem StLe.accMid {T:TypeId}{pre st:q5f}{o:Option (Acc α)}(h:k1n pre o):StLe (pre++q6e T st o) (q6e T (pre++st) o):=by
 cases o with
 | none=>exact .refl _
 | some a=>exact StLe.mid (h a rfl)
theorem StLe.accDim {T:TypeId}{pre st:q5f}{o:Option (Acc α)}(h:k1n pre o):StLe (q6e T (pre++st) o) (pre++q6e T st o):=by
 cases o with
 | none=>exact .refl _
 | some a=>exact StLe.dim (h a rfl)
theorem k7n (hrl:∀ l,(row l).length=l.length*k)(hra:∀ l m,row (l++m)=row l++row m){T:TypeId}{bytes:Nat}{pre st:q5f}{K:PV->q5f->Prop}
  (o:Option (Acc α)) (ho:accOk row k st o) (hp:k1n pre o) (xs:List α) {new:List PV} {m:Nat} (hnew:row xs=new) (hm:xs.length=m) (hm0:0<m) (hsz:((q50 o).length+m)*bytes<=140737488355328)
  (h:∀ o':Option (Acc α),accOk row k (pre++st) o'->q50 o'=q50 o++xs->K (q7s o') (q6e T (pre++st) o')):q67 T bytes k (q7s o) new m (pre++q6e T st o) K:=by
 cases o with
 | none=>
  refine q9s hrl xs hnew hm hm0 (by simpa using hsz) fun a' ha' hl' hb'=>?_
  exact h (some a') ⟨ha',hb'⟩ (by simpa using hl')
 | some a=>
  obtain⟨ha,hb⟩:=ho
  have hpa:=hp a rfl
  have hg:q55 (pre++q6e T st (some a)) a.b=some (.arr T a.R):=by
   rw [k8a hpa]
   simp
  refine q8l hrl hra ha hg xs hnew hm hsz fun a' ha' hl' hb'=>?_
  have e:k2l a.b (pre++q6e T st (some a))=pre++st:=by
   rw [j0z hpa]
   simp [q7x hb]
  rw [e] at hb' ⊢
  exact h (some a') ⟨ha',hb'⟩ hl'
theorem RetView.accF {T:TypeId}{st0 st:q5f}{o:Option (Acc α)}{c:PV->PEnd}{Q:PEnd->q5f->Prop}{p:PV}(q:PV)(ho:accOk row k st o)(hs:StLe (q6e T st o) st0)(h0:o=none->PLe p q)(h1:∀ a,o=some a->Frz a.b (.arr T a.R) p q)
  (h:RetView c q st Q):RetView c p st0 Q:=by
 cases o with
 | none=>exact RetView.sees (Sees.drop hs) (RetView.sees ⟨fun I _ v a b=>⟨I,I.le_refl,a,h0 rfl I v b⟩⟩ h)
 | some a=>exact RetView.sees (Sees.drop hs) (RetView.freeze q ho.2 (h1 a rfl) h)
end
theorem Frzs.app {b:Nat}{o:PObj}:∀ {ps qs rs us:List PV},Frzs b o ps qs->Frzs b o rs us->Frzs b o (ps++rs) (qs++us)
 | _,_,_,_,.nil,h=>h
 | _,_,_,_,.cons h t,h2=>.cons h (Frzs.app t h2)
theorem PsLe.app:∀ {ps qs rs us:List PV},PsLe ps qs->PsLe rs us->PsLe (ps++rs) (qs++us)
 | [],[],_,_,_,h=>h
 | _::_,_::_,_,_,⟨a,b⟩,h=>⟨a,PsLe.app b h⟩
 | [],_::_,_,_,h,_=>nomatch h
 | _::_,[],_,_,h,_=>nomatch h
section
variable {α:Type} {row:List α->List PV} {k:Nat} {T:TypeId} {P:Program} {g:FuncId} {ps:List PV}
theorem PCalls.amid {pre st:q5f}{o:Option (Acc α)}(ho:accOk row k st o)(hp:k1n pre o){Q:Option (Acc α)->PEnd->Prop}
  (h:∀ st,accOk row k st o->PCalls P g ps (q6e T st o) fun e s=>∃ o',accOk row k st o'/\Q o' e/\s=q6e T st o') :
  PCalls P g ps (pre++q6e T st o) fun e s=>∃ o',accOk row k st o'/\k1n pre o'/\Q o' e/\s=pre++q6e T st o':=by
 refine PCalls.le (StLe.accDim hp) (PCalls.shrink (PCalls.mono (h (pre++st) (accOk.app.2 ⟨ho,hp⟩)) fun e s hs=>?_))
 obtain⟨o',h1,h2,rfl⟩:=hs
 obtain⟨h3,h4⟩:=accOk.app.1 h1
 exact⟨_,StLe.accMid h4,o',h3,h4,h2,rfl⟩
end
section
variable {α β:Type} {row:List α->List PV} {k:Nat} {row':List β->List PV} {k':Nat} {T T':TypeId}
abbrev S3 (T T':TypeId)(w:Nat)(W:PObj)(a:Option (Acc α))(b:Option (Acc β))(st:q5f):q5f:=(w,W)::q6e T' (q6e T st a) b
structure Ok3 (row:List α->List PV)(k:Nat)(row':List β->List PV)(k':Nat)(T T':TypeId)(w:Nat)(a:Option (Acc α))(b:Option (Acc β))(st:q5f):Prop where
 oa:accOk row k st a
 ob:accOk row' k' (q6e T st a) b
 ow:q54 (q6e T' (q6e T st a) b) w
def j3h (T':TypeId)(w:Nat)(W:PObj)(b:Option (Acc β)):q5f:=(w,W)::q6e T' [] b
theorem k3u (T':TypeId)(w:Nat)(W:PObj)(b:Option (Acc β))(st:q5f):j3h T' w W b++st=(w,W)::q6e T' st b:=by cases b <;> rfl
theorem j00 (T':TypeId)(b:Option (Acc β))(st:q5f):q6e T' [] b++st=q6e T' st b:=by cases b <;> rfl
theorem Ok3.pre {w:Nat}{W:PObj}{a:Option (Acc α)}{b:Option (Acc β)}{st:q5f}(h:Ok3 row k row' k' T T' w a b st):k1n (j3h T' w W b) a:=fun x hx=>by
 subst hx
 have hw:=h.ow
 have hb:=h.ob
 cases b with
 | none=>
  simp only [q8w,q52,q54] at hw
  exact⟨⟨fun e=>hw.1.2 e,fun e=>hw.1.1 e⟩,trivial⟩
 | some y=>
  simp only [q52,q54] at hw
  have h2:=hb.2
  simp only [q52,q54] at h2
  exact⟨⟨hw.2.1.2,hw.2.1.1⟩,⟨h2.1.2,h2.1.1⟩,trivial⟩
theorem Ok3.parts {w:Nat}{a:Option (Acc α)}{b:Option (Acc β)}{st:q5f}(h:Ok3 row k row' k' T T' w a b st):accOk row' k' st b/\q54 (q6e T' st b) w:=by
 have hw:=h.ow
 have hb:=h.ob
 cases a with
 | none=>exact⟨hb,hw⟩
 | some x=>
  cases b with
  | none=>
   simp only [q8w,q52,q54] at hw
   exact⟨trivial,hw.2⟩
  | some y=>
   simp only [q52,q54] at hw
   have h2:=hb.2
   simp only [q52,q54] at h2
   exact⟨⟨hb.1,h2.2⟩,hw.1,hw.2.2⟩
theorem Ok3.of {w:Nat}{W:PObj}{a:Option (Acc α)}{b:Option (Acc β)}{st:q5f}(ha:accOk row k st a)(hp:k1n (j3h T' w W b) a)(h:accOk row' k' st b/\q54 (q6e T' st b) w):Ok3 row k row' k' T T' w a b st:=by
 obtain⟨hb,hw⟩:=h
 cases a with
 | none=>exact⟨ha,hb,hw⟩
 | some x=>
  have hx:=hp x rfl
  cases b with
  | none=>
   simp only [j3h,q8w,q54] at hx
   exact⟨ha,trivial,⟨⟨hx.1.2,hx.1.1⟩,hw⟩⟩
  | some y=>
   simp only [j3h,q52,q54] at hx
   simp only [q52,q54] at hw
   exact⟨ha,⟨hb.1,⟨hx.2.1.2,hx.2.1.1⟩,hb.2⟩,⟨hw.1,⟨hx.1.2,hx.1.1⟩,hw.2⟩⟩
theorem Ok3.callA {w:Nat}{W:PObj}{a:Option (Acc α)}{b:Option (Acc β)}{st:q5f}{P:Program}{g:FuncId}{ps:List PV}{Q:Option (Acc α)->PEnd->Prop}(h:Ok3 row k row' k' T T' w a b st)
  (hq:∀ st,accOk row k st a->PCalls P g ps (q6e T st a) fun e s=>∃ o',accOk row k st o'/\Q o' e/\s=q6e T st o') :
  PCalls P g ps (S3 T T' w W a b st) fun e s=>∃ a',Ok3 row k row' k' T T' w a' b st/\Q a' e/\s=(w,W)::q6e T' (q6e T st a') b:=by
 have e1:=k3u T' w W b
 unfold S3
 rw [<-e1]
 refine PCalls.mono (PCalls.amid h.oa h.pre hq) fun e s hs=>?_
 obtain⟨o',h1,h2,h3,rfl⟩:=hs
 exact⟨o',Ok3.of h1 h2 h.parts,h3,e1 _⟩
theorem Ok3.callB {w:Nat}{W:PObj}{a:Option (Acc α)}{b:Option (Acc β)}{st:q5f}{P:Program}{g:FuncId}{ps:List PV}{Q:Option (Acc β)->PEnd->Prop}(h:Ok3 row k row' k' T T' w a b st)
  (hq:∀ st,accOk row' k' st b->PCalls P g ps (q6e T' st b) fun e s=>∃ o',accOk row' k' st o'/\Q o' e/\s=q6e T' st o') :
  PCalls P g ps (S3 T T' w W a b st) fun e s=>∃ b',Ok3 row k row' k' T T' w a b' st/\Q b' e/\s=(w,W)::q6e T' (q6e T st a) b':=by
 have hp:k1n [(w,W)] b:=fun x hx=>by
  subst hx
  have:=h.ow
  simp only [q52,q54] at this
  exact⟨⟨this.1.2,this.1.1⟩,trivial⟩
 refine PCalls.mono (PCalls.amid (pre:=[(w,W)]) h.ob hp hq) fun e s hs=>?_
 obtain⟨o',h1,h2,h3,rfl⟩:=hs
 refine⟨o',⟨h.oa,h1, ?_⟩,h3,rfl⟩
 have hw:=h.ow
 cases o' with
 | none=>
  cases b with
  | none=>exact hw
  | some y=>exact hw.2
 | some z=>
  have hz:=h2 z rfl
  simp only [q54] at hz
  refine⟨⟨hz.1.2,hz.1.1⟩, ?_⟩
  cases b with
  | none=>exact hw
  | some y=>exact hw.2
theorem Ok3.appA (hrl:∀ l,(row l).length=l.length*k)(hra:∀ l m,row (l++m)=row l++row m){w q:Nat}{W N:PObj}{a:Option (Acc α)}{b:Option (Acc β)}{st:q5f}{K:PV->q5f->Prop}{bytes:Nat}(h:Ok3 row k row' k' T T' w a b st)
  (hq:q54 (S3 T T' w W a b st) q) (xs:List α) {new:List PV} {m:Nat} (hnew:row xs=new) (hm:xs.length=m) (hm0:0<m) (hsz:((q50 a).length+m)*bytes<=140737488355328)
  (hk:∀ a' st',Ok3 row k row' k' T T' w a' b st->q50 a'=q50 a++xs->q55 st' w=some W->(∀ X,StLe (S3 T T' w X a' b st) (q83 st' w X))->K (q7s a') st'):q67 T bytes k (q7s a) new m ((q,N)::S3 T T' w W a b st) K:=by
 have e1:=k3u T' w W b
 have hp:=h.pre (W:=W)
 have hqa:k1n ((q,N)::j3h T' w W b) a:=fun x hx=>by
  refine⟨?_,hp x hx⟩
  subst hx
  unfold S3 at hq
  rw [<-e1,k3t] at hq
  have:=hq.2
  simp only [q52,q54] at this
  exact⟨this.1.2,this.1.1⟩
 have e2:(q,N)::S3 T T' w W a b st=((q,N)::j3h T' w W b)++q6e T st a:=by
  unfold S3
  rw [<-e1,List.cons_append]
 rw [e2]
 refine k7n hrl hra a h.oa hqa xs hnew hm hm0 hsz fun a' ha' hl'=>?_
 obtain⟨h1,h2⟩:=accOk.app.1 ha'
 have h3:k1n (j3h T' w W b) a':=fun x hx=>(h2 x hx).2
 have hok:Ok3 row k row' k' T T' w a' b st:=Ok3.of h1 h3 h.parts
 refine hk a' _ hok hl' ?_ fun X=>?_
 ·have:q55 ((q,N)::j3h T' w W b++st) w=some W:=by
   rw [List.cons_append,e1]
   have h4:¬ q=w:=by
    unfold S3 at hq
    simp only [q54] at hq
    exact hq.1.2
   simp [q55,h4]
  cases a' with
  | none=>exact this
  | some x=>
   have h5:=(h2 x rfl).2.1
   simp only [q52,q55]
   rw [if_neg h5.2]
   exact this
 ·have h4:¬ q=w:=by
   unfold S3 at hq
   simp only [q54] at hq
   exact hq.1.2
  have hset:q83 (q6e T ((q,N)::j3h T' w W b++st) a') w X=q6e T ((q,N)::j3h T' w X b++st) a':=by
   rw [List.cons_append,e1,List.cons_append,k3u]
   cases a' with
   | none=>simp [q83,h4]
   | some x=>
    have h5:=(h2 x rfl).2.1
    simp [q83,h4,h5.2]
  rw [hset]
  unfold S3
  rw [<-k3u]
  have h7:k1n (j3h T' w X b) a':=fun x hx=>h3 x hx
  refine (StLe.accMid h7).trans ?_
  cases a' with
  | none=>
   refine StLe.fresh ?_
   rw [k3u]
   unfold S3 at hq
   have hq2:=hq
   simp only [q54] at hq2 ⊢
   refine⟨hq2.1, ?_⟩
   have:=hq2.2
   rw [<-j00,k3t] at this ⊢
   refine⟨this.1, ?_⟩
   cases a with
   | none=>exact this.2
   | some y=>exact this.2.2
  | some x=>
   refine q9r (StLe.fresh ?_)
   rw [k3u]
   unfold S3 at hq
   have hq2:=hq
   simp only [q54] at hq2 ⊢
   refine⟨hq2.1, ?_⟩
   have:=hq2.2
   rw [<-j00,k3t] at this ⊢
   refine⟨this.1, ?_⟩
   cases a with
   | none=>exact this.2
   | some y=>exact this.2.2
theorem Ok3.appB (hrl:∀ l,(row' l).length=l.length*k')(hra:∀ l m,row' (l++m)=row' l++row' m){w q:Nat}{W N:PObj}{a:Option (Acc α)}{b:Option (Acc β)}{st:q5f}{K:PV->q5f->Prop}{bytes:Nat}(h:Ok3 row k row' k' T T' w a b st)
  (hq:q54 (S3 T T' w W a b st) q) (xs:List β) {new:List PV} {m:Nat} (hnew:row' xs=new) (hm:xs.length=m) (hm0:0<m) (hsz:((q50 b).length+m)*bytes<=140737488355328)
  (hk:∀ b' st',Ok3 row k row' k' T T' w a b' st->q50 b'=q50 b++xs->q55 st' w=some W->(∀ X,StLe (S3 T T' w X a b' st) (q83 st' w X))->K (q7s b') st'):q67 T' bytes k' (q7s b) new m ((q,N)::S3 T T' w W a b st) K:=by
 have hw:=h.ow
 have hp:k1n ((q,N)::[(w,W)]) b:=fun x hx=>by
  subst hx
  simp only [q52,q54] at hw
  simp only [q52,q54] at hq
  exact⟨⟨hq.2.1.2,hq.2.1.1⟩,⟨hw.1.2,hw.1.1⟩,trivial⟩
 refine k7n (pre:=(q,N)::[(w,W)]) hrl hra b h.ob hp xs hnew hm hm0 hsz fun b' hb' hl'=>?_
 obtain⟨h1,h2⟩:=accOk.app.1 hb'
 have hqw:¬ q=w:=by
  simp only [q54] at hq
  exact hq.1.2
 have hqs:q54 (q6e T st a) q:=by
  simp only [q54] at hq
  cases b with
  | none=>exact hq.2
  | some y=>exact hq.2.2
 have hws:q54 (q6e T st a) w:=by
  cases b with
  | none=>exact hw
  | some y=>exact hw.2
 refine hk b' _ ⟨h.oa,h1, ?_⟩ hl' ?_ fun X=>?_
 ·cases b' with
  | none=>exact hws
  | some z=>
   have hz:=(h2 z rfl).2.1
   exact⟨⟨hz.2,hz.1⟩,hws⟩
 ·cases b' with
  | none=>simp [q55,hqw]
  | some z=>
   have hz:=(h2 z rfl).2.1
   simp [q55,hqw,hz.2]
 ·cases b' with
  | none=>
   simp only [q8w,List.cons_append,List.nil_append,q83,if_neg hqw,if_true,S3]
   exact StLe.fresh ⟨⟨fun e=>hqw e.symm,hqw⟩,hqs⟩
  | some z=>
   have hz:=h2 z rfl
   simp only [q54] at hz
   simp only [q52,List.cons_append,List.nil_append,q83,if_neg hqw,if_neg hz.2.1.2,if_true,S3]
   exact (StLe.swap hz.2.1.1).trans (q9r (StLe.fresh ⟨⟨fun e=>hqw e.symm,hqw⟩,hqs⟩))
end
section
variable {α:Type} {row:List α->List PV} {k:Nat} {T:TypeId} {b:Nat} {x:PObj} {st:q5f} {o:Option (Acc α)}
theorem z3l (ho:accOk row k ((b,x)::st) o):q55 (q6e T ((b,x)::st) o) b=some x:=by
 cases o with
 | none=>simp [q55]
 | some a=>
  have:=ho.2.1
  simp [q55,this.2]
theorem z3m (ho:accOk row k ((b,x)::st) o)(y:PObj):q83 (q6e T ((b,x)::st) o) b y=q6e T ((b,y)::st) o:=by
 cases o with
 | none=>simp [q83]
 | some a=>
  have:=ho.2.1
  simp [q83,this.2]
theorem accOk.rebox {y:PObj}(ho:accOk row k ((b,x)::st) o):accOk row k ((b,y)::st) o:=by
 cases o with
 | none=>trivial
 | some a=>exact ho
theorem StLe.acc {st0:q5f}(ho:accOk row k st o)(h:StLe st0 st):StLe st0 (q6e T st o):=by
 cases o with
 | none=>exact h
 | some a=>exact h.trans (.fresh ho.2)
end
end Go.Pv

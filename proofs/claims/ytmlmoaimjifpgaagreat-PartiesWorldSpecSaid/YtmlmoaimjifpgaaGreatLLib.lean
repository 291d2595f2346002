/- All of the pure layer. -/
import Derived.Test.YtmlmoaimjifpgaaGreatLSf
import Derived.KernelRfl
namespace Go.Pv
def Has (P : Program) (g : FuncId) (m : MFunc) : Prop := ∃ fn, P.funcs[g]? = some fn ∧ (fn.name == "runtime.NumGoroutine") = false ∧ k72 P fn = some m
theorem Has.calls {P:Program}(q5l:P.follows .mixedOrders=true){g:FuncId}{m:MFunc}(h:Has P g m){ps:List PV}{st:q5c}{Q:PEnd->q5c->Prop}(hlen:ps.length=m.nparams)
  {R E:PV->q5c->Prop} (hR:∀ p st,R p st->RetView .ret p st Q) (hE:∀ p st,E p st->RetView .panic p st Q)
  (hw:mwp P m.body (k1j m.results R E) ⟨q6z 0 ps,st⟩):PCalls P g ps st Q:=by
 obtain⟨fn,h1,h2,h3⟩:=h
 exact z3a q5l h1 h2 h3 hlen hR hE hw
theorem Sees.refl (p:PV)(st:q5c):Sees p st p st:=⟨fun I _ _ h1 h2=>⟨I,I.le_refl,h1,h2⟩⟩
theorem Sees.trans {p q r:PV}{s t u:q5c}(h:Sees p s q t)(k:Sees q t r u):Sees p s r u:=⟨fun I w v h1 h2=>by
 obtain⟨I',a,b,c⟩:=h.out I w v h1 h2
 obtain⟨I'',a',b',c'⟩:=k.out I' w v b c
 exact⟨I'',Imm.le_trans a a',b',c'⟩⟩
def StLe (st' st:q5c):Prop:=∀ b o,q55 st' b=some o->q55 st b=some o
theorem StLe.refl (st:q5c):StLe st st:=fun _ _ h=>h
theorem StLe.trans {a b c:q5c}(h:StLe a b)(k:StLe b c):StLe a c:=fun x o hx=>k x o (h x o hx)
theorem StLe.cons {st:q5c}{b:Nat}{o:PObj}(h:q55 st b=none):StLe st ((b,o)::st):=by
 intro c x hc
 simp only [q55]
 split
 ·rename_i e; subst e; rw [h] at hc; cases hc
 ·exact hc
theorem StLe.fresh {st:q5c}{b:Nat}{o:PObj}(h:q50 st b):StLe st ((b,o)::st):=.cons (k1f h)
theorem k5f {n:Nat}:∀ {st:q5c},(∀ b o,q55 st b=some o->b<n)->k0y st n
 | [],_=>trivial
 | (b,o)::st,h=>by
  refine⟨h b o (by simp [q55]),k5f fun c x hc=>?_⟩
  by_cases hbc:b=c
  ·subst hbc; exact h b o (by simp [q55])
  ·exact h c x (by simp [q55,hbc,hc])
theorem SRep.le {I:Imm}{st st':q5c}{w:World}(h:SRep I st w)(hle:StLe st' st):SRep I st' w:=
 ⟨h.imm,fun b o hb=>h.objs b o (hle b o hb),k5f fun b o hb=>h.obj_lt (hle b o hb)⟩
theorem Sees.drop {p:PV}{st st':q5c}(h:StLe st' st):Sees p st p st':=⟨fun I _ _ h1 h2=>⟨I,I.le_refl,h1.le h,h2⟩⟩
theorem RetView.same {c:PV->PEnd}{p:PV}{st:q5c}{Q:PEnd->q5c->Prop}(h:Q (c p) st):RetView c p st Q:=⟨p,st,.refl _ _,h⟩
theorem RetView.drop {c:PV->PEnd}{p:PV}{st st':q5c}{Q:PEnd->q5c->Prop}(hle:StLe st' st)(h:Q (c p) st'):RetView c p st Q:=⟨p,st',.drop hle,h⟩
theorem RetView.fresh1 {c:PV->PEnd}{p:PV}{st:q5c}{b:Nat}{o:PObj}{Q:PEnd->q5c->Prop}(hf:q50 st b)(h:RetView c p st Q):RetView c p ((b,o)::st) Q:=by
 obtain⟨p',st',h1,h2⟩:=h
 exact⟨p',st',(Sees.drop (.fresh hf)).trans h1,h2⟩
theorem View.trans {s t u:PS}(h:View s t)(k:View t u):View s u:=fun I tm w h1 h2=>by
 obtain⟨I',a,b,c⟩:=h I tm w h1 h2
 obtain⟨I'',a',b',c'⟩:=k I' tm w b c
 exact⟨I'',Imm.le_trans a a',b',c'⟩
theorem j0p {e:Env}:∀ {l:Env} {t:Nat},(∀ q ∈ l,q6d e q.1=q.2)->q6d l t=.any\/q6d l t=q6d e t
 | [],_,_=>.inl rfl
 | (u,p)::l,t,h=>by
  simp only [q6d]
  by_cases hut:u=t
  ·subst hut
   simp only [if_true]
   exact .inr (h (u,p) (by simp)).symm
  ·simp only [hut,if_false]
   exact j0p fun q hq=>h q (by simp [hq])
theorem View.weak {e e':Env}{st st':q5c}(he:∀ q ∈ e',q6d e q.1=q.2)(hle:StLe st' st):View ⟨e,st⟩ ⟨e',st'⟩:=fun I tm w h1 h2=>
 ⟨I,I.le_refl,fun t=>by
  rcases j0p (t:=t) he with h | h
  ·simp only [h,vrep]
  ·simp only [h]; exact h1 t,h2.le hle⟩
def Over (st0:q5c):q5c->Prop
 | []=>st0=[]
 | (b,o)::st=>st0=(b,o)::st\/q50 st b/\Over st0 st
theorem Over.le {st0:q5c}:∀ {st:q5c},Over st0 st->StLe st0 st
 | [],h=>by simp only [Over] at h; subst h; exact .refl _
 | (b,o)::st,h=>by
  simp only [Over] at h
  rcases h with rfl |⟨h1,h2⟩
  ·exact .refl _
  ·exact h2.le.trans (.fresh h1)
@[simp] theorem Over.self (st:q5c):Over st st:=by
 cases st with
 | nil=>rfl
 | cons q st=>exact .inl rfl
@[simp] theorem Over.cons {st:q5c}(b:Nat)(o:PObj)(st0:q5c):Over st0 ((b,o)::st) ↔ st0=(b,o)::st\/q50 st b/\Over st0 st:=.rfl
def Rets (P:Program)(g:FuncId)(ps:List PV)(st:q5c)(p:PV):Prop:=PCalls P g ps st fun e s=>e=.ret p/\s=st
theorem Has.rets {P:Program}(q5l:P.follows .mixedOrders=true){g:FuncId}{m:MFunc}(h:Has P g m){ps:List PV}{st:q5c}{p:PV}(hlen:ps.length=m.nparams)
  (hw:mwp P m.body (k1j m.results (fun q st'=>q=p/\Over st st') (fun _ _=>False)) ⟨q6z 0 ps,st⟩):Rets P g ps st p:=
 h.calls q5l hlen (fun _ _ ⟨h1,h2⟩=>.drop h2.le ⟨by rw [h1],rfl⟩) (fun _ _ h=>h.elim) hw
theorem Rets.calls {P:Program}{g:FuncId}{ps:List PV}{st:q5c}{p:PV}(h:Rets P g ps st p){Q:PEnd->q5c->Prop}(hq:Q (.ret p) st):PCalls P g ps st Q:=
 PCalls.mono h fun e s ⟨h1,h2⟩=>by subst h1; subst h2; exact hq
@[congr] theorem j9r {P:Program} {g:FuncId} {ps ps':List PV} {st st':q5c} {Q:PEnd->q5c->Prop} (h1:ps=ps') (h2:st=st'):PCalls P g ps st Q=PCalls P g ps' st' Q:=by
 subst h1; subst h2; rfl
@[congr] theorem j7j {V:PS->PS->Prop} {body:q68->PS->Prop} {Q:q68} {s s':PS} (h:s=s'):z2s V body Q s=z2s V body Q s':=by subst h; rfl
@[congr] theorem j7k {c:PV->PEnd} {p p':PV} {st st':q5c} {Q:PEnd->q5c->Prop} (h:p=p') (h2:st=st'):RetView c p st Q=RetView c p' st' Q:=by subst h; subst h2; rfl
universe u
structure Tok {α:Sort u}(a:α):Type where
def q5n {α:Type}(o:Option α)(K:α->Prop)(_:Tok K:=⟨⟩):Prop:=∃ a,o=some a/\K a
@[simp ↓,simp] theorem q5p {α:Type} (a:α) (K:α->Prop):q5n (some a) K=K a:=by simp [q5n]
@[simp] theorem q87 {α:Type}(K:α->Prop):q5n none K=False:=by simp [q5n]
def PV.bool?:PV->Option Bool
 | .val (.bool c)=>some c
 | _=>none
@[simp] theorem z1q (c:Bool):PV.bool? (.val (.bool c))=some c:=rfl
def PV.int?:PV->Option (IntKind × Int)
 | .val (.int k n)=>some (k,n)
 | _=>none
@[simp] theorem j0q (k:IntKind)(n:Int):PV.int? (.val (.int k n))=some (k,n):=rfl
def PV.str?:PV->Option ByteArray
 | .val (.string s)=>some s
 | _=>none
@[simp] theorem y8l (s:ByteArray):PV.str? (.val (.string s))=some s:=rfl
def PV.agg?:PV->Option (List PV)
 | .agg cs=>some cs
 | _=>none
@[simp] theorem y8m (cs:List PV):PV.agg? (.agg cs)=some cs:=rfl
def PV.tuple?:PV->Option (List PV)
 | .tuple cs=>some cs
 | _=>none
@[simp] theorem j9s (cs:List PV):PV.tuple? (.tuple cs)=some cs:=rfl
def PV.func?:PV->Option (FuncId × List PV × List PV)
 | .func (.func g) fs cs=>some (g,fs,cs)
 | _=>none
@[simp] theorem j2d (g:FuncId)(fs cs:List PV):PV.func? (.func (.func g) fs cs)=some (g,fs,cs):=rfl
def PV.iface?:PV->Option (TypeId × PV)
 | .iface T p=>some (T,p)
 | _=>none
@[simp] theorem j9t (T:TypeId)(p:PV):PV.iface? (.iface T p)=some (T,p):=rfl
def PV.ptr?:PV->Option (Nat × Nat)
 | .val (.pointer (some ⟨b,off,none⟩))=>some (b,off)
 | _=>none
@[simp] theorem j7l (b off:Nat):PV.ptr? (.val (.pointer (some ⟨b,off,none⟩)))=some (b,off):=rfl
def z8d:Option PObj->Option (TypeId × List PV)
 | some (.arr T cs)=>some (T,cs)
 | _=>none
@[simp] theorem j7m (T:TypeId)(cs:List PV):z8d (some (.arr T cs))=some (T,cs):=rfl
def onB (c:Bool)(A B:Prop)(_:Tok (A,B):=⟨⟩):Prop:=(c=true->A)/\(c=false->B)
@[simp ↓,simp] theorem y8n (A B:Prop):onB true A B=A:=by simp [onB]
@[simp ↓,simp] theorem y5c (A B:Prop):onB false A B=B:=by simp [onB]
@[simp] theorem y3j (p:Prop)[Decidable p](A B:Prop):onB (decide p) A B=((p->A)/\(¬ p->B)):=by simp [onB]
@[simp] theorem v0k (c:Bool)(A B:Prop):onB (!c) A B=onB c B A:=by cases c <;> simp
@[simp low] theorem onB_eq (c:Bool) (A B:Prop):onB c A B=((c=true->A)/\(c=false->B)):=rfl
theorem k5g (p:PV):k61 p=p.int?.map (·.2):=by
 cases p <;> try rfl
 rename_i v; cases v <;> rfl
def q6u (op:MVal)(ρ:MX->PV)(st:q5c)(K:PV->Prop)(_:Tok K:=⟨⟩):Prop:=q67 op ρ st K
def k7c (op:BinOp)(p q:PV)(K:PV->Prop)(_:Tok K:=⟨⟩):Prop:=k8j op p q K
def k0a (cs:List PV)(off k:Nat)(agg:Bool)(K:PV->Prop)(_:Tok K:=⟨⟩):Prop:=
 if agg then ∃ ps,sub cs off k=some ps/\K (.agg ps) else ∃ p,cs[off]?=some p/\K p
@[simp] theorem y1a (cs:List PV)(off k:Nat)(K:PV->Prop):k0a cs off k true K=q5n (sub cs off k) fun ps=>K (.agg ps):=by simp [k0a,q5n]
@[simp] theorem j9u (cs:List PV)(off k:Nat)(K:PV->Prop):k0a cs off k false K=q5n (cs[off]?) K:=by simp [k0a,q5n]
theorem j0r (cs:List PV)(off k:Nat):sub cs off k=if off+k<=cs.length then some ((cs.drop off).take k) else none:=rfl
@[simp] theorem v0l (c:PV)(cs:List PV)(off k:Nat):sub (c::cs) off k=if off+k<=(c::cs).length then some (((c::cs).drop off).take k) else none:=rfl
section
variable (ρ:MX->PV) (st:q5c) (K:PV->Prop)
@[simp ↓] theorem v0m (x:MX):q6u (.mv x) ρ st K=K (ρ x):=rfl
@[simp ↓] theorem y5d (c a b:MX):q6u (.pick c a b) ρ st K=q5n (ρ c).bool? fun t=>onB t (K (ρ a)) (K (ρ b)):=by
 simp only [q6u,q67]; split <;> simp_all [PV.bool?]
@[simp ↓] theorem y3k (zs:List PV) (parts:List (Nat × Nat × MX)):q6u (.build zs parts) ρ st K=q5n (q91 zs (parts.map fun q=>(q.1,q.2.1,ρ q.2.2))) fun cs=>K (.agg cs):=by
 simp only [q6u,q67]; split <;> simp_all
@[simp ↓] theorem j4e (T:TypeId) (len:Nat) (zs:List PV) (parts:List (Nat × Nat × MX)):q6u (.buildSlice T len zs parts) ρ st K=q5n (q91 zs (parts.map fun q=>(q.1,q.2.1,ρ q.2.2))) fun cs=>K (.list true cs len):=by
 simp only [q6u,q67]; split <;> simp_all
@[simp ↓] theorem j4f (k:Nat) (agg:Bool) (x:MX):q6u (.load k agg x) ρ st K=q5n (k2c st (ρ x)) fun r=>k0a r.1 r.2 k agg K:=by
 simp only [q6u,q67]; split <;> simp_all [k0a]
def j4g (p:PV)(K:PV->Prop)(_:Tok K:=⟨⟩):Prop:=
 match p with
 | .iptr cs off=>K (.iptr cs off)
 | .val (.pointer (some a))=>K (.val (.pointer (some a)))
 | .func (.func f) fs cs=>K (.func (.func f) fs cs)
 | .func (.yield l) fs cs=>K (.func (.yield l) fs cs)
 | _=>False
@[simp] theorem y3l (cs:List PV)(off:Nat):j4g (.iptr cs off) K=K (.iptr cs off):=rfl
@[simp] theorem y5e (a:Addr):j4g (.val (.pointer (some a))) K=K (.val (.pointer (some a))):=rfl
@[simp] theorem y1b (l:Nat)(fs cs:List PV):j4g (.func (.yield l) fs cs) K=K (.func (.yield l) fs cs):=rfl
@[simp] theorem y3m (f:FuncId)(fs cs:List PV):j4g (.func (.func f) fs cs) K=K (.func (.func f) fs cs):=rfl
@[simp ↓] theorem j7n (x:MX):q6u (.nilCheck x) ρ st K=j4g (ρ x) K:=rfl
@[simp ↓] theorem y8o (op:BinOp) (T:TypeId) (x y:MX):q6u (.bin op T x y) ρ st K=k7c op (ρ x) (ρ y) K:=rfl
section
variable (k k':IntKind) (a b:Int) (s t:ByteArray)
@[simp] theorem v0n:k7c .add (.val (.int k a)) (.val (.int k' b)) K=(k=k'/\K (.val (.int k (k.wrap (a+b))))):=rfl
@[simp] theorem v0o:k7c .sub (.val (.int k a)) (.val (.int k' b)) K=(k=k'/\K (.val (.int k (k.wrap (a-b))))):=rfl
@[simp] theorem v0p:k7c .mul (.val (.int k a)) (.val (.int k' b)) K=(k=k'/\K (.val (.int k (k.wrap (a*b))))):=rfl
@[simp] theorem v0q:k7c .quo (.val (.int k a)) (.val (.int k' b)) K=(k=k'/\b ≠ 0/\K (.val (.int k (k.wrap (a.tdiv b))))):=rfl
@[simp] theorem v0r:k7c .rem (.val (.int k a)) (.val (.int k' b)) K=(k=k'/\b ≠ 0/\K (.val (.int k (a.tmod b)))):=rfl
@[simp] theorem v0s:k7c .shl (.val (.int k a)) (.val (.int k' b)) K=(0<=b/\K (.val (.int k (k.wrap (a*2 ^ min b.toNat k.bits))))):=rfl
@[simp] theorem v0t:k7c .shr (.val (.int k a)) (.val (.int k' b)) K=(0<=b/\K (.val (.int k (a.fdiv (2 ^ min b.toNat k.bits))))):=rfl
@[simp] theorem v0u:k7c .and (.val (.int k a)) (.val (.int k' b)) K=(k=k'/\K (.val (.int k (k.wrap (BitVec.ofInt k.bits a &&& BitVec.ofInt k.bits b).toNat)))):=rfl
@[simp] theorem bin_or:k7c .or (.val (.int k a)) (.val (.int k' b)) K=(k=k'/\K (.val (.int k (k.wrap (BitVec.ofInt k.bits a ||| BitVec.ofInt k.bits b).toNat)))):=rfl
@[simp] theorem v0v:k7c .xor (.val (.int k a)) (.val (.int k' b)) K=(k=k'/\K (.val (.int k (k.wrap (BitVec.ofInt k.bits a ^^^ BitVec.ofInt k.bits b).toNat)))):=rfl
@[simp] theorem y3n:k7c .andNot (.val (.int k a)) (.val (.int k' b)) K=(k=k'/\K (.val (.int k (k.wrap (BitVec.ofInt k.bits a &&& ~~~ BitVec.ofInt k.bits b).toNat)))):=rfl
@[simp] theorem v0w:k7c .eql (.val (.int k a)) (.val (.int k' b)) K=(k=k'/\K (.val (.bool (decide (a=b))))):=by
 have:(a == b)=decide (a=b):=rfl
 simp only [k7c,k8j,k4w,z2m,this]
@[simp] theorem v0x:k7c .neq (.val (.int k a)) (.val (.int k' b)) K=(k=k'/\K (.val (.bool (decide (a ≠ b))))):=by
 have:(a != b)=decide (a ≠ b):=by by_cases h:a=b <;> simp [h]
 simp only [k7c,k8j,k4w,z2m,this]
@[simp] theorem v0y:k7c .lss (.val (.int k a)) (.val (.int k' b)) K=(k=k'/\K (.val (.bool (decide (a<b))))):=rfl
@[simp] theorem v0z:k7c .leq (.val (.int k a)) (.val (.int k' b)) K=(k=k'/\K (.val (.bool (decide (a<=b))))):=rfl
@[simp] theorem v00:k7c .gtr (.val (.int k a)) (.val (.int k' b)) K=(k=k'/\K (.val (.bool (decide (b<a))))):=rfl
@[simp] theorem v01:k7c .geq (.val (.int k a)) (.val (.int k' b)) K=(k=k'/\K (.val (.bool (decide (b<=a))))):=rfl
@[simp] theorem v02:k7c .add (.val (.string s)) (.val (.string t)) K=(s.size+t.size<2 ^ 62/\K (.val (.string (s++t)))):=rfl
theorem k6j:(s.toList == t.toList)=decide (s=t):=by
 by_cases h:s=t
 ·simp [h]
 ·have:s.toList ≠ t.toList:=by
   intro e
   rw [ByteArray.toList_eq,ByteArray.toList_eq] at e
   exact h (ByteArray.ext (Array.ext' e))
  simp [h,this]
@[simp] theorem y8p:k7c .eql (.val (.string s)) (.val (.string t)) K=K (.val (.bool (decide (s=t)))):=by
 simp only [k7c,k8j,z2n,k6j]
@[simp] theorem y8q:k7c .neq (.val (.string s)) (.val (.string t)) K=K (.val (.bool (!decide (s=t)))):=by
 simp only [k7c,k8j,z2n,k6j]
@[simp] theorem y8r:k7c .lss (.val (.string s)) (.val (.string t)) K=K (.val (.bool (Op.bytesLess s.toList t.toList))):=rfl
end
@[simp ↓] theorem y3o (neg:Bool) (ks:List LK) (x y:MX):q6u (.eqAgg neg ks x y) ρ st K=q5n (ρ x).agg? fun cs=>q5n (ρ y).agg? fun ds=>q5n (q52 ks cs ds) fun b=>K (.bool (if neg then !b else b)):=by
 simp only [q6u,q67]; split <;> simp_all [q5n,PV.agg?]
 rename_i h
 intro x h1 y h2
 split at h1 <;> split at h2 <;> simp_all
@[simp ↓] theorem y1c (neg:Bool) (x y:MX):q6u (.eqBool neg x y) ρ st K=q5n (ρ x).bool? fun a=>q5n (ρ y).bool? fun b=>K (.bool (if neg then !(a == b) else (a == b))):=by
 simp only [q6u,q67]
 split
 ·rename_i h1 h2; simp only [h1,h2,z1q,q5p]
 ·rename_i h
  simp only [q5n,eq_iff_iff,false_iff]
  rintro⟨a,h1,b,h2, -⟩
  unfold PV.bool? at h1 h2
  split at h1
  ·split at h2
   ·rename_i h3 _ _ h4; exact h _ _ h3 h4
   ·cases h2
  ·cases h1
@[simp] theorem y3p (k k':IntKind)(a b:Int):q92 .int (.val (.int k a)) (.val (.int k' b))=if k=k' then some (decide (a=b)) else none:=rfl
@[simp] theorem y1d (a b:Bool):q92 .bool (.val (.bool a)) (.val (.bool b))=some (a == b):=rfl
@[simp] theorem y3q (a b:ByteArray):q92 .str (.val (.string a)) (.val (.string b))=some (decide (a=b)):=by simp only [q92,k6j]
@[simp] theorem y1e:q52 [] [] []=some true:=rfl
def y8s:Option Bool->Option Bool->Option Bool
 | some a,some b=>some (a && b)
 | _,_=>none
@[simp] theorem y5f (a b:Bool):y8s (some a) (some b)=some (a && b):=rfl
@[simp] theorem z5e (k:LK)(ks:List LK)(p q:PV)(ps qs:List PV):q52 (k::ks) (p::ps) (q::qs)=y8s (q92 k p q) (q52 ks ps qs):=by
 simp only [q52]
 cases q92 k p q <;> cases q52 ks ps qs <;> rfl
@[simp ↓] theorem y8t (x:MX):q6u (.un .neg x) ρ st K=q5n (ρ x).int? fun q=>K (.val (.int q.1 (q.1.wrap (0-q.2)))):=by
 simp only [q6u,q67]; cases h:ρ x <;> simp [PV.int?]
 rename_i v; cases v <;> simp
@[simp ↓] theorem y8u (x:MX):q6u (.un .not x) ρ st K=q5n (ρ x).bool? fun b=>K (.val (.bool !b)):=by
 simp only [q6u,q67]; cases h:ρ x <;> simp [PV.bool?]
 rename_i v; cases v <;> simp
@[simp ↓] theorem y3r (k:IntKind) (x:MX):q6u (.toInt k x) ρ st K=q5n (ρ x).int? fun q=>K (.val (.int k (k.wrap q.2))):=by
 simp only [q6u,q67]; cases h:ρ x <;> simp [PV.int?]
 rename_i v; cases v <;> simp
@[simp ↓] theorem j9v (T:TypeId) (x:MX):q6u (.mkIface T x) ρ st K=K (.iface T (ρ x)):=rfl
@[simp ↓] theorem y1f (fn:Fn) (fs cs:List MX):q6u (.mkFunc fn fs cs) ρ st K=K (.func fn (fs.map ρ) (cs.map ρ)):=rfl
def k4h (off:Nat)(p:PV)(K:PV->Prop)(_:Tok K:=⟨⟩):Prop:=
 match p with
 | .iptr cs k=>K (.iptr cs (k+off))
 | .val (.pointer (some ⟨b,k,none⟩))=>K (.ptr b (k+off))
 | _=>False
@[simp] theorem j3o (off:Nat)(cs:List PV)(k:Nat):k4h off (.iptr cs k) K=K (.iptr cs (k+off)):=rfl
@[simp] theorem j4h (off b k:Nat):k4h off (.val (.pointer (some ⟨b,k,none⟩))) K=K (.ptr b (k+off)):=rfl
@[simp ↓] theorem j62 (off:Nat) (x:MX):q6u (.fieldAddr off x) ρ st K=k4h off (ρ x) K:=rfl
@[simp ↓] theorem y3s (off k:Nat) (agg:Bool) (x:MX):q6u (.field off k agg x) ρ st K=q5n (ρ x).agg? fun cs=>k0a cs off k agg K:=by
 simp only [q6u,q67]; cases h:ρ x <;> simp [PV.agg?,k0a]
def q7r (k:Nat)(p:PV)(j:Int)(K:PV->Prop)(_:Tok K:=⟨⟩):Prop:=
 match p with
 | .list _ cs n=>0<=j/\j<n/\j.toNat*k<cs.length/\K (.iptr cs (j.toNat*k))
 | .val (.slice (some ⟨b,off,none⟩) n _)=>0<=j/\j<n/\K (.ptr b (off+j.toNat*k))
 | _=>False
@[simp] theorem j3p (k:Nat)(t:Bool)(cs:List PV)(n:Nat)(j:Int):q7r k (.list t cs n) j K=(0<=j/\j<n/\j.toNat*k<cs.length/\K (.iptr cs (j.toNat*k))):=rfl
@[simp] theorem j4i (k b off n c:Nat)(j:Int):q7r k (.val (.slice (some ⟨b,off,none⟩) n c)) j K=(0<=j/\j<n/\K (.ptr b (off+j.toNat*k))):=rfl
@[simp] theorem j4j (k:Nat)(j:Int):q7r k (.val (.slice none 0 0)) j K=False:=rfl
@[simp ↓] theorem j63 (k:Nat) (x i:MX):q6u (.indexAddr k x i) ρ st K=q5n (ρ i).int? fun q=>q7r k (ρ x) q.2 K:=by
 simp only [q6u,q67]
 rw [k5g]
 cases h:(ρ i).int? with
 | none=>simp
 | some q=>
  simp only [Option.map_some,q5p]
  cases hx:ρ x with
  | val v=>
   cases v with
   | slice a n c=>
    cases a with
    | none=>
     cases n <;> cases c <;> simp [PV.asList,q7r]
    | some a=>obtain⟨b,off,t⟩:=a; cases t <;> simp [PV.asList,q7r]
   | _=>simp [PV.asList,q7r]
  | _=>simp [PV.asList,q7r]
def k6k (n k:Nat)(p:PV)(j:Int)(K:PV->Prop)(_:Tok K:=⟨⟩):Prop:=
 match p with
 | .iptr cs off=>0<=j/\j<n/\K (.iptr cs (off+j.toNat*k))
 | .val (.pointer (some ⟨b,off,none⟩))=>0<=j/\j<n/\K (.ptr b (off+j.toNat*k))
 | _=>False
@[simp] theorem j4k (n k:Nat)(cs:List PV)(off:Nat)(j:Int):k6k n k (.iptr cs off) j K=(0<=j/\j<n/\K (.iptr cs (off+j.toNat*k))):=rfl
@[simp] theorem j64 (n k b off:Nat)(j:Int):k6k n k (.val (.pointer (some ⟨b,off,none⟩))) j K=(0<=j/\j<n/\K (.ptr b (off+j.toNat*k))):=rfl
@[simp ↓] theorem j7o (n k:Nat) (x i:MX):q6u (.indexArr n k x i) ρ st K=q5n (ρ i).int? fun q=>k6k n k (ρ x) q.2 K:=by
 simp only [q6u,q67]
 rw [k5g]
 cases h:(ρ i).int? with
 | none=>simp
 | some q=>simp only [Option.map_some,q5p]; rfl
@[simp ↓] theorem j7p (x i:MX):q6u (.indexStr x i) ρ st K=q5n (ρ i).int? fun q=>q5n (ρ x).str? fun s=>0<=q.2/\q5n (s[q.2.toNat]?) fun c=>K (.val (.int .u8 c.toNat)):=by
 simp only [q6u,q67]
 rw [k5g]
 cases h:(ρ i).int? with
 | none=>simp
 | some q=>
  cases hx:ρ x with
  | val v=>cases v <;> simp [PV.str?,q5n]
  | _=>simp [PV.str?]
def PV.len?:PV->Option Nat
 | .list _ _ n=>some n
 | .val (.slice _ n _)=>some n
 | _=>none
@[simp] theorem y5g (t:Bool)(cs:List PV)(n:Nat):PV.len? (.list t cs n)=some n:=rfl
@[simp] theorem y8v (a:Option Addr)(n c:Nat):PV.len? (.val (.slice a n c))=some n:=rfl
@[simp ↓] theorem y8w (x:MX):q6u (.len x) ρ st K=q5n (ρ x).len? fun n=>K (.int n):=by
 simp only [q6u,q67]
 cases hx:ρ x with
 | val v=>
  cases v with
  | slice a n c=>
   cases a with
   | none=>cases n <;> cases c <;> simp [PV.asList]
   | some a=>simp [PV.asList]
  | _=>simp [PV.asList,PV.len?]
 | _=>simp [PV.asList,PV.len?]
@[simp ↓] theorem y1g (x:MX):q6u (.strlen x) ρ st K=q5n (ρ x).str? fun s=>K (.int s.size):=by
 simp only [q6u,q67]
 cases hx:ρ x with
 | val v=>cases v <;> simp [PV.str?]
 | _=>simp [PV.str?]
def PV.cap?:PV->Option Nat
 | .list true _ n=>some n
 | .val (.slice _ _ c)=>some c
 | _=>none
@[simp] theorem y5h (cs:List PV)(n:Nat):PV.cap? (.list true cs n)=some n:=rfl
@[simp] theorem y8x (a:Option Addr)(n c:Nat):PV.cap? (.val (.slice a n c))=some c:=rfl
@[simp ↓] theorem y8y (x:MX):q6u (.cap x) ρ st K=q5n (ρ x).cap? fun n=>K (.int n):=by
 simp only [q6u,q67]
 cases hx:ρ x with
 | val v=>cases v <;> simp [PV.cap?]
 | list t cs n=>cases t <;> simp [PV.cap?]
 | _=>simp [PV.cap?]
@[simp ↓] theorem j9w (i:Nat) (x:MX):q6u (.extract i x) ρ st K=q5n (ρ x).tuple? fun ps=>q5n (ps[i]?) K:=by
 simp only [q6u,q67]
 cases hx:ρ x <;> simp [PV.tuple?,q5n]
def j0s (isMax:Bool)(ps:List PV)(K:PV->Prop)(_:Tok K:=⟨⟩):Prop:=
 match ps with
 | [.val (.int k a),.val (.int _ b)]=>K (.val (.int k (if isMax then (if b > a then b else a) else (if b<a then b else a))))
 | _=>False
@[simp] theorem j9x (m:Bool)(k k':IntKind)(a b:Int):j0s m [.val (.int k a),.val (.int k' b)] K=K (.val (.int k (if m then (if b > a then b else a) else (if b<a then b else a)))):=rfl
@[simp ↓] theorem y1h (m:Bool) (xs:List MX):q6u (.minmax m xs) ρ st K=j0s m (xs.map ρ) K:=rfl
def z3f (T:TypeId)(z:PV)(ok:Bool)(p:PV)(K:PV->Prop)(_:Tok K:=⟨⟩):Prop:=
 match p with
 | .iface U p=>if U=T then (if ok then K (.tuple [p,.bool true]) else K p) else (ok=true/\K (.tuple [z,.bool false]))
 | .val .nilIface=>ok=true/\K (.tuple [z,.bool false])
 | _=>False
@[simp] theorem j65 (T U:TypeId)(z:PV)(ok:Bool)(p:PV):z3f T z ok (.iface U p) K=if U=T then (if ok then K (.tuple [p,.bool true]) else K p) else (ok=true/\K (.tuple [z,.bool false])):=rfl
@[simp] theorem j9y (T:TypeId)(z:PV)(ok:Bool):z3f T z ok (.val .nilIface) K=(ok=true/\K (.tuple [z,.bool false])):=rfl
@[simp ↓] theorem y1i (T:TypeId) (z:PV) (ok:Bool) (x:MX):q6u (.assert T z ok x) ρ st K=z3f T z ok (ρ x) K:=rfl
@[simp] theorem y8z (ρ:MX->PV):bnd ρ none=some none:=rfl
@[simp] theorem y80 (ρ:MX->PV)(x:MX):bnd ρ (some x)=(ρ x).int?.map fun q=>some q.2:=by
 simp only [bnd,k5g]
 cases (ρ x).int? <;> rfl
def k6l (s:ByteArray)(lo hi:Option Int)(K:PV->Prop)(_:Tok K:=⟨⟩):Prop:=q80 s lo hi K
@[simp] theorem j7q (s:ByteArray)(l:Int):k6l s (some l) none K=(0<=l/\l<=s.size/\K (.str (s.extract l.toNat s.size))):=rfl
@[simp] theorem j7r (s:ByteArray)(h:Int):k6l s none (some h) K=(0<=h/\h<=s.size/\K (.str (s.extract 0 h.toNat))):=rfl
@[simp] theorem j4l (s:ByteArray)(l h:Int):k6l s (some l) (some h) K=(0<=l/\l<=h/\h<=s.size/\K (.str (s.extract l.toNat h.toNat))):=rfl
@[simp] theorem z1r (b off n cap:Nat)(lo hi mx:Option Int):j3u (.val (.slice (some ⟨b,off,none⟩) n cap)) lo hi mx=false:=rfl
def k0b (k:Nat)(p:PV)(lo hi mx:Option Int)(K:PV->Prop)(_:Tok K:=⟨⟩):Prop:=k1i k p lo hi mx K
section
variable (k n b off cap:Nat) (t:Bool) (cs:List PV) (l h m:Int)
@[simp] theorem y5i:k0b k (.list t cs n) none none none K=K (.list t cs n):=rfl
@[simp] theorem y5j:k0b k (.list t cs n) (some l) none none K=(0<=l/\l<=n/\cs.length<=n*k/\K (.list t (cs.drop (l.toNat*k)) (n-l.toNat))):=rfl
@[simp] theorem y5k:k0b k (.list t cs n) none (some h) none K=(0<=h/\h<=n/\K (.list false (cs.take (h.toNat*k)) h.toNat)):=rfl
@[simp] theorem y5l:k0b k (.list t cs n) (some l) (some h) none K=(0<=l/\l<=h/\h<=n/\K (.list false ((cs.take (h.toNat*k)).drop (l.toNat*k)) (h.toNat-l.toNat))):=rfl
@[simp] theorem y5m:k0b k (.list t cs n) none (some h) (some m) K=(0<=h/\h<=m/\m<=n/\K (.list (decide (h=m)) (cs.take (h.toNat*k)) h.toNat)):=rfl
@[simp] theorem y5n:k0b k (.list t cs n) (some l) (some h) (some m) K=(0<=l/\l<=h/\h<=m/\m<=n/\K (.list (decide (h=m)) ((cs.take (h.toNat*k)).drop (l.toNat*k)) (h.toNat-l.toNat))):=rfl
@[simp] theorem y5o:k0b k (.val (.slice none 0 0)) none none none K=K .nil:=rfl
@[simp] theorem y5p:k0b k (.val (.slice none 0 0)) (some l) none none K=(0<=l/\l<=((0:Nat):Int)/\([]:List PV).length<=0*k/\K (.list true (([]:List PV).drop (l.toNat*k)) (0-l.toNat))):=rfl
@[simp] theorem y5q:k0b k (.val (.slice none 0 0)) none (some h) none K=(h=0/\K .nil):=rfl
@[simp] theorem y5r:k0b k (.val (.slice none 0 0)) none (some h) (some m) K=(0<=h/\h<=m/\m<=((0:Nat):Int)/\K (.list (decide (h=m)) (([]:List PV).take (h.toNat*k)) h.toNat)):=rfl
@[simp] theorem y5s:k0b k (.val (.slice (some ⟨b,off,none⟩) n cap)) (some l) none none K=(n<=cap/\0<=l/\l<=n/\(l=cap->K (.list true [] 0))/\(l<cap->K (.own b (off+l.toNat*k) (n-l.toNat) (cap-l.toNat)))):=by
 simp only [k0b,k1i,z1r,Bool.false_eq_true,if_false,PV.asList,q9q]
 simp
@[simp] theorem y5t:k0b k (.val (.slice (some ⟨b,off,none⟩) n cap)) none (some h) none K=(0<=h/\h<=cap/\K (.own b off h.toNat cap)):=by
 simp only [k0b,k1i,z1r,Bool.false_eq_true,if_false,PV.asList,q9q]
 simp
end
@[simp ↓] theorem y3t (k:Nat) (x:MX) (lo hi mx:Option MX):q6u (.slice k x lo hi mx) ρ st K=q5n (bnd ρ lo) fun l=>q5n (bnd ρ hi) fun h=>q5n (bnd ρ mx) fun m=>k0b k (ρ x) l h m K:=by
 simp only [q6u,q67]
 split
 ·rename_i h1 h2 h3
  simp only [h1,h2,h3,q5p]
  rfl
 ·rename_i hn
  simp only [q5n,eq_iff_iff,false_iff]
  rintro⟨l,h1,h,h2,m,h3, -⟩
  exact hn l h m h1 h2 h3
def k82 (n k:Nat)(p:PV)(lo hi mx:Option Int)(K:PV->Prop)(_:Tok K:=⟨⟩):Prop:=q8k n k p lo hi mx K
section
variable (k n b off:Nat) (cs:List PV) (l h m:Int)
@[simp] theorem j9z:k82 n k (.val (.pointer (some ⟨b,off,none⟩))) none none none K=K (.own b off n n):=by
 simp only [k82,q8k,q9q]
 simp
end
@[simp ↓] theorem j7s (n k:Nat) (x:MX) (lo hi mx:Option MX):q6u (.sliceArr n k x lo hi mx) ρ st K=q5n (bnd ρ lo) fun l=>q5n (bnd ρ hi) fun h=>q5n (bnd ρ mx) fun m=>k82 n k (ρ x) l h m K:=by
 simp only [q6u,q67]
 split
 ·rename_i h1 h2 h3
  simp only [h1,h2,h3,q5p]
  rfl
 ·rename_i hn
  simp only [q5n,eq_iff_iff,false_iff]
  rintro⟨l,h1,h,h2,m,h3, -⟩
  exact hn l h m h1 h2 h3
@[simp ↓] theorem y3u (x:MX):q6u (.strOf x) ρ st K=q5n (q6m 1 st (ρ x)) fun r=>q5n (q8n r.1) fun bs=>K (.str ⟨bs.toArray⟩):=by
 simp only [q6u,q67]
 split
 ·rename_i cs n h
  simp only [h,q5p]
  split
  ·rename_i bs hb; simp only [hb,q5p]
  ·rename_i hb; simp only [hb,q87]
 ·rename_i h; simp only [h,q87]
def z5f (r:Option (Option Nat))(vs:List PV)(z:PV)(ok:Bool)(K:PV->Prop)(_:Tok K:=⟨⟩):Prop:=
 match r with
 | some (some j)=>∃ p,vs[j]?=some p/\K (if ok then .tuple [p,.bool true] else p)
 | some none=>K (if ok then .tuple [z,.bool false] else z)
 | none=>False
@[simp] theorem v03 (j:Nat)(vs:List PV)(z:PV):z5f (some (some j)) vs z true K=q5n (vs[j]?) fun p=>K (.tuple [p,.bool true]):=rfl
@[simp] theorem v04 (j:Nat)(vs:List PV)(z:PV):z5f (some (some j)) vs z false K=q5n (vs[j]?) fun p=>K p:=rfl
@[simp] theorem y81 (vs:List PV)(z:PV):z5f (some none) vs z true K=K (.tuple [z,.bool false]):=rfl
@[simp] theorem y82 (vs:List PV)(z:PV):z5f (some none) vs z false K=K z:=rfl
@[simp ↓] theorem y1j (kp:KP) (z:PV) (ok:Bool) (x i:MX):q6u (.lookup kp z ok x i) ρ st K=q5n (z2o st (ρ x)) fun m=>q5n (ρ i).key? fun kv=>q8d kp kv=true/\z5f (k3z kp kv m.1) m.2 z ok K:=by
 simp only [q6u,q67]
 split
 ·rename_i h1 h2
  simp only [h1,h2,q5p]
  rfl
 ·rename_i hn
  simp only [q5n,eq_iff_iff,false_iff]
  rintro⟨⟨ks,vs⟩,h1,kv,h2, -⟩
  exact hn ks vs kv h1 h2
end
inductive Gd where
 | b (c:Bool)
 | skip
def PV.gd?:PV->Option Gd
 | .val (.bool c)=>some (.b c)
 | .val (.tuple _)=>some .skip
 | _=>none
@[simp] theorem k74 (c:Bool):PV.gd? (.val (.bool c))=some (.b c):=rfl
@[simp] theorem y5u:PV.gd? (.val (.tuple #[]))=some .skip:=rfl
def onG (g:Gd)(A B C:Prop)(_:Tok (A,B,C):=⟨⟩):Prop:=
 match g with
 | .b c=>onB c A B
 | .skip=>C
@[simp ↓,simp] theorem j7t (c:Bool) (A B C:Prop):onG (.b c) A B C=onB c A B:=rfl
@[simp ↓,simp] theorem y83 (A B C:Prop):onG .skip A B C=C:=rfl
def q9t {α:Type}(a:α)(K:α->Prop)(_:Tok K:=⟨⟩):Prop:=K a
@[simp] theorem k5h {α:Type}(a:α)(K:α->Prop):q9t a K=K a:=rfl
def xop (P:Program)(op:MOp)(ρ:MX->PV)(st:q5c)(K QP:PV->q5c->Prop)(_:Tok (K,QP):=⟨⟩):Prop:=mop P op ρ st K QP
def Fresh (st:q5c)(K:Nat->Prop)(_:Tok K:=⟨⟩):Prop:=∀ b,q50 st b->K b
theorem Fresh.intro {st:q5c}{K:Nat->Prop}(h:∀ b,q50 st b->K b):Fresh st K:=h
def j7u {α β:Type}(o:Option α)(f:α->Option β)(_:Tok f:=⟨⟩):Option β:=o.bind f
@[simp ↓,simp] theorem y3v {α β:Type} (a:α) (f:α->Option β):j7u (some a) f=f a:=rfl
@[simp] theorem y3w {α β:Type}(f:α->Option β):j7u none f=none:=rfl
def y1k:MVal->Bool
 | .buildSlice ..=>true
 | _=>false
def Lit (T:TypeId)(cs:List PV)(len:Nat)(st:q5c)(K:PV->q5c->Prop)(_:Tok K:=⟨⟩):Prop:=K (.list true cs len) st\/∀ b,q50 st b->K (.own b 0 len len) ((b,.arr T cs)::st)
theorem Lit.imm {T:TypeId}{cs:List PV}{len:Nat}{st:q5c}{K:PV->q5c->Prop}(h:K (.list true cs len) st):Lit T cs len st K:=.inl h
theorem Lit.own {T:TypeId}{cs:List PV}{len:Nat}{st:q5c}{K:PV->q5c->Prop}(h:∀ b,q50 st b->K (.own b 0 len len) ((b,.arr T cs)::st)):Lit T cs len st K:=.inr h
def Grow (T:TypeId)(bytes k:Nat)(cs:List PV)(need:Nat)(st:q5c)(K:PV->q5c->Prop)(_:Tok K:=⟨⟩):Prop:=j1v T bytes k cs need st K
theorem Grow.intro {T:TypeId}{bytes k:Nat}{cs:List PV}{need:Nat}{st:q5c}{K:PV->q5c->Prop}(h1:need*bytes<=140737488355328)
  (h2:∀ b cap,q50 st b->need<=cap->cap<=9223372036854775807->K (.own b 0 need cap) ((b,.arr T (cs++List.replicate ((cap-need)*k) .any))::st)):Grow T bytes k cs need st K:=⟨h1,.inl h2⟩
def q61 (T:TypeId)(bytes k:Nat)(p:PV)(new:List PV)(m:Nat)(st:q5c)(K:PV->q5c->Prop)(_:Tok K:=⟨⟩):Prop:=q9n T bytes k p new m st K
section
variable (T:TypeId) (bytes k:Nat) (new:List PV) (m:Nat) (st:q5c) (K:PV->q5c->Prop)
theorem k4i:q61 T bytes k (.val (.slice none 0 0)) new m st K=((m=0->K .nil st)/\(¬ m=0->Grow T bytes k new m st K)):=by
 show (if m=0 then K .nil st else Grow T bytes k new m st K)=_
 split <;> simp [*]
@[simp] theorem q5d (t:Bool)(cs:List PV)(n:Nat):q61 T bytes k (.list t cs n) new m st K=((m=0->K (.list t cs n) st)/\(¬ m=0->t=true/\cs.length=n*k/\Grow T bytes k (cs++new) (n+m) st K)):=by
 show (if m=0 then K (.list t cs n) st else t=true/\cs.length=n*k/\Grow T bytes k (cs++new) (n+m) st K)=_
 split <;> simp [*]
end
theorem k1q {T:TypeId}{bytes k:Nat}{new:List PV}{m:Nat}{st:q5c}{K:PV->q5c->Prop}{b n cap:Nat}{row:List PV}(hb:q55 st b=some (.arr T row))(hl:row.length=cap*k)(hn:n<=cap)(hc:cap<=9223372036854775807)
  (h:Grow T bytes k (row.take (n*k)++new) (n+m) (k2d b st) K):q61 T bytes k (.own b 0 n cap) new m st K:=by
 show q9n _ _ _ _ _ _ _ _
 simp only [q9n,hb]
 exact⟨trivial,by omega,hn,hc,.inl ⟨trivial,hl,h⟩⟩
theorem z5g {T:TypeId}{bytes k:Nat}{new:List PV}{m:Nat}{st:q5c}{K:PV->q5c->Prop}{b off n cap:Nat}{row:List PV}(hb:q55 st b=some (.arr T row))(hl:off+cap*k<=row.length)(hn:n<=cap)(hc:cap<=9223372036854775807)
  (h0:(n+m)*bytes<=140737488355328) (h1:n+m<=cap->K (.own b off (n+m) cap) (q8u st b (.arr T (q5g row (off+n*k) new)))) (h2:cap<n+m->Grow T bytes k ((row.drop off).take (n*k)++new) (n+m) st K):q61 T bytes k (.own b off n cap) new m st K:=by
 show q9n _ _ _ _ _ _ _ _
 simp only [q9n,hb]
 exact⟨trivial,hl,hn,hc,.inr ⟨h0,h1,h2⟩⟩
def j4m (k:Nat)(p:PV)(new:List PV)(m:Nat)(st:q5c)(K:PV->q5c->Prop)(_:Tok K:=⟨⟩):Prop:=j3w k p new m st K
@[simp] theorem y5v (k:Nat)(new:List PV)(m:Nat)(st:q5c)(K:PV->q5c->Prop):j4m k (.val (.slice none 0 0)) new m st K=K (.int 0) st:=rfl
@[simp] theorem y1l (k:Nat)(new:List PV)(m:Nat)(st:q5c)(K:PV->q5c->Prop)(t:Bool)(cs:List PV):j4m k (.list t cs 0) new m st K=K (.int 0) st:=rfl
@[simp] theorem y5w (k:Nat)(new:List PV)(m:Nat)(st:q5c)(K:PV->q5c->Prop)(b off n cap:Nat):j4m k (.val (.slice (some ⟨b,off,none⟩) n cap)) new m st K =
  q5n (z8d (q55 st b)) fun r=>off+min m n*k<=r.2.length/\K (.int (min m n:Nat)) (q8u st b (.arr r.1 (q5g r.2 off (new.take (min m n*k))))):=by
 simp only [j4m,j3w]
 cases h:q55 st b with
 | none=>simp [z8d]
 | some o=>cases o <;> simp [z8d]
@[simp] theorem j7v (k:Nat)(st:q5c)(t:Bool)(cs:List PV)(n:Nat):q6m k st (.list t cs n)=if cs.length=n*k then some (cs,n) else none:=rfl
@[simp] theorem j90 (k:Nat)(st:q5c):q6m k st (.val (.slice none 0 0))=some ([],0):=rfl
@[simp] theorem j91 (k:Nat)(st:q5c)(b off n cap:Nat):q6m k st (.val (.slice (some ⟨b,off,none⟩) n cap))=j7u (z8d (q55 st b)) fun r=>if off+n*k<=r.2.length then some ((r.2.drop off).take (n*k),n) else none:=by
 simp only [q6m]
 cases h:q55 st b with
 | none=>rfl
 | some o=>cases o <;> rfl
@[simp] theorem j92 (st:q5c)(s:ByteArray):q6m 1 st (.val (.string s))=some (s.data.toList.map fun b=>.val (.int .u8 b.toNat),s.size):=rfl
def j7w (neg:Bool)(nk:NK)(p:PV)(st:q5c)(K:PV->q5c->Prop)(_:Tok K:=⟨⟩):Prop:=z4m neg nk p st K
section
variable (neg:Bool) (st:q5c) (K:PV->q5c->Prop)
@[simp] theorem y84 (n c:Nat):j7w neg .slice (.val (.slice none n c)) st K=K (.bool !neg) st:=rfl
@[simp] theorem y85 (a:Addr)(n c:Nat):j7w neg .slice (.val (.slice (some a) n c)) st K=K (.bool neg) st:=rfl
@[simp] theorem y5x (t:Bool)(cs:List PV)(n:Nat):j7w neg .slice (.list t cs n) st K=((cs=[]->K (.bool !neg) st)/\K (.bool neg) st):=rfl
@[simp] theorem y5y:j7w neg .iface (.val .nilIface) st K=K (.bool !neg) st:=rfl
@[simp] theorem y3x (T:TypeId)(p:PV):j7w neg .iface (.iface T p) st K=K (.bool neg) st:=rfl
@[simp] theorem y5z:j7w neg .map (.val (.map none)) st K=K (.bool !neg) st:=rfl
@[simp] theorem y86 (r:Nat):j7w neg .map (.val (.map (some r))) st K=K (.bool neg) st:=rfl
@[simp] theorem y50 (ks:List Value)(vs:List PV):j7w neg .map (.imap ks vs) st K=K (.bool neg) st:=rfl
end
def PV.map?:PV->Option Nat
 | .val (.map (some b))=>some b
 | _=>none
@[simp] theorem j7x (b:Nat):PV.map? (.val (.map (some b)))=some b:=rfl
def map?:Option PObj->Option (List Value × List PV)
 | some (.map ks vs)=>some (ks,vs)
 | _=>none
@[simp] theorem j4n (ks:List Value)(vs:List PV):map? (some (.map ks vs))=some (ks,vs):=rfl
@[simp] theorem y51 (st:q5c)(b:Nat):z2o st (.val (.map (some b)))=map? (q55 st b):=by
 simp only [z2o]
 cases h:q55 st b with
 | none=>rfl
 | some o=>cases o <;> rfl
@[simp] theorem y52 (st:q5c):z2o st (.val (.map none))=some ([],[]):=rfl
@[simp] theorem y3y (st:q5c)(ks:List Value)(vs:List PV):z2o st (.imap ks vs)=some (ks,vs):=rfl
@[simp] theorem y87 (v:Value):PV.key? (.val v)=some v:=rfl
@[simp] theorem y88 (cs:List PV):PV.key? (.agg cs)=(PV.vals? cs).map fun vs=>.agg vs.toArray:=rfl
@[simp] theorem y53:PV.vals? []=some []:=rfl
@[simp] theorem y3z (v:Value)(ps:List PV):PV.vals? (.val v::ps)=(PV.vals? ps).map (v::·):=rfl
@[simp] theorem y54 (lk:List LK)(v:Value):q8d (false,lk) v=(lk.length == 1):=rfl
@[simp] theorem y55 (lk:List LK)(cs:Array Value):q8d (true,lk) (.agg cs)=(cs.size == lk.length):=rfl
@[simp] theorem y89 (kp:KP)(k:Value):k3z kp k []=some none:=rfl
def j4o (r:Option Bool)(rest:Option (Option Nat)):Option (Option Nat):=
 match r with
 | some true=>some (some 0)
 | some false=>rest.map (·.map (·+1))
 | none=>none
@[simp] theorem v05 (rest:Option (Option Nat)):j4o (some true) rest=some (some 0):=rfl
@[simp] theorem v06 (rest:Option (Option Nat)):j4o (some false) rest=rest.map (·.map (·+1)):=rfl
@[simp] theorem y56 (kp:KP)(k k':Value)(ks:List Value):k3z kp k (k'::ks)=j4o (q52 kp.2 (q6j kp.1 k) (q6j kp.1 k')) (k3z kp k ks):=by
 simp only [k3z,j4o]
 split <;> rename_i h <;> simp only [h]
@[simp] theorem y30 (v:Value):q6j false v=[.val v]:=by cases v <;> rfl
@[simp] theorem y31 (cs:Array Value):q6j true (.agg cs)=cs.toList.map .val:=rfl
def v07 (b:Nat)(kv:Value)(p:PV)(ks:List Value)(vs:List PV)(r:Option (Option Nat))(st:q5c)(K:PV->q5c->Prop)(_:Tok K:=⟨⟩):Prop:=
 match r with
 | some (some j)=>K .any (q8u st b (.map (ks.set j kv) (vs.set j p)))
 | some none=>K .any (q8u st b (.map (ks++[kv]) (vs++[p])))
 | none=>False
@[simp] theorem xput_s (b:Nat)(kv:Value)(p:PV)(ks:List Value)(vs:List PV)(j:Nat)(st:q5c)(K:PV->q5c->Prop):v07 b kv p ks vs (some (some j)) st K=K .any (q8u st b (.map (ks.set j kv) (vs.set j p))):=rfl
@[simp] theorem xput_n (b:Nat)(kv:Value)(p:PV)(ks:List Value)(vs:List PV)(st:q5c)(K:PV->q5c->Prop):v07 b kv p ks vs (some none) st K=K .any (q8u st b (.map (ks++[kv]) (vs++[p]))):=rfl
def xdel (b:Nat)(ks:List Value)(vs:List PV)(r:Option (Option Nat))(st:q5c)(K:PV->q5c->Prop)(_:Tok K:=⟨⟩):Prop:=
 match r with
 | some (some j)=>K .any (q8u st b (.map (ks.eraseIdx j) (vs.eraseIdx j)))
 | some none=>K .any st
 | none=>False
@[simp] theorem xdel_s (b:Nat)(ks:List Value)(vs:List PV)(j:Nat)(st:q5c)(K:PV->q5c->Prop):xdel b ks vs (some (some j)) st K=K .any (q8u st b (.map (ks.eraseIdx j) (vs.eraseIdx j))):=rfl
@[simp] theorem xdel_n (b:Nat)(ks:List Value)(vs:List PV)(st:q5c)(K:PV->q5c->Prop):xdel b ks vs (some none) st K=K .any st:=rfl
def xcall (P:Program)(g:FuncId)(ps:List PV)(st:q5c)(Q:PEnd->q5c->Prop)(_:Tok Q:=⟨⟩):Prop:=PCalls P g ps st Q
def j93 (P:Program)(l:Nat)(ps:List PV)(st:q5c)(Q:PEnd->q5c->Prop)(_:Tok Q:=⟨⟩):Prop:=PRound P l ps st Q
def j4p (P:Program)(f:PV)(ps:List PV)(st:q5c)(Q:PEnd->q5c->Prop)(_:Tok Q:=⟨⟩):Prop:=j0f P f ps st Q
@[simp ↓,simp] theorem y1m (P:Program) (g:FuncId) (fs cs ps:List PV) (st:q5c) (Q:PEnd->q5c->Prop):j4p P (.func (.func g) fs cs) ps st Q=xcall P g (fs++ps++cs) st Q:=rfl
@[simp ↓,simp] theorem j94 (P:Program) (l:Nat) (ps:List PV) (st:q5c) (Q:PEnd->q5c->Prop):j4p P (.func (.yield l) [] []) ps st Q=j93 P l ps st Q:=rfl
def z5h (k:Nat)(zs:List PV)(p:PV)(st:q5c)(K:PV->q5c->Prop)(_:Tok K:=⟨⟩):Prop:=z4n k zs p st K
@[simp] theorem y32 (k:Nat)(zs:List PV)(st:q5c)(K:PV->q5c->Prop):z5h k zs (.val (.slice none 0 0)) st K=K .any st:=rfl
@[simp] theorem j95 (k:Nat)(zs:List PV)(st:q5c)(K:PV->q5c->Prop)(t:Bool)(cs:List PV):z5h k zs (.list t cs 0) st K=K .any st:=rfl
@[simp] theorem y33 (k:Nat)(zs:List PV)(st:q5c)(K:PV->q5c->Prop)(b off n cap:Nat):z5h k zs (.val (.slice (some ⟨b,off,none⟩) n cap)) st K =
  q5n (z8d (q55 st b)) fun r=>off+n*k<=r.2.length/\K .any (q8u st b (.arr r.1 (q5g r.2 off (List.replicate n zs).flatten))):=by
 simp only [z5h,z4n]
 cases h:q55 st b with
 | none=>simp [z8d]
 | some o=>cases o <;> simp [z8d]
def j4q (p:PV)(st:q5c)(K:PV->q5c->Prop)(_:Tok K:=⟨⟩):Prop:=j0g p st K
def v08 (p:PV)(st:q5c)(K:PV->q5c->Prop)(_:Tok K:=⟨⟩):Prop:=j7f p st K
def y57 (p:PV)(st:q5c)(K:PV->q5c->Prop)(_:Tok K:=⟨⟩):Prop:=j0h p st K
def v09 (K QP:PV->q5c->Prop)(e:PEnd)(st:q5c)(_:Tok (K,QP):=⟨⟩):Prop:=q81 K QP e st
section
variable (P:Program) (ρ:MX->PV) (st:q5c) (K QP:PV->q5c->Prop)
@[simp] theorem q5v (p:PV):v09 K QP (.ret p) st=K p st:=rfl
@[simp] theorem y34 (p:PV):v09 K QP (.panic p) st=QP p st:=rfl
theorem q6r (v:MVal)(h:y1k v=false):xop P (.val v) ρ st K QP=q6u v ρ st fun p=>K p st:=by
 have:y01 v ρ st K=False:=by
  unfold y01
  split
  ·simp [y1k] at h
  ·rfl
 simp only [xop,mop,this,or_false]
 rfl
@[simp ↓] theorem mop_mv (x:MX):xop P (.val (.mv x)) ρ st K QP=q6u (.mv x) ρ st fun p=>K p st:=q6r P ρ st K QP _ rfl
@[simp ↓] theorem y9a (c a b:MX):xop P (.val (.pick c a b)) ρ st K QP=q6u (.pick c a b) ρ st fun p=>K p st:=q6r P ρ st K QP _ rfl
@[simp ↓] theorem y58 (zs:List PV) (parts:List (Nat × Nat × MX)):xop P (.val (.build zs parts)) ρ st K QP=q6u (.build zs parts) ρ st fun p=>K p st:=q6r P ρ st K QP _ rfl
@[simp ↓] theorem y9b (k:Nat) (agg:Bool) (x:MX):xop P (.val (.load k agg x)) ρ st K QP=q6u (.load k agg x) ρ st fun p=>K p st:=q6r P ρ st K QP _ rfl
@[simp ↓] theorem j96 (x:MX):xop P (.val (.nilCheck x)) ρ st K QP=q6u (.nilCheck x) ρ st fun p=>K p st:=q6r P ρ st K QP _ rfl
@[simp ↓] theorem v1c (op:BinOp) (T:TypeId) (x y:MX):xop P (.val (.bin op T x y)) ρ st K QP=q6u (.bin op T x y) ρ st fun p=>K p st:=q6r P ρ st K QP _ rfl
@[simp ↓] theorem y59 (neg:Bool) (ks:List LK) (x y:MX):xop P (.val (.eqAgg neg ks x y)) ρ st K QP=q6u (.eqAgg neg ks x y) ρ st fun p=>K p st:=q6r P ρ st K QP _ rfl
@[simp ↓] theorem y35 (neg:Bool) (x y:MX):xop P (.val (.eqBool neg x y)) ρ st K QP=q6u (.eqBool neg x y) ρ st fun p=>K p st:=q6r P ρ st K QP _ rfl
@[simp ↓] theorem mop_un (op:UnOp) (x:MX):xop P (.val (.un op x)) ρ st K QP=q6u (.un op x) ρ st fun p=>K p st:=q6r P ρ st K QP _ rfl
@[simp ↓] theorem y6a (k:IntKind) (x:MX):xop P (.val (.toInt k x)) ρ st K QP=q6u (.toInt k x) ρ st fun p=>K p st:=q6r P ρ st K QP _ rfl
@[simp ↓] theorem y1n (T:TypeId) (x:MX):xop P (.val (.mkIface T x)) ρ st K QP=q6u (.mkIface T x) ρ st fun p=>K p st:=q6r P ρ st K QP _ rfl
@[simp ↓] theorem y36 (fn:Fn) (first captured:List MX):xop P (.val (.mkFunc fn first captured)) ρ st K QP=q6u (.mkFunc fn first captured) ρ st fun p=>K p st:=q6r P ρ st K QP _ rfl
@[simp ↓] theorem j7y (off:Nat) (x:MX):xop P (.val (.fieldAddr off x)) ρ st K QP=q6u (.fieldAddr off x) ρ st fun p=>K p st:=q6r P ρ st K QP _ rfl
@[simp ↓] theorem j7z (k:Nat) (x i:MX):xop P (.val (.indexAddr k x i)) ρ st K QP=q6u (.indexAddr k x i) ρ st fun p=>K p st:=q6r P ρ st K QP _ rfl
@[simp ↓] theorem j97 (n k:Nat) (x i:MX):xop P (.val (.indexArr n k x i)) ρ st K QP=q6u (.indexArr n k x i) ρ st fun p=>K p st:=q6r P ρ st K QP _ rfl
@[simp ↓] theorem j98 (x i:MX):xop P (.val (.indexStr x i)) ρ st K QP=q6u (.indexStr x i) ρ st fun p=>K p st:=q6r P ρ st K QP _ rfl
@[simp ↓] theorem v1d (x:MX):xop P (.val (.len x)) ρ st K QP=q6u (.len x) ρ st fun p=>K p st:=q6r P ρ st K QP _ rfl
@[simp ↓] theorem v1e (x:MX):xop P (.val (.cap x)) ρ st K QP=q6u (.cap x) ρ st fun p=>K p st:=q6r P ρ st K QP _ rfl
@[simp ↓] theorem y37 (lk:Bool × List LK) (z:PV) (ok:Bool) (x i:MX):xop P (.val (.lookup lk z ok x i)) ρ st K QP=q6u (.lookup lk z ok x i) ρ st fun p=>K p st:=q6r P ρ st K QP _ rfl
@[simp ↓] theorem y6b (k:Nat) (x:MX) (lo hi mx:Option MX):xop P (.val (.slice k x lo hi mx)) ρ st K QP=q6u (.slice k x lo hi mx) ρ st fun p=>K p st:=q6r P ρ st K QP _ rfl
@[simp ↓] theorem y6c (x:MX):xop P (.val (.strOf x)) ρ st K QP=q6u (.strOf x) ρ st fun p=>K p st:=q6r P ρ st K QP _ rfl
@[simp ↓] theorem y1o (i:Nat) (x:MX):xop P (.val (.extract i x)) ρ st K QP=q6u (.extract i x) ρ st fun p=>K p st:=q6r P ρ st K QP _ rfl
@[simp ↓] theorem y38 (isMax:Bool) (xs:List MX):xop P (.val (.minmax isMax xs)) ρ st K QP=q6u (.minmax isMax xs) ρ st fun p=>K p st:=q6r P ρ st K QP _ rfl
@[simp ↓] theorem y39 (T:TypeId) (z:PV) (ok:Bool) (x:MX):xop P (.val (.assert T z ok x)) ρ st K QP=q6u (.assert T z ok x) ρ st fun p=>K p st:=q6r P ρ st K QP _ rfl
@[simp ↓] theorem v1f (T:TypeId) (len:Nat) (zs:List PV) (parts:List (Nat × Nat × MX)):xop P (.val (.buildSlice T len zs parts)) ρ st K QP =
  q5n (q91 zs (parts.map fun q=>(q.1,q.2.1,ρ q.2.2))) fun cs=>Lit T cs len st K:=by
 simp only [xop,mop,q67,y01,Lit]
 split <;> simp_all
@[simp ↓] theorem y4a (T:TypeId) (bytes k:Nat) (x y:MX):xop P (.append T bytes k x y) ρ st K QP=q5n (q6m k st (ρ y)) fun r=>q61 T bytes k (ρ x) r.1 r.2 st K:=by
 simp only [xop,mop]
 split
 ·rename_i h; simp only [h,q5p]; rfl
 ·rename_i h; simp only [h,q87]
@[simp ↓] theorem y1p (T:TypeId) (bytes k:Nat) (zs:List PV) (x n:MX):xop P (.appendZ T bytes k zs x n) ρ st K QP=q5n (ρ n).int? fun q=>0<=q.2/\q.2<=9223372036854775807/\q61 T bytes k (ρ x) (List.replicate q.2.toNat zs).flatten q.2.toNat st K:=by
 simp only [xop,mop]
 split
 ·rename_i h; simp only [h,j0q,q5p]; rfl
 ·rename_i h
  simp only [q5n,eq_iff_iff,false_iff]
  rintro⟨⟨k,m⟩,h1, -⟩
  unfold PV.int? at h1
  split at h1
  ·rename_i h2; exact h _ _ h2
  ·cases h1
@[simp ↓] theorem y1q (T:TypeId) (bytes k:Nat) (zs:List PV) (l c:MX):xop P (.mkSlice T bytes k zs l c) ρ st K QP=q5n (ρ l).int? fun a=>q5n (ρ c).int? fun b=>0<=a.2/\a.2<=b.2/\b.2*bytes<=281474976710656/\b.2<=9223372036854775807 ∧
  Fresh st fun d=>K (.own d 0 a.2.toNat b.2.toNat) ((d,.arr T (List.replicate b.2.toNat zs).flatten)::st):=by
 simp only [xop,mop]
 split
 ·rename_i h1 h2; simp only [h1,h2,j0q,q5p]; rfl
 ·rename_i h
  simp only [q5n,eq_iff_iff,false_iff]
  rintro⟨⟨k,m⟩,h1,⟨k',m'⟩,h2, -⟩
  unfold PV.int? at h1 h2
  split at h1
  ·split at h2
   ·rename_i h3 _ _ _ h4; exact h _ _ _ _ h3 h4
   ·cases h2
  ·cases h1
@[simp ↓] theorem y9c (k:Nat) (x y:MX):xop P (.copy k x y) ρ st K QP=q5n (q6m k st (ρ y)) fun r=>j4m k (ρ x) r.1 r.2 st K:=by
 simp only [xop,mop]
 split
 ·rename_i h; simp only [h,q5p]; rfl
 ·rename_i h; simp only [h,q87]
@[simp ↓] theorem y6d (neg:Bool) (nk:NK) (x:MX):xop P (.eqNil neg nk x) ρ st K QP=j7w neg nk (ρ x) st K:=rfl
@[simp ↓] theorem y6e:xop P .mkMap ρ st K QP=Fresh st fun b=>K (.val (.map (some b))) ((b,.map [] [])::st):=rfl
@[simp ↓] theorem y4b (kp:KP) (m k v:MX):xop P (.mapSet kp m k v) ρ st K QP=q5n (ρ m).map? fun b=>q5n (ρ k).key? fun kv=>q5n (map? (q55 st b)) fun r=>q8d kp kv=true/\v07 b kv (ρ v) r.1 r.2 (k3z kp kv r.1) st K:=by
 simp only [xop,mop]
 split
 ·rename_i b kv h1 h2
  simp only [h1,h2,j7x,q5p]
  split
  ·rename_i h3; simp only [h3,j4n,q5p]; rfl
  ·rename_i h3
   cases h4:q55 st b with
   | none=>simp [map?]
   | some o=>cases o <;> simp_all [map?]
 ·rename_i h
  simp only [q5n,eq_iff_iff,false_iff]
  rintro⟨b,h1,kv,h2, -⟩
  refine h b kv ?_ h2
  revert h1
  unfold PV.map?
  split <;> simp
  rintro rfl
  assumption
@[simp ↓] theorem y6f (T:TypeId) (zs:List PV):xop P (.alloc T zs) ρ st K QP=Fresh st fun b=>K (.ptr b 0) ((b,.arr T zs)::st):=rfl
@[simp ↓] theorem v1g (T:TypeId) (x:MX):xop P (.box T x) ρ st K QP=q5n (ρ x).cells fun cs=>Fresh st fun b=>K (.ptr b 0) ((b,.arr T cs)::st):=by
 simp only [xop,mop]; split <;> simp_all [Fresh]
@[simp ↓] theorem y6g (k:Nat) (x y:MX):xop P (.store k x y) ρ st K QP=q5n (ρ x).ptr? fun a=>q5n (ρ y).cells fun ps=>q5n (z8d (q55 st a.1)) fun r=>
  ps.length=k/\a.2+k<=r.2.length/\K .any (q8u st a.1 (.arr r.1 (q5g r.2 a.2 ps))):=by
 simp only [xop,mop]
 split
 ·rename_i b off ps h1 h2
  simp only [h1,h2,j7l,q5p]
  split
  ·rename_i h3; simp [h3]
  ·rename_i h3
   cases h4:q55 st b with
   | none=>simp [z8d]
   | some o=>cases o <;> simp_all [z8d]
 ·rename_i h1
  simp only [q5n,false_iff,eq_iff_iff]
  rintro⟨⟨b,off⟩,h2,ps,h3, -⟩
  refine h1 b off ps ?_ h3
  revert h2
  unfold PV.ptr?
  split <;> simp
  intro e1 e2
  subst e1; subst e2
  assumption
@[simp ↓] theorem y9d (f:MX) (args:List MX):xop P (.call f args) ρ st K QP=j4p P (ρ f) (args.map ρ) st fun e st'=>v09 K QP e st':=rfl
@[simp ↓] theorem y6h (k:Nat) (zs:List PV) (x:MX):xop P (.clear k zs x) ρ st K QP=z5h k zs (ρ x) st K:=rfl
@[simp ↓] theorem j99 (x:MX):xop P (.rangeMap x) ρ st K QP=j4q (ρ x) st K:=rfl
@[simp ↓] theorem y9e (x:MX):xop P (.next x) ρ st K QP=v08 (ρ x) st K:=rfl
@[simp ↓] theorem y6i (x:MX):xop P (.entry x) ρ st K QP=y57 (ρ x) st K:=rfl
@[simp ↓] theorem y6j (x:MX):xop P (.bytes x) ρ st K QP=q5n (ρ x).str? fun s=>s.size<=140737488355328/\K (.list false (k1h s) s.size) st:=by
 simp only [xop,mop]
 split <;> simp_all [PV.str?]
@[simp ↓] theorem y6k (x:MX):xop P (.panic x) ρ st K QP=q5n (ρ x).iface? fun q=>QP (.iface q.1 q.2) st:=by
 simp only [xop,mop]
 split <;> simp_all [PV.iface?]
end
def z7j (P:Program)(l:List MInst)(s:PS)(K:PS->Prop)(QP:PV->q5c->Prop)(_:Tok (l,K,QP):=⟨⟩):Prop:=z4o P l s K QP
def xwp (P:Program)(c:MCode)(Q:q68)(s:PS)(_:Tok (c,Q):=⟨⟩):Prop:=mwp P c Q s
def k7s (K:PS->Prop)(Q:q68)(e:MExit)(s:PS)(_:Tok (K,Q):=⟨⟩):Prop:=j1w K Q e s
def z5i (id:Nat)(Q:q68)(e:MExit)(s:PS)(_:Tok Q:=⟨⟩):Prop:=z2r id Q e s
def y1r (P:Program)(c:MCode)(Q:q68)(s:PS)(_:Tok (c,Q):=⟨⟩):Prop:=z2s View (mwp P c) Q s
def y0a (P:Program)(f:PV)(ps:List Nat)(a b:MCode)(Q:q68)(s:PS)(_:Tok (a,b,Q):=⟨⟩):Prop:=
 match f with
 | .func (.func f) fs cs=>q93 P f/\∀ key:LoopKey,key.Conv P ps a b->∀ l,q50 s.st l ->
   PCalls P f (fs++[.func (.yield l) [] []]++cs) ((l,.loop key s.env .ready none)::s.st) (k3g l Q s.env)
 | _=>False
def z8e:Option PObj->Option (LoopKey × Env × LoopState × Option Code)
 | some (.loop key e state pend)=>some (key,e,state,pend)
 | _=>none
@[simp] theorem k6m (key:LoopKey)(e:Env)(state:LoopState)(pend:Option Code):z8e (some (.loop key e state pend))=some (key,e,state,pend):=rfl
theorem z1s {o:Option PObj}(h:∀ key e state pend,o=some (.loop key e state pend)->False):z8e o=none:=by
 unfold z8e
 split
 ·rename_i key e state pend; exact (h key e state pend rfl).elim
 ·rfl
def j70 (pend:Option Code)(Q:q68)(s:PS)(_:Tok Q:=⟨⟩):Prop:=
 match pend with
 | none=>Q .normal s
 | some .ret=>Q .ret s
 | some (.exit id)=>Q (.exit id) s
 | _=>False
@[simp ↓,simp] theorem y4c (Q:q68) (s:PS):j70 none Q s=Q .normal s:=rfl
@[simp ↓,simp] theorem y6l (Q:q68) (s:PS):j70 (some .ret) Q s=Q .ret s:=rfl
@[simp ↓,simp] theorem y4d (id:Nat) (Q:q68) (s:PS):j70 (some (.exit id)) Q s=Q (.exit id) s:=rfl
def j71 (l:Nat)(Q:q68)(e:Env)(en:PEnd)(st:q5c)(_:Tok Q:=⟨⟩):Prop:=k3g l Q e en st
@[simp ↓,simp] theorem y6m (l:Nat) (Q:q68) (e:Env) (p:PV) (st:q5c):j71 l Q e (.ret p) st=q5n (z8e (q55 st l)) fun r=>r.2.2.1 ≠ .busy/\j70 r.2.2.2 Q ⟨e,k2d l st⟩:=by
 simp only [j71,k3g]
 split
 ·rename_i h; simp only [h,k6m,q5p]
  congr 1
 ·rename_i h; rw [z1s h]; simp
@[simp ↓,simp] theorem y1s (l:Nat) (Q:q68) (e:Env) (p:PV) (st:q5c):j71 l Q e (.panic p) st=Q (.panic p) ⟨[],st⟩:=rfl
theorem z8f {P:Program}{f:FuncId}{fs cs:List PV}{ps:List Nat}{a b:MCode}{Q:q68}{e:Env}{st:q5c}(hent:q93 P f)
  (h:∀ key:LoopKey,key.Conv P ps a b->∀ l,q50 st l->xcall P f (fs++[.func (.yield l) [] []]++cs) ((l,.loop key e .ready none)::st) fun en s=>j71 l Q e en s):y0a P (.func (.func f) fs cs) ps a b Q ⟨e,st⟩:=⟨hent,h⟩
@[simp] theorem y4e (e:Env)(t:Nat)(ts:List Nat)(p:PV)(ps:List PV):k8t e (t::ts) (p::ps)=k8t (k0e e (some t) p) ts ps:=rfl
@[simp] theorem y6n (e:Env):k8t e [] []=e:=rfl
def z3g (l:Nat)(Q:PEnd->q5c->Prop)(ex:MExit)(s:PS)(_:Tok Q:=⟨⟩):Prop:=k8u l Q ex s
def k4j (P:Program)(l:Nat)(b:MCode)(Q:PEnd->q5c->Prop)(ex:MExit)(s:PS)(_:Tok (b,Q):=⟨⟩):Prop:=j0n P l b Q ex s
section
variable (l id:Nat) (Q:PEnd->q5c->Prop) (e:Env) (st:q5c)
@[simp ↓] theorem j66:z3g l Q .normal ⟨e,st⟩=q5n (z8e (q55 st l)) fun r=>Q (.ret (.bool true)) (q8u st l (.loop r.1 r.2.1 .ready none)):=by
 simp only [z3g,k8u]
 split
 ·rename_i h; simp only [h,k6m,q5p]
 ·rename_i h; rw [z1s h]; simp
@[simp ↓] theorem j72 (p:PV) (s:PS):z3g l Q (.panic p) s=False:=rfl
@[simp ↓] theorem j67 (P:Program) (b:MCode):k4j P l b Q .normal ⟨e,st⟩=q5n (z8e (q55 st l)) fun r=>r.2.2.1=.ready/\xwp P b (fun ex s=>z3g l Q ex s) ⟨e,q8u st l (.loop r.1 r.2.1 .busy r.2.2.2)⟩:=by
 simp only [k4j,j0n]
 split
 ·rename_i h; simp only [h,k6m,q5p,true_and]; rfl
 ·rename_i h
  simp only [q5n,eq_iff_iff,false_iff]
  rintro⟨⟨key,e',state,pend⟩,h1,h2, -⟩
  simp only at h2
  subst h2
  unfold z8e at h1
  split at h1
  ·rename_i h3; cases h1; exact h _ _ _ h3
  ·cases h1
@[simp ↓] theorem y1t (P:Program) (b:MCode) (s:PS):k4j P l b Q .ret s=False:=rfl
@[simp ↓] theorem y0b (P:Program) (b:MCode) (s:PS):k4j P l b Q (.exit id) s=False:=rfl
@[simp ↓] theorem j73 (P:Program) (b:MCode) (p:PV) (s:PS):k4j P l b Q (.panic p) s=False:=rfl
end
theorem z8g {P:Program}(q5l:P.follows .mixedOrders=true){l:Nat}{key:LoopKey}{params:List Nat}{ma mb:MCode}(hconv:key.Conv P params ma mb){e:Env}{st:q5c}(hget:q55 st l=some (.loop key e .ready none))
  {args:List PV} (hlen:params.length=args.length) {Q:PEnd->q5c->Prop} (h:xwp P ma (fun ex s=>k4j P l mb Q ex s) ⟨k8t e params args,st⟩):PRound P l args st Q:=z3b q5l hconv hget hlen h
def z5j (Q:q68)(p:PV)(st:q5c)(_:Tok Q:=⟨⟩):Prop:=Q (.panic p) ⟨[],st⟩
def j68 (rs:List MRes)(R E:PV->q5c->Prop)(e:MExit)(s:PS)(_:Tok (R,E):=⟨⟩):Prop:=k1j rs R E e s
def j69 (s:PS)(rs:List MRes)(K:List PV->Prop)(_:Tok K:=⟨⟩):Prop:=y3i s rs K
section
variable (P:Program) (K:PS->Prop) (QP:PV->q5c->Prop) (Q:q68) (s:PS) (e:Env) (st:q5c)
@[simp ↓] theorem y9f:z7j P [] s K QP=K s:=rfl
@[simp ↓] theorem y6o (d:Option Nat) (op:MOp) (l:List MInst):z7j P (⟨d,none,op⟩::l) ⟨e,st⟩ K QP=xop P op (q57 e) st (fun p st'=>q9t (⟨k0e e d p,st'⟩:PS) fun s=>z7j P l s K QP) QP:=rfl
theorem j2e {p:PV}(h:∀ c,p=.val (.bool c)->False):p.bool?=none:=by
 unfold PV.bool?
 split
 ·rename_i c; exact (h c rfl).elim
 ·rfl
theorem k75 {p:PV}(h:∀ c,p=.val (.bool c)->False)(h2:∀ vs,p=.val (.tuple vs)->False):p.gd?=none:=by
 unfold PV.gd?
 split
 ·rename_i c; exact (h c rfl).elim
 ·rename_i c; exact (h2 c rfl).elim
 ·rfl
@[simp ↓] theorem y0c (d:Option Nat) (t:Nat) (op:MOp) (l:List MInst):z7j P (⟨d,some (t,true),op⟩::l) ⟨e,st⟩ K QP=q5n (q6d e t).gd? fun c=>
  onG c (q9t (z2q e t true) fun e=>xop P op (q57 e) st (fun p st'=>q9t (⟨k0e e d p,st'⟩:PS) fun s=>z7j P l s K QP) QP)
   (q9t (⟨k0e (z2q e t false) d .undef,st⟩:PS) fun s=>z7j P l s K QP) (q9t (⟨k0e e d .undef,st⟩:PS) fun s=>z7j P l s K QP):=by
 simp only [z7j,z4o]
 split
 ·rename_i c h; simp only [h,k74,q5p,j7t,k5h]; cases c <;> simp [xop]
 ·rename_i vs h
  have hg:(q6d e t).gd?=some .skip:=by rw [h]; rfl
  rw [hg,q5p]
  rfl
 ·rename_i h h2; rw [k75 h h2]; simp
@[simp ↓] theorem y0d (d:Option Nat) (t:Nat) (op:MOp) (l:List MInst):z7j P (⟨d,some (t,false),op⟩::l) ⟨e,st⟩ K QP=q5n (q6d e t).gd? fun c=>
  onG c (q9t (⟨k0e (z2q e t true) d .undef,st⟩:PS) fun s=>z7j P l s K QP)
   (q9t (z2q e t false) fun e=>xop P op (q57 e) st (fun p st'=>q9t (⟨k0e e d p,st'⟩:PS) fun s=>z7j P l s K QP) QP) (q9t (⟨k0e e d .undef,st⟩:PS) fun s=>z7j P l s K QP):=by
 simp only [z7j,z4o]
 split
 ·rename_i c h; simp only [h,k74,q5p,j7t,k5h]; cases c <;> simp [xop]
 ·rename_i vs h
  have hg:(q6d e t).gd?=some .skip:=by rw [h]; rfl
  rw [hg,q5p]
  rfl
 ·rename_i h h2; rw [k75 h h2]; simp
@[simp ↓] theorem y9g:xwp P .skip Q s=Q .normal s:=rfl
@[simp ↓] theorem y4f (l:List MInst) (ks:List Nat):xwp P (.region l ks) Q s=z7j P l s (fun s'=>q9t (⟨q8m ks s'.env,s'.st⟩:PS) fun s'=>Q .normal s') (fun p st'=>z5j Q p st'):=rfl
@[simp ↓] theorem v1h (a b:MCode):xwp P (.seq a b) Q s=xwp P a (fun e s'=>k7s (fun s'=>xwp P b Q s') Q e s') s:=rfl
@[simp ↓] theorem y9h (c:MX) (a b:MCode):xwp P (.cond c a b) Q ⟨e,st⟩=q5n (q57 e c).bool? fun t=>onB t (xwp P a Q ⟨e,st⟩) (xwp P b Q ⟨e,st⟩):=by
 simp only [xwp,mwp]
 split
 ·rename_i t h; simp only [h,z1q,q5p]; cases t <;> simp
 ·rename_i h; rw [j2e h]; simp
@[simp ↓] theorem y6p (id:Nat) (c:MCode):xwp P (.block id c) Q s=xwp P c (fun e s'=>z5i id Q e s') s:=rfl
@[simp ↓] theorem y9i (c:MCode):xwp P (.loop c) Q s=y1r P c Q s:=rfl
@[simp ↓] theorem j74 (g:MX) (ps:List Nat) (a b:MCode):xwp P (.rangeFunc g ps a b) Q ⟨e,st⟩=y0a P (q57 e g) ps a b Q ⟨e,st⟩:=rfl
@[simp ↓] theorem y9j (id:Nat):xwp P (.exit id) Q s=Q (.exit id) s:=rfl
@[simp ↓] theorem v1i:xwp P .ret Q s=Q .ret s:=rfl
@[simp ↓] theorem y0e:k7s K Q .normal s=K s:=rfl
@[simp ↓] theorem y4g (id:Nat):k7s K Q (.exit id) s=Q (.exit id) s:=rfl
@[simp ↓] theorem y6q:k7s K Q .ret s=Q .ret s:=rfl
@[simp ↓] theorem y1u (p:PV):k7s K Q (.panic p) s=Q (.panic p) s:=rfl
@[simp ↓] theorem j75 (id:Nat):z5i id Q .normal s=Q .normal s:=rfl
@[simp ↓] theorem y1v (id j:Nat):z5i id Q (.exit j) s=if j=id then Q .normal s else Q (.exit j) s:=rfl
@[simp ↓] theorem y4h (id:Nat):z5i id Q .ret s=Q .ret s:=rfl
@[simp ↓] theorem y0f (id:Nat) (p:PV):z5i id Q (.panic p) s=Q (.panic p) s:=rfl
@[simp ↓] theorem y6r (p:PV) (st':q5c):z5j Q p st'=Q (.panic p) ⟨[],st'⟩:=rfl
section
variable (rs:List MRes) (R E:PV->q5c->Prop)
@[simp ↓] theorem y1w:j68 rs R E .normal s=j69 s rs fun ps=>R (k2o ps) s.st:=rfl
@[simp ↓] theorem y9k:j68 rs R E .ret s=j69 s rs fun ps=>R (k2o ps) s.st:=rfl
@[simp ↓] theorem y4i (p:PV):j68 rs R E (.panic p) s=E p s.st:=rfl
@[simp ↓] theorem y6s (id:Nat):j68 rs R E (.exit id) s=False:=rfl
end
@[simp ↓] theorem y9l (K:List PV->Prop):j69 s [] K=K []:=rfl
@[simp ↓] theorem y9m (K:List PV->Prop) (t:Nat) (rs:List MRes):j69 ⟨e,st⟩ (.tmp t::rs) K=j69 ⟨e,st⟩ rs fun ps=>K (q6d e t::ps):=rfl
@[simp ↓] theorem y6t (K:List PV->Prop) (t k:Nat) (agg:Bool) (rs:List MRes):j69 ⟨e,st⟩ (.cell t k agg::rs) K=q5n (k2c st (q6d e t)) fun r=>k0a r.1 r.2 k agg fun p=>j69 ⟨e,st⟩ rs fun ps=>K (p::ps):=by
 have:j69 ⟨e,st⟩ (.cell t k agg::rs) K=q6u (.load k agg (.tmp t)) (q57 e) st fun p=>j69 ⟨e,st⟩ rs fun ps=>K (p::ps):=rfl
 rw [this,j4f]
 rfl
end
theorem j4r (op:BinOp)(p q:PV)(K:PV->Prop):k8j op p q K ↔ ∃ r,k8j op p q (fun x=>x=r)/\K r:=by
 unfold k8j
 repeat' split
 all_goals first | (simp; done) | (constructor <;> grind)
theorem k7d (k b off n cap:Nat)(lo hi mx:Option Int)(K:PV->Prop):q9q k b off n cap lo hi mx K ↔ ∃ r,q9q k b off n cap lo hi mx (fun x=>x=r)/\K r:=by
 unfold q9q
 cases lo with
 | none=>simp only; constructor <;> grind
 | some l=>
  simp only
  constructor
  ·rintro⟨h0,h1,h2,h3,h4,h5,h6,h7⟩
   by_cases hl:l=mx.getD cap
   ·exact⟨_,⟨h0,h1,h2,h3,h4,h5,fun _=>rfl,fun h=>by omega⟩,h6 hl⟩
   ·exact⟨_,⟨h0,h1,h2,h3,h4,h5,fun h=>absurd h hl,fun _=>rfl⟩,h7 (by omega)⟩
  ·rintro⟨r,⟨h0,h1,h2,h3,h4,h5,h6,h7⟩,h8⟩
   exact⟨h0,h1,h2,h3,h4,h5,fun h=>by rw [h6 h]; exact h8,fun h=>by rw [h7 h]; exact h8⟩
theorem z3h (k:Nat)(t:Bool)(cs:List PV)(n:Nat)(p:PV)(lo hi mx:Option Int)(K:PV->Prop):k2n k t cs n p lo hi mx K ↔ ∃ r,k2n k t cs n p lo hi mx (fun x=>x=r)/\K r:=by
 unfold k2n
 split <;> first | (simp; done) | (constructor <;> grind)
theorem z8h (k:Nat)(p:PV)(lo hi mx:Option Int)(K:PV->Prop):k1i k p lo hi mx K ↔ ∃ r,k1i k p lo hi mx (fun x=>x=r)/\K r:=by
 unfold k1i
 split
 ·constructor
  ·rintro⟨h1,h2⟩; exact⟨p,⟨h1,rfl⟩,h2⟩
  ·rintro⟨r,⟨h1,rfl⟩,h2⟩; exact⟨h1,h2⟩
 split
 ·exact z3h ..
 ·split
  ·exact k7d ..
  ·simp
theorem z0n (n k:Nat)(p:PV)(lo hi mx:Option Int)(K:PV->Prop):q8k n k p lo hi mx K ↔ ∃ r,q8k n k p lo hi mx (fun x=>x=r)/\K r:=by
 unfold q8k
 split
 ·constructor <;> grind
 ·exact k7d ..
 ·simp
theorem z0o (s:ByteArray)(lo hi:Option Int)(K:PV->Prop):q80 s lo hi K ↔ ∃ r,q80 s lo hi (fun x=>x=r)/\K r:=by
 unfold q80
 split <;> first | (simp; done) | (constructor <;> grind)
theorem k5i (v:MVal)(ρ:MX->PV)(st:q5c)(K:PV->Prop):q67 v ρ st K ↔ ∃ p,q67 v ρ st (fun q=>q=p)/\K p:=by
 cases v
 case bin op T x y=>exact j4r op _ _ K
 case pick c a b=>
  simp only [q67]
  split
  ·rename_i t _
   cases t <;> simp
  ·simp
 case slice k x lo hi mx=>
  simp only [q67]
  split
  ·exact z8h ..
  ·simp
 case sliceArr n k x lo hi mx=>
  simp only [q67]
  split
  ·exact z0n ..
  ·simp
 case sliceStr x lo hi=>
  simp only [q67]
  split
  ·exact z0o ..
  ·simp
 all_goals simp only [q67]
 all_goals (repeat' split)
 all_goals first | (simp; done) | (constructor <;> grind)
def k0f (P:Program)(Cl:q5c->Prop)(l:List (DFlag × MInst))(s:PS)(K:PS->Prop)(QP:PV->q5c->Prop)(_:Tok (Cl,l,K,QP):=⟨⟩):Prop:=mdraw P Cl l s K QP
def k5j (P:Program)(Cl:q5c->Prop)(fl:DFlag)(op:MOp)(e:Env)(st:q5c)(K QP:PV->q5c->Prop)(_:Tok (Cl,fl,op,K,QP):=⟨⟩):Prop:=mdraw.one P Cl fl ⟨none,none,op⟩ ⟨e,st⟩ K QP
theorem Rets.xcall {P:Program}{g:FuncId}{ps:List PV}{st:q5c}{p:PV}(h:Rets P g ps st p){Q:PEnd->q5c->Prop}(hk:Q (.ret p) st):xcall P g ps st Q:=h.calls hk
def z5k (P:Program)(Cl:q5c->Prop)(g:FuncId)(ps:List PV)(K:PV->Prop)(QP:PV->q5c->Prop)(_:Tok (Cl,K,QP):=⟨⟩):Prop:=
 ∃ p,(∀ st,Cl st->PCalls P g ps st (fun en st'=>st'=st/\(en=.ret p\/∃ q,en=.panic q/\QP q st)))/\K p
theorem q6f {P:Program}{Cl:q5c->Prop}{g:FuncId}{ps:List PV}{p:PV}(h:∀ st,Rets P g ps st p){K:PV->Prop}{QP:PV->q5c->Prop}(hk:K p):z5k P Cl g ps K QP:=
 ⟨p,fun st _=>PCalls.mono (h st) fun _ _ ⟨h1,h2⟩=>⟨h2,.inl h1⟩,hk⟩
def k08 (Cl:q5c->Prop)(k:Nat)(agg:Bool)(p:PV)(K:PV->Prop)(_:Tok (Cl,K):=⟨⟩):Prop:=
 ∃ q,(∀ st,Cl st->q67 (.load k agg (.const p)) (q57 []) st (fun r=>r=q))/\K q
theorem z0p {Cl:q5c->Prop}{k:Nat}{agg:Bool}{cs:List PV}{off:Nat}{K:PV->Prop}(h:k0a cs off k agg K):k08 Cl k agg (.iptr cs off) K:=by
 have h':q67 (.load k agg (.const (.iptr cs off))) (q57 []) [] K:=h
 obtain⟨q,h1,h2⟩:=(k5i _ _ _ _).1 h'
 exact⟨q,fun _ _=>h1,h2⟩
theorem z3i {st0:q5c}{M:List Nat}{k:Nat}{agg:Bool}{b off:Nat}{T:TypeId}{cs:List PV}{K:PV->Prop}(hb:b ∉ M)(hg:q55 st0 b=some (.arr T cs))(h:k0a cs off k agg K):k08 (Cls st0 M) k agg (.ptr b off) K:=by
 have key:∀ (st:q5c) (K':PV->Prop),q55 st b=some (.arr T cs)->q67 (.load k agg (.const (.ptr b off))) (q57 []) st K'=k0a cs off k agg K':=by
  intro st K' hst
  simp only [q67,q57,k2c,hst]
  rfl
 obtain⟨q,h1,h2⟩:=(k5i _ _ _ _).1 ((key st0 K hg).symm ▸ h)
 exact⟨q,fun st hst=>by rw [key st _ (hst b hb _ hg)]; rwa [key st0 _ hg] at h1,h2⟩
@[simp] theorem y9n (b:Nat):q50 [] b=True:=propext ⟨fun _=>trivial,fun _=>trivial⟩
@[simp] theorem q7d (c:Nat)(o:PObj)(st:q5c)(b:Nat):q50 ((c,o)::st) b=((¬ c=b/\¬ b=c)/\q50 st b):=propext ⟨fun h=>h,fun h=>h⟩
@[simp] theorem y9o (c:Nat):q55 [] c=none:=by rw [q55]
@[simp] theorem y6u (b:Nat)(o:PObj)(st:q5c)(c:Nat):q55 ((b,o)::st) c=if b=c then some o else q55 st c:=by rw [q55]
theorem Cls.self (st:q5c)(M:List Nat):Cls st M st:=fun _ _ _ h=>h
@[simp] theorem y9p (st:q5c)(M:List Nat):Cls st M st=True:=eq_true (Cls.self st M)
@[simp] theorem q6p {st0 st:q5c}{M:List Nat}{b:Nat}{o:PObj}(hn:q50 st b)(h:Cls st0 M st):Cls st0 M ((b,o)::st):=fun c hc x hx=>by
 have:=h c hc x hx
 simp only [q55]
 rw [if_neg]
 ·exact this
 ·rintro rfl; rw [k1f hn] at this; cases this
@[simp] theorem j0t {st0 st:q5c}{M:List Nat}{b:Nat}{o:PObj}(h:Cls st0 M st):Cls ((b,o)::st0) M ((b,o)::st):=fun c hc x hx=>by
 simp only [q55] at hx ⊢
 split
 ·rename_i e; rw [if_pos e] at hx; exact hx
 ·rename_i e; rw [if_neg e] at hx; exact h c hc x hx
@[simp] theorem Cls_in {st0 st:q5c}{M:List Nat}{b:Nat}{o o':PObj}(hb:b ∈ M)(h:Cls st0 M st):Cls ((b,o)::st0) M ((b,o')::st):=fun c hc x hx=>by
 have hne:b ≠ c:=by rintro rfl; exact hc hb
 simp only [q55,if_neg hne] at hx ⊢
 exact h c hc x hx
@[simp] theorem j76 {st0:q5c}{M:List Nat}{k:Nat}{agg:Bool}{b off:Nat}{K:PV->Prop}(hb:b ∉ M):k08 (Cls st0 M) k agg (.val (.pointer (some ⟨b,off,none⟩))) K=q5n (z8d (q55 st0 b)) fun r=>k0a r.2 off k agg K:=by
 apply propext
 cases hg:q55 st0 b with
 | none=>
  simp only [z8d,q87,iff_false]
  rintro⟨q,h1, -⟩
  have:=h1 st0 (Cls.self _ _)
  simp [q67,q57,k2c,hg] at this
 | some o=>
  cases o with
  | arr T cs=>
   simp only [j7m,q5p]
   refine⟨?_,fun h=>z3i hb hg h⟩
   rintro⟨q,h1,h2⟩
   have:=h1 st0 (Cls.self _ _)
   have h3:q67 (.load k agg (.const (.ptr b off))) (q57 []) st0 K:=(k5i _ _ _ _).2 ⟨q,this,h2⟩
   simpa only [q67,q57,k2c,hg,k0a] using h3
  | _=>
   simp only [z8d,q87,iff_false]
   rintro⟨q,h1, -⟩
   have:=h1 st0 (Cls.self _ _)
   simp [q67,q57,k2c,hg] at this
@[simp] theorem j77 {st0:q5c}{M:List Nat}{k:Nat}{agg:Bool}{cs:List PV}{off:Nat}{K:PV->Prop}:k08 (Cls st0 M) k agg (.iptr cs off) K=k0a cs off k agg K:=by
 apply propext
 refine⟨?_,fun h=>z0p h⟩
 rintro⟨q,h1,h2⟩
 exact (k5i (.load k agg (.const (.iptr cs off))) (q57 []) st0 K).2 ⟨q,h1 st0 (Cls.self _ _),h2⟩
section
variable (P:Program) (Cl:q5c->Prop) (K:PS->Prop) (QP:PV->q5c->Prop) (K1:PV->q5c->Prop) (Q:q68) (e:Env) (st:q5c)
@[simp ↓] theorem y6v (s:PS):k0f P Cl [] s K QP=K s:=rfl
@[simp ↓] theorem y4j (fl:DFlag) (d:Option Nat) (op:MOp) (l:List (DFlag × MInst)):k0f P Cl ((fl,⟨d,none,op⟩)::l) ⟨e,st⟩ K QP =
  k5j P Cl fl op e st (fun p st'=>q9t (⟨k0e e d p,st'⟩:PS) fun s=>k0f P Cl l s K QP) QP:=rfl
@[simp ↓] theorem j78 (fl:DFlag) (d:Option Nat) (t:Nat) (op:MOp) (l:List (DFlag × MInst)):k0f P Cl ((fl,⟨d,some (t,true),op⟩)::l) ⟨e,st⟩ K QP=q5n (q6d e t).gd? fun c=>
  onG c (q9t (z2q e t true) fun e=>k5j P Cl fl op e st (fun p st'=>q9t (⟨k0e e d p,st'⟩:PS) fun s=>k0f P Cl l s K QP) QP)
   (q9t (⟨k0e (z2q e t false) d .undef,st⟩:PS) fun s=>k0f P Cl l s K QP) (q9t (⟨k0e e d .undef,st⟩:PS) fun s=>k0f P Cl l s K QP):=by
 simp only [k0f,mdraw]
 split
 ·rename_i c h; simp only [h,k74,q5p,j7t,k5h]; cases c <;> simp <;> rfl
 ·rename_i vs h
  have hg:(q6d e t).gd?=some .skip:=by rw [h]; rfl
  rw [hg,q5p]
  rfl
 ·rename_i h h2; rw [k75 h h2]; simp
@[simp ↓] theorem j79 (fl:DFlag) (d:Option Nat) (t:Nat) (op:MOp) (l:List (DFlag × MInst)):k0f P Cl ((fl,⟨d,some (t,false),op⟩)::l) ⟨e,st⟩ K QP=q5n (q6d e t).gd? fun c=>
  onG c (q9t (⟨k0e (z2q e t true) d .undef,st⟩:PS) fun s=>k0f P Cl l s K QP)
   (q9t (z2q e t false) fun e=>k5j P Cl fl op e st (fun p st'=>q9t (⟨k0e e d p,st'⟩:PS) fun s=>k0f P Cl l s K QP) QP) (q9t (⟨k0e e d .undef,st⟩:PS) fun s=>k0f P Cl l s K QP):=by
 simp only [k0f,mdraw]
 split
 ·rename_i c h; simp only [h,k74,q5p,j7t,k5h]; cases c <;> simp <;> rfl
 ·rename_i vs h
  have hg:(q6d e t).gd?=some .skip:=by rw [h]; rfl
  rw [hg,q5p]
  rfl
 ·rename_i h h2; rw [k75 h h2]; simp
@[simp ↓] theorem j7a (v:MVal):k5j P Cl .early (.val v) e st K1 QP=q6u v (q57 e) st fun p=>K1 p st:=rfl
@[simp ↓] theorem y6w (op:MOp):k5j P Cl .last op e st K1 QP=xop P op (q57 e) st K1 QP:=rfl
@[simp ↓] theorem y6x (op:MOp):k5j P Cl .hard op e st K1 QP=xop P op (q57 e) st (fun p st'=>Cl st'/\K1 p st') QP:=rfl
theorem q5z (v:MVal)(hv:q9f v=false):k5j P Cl .late (.val v) e st K1 QP=q6u v (q57 e) [] fun p=>K1 p st:=by
 simp only [k5j,mdraw.one,z7o,hv,Bool.false_eq_true,if_false,q6u]
 exact propext (k5i v (q57 e) [] fun p=>K1 p st).symm
@[simp ↓] theorem y0g (x:MX):k5j P Cl .late (.val (.mv x)) e st K1 QP=q6u (.mv x) (q57 e) [] fun p=>K1 p st:=q5z P Cl QP K1 e st _ rfl
@[simp ↓] theorem j7b (c a b:MX):k5j P Cl .late (.val (.pick c a b)) e st K1 QP=q6u (.pick c a b) (q57 e) [] fun p=>K1 p st:=q5z P Cl QP K1 e st _ rfl
@[simp ↓] theorem j4s (zs:List PV) (parts:List (Nat × Nat × MX)):k5j P Cl .late (.val (.build zs parts)) e st K1 QP=q6u (.build zs parts) (q57 e) [] fun p=>K1 p st:=q5z P Cl QP K1 e st _ rfl
@[simp ↓] theorem j0u (x:MX):k5j P Cl .late (.val (.nilCheck x)) e st K1 QP=q6u (.nilCheck x) (q57 e) [] fun p=>K1 p st:=q5z P Cl QP K1 e st _ rfl
@[simp ↓] theorem j8a (op:BinOp) (T:TypeId) (x y:MX):k5j P Cl .late (.val (.bin op T x y)) e st K1 QP=q6u (.bin op T x y) (q57 e) [] fun p=>K1 p st:=q5z P Cl QP K1 e st _ rfl
@[simp ↓] theorem j4t (neg:Bool) (ks:List LK) (x y:MX):k5j P Cl .late (.val (.eqAgg neg ks x y)) e st K1 QP=q6u (.eqAgg neg ks x y) (q57 e) [] fun p=>K1 p st:=q5z P Cl QP K1 e st _ rfl
@[simp ↓] theorem y0h (op:UnOp) (x:MX):k5j P Cl .late (.val (.un op x)) e st K1 QP=q6u (.un op x) (q57 e) [] fun p=>K1 p st:=q5z P Cl QP K1 e st _ rfl
@[simp ↓] theorem j4u (k:IntKind) (x:MX):k5j P Cl .late (.val (.toInt k x)) e st K1 QP=q6u (.toInt k x) (q57 e) [] fun p=>K1 p st:=q5z P Cl QP K1 e st _ rfl
@[simp ↓] theorem z8i (off:Nat) (x:MX):k5j P Cl .late (.val (.fieldAddr off x)) e st K1 QP=q6u (.fieldAddr off x) (q57 e) [] fun p=>K1 p st:=q5z P Cl QP K1 e st _ rfl
@[simp ↓] theorem j4v (off k:Nat) (agg:Bool) (x:MX):k5j P Cl .late (.val (.field off k agg x)) e st K1 QP=q6u (.field off k agg x) (q57 e) [] fun p=>K1 p st:=q5z P Cl QP K1 e st _ rfl
@[simp ↓] theorem z8j (k:Nat) (x i:MX):k5j P Cl .late (.val (.indexAddr k x i)) e st K1 QP=q6u (.indexAddr k x i) (q57 e) [] fun p=>K1 p st:=q5z P Cl QP K1 e st _ rfl
@[simp ↓] theorem j0v (n k:Nat) (x i:MX):k5j P Cl .late (.val (.indexArr n k x i)) e st K1 QP=q6u (.indexArr n k x i) (q57 e) [] fun p=>K1 p st:=q5z P Cl QP K1 e st _ rfl
@[simp ↓] theorem j8b (x:MX):k5j P Cl .late (.val (.len x)) e st K1 QP=q6u (.len x) (q57 e) [] fun p=>K1 p st:=q5z P Cl QP K1 e st _ rfl
@[simp ↓] theorem j4w (k:Nat) (x:MX) (lo hi mx:Option MX):k5j P Cl .late (.val (.slice k x lo hi mx)) e st K1 QP=q6u (.slice k x lo hi mx) (q57 e) [] fun p=>K1 p st:=q5z P Cl QP K1 e st _ rfl
@[simp ↓] theorem j2f (i:Nat) (x:MX):k5j P Cl .late (.val (.extract i x)) e st K1 QP=q6u (.extract i x) (q57 e) [] fun p=>K1 p st:=q5z P Cl QP K1 e st _ rfl
@[simp ↓] theorem j3q (T:TypeId) (z:PV) (ok:Bool) (x:MX):k5j P Cl .late (.val (.assert T z ok x)) e st K1 QP=q6u (.assert T z ok x) (q57 e) [] fun p=>K1 p st:=q5z P Cl QP K1 e st _ rfl
@[simp ↓] theorem z7k (T:TypeId) (len:Nat) (zs:List PV) (parts:List (Nat × Nat × MX)):k5j P Cl .late (.val (.buildSlice T len zs parts)) e st K1 QP=q6u (.buildSlice T len zs parts) (q57 e) [] fun p=>K1 p st:=q5z P Cl QP K1 e st _ rfl
@[simp ↓] theorem j7c (k:Nat) (agg:Bool) (x:MX):k5j P Cl .late (.val (.load k agg x)) e st K1 QP=k08 Cl k agg (q57 e x) fun p=>K1 p st:=by
 simp only [k5j,mdraw.one,z7o,q9f,if_true,k08,q67]
 rfl
@[simp ↓] theorem j7d (g:FuncId) (fs cs:List PV) (args:List MX):k5j P Cl .late (.call (.const (.func (.func g) fs cs)) args) e st K1 QP=z5k P Cl g (fs++args.map (q57 e)++cs) (fun p=>K1 p st) QP:=rfl
@[simp ↓] theorem y9q (l:List (DFlag × MInst)) (ks:List Nat) (s:PS):xwp P (.draw false l ks) Q s=k0f P (fun _=>True) l s (fun s'=>q9t (⟨q8m ks s'.env,s'.st⟩:PS) fun s'=>Q .normal s') (fun p st'=>z5j Q p st'):=rfl
def DrawLate (P:Program)(l:List (DFlag × MInst))(K:PS->Prop)(QP:PV->q5c->Prop)(s:PS)(_:Tok (l,K,QP):=⟨⟩):Prop:=∃ Cl:q5c->Prop,Cl s.st/\mdraw P Cl l s K QP
theorem DrawLate.intro {P:Program}{l:List (DFlag × MInst)}{K:PS->Prop}{QP:PV->q5c->Prop}{e:Env}{st:q5c}(M:List Nat)(h:k0f P (Cls st M) l ⟨e,st⟩ K QP):DrawLate P l K QP ⟨e,st⟩:=⟨_,Cls.self st M,h⟩
theorem DrawLate.by {P:Program}{l:List (DFlag × MInst)}{K:PS->Prop}{QP:PV->q5c->Prop}{e:Env}{st:q5c}(Cl:q5c->Prop)(h0:Cl st)(h:k0f P Cl l ⟨e,st⟩ K QP):DrawLate P l K QP ⟨e,st⟩:=⟨Cl,h0,h⟩
@[simp ↓] theorem y0i (l:List (DFlag × MInst)) (ks:List Nat) (s:PS):xwp P (.draw true l ks) Q s=DrawLate P l (fun s'=>q9t (⟨q8m ks s'.env,s'.st⟩:PS) fun s'=>Q .normal s') (fun p st'=>z5j Q p st') s:=rfl
def DrawFork (P:Program)(l a b:List (DFlag × MInst))(K:PS->Prop)(QP:PV->q5c->Prop)(s:PS)(_:Tok (l,a,b,K,QP):=⟨⟩):Prop:=∃ Cl:q5c->Prop,Cl s.st/\mdraw P Cl l s (fun s1=>mdraw P Cl a s1 K QP/\mdraw P Cl b s1 K QP) QP
theorem DrawFork.by {P:Program}{l a b:List (DFlag × MInst)}{K:PS->Prop}{QP:PV->q5c->Prop}{e:Env}{st:q5c}(Cl:q5c->Prop)(h0:Cl st)(h:k0f P Cl l ⟨e,st⟩ (fun s1=>k0f P Cl a s1 K QP/\k0f P Cl b s1 K QP) QP):DrawFork P l a b K QP ⟨e,st⟩:=⟨Cl,h0,h⟩
theorem DrawFork.intro {P:Program}{l a b:List (DFlag × MInst)}{K:PS->Prop}{QP:PV->q5c->Prop}{e:Env}{st:q5c}(M:List Nat)(h:k0f P (Cls st M) l ⟨e,st⟩ (fun s1=>k0f P (Cls st M) a s1 K QP/\k0f P (Cls st M) b s1 K QP) QP):DrawFork P l a b K QP ⟨e,st⟩:=⟨_,Cls.self st M,h⟩
@[simp ↓] theorem y6y (l a b:List (DFlag × MInst)) (ks:List Nat) (s:PS):xwp P (.draw2 l a b ks) Q s=DrawFork P l a b (fun s'=>q9t (⟨q8m ks s'.env,s'.st⟩:PS) fun s'=>Q .normal s') (fun p st'=>z5j Q p st') s:=rfl
end
theorem Has.walk {P:Program}(q5l:P.follows .mixedOrders=true){g:FuncId}{m:MFunc}(h:Has P g m){nt np:Nat}{rs:List MRes}{c:MCode}(hm:m=⟨nt,np,rs,c⟩){ps:List PV}{st:q5c}{Q:PEnd->q5c->Prop}(hlen:ps.length=np)
  {R E:PV->q5c->Prop} (hR:∀ p st,R p st->RetView .ret p st Q) (hE:∀ p st,E p st->RetView .panic p st Q)
  (hw:xwp P c (fun e s=>j68 rs R E e s) ⟨q6z 0 ps,st⟩):PCalls P g ps st Q:=by
 subst hm
 exact h.calls q5l hlen hR hE hw
theorem Has.pure {P:Program}(q5l:P.follows .mixedOrders=true){g:FuncId}{m:MFunc}(h:Has P g m){nt np:Nat}{rs:List MRes}{c:MCode}(hm:m=⟨nt,np,rs,c⟩){ps:List PV}{st:q5c}{p:PV}(hlen:ps.length=np)
  (hw:xwp P c (fun e s=>j68 rs (fun q st'=>q=p/\Over st st') (fun _ _=>False) e s) ⟨q6z 0 ps,st⟩):Rets P g ps st p:=by
 subst hm
 exact h.rets q5l hlen hw
@[simp] theorem y1x (st:q5c)(cs:List PV)(off:Nat):k2c st (.iptr cs off)=some (cs,off):=rfl
@[simp] theorem y4k (st:q5c)(b off:Nat):k2c st (.val (.pointer (some ⟨b,off,none⟩)))=(z8d (q55 st b)).map fun r=>(r.2,off):=by
 simp only [k2c]
 cases q55 st b with
 | none=>rfl
 | some o=>cases o <;> rfl
@[simp] theorem y4l (zs:List PV):q91 zs []=some zs:=rfl
@[simp] theorem y1y (zs:List PV)(off k:Nat)(p:PV)(rest:List (Nat × Nat × PV)) :
  q91 zs ((off,k,p)::rest)=j7u p.cells fun ps=>if ps.length=k/\off+k<=zs.length then q91 (q5g zs off ps) rest else none:=by
 rw [q91]
 cases p.cells <;> rfl
section
variable (k:IntKind) (n:Int) (c:Bool) (s:ByteArray) (a:Option Addr) (l m:Nat) (r:Option Nat)
@[simp] theorem y6z:(PV.val (.int k n)).cells=some [.val (.int k n)]:=rfl
@[simp] theorem y4m:(PV.val (.bool c)).cells=some [.val (.bool c)]:=rfl
@[simp] theorem y60:(PV.val (.string s)).cells=some [.val (.string s)]:=rfl
@[simp] theorem y61:(PV.val (.pointer a)).cells=some [.val (.pointer a)]:=rfl
@[simp] theorem y1z:(PV.val (.slice a l m)).cells=some [.val (.slice a l m)]:=rfl
@[simp] theorem y62:(PV.val (.map r)).cells=some [.val (.map r)]:=rfl
@[simp] theorem j7e:(PV.val .nilIface).cells=some [.val .nilIface]:=rfl
@[simp] theorem y63 (cs:List PV):(PV.agg cs).cells=some cs:=rfl
@[simp] theorem y4n (t:Bool)(cs:List PV)(n:Nat):(PV.list t cs n).cells=some [.list t cs n]:=rfl
@[simp] theorem y4o (cs:List PV)(n:Nat):(PV.iptr cs n).cells=some [.iptr cs n]:=rfl
@[simp] theorem y4p (ks:List Value)(vs:List PV):(PV.imap ks vs).cells=some [.imap ks vs]:=rfl
@[simp] theorem y4q (f:Fn)(fs cs:List PV):(PV.func f fs cs).cells=some [.func f fs cs]:=rfl
@[simp] theorem y10 (T:TypeId)(p:PV):(PV.iface T p).cells=some [.iface T p]:=rfl
end
attribute [simp] q9f y1k q6z q57 q6d k0e y00 q8m z2q k2o q5g q8u
end Go.Pv

/- All of the pure layer. -/
import Derived.Test.YtmlmoaimjifpgaaGreatLSf
import Derived.KernelRfl
namespace Go.Pv
def Has (P : Program) (g : FuncId) (m : MFunc) : Prop := ∃ fn, P.funcs[g]? = some fn ∧ (fn.name == "runtime.NumGoroutine") = false ∧ k73 P fn = some m
theorem Has.calls {P:Program}(q5n:P.follows .mixedOrders=true){g:FuncId}{m:MFunc}(h:Has P g m){ps:List PV}{st:q5f}{Q:PEnd->q5f->Prop}(hlen:ps.length=m.nparams)
  {R E:PV->q5f->Prop} (hR:∀ p st,R p st->RetView .ret p st Q) (hE:∀ p st,E p st->RetView .panic p st Q)
  (hw:mwp P m.body (k1v m.results R E) ⟨q65 0 ps,st⟩):PCalls P g ps st Q:=by
 obtain⟨fn,h1,h2,h3⟩:=h
 exact z2x q5n h1 h2 h3 hlen hR hE hw
theorem Sees.refl (p:PV)(st:q5f):Sees p st p st:=⟨fun I _ _ h1 h2=>⟨I,I.le_refl,h1,h2⟩⟩
theorem Sees.trans {p q r:PV}{s t u:q5f}(h:Sees p s q t)(k:Sees q t r u):Sees p s r u:=⟨fun I w v h1 h2=>by
 obtain⟨I',a,b,c⟩:=h.out I w v h1 h2
 obtain⟨I'',a',b',c'⟩:=k.out I' w v b c
 exact⟨I'',Imm.le_trans a a',b',c'⟩⟩
def StLe (st' st:q5f):Prop:=∀ b o,q55 st' b=some o->q55 st b=some o
theorem StLe.refl (st:q5f):StLe st st:=fun _ _ h=>h
theorem StLe.trans {a b c:q5f}(h:StLe a b)(k:StLe b c):StLe a c:=fun x o hx=>k x o (h x o hx)
theorem StLe.cons {st:q5f}{b:Nat}{o:PObj}(h:q55 st b=none):StLe st ((b,o)::st):=by
 intro c x hc
 simp only [q55]
 split
 ·rename_i e; subst e; rw [h] at hc; cases hc
 ·exact hc
theorem StLe.fresh {st:q5f}{b:Nat}{o:PObj}(h:q54 st b):StLe st ((b,o)::st):=.cons (k1r h)
theorem k5n {n:Nat}:∀ {st:q5f},(∀ b o,q55 st b=some o->b<n)->k09 st n
 | [],_=>trivial
 | (b,o)::st,h=>by
  refine⟨h b o (by simp [q55]),k5n fun c x hc=>?_⟩
  by_cases hbc:b=c
  ·subst hbc; exact h b o (by simp [q55])
  ·exact h c x (by simp [q55,hbc,hc])
theorem SRep.le {I:Imm}{st st':q5f}{w:World}(h:SRep I st w)(hle:StLe st' st):SRep I st' w:=
 ⟨h.imm,fun b o hb=>h.objs b o (hle b o hb),k5n fun b o hb=>h.obj_lt (hle b o hb)⟩
theorem Sees.drop {p:PV}{st st':q5f}(h:StLe st' st):Sees p st p st':=⟨fun I _ _ h1 h2=>⟨I,I.le_refl,h1.le h,h2⟩⟩
theorem RetView.same {c:PV->PEnd}{p:PV}{st:q5f}{Q:PEnd->q5f->Prop}(h:Q (c p) st):RetView c p st Q:=⟨p,st,.refl _ _,h⟩
theorem RetView.drop {c:PV->PEnd}{p:PV}{st st':q5f}{Q:PEnd->q5f->Prop}(hle:StLe st' st)(h:Q (c p) st'):RetView c p st Q:=⟨p,st',.drop hle,h⟩
theorem RetView.fresh1 {c:PV->PEnd}{p:PV}{st:q5f}{b:Nat}{o:PObj}{Q:PEnd->q5f->Prop}(hf:q54 st b)(h:RetView c p st Q):RetView c p ((b,o)::st) Q:=by
 obtain⟨p',st',h1,h2⟩:=h
 exact⟨p',st',(Sees.drop (.fresh hf)).trans h1,h2⟩
theorem View.trans {s t u:PS}(h:View s t)(k:View t u):View s u:=fun I tm w h1 h2=>by
 obtain⟨I',a,b,c⟩:=h I tm w h1 h2
 obtain⟨I'',a',b',c'⟩:=k I' tm w b c
 exact⟨I'',Imm.le_trans a a',b',c'⟩
theorem j0c {e:Env}:∀ {l:Env} {t:Nat},(∀ q ∈ l,q6g e q.1=q.2)->q6g l t=.any\/q6g l t=q6g e t
 | [],_,_=>.inl rfl
 | (u,p)::l,t,h=>by
  simp only [q6g]
  by_cases hut:u=t
  ·subst hut
   simp only [if_true]
   exact .inr (h (u,p) (by simp)).symm
  ·simp only [hut,if_false]
   exact j0c fun q hq=>h q (by simp [hq])
theorem View.weak {e e':Env}{st st':q5f}(he:∀ q ∈ e',q6g e q.1=q.2)(hle:StLe st' st):View ⟨e,st⟩ ⟨e',st'⟩:=fun I tm w h1 h2=>
 ⟨I,I.le_refl,fun t=>by
  rcases j0c (t:=t) he with h | h
  ·simp only [h,vrep]
  ·simp only [h]; exact h1 t,h2.le hle⟩
def Over (st0:q5f):q5f->Prop
 | []=>st0=[]
 | (b,o)::st=>st0=(b,o)::st\/q54 st b/\Over st0 st
theorem Over.le {st0:q5f}:∀ {st:q5f},Over st0 st->StLe st0 st
 | [],h=>by simp only [Over] at h; subst h; exact .refl _
 | (b,o)::st,h=>by
  simp only [Over] at h
  rcases h with rfl |⟨h1,h2⟩
  ·exact .refl _
  ·exact h2.le.trans (.fresh h1)
@[simp] theorem Over.self (st:q5f):Over st st:=by
 cases st with
 | nil=>rfl
 | cons q st=>exact .inl rfl
@[simp] theorem Over.cons {st:q5f}(b:Nat)(o:PObj)(st0:q5f):Over st0 ((b,o)::st) ↔ st0=(b,o)::st\/q54 st b/\Over st0 st:=.rfl
def Rets (P:Program)(g:FuncId)(ps:List PV)(st:q5f)(p:PV):Prop:=PCalls P g ps st fun e s=>e=.ret p/\s=st
theorem Has.rets {P:Program}(q5n:P.follows .mixedOrders=true){g:FuncId}{m:MFunc}(h:Has P g m){ps:List PV}{st:q5f}{p:PV}(hlen:ps.length=m.nparams)
  (hw:mwp P m.body (k1v m.results (fun q st'=>q=p/\Over st st') (fun _ _=>False)) ⟨q65 0 ps,st⟩):Rets P g ps st p:=
 h.calls q5n hlen (fun _ _ ⟨h1,h2⟩=>.drop h2.le ⟨by rw [h1],rfl⟩) (fun _ _ h=>h.elim) hw
theorem Rets.calls {P:Program}{g:FuncId}{ps:List PV}{st:q5f}{p:PV}(h:Rets P g ps st p){Q:PEnd->q5f->Prop}(hq:Q (.ret p) st):PCalls P g ps st Q:=
 PCalls.mono h fun e s ⟨h1,h2⟩=>by subst h1; subst h2; exact hq
@[congr] theorem j9v {P:Program} {g:FuncId} {ps ps':List PV} {st st':q5f} {Q:PEnd->q5f->Prop} (h1:ps=ps') (h2:st=st'):PCalls P g ps st Q=PCalls P g ps' st' Q:=by
 subst h1; subst h2; rfl
@[congr] theorem j7e {V:PS->PS->Prop} {body:q7e->PS->Prop} {Q:q7e} {s s':PS} (h:s=s'):z2i V body Q s=z2i V body Q s':=by subst h; rfl
@[congr] theorem j7f {c:PV->PEnd} {p p':PV} {st st':q5f} {Q:PEnd->q5f->Prop} (h:p=p') (h2:st=st'):RetView c p st Q=RetView c p' st' Q:=by subst h; subst h2; rfl
universe u
structure Tok {α:Sort u}(a:α):Type where
def q5s {α:Type}(o:Option α)(K:α->Prop)(_:Tok K:=⟨⟩):Prop:=∃ a,o=some a/\K a
@[simp ↓,simp] theorem q5t {α:Type} (a:α) (K:α->Prop):q5s (some a) K=K a:=by simp [q5s]
@[simp] theorem q9f {α:Type}(K:α->Prop):q5s none K=False:=by simp [q5s]
def PV.bool?:PV->Option Bool
 | .val (.bool c)=>some c
 | _=>none
@[simp] theorem j11 (c:Bool):PV.bool? (.val (.bool c))=some c:=rfl
def PV.int?:PV->Option (IntKind × Int)
 | .val (.int k n)=>some (k,n)
 | _=>none
@[simp] theorem j0d (k:IntKind)(n:Int):PV.int? (.val (.int k n))=some (k,n):=rfl
def PV.str?:PV->Option ByteArray
 | .val (.string s)=>some s
 | _=>none
@[simp] theorem y8g (s:ByteArray):PV.str? (.val (.string s))=some s:=rfl
def PV.agg?:PV->Option (List PV)
 | .agg cs=>some cs
 | _=>none
@[simp] theorem y8h (cs:List PV):PV.agg? (.agg cs)=some cs:=rfl
def PV.tuple?:PV->Option (List PV)
 | .tuple cs=>some cs
 | _=>none
@[simp] theorem j9w (cs:List PV):PV.tuple? (.tuple cs)=some cs:=rfl
def PV.func?:PV->Option (FuncId × List PV × List PV)
 | .func (.func g) fs cs=>some (g,fs,cs)
 | _=>none
@[simp] theorem j12 (g:FuncId)(fs cs:List PV):PV.func? (.func (.func g) fs cs)=some (g,fs,cs):=rfl
def PV.iface?:PV->Option (TypeId × PV)
 | .iface T p=>some (T,p)
 | _=>none
@[simp] theorem j9x (T:TypeId)(p:PV):PV.iface? (.iface T p)=some (T,p):=rfl
def PV.ptr?:PV->Option (Nat × Nat)
 | .val (.pointer (some ⟨b,off,none⟩))=>some (b,off)
 | _=>none
@[simp] theorem j7g (b off:Nat):PV.ptr? (.val (.pointer (some ⟨b,off,none⟩)))=some (b,off):=rfl
def z73:Option PObj->Option (TypeId × List PV)
 | some (.arr T cs)=>some (T,cs)
 | _=>none
@[simp] theorem j7h (T:TypeId)(cs:List PV):z73 (some (.arr T cs))=some (T,cs):=rfl
def onB (c:Bool)(A B:Prop)(_:Tok (A,B):=⟨⟩):Prop:=(c=true->A)/\(c=false->B)
@[simp ↓,simp] theorem y8i (A B:Prop):onB true A B=A:=by simp [onB]
@[simp ↓,simp] theorem y5b (A B:Prop):onB false A B=B:=by simp [onB]
@[simp] theorem y3l (p:Prop)[Decidable p](A B:Prop):onB (decide p) A B=((p->A)/\(¬ p->B)):=by simp [onB]
@[simp] theorem v0i (c:Bool)(A B:Prop):onB (!c) A B=onB c B A:=by cases c <;> simp
@[simp low] theorem onB_eq (c:Bool) (A B:Prop):onB c A B=((c=true->A)/\(c=false->B)):=rfl
theorem k5o (p:PV):k68 p=p.int?.map (·.2):=by
 cases p <;> try rfl
 rename_i v; cases v <;> rfl
def q63 (op:MVal)(ρ:MX->PV)(st:q5f)(K:PV->Prop)(_:Tok K:=⟨⟩):Prop:=q7c op ρ st K
def k7j (op:BinOp)(p q:PV)(K:PV->Prop)(_:Tok K:=⟨⟩):Prop:=k8k op p q K
def k0i (cs:List PV)(off k:Nat)(agg:Bool)(K:PV->Prop)(_:Tok K:=⟨⟩):Prop:=
 if agg then ∃ ps,sub cs off k=some ps/\K (.agg ps) else ∃ p,cs[off]?=some p/\K p
@[simp] theorem y1l (cs:List PV)(off k:Nat)(K:PV->Prop):k0i cs off k true K=q5s (sub cs off k) fun ps=>K (.agg ps):=by simp [k0i,q5s]
@[simp] theorem j9y (cs:List PV)(off k:Nat)(K:PV->Prop):k0i cs off k false K=q5s (cs[off]?) K:=by simp [k0i,q5s]
theorem j0e (cs:List PV)(off k:Nat):sub cs off k=if off+k<=cs.length then some ((cs.drop off).take k) else none:=rfl
@[simp] theorem v0j (c:PV)(cs:List PV)(off k:Nat):sub (c::cs) off k=if off+k<=(c::cs).length then some (((c::cs).drop off).take k) else none:=rfl
section
variable (ρ:MX->PV) (st:q5f) (K:PV->Prop)
@[simp ↓] theorem v0k (x:MX):q63 (.mv x) ρ st K=K (ρ x):=rfl
@[simp ↓] theorem y5c (c a b:MX):q63 (.pick c a b) ρ st K=q5s (ρ c).bool? fun t=>onB t (K (ρ a)) (K (ρ b)):=by
 simp only [q63,q7c]; split <;> simp_all [PV.bool?]
@[simp ↓] theorem y3m (zs:List PV) (parts:List (Nat × Nat × MX)):q63 (.build zs parts) ρ st K=q5s (k0a zs (parts.map fun q=>(q.1,q.2.1,ρ q.2.2))) fun cs=>K (.agg cs):=by
 simp only [q63,q7c]; split <;> simp_all
@[simp ↓] theorem j33 (T:TypeId) (len:Nat) (zs:List PV) (parts:List (Nat × Nat × MX)):q63 (.buildSlice T len zs parts) ρ st K=q5s (k0a zs (parts.map fun q=>(q.1,q.2.1,ρ q.2.2))) fun cs=>K (.list true cs len):=by
 simp only [q63,q7c]; split <;> simp_all
@[simp ↓] theorem j34 (k:Nat) (agg:Bool) (x:MX):q63 (.load k agg x) ρ st K=q5s (k2k st (ρ x)) fun r=>k0i r.1 r.2 k agg K:=by
 simp only [q63,q7c]; split <;> simp_all [k0i]
def j35 (p:PV)(K:PV->Prop)(_:Tok K:=⟨⟩):Prop:=
 match p with
 | .iptr cs off=>K (.iptr cs off)
 | .val (.pointer (some a))=>K (.val (.pointer (some a)))
 | .func (.func f) fs cs=>K (.func (.func f) fs cs)
 | .func (.yield l) fs cs=>K (.func (.yield l) fs cs)
 | _=>False
@[simp] theorem y3n (cs:List PV)(off:Nat):j35 (.iptr cs off) K=K (.iptr cs off):=rfl
@[simp] theorem y5d (a:Addr):j35 (.val (.pointer (some a))) K=K (.val (.pointer (some a))):=rfl
@[simp] theorem y1m (l:Nat)(fs cs:List PV):j35 (.func (.yield l) fs cs) K=K (.func (.yield l) fs cs):=rfl
@[simp] theorem y3o (f:FuncId)(fs cs:List PV):j35 (.func (.func f) fs cs) K=K (.func (.func f) fs cs):=rfl
@[simp ↓] theorem j7i (x:MX):q63 (.nilCheck x) ρ st K=j35 (ρ x) K:=rfl
@[simp ↓] theorem y8j (op:BinOp) (T:TypeId) (x y:MX):q63 (.bin op T x y) ρ st K=k7j op (ρ x) (ρ y) K:=rfl
section
variable (k k':IntKind) (a b:Int) (s t:ByteArray)
@[simp] theorem v0l:k7j .add (.val (.int k a)) (.val (.int k' b)) K=(k=k'/\K (.val (.int k (k.wrap (a+b))))):=rfl
@[simp] theorem v0m:k7j .sub (.val (.int k a)) (.val (.int k' b)) K=(k=k'/\K (.val (.int k (k.wrap (a-b))))):=rfl
@[simp] theorem v0n:k7j .mul (.val (.int k a)) (.val (.int k' b)) K=(k=k'/\K (.val (.int k (k.wrap (a*b))))):=rfl
@[simp] theorem v0o:k7j .quo (.val (.int k a)) (.val (.int k' b)) K=(k=k'/\b ≠ 0/\K (.val (.int k (k.wrap (a.tdiv b))))):=rfl
@[simp] theorem v0p:k7j .rem (.val (.int k a)) (.val (.int k' b)) K=(k=k'/\b ≠ 0/\K (.val (.int k (a.tmod b)))):=rfl
@[simp] theorem v0q:k7j .shl (.val (.int k a)) (.val (.int k' b)) K=(0<=b/\K (.val (.int k (k.wrap (a*2 ^ min b.toNat k.bits))))):=rfl
@[simp] theorem v0r:k7j .shr (.val (.int k a)) (.val (.int k' b)) K=(0<=b/\K (.val (.int k (a.fdiv (2 ^ min b.toNat k.bits))))):=rfl
@[simp] theorem v0s:k7j .and (.val (.int k a)) (.val (.int k' b)) K=(k=k'/\K (.val (.int k (k.wrap (BitVec.ofInt k.bits a &&& BitVec.ofInt k.bits b).toNat)))):=rfl
@[simp] theorem bin_or:k7j .or (.val (.int k a)) (.val (.int k' b)) K=(k=k'/\K (.val (.int k (k.wrap (BitVec.ofInt k.bits a ||| BitVec.ofInt k.bits b).toNat)))):=rfl
@[simp] theorem v0t:k7j .xor (.val (.int k a)) (.val (.int k' b)) K=(k=k'/\K (.val (.int k (k.wrap (BitVec.ofInt k.bits a ^^^ BitVec.ofInt k.bits b).toNat)))):=rfl
@[simp] theorem y3p:k7j .andNot (.val (.int k a)) (.val (.int k' b)) K=(k=k'/\K (.val (.int k (k.wrap (BitVec.ofInt k.bits a &&& ~~~ BitVec.ofInt k.bits b).toNat)))):=rfl
@[simp] theorem v0u:k7j .eql (.val (.int k a)) (.val (.int k' b)) K=(k=k'/\K (.val (.bool (decide (a=b))))):=by
 have:(a == b)=decide (a=b):=rfl
 simp only [k7j,k8k,k44,z2c,this]
@[simp] theorem v0v:k7j .neq (.val (.int k a)) (.val (.int k' b)) K=(k=k'/\K (.val (.bool (decide (a ≠ b))))):=by
 have:(a != b)=decide (a ≠ b):=by by_cases h:a=b <;> simp [h]
 simp only [k7j,k8k,k44,z2c,this]
@[simp] theorem v0w:k7j .lss (.val (.int k a)) (.val (.int k' b)) K=(k=k'/\K (.val (.bool (decide (a<b))))):=rfl
@[simp] theorem v0x:k7j .leq (.val (.int k a)) (.val (.int k' b)) K=(k=k'/\K (.val (.bool (decide (a<=b))))):=rfl
@[simp] theorem v0y:k7j .gtr (.val (.int k a)) (.val (.int k' b)) K=(k=k'/\K (.val (.bool (decide (b<a))))):=rfl
@[simp] theorem v0z:k7j .geq (.val (.int k a)) (.val (.int k' b)) K=(k=k'/\K (.val (.bool (decide (b<=a))))):=rfl
@[simp] theorem v00:k7j .add (.val (.string s)) (.val (.string t)) K=(s.size+t.size<2 ^ 62/\K (.val (.string (s++t)))):=rfl
theorem z1i:(s.toList == t.toList)=decide (s=t):=by
 by_cases h:s=t
 ·simp [h]
 ·have:s.toList ≠ t.toList:=by
   intro e
   rw [ByteArray.toList_eq,ByteArray.toList_eq] at e
   exact h (ByteArray.ext (Array.ext' e))
  simp [h,this]
@[simp] theorem y8k:k7j .eql (.val (.string s)) (.val (.string t)) K=K (.val (.bool (decide (s=t)))):=by
 simp only [k7j,k8k,z2d,z1i]
@[simp] theorem y8l:k7j .neq (.val (.string s)) (.val (.string t)) K=K (.val (.bool (!decide (s=t)))):=by
 simp only [k7j,k8k,z2d,z1i]
@[simp] theorem y8m:k7j .lss (.val (.string s)) (.val (.string t)) K=K (.val (.bool (Op.bytesLess s.toList t.toList))):=rfl
end
@[simp ↓] theorem y3q (neg:Bool) (ks:List LK) (x y:MX):q63 (.eqAgg neg ks x y) ρ st K=q5s (ρ x).agg? fun cs=>q5s (ρ y).agg? fun ds=>q5s (q6c ks cs ds) fun b=>K (.bool (if neg then !b else b)):=by
 simp only [q63,q7c]; split <;> simp_all [q5s,PV.agg?]
 rename_i h
 intro x h1 y h2
 split at h1 <;> split at h2 <;> simp_all
@[simp] theorem y3r (k k':IntKind)(a b:Int):k1b .int (.val (.int k a)) (.val (.int k' b))=if k=k' then some (decide (a=b)) else none:=rfl
@[simp] theorem y1n (a b:Bool):k1b .bool (.val (.bool a)) (.val (.bool b))=some (a == b):=rfl
@[simp] theorem y1o:q6c [] [] []=some true:=rfl
def y8n:Option Bool->Option Bool->Option Bool
 | some a,some b=>some (a && b)
 | _,_=>none
@[simp] theorem y5e (a b:Bool):y8n (some a) (some b)=some (a && b):=rfl
@[simp] theorem z5a (k:LK)(ks:List LK)(p q:PV)(ps qs:List PV):q6c (k::ks) (p::ps) (q::qs)=y8n (k1b k p q) (q6c ks ps qs):=by
 simp only [q6c]
 cases k1b k p q <;> cases q6c ks ps qs <;> rfl
@[simp ↓] theorem y8o (x:MX):q63 (.un .neg x) ρ st K=q5s (ρ x).int? fun q=>K (.val (.int q.1 (q.1.wrap (0-q.2)))):=by
 simp only [q63,q7c]; cases h:ρ x <;> simp [PV.int?]
 rename_i v; cases v <;> simp
@[simp ↓] theorem y8p (x:MX):q63 (.un .not x) ρ st K=q5s (ρ x).bool? fun b=>K (.val (.bool !b)):=by
 simp only [q63,q7c]; cases h:ρ x <;> simp [PV.bool?]
 rename_i v; cases v <;> simp
@[simp ↓] theorem y3s (k:IntKind) (x:MX):q63 (.toInt k x) ρ st K=q5s (ρ x).int? fun q=>K (.val (.int k (k.wrap q.2))):=by
 simp only [q63,q7c]; cases h:ρ x <;> simp [PV.int?]
 rename_i v; cases v <;> simp
@[simp ↓] theorem j9z (T:TypeId) (x:MX):q63 (.mkIface T x) ρ st K=K (.iface T (ρ x)):=rfl
@[simp ↓] theorem y1p (fn:Fn) (fs cs:List MX):q63 (.mkFunc fn fs cs) ρ st K=K (.func fn (fs.map ρ) (cs.map ρ)):=rfl
def k4o (off:Nat)(p:PV)(K:PV->Prop)(_:Tok K:=⟨⟩):Prop:=
 match p with
 | .iptr cs k=>K (.iptr cs (k+off))
 | .val (.pointer (some ⟨b,k,none⟩))=>K (.ptr b (k+off))
 | _=>False
@[simp] theorem j3e (off:Nat)(cs:List PV)(k:Nat):k4o off (.iptr cs k) K=K (.iptr cs (k+off)):=rfl
@[simp] theorem j36 (off b k:Nat):k4o off (.val (.pointer (some ⟨b,k,none⟩))) K=K (.ptr b (k+off)):=rfl
@[simp ↓] theorem j6v (off:Nat) (x:MX):q63 (.fieldAddr off x) ρ st K=k4o off (ρ x) K:=rfl
@[simp ↓] theorem y3t (off k:Nat) (agg:Bool) (x:MX):q63 (.field off k agg x) ρ st K=q5s (ρ x).agg? fun cs=>k0i cs off k agg K:=by
 simp only [q63,q7c]; cases h:ρ x <;> simp [PV.agg?,k0i]
def q7w (k:Nat)(p:PV)(j:Int)(K:PV->Prop)(_:Tok K:=⟨⟩):Prop:=
 match p with
 | .list _ cs n=>0<=j/\j<n/\j.toNat*k<cs.length/\K (.iptr cs (j.toNat*k))
 | .val (.slice (some ⟨b,off,none⟩) n _)=>0<=j/\j<n/\K (.ptr b (off+j.toNat*k))
 | _=>False
@[simp] theorem j3f (k:Nat)(t:Bool)(cs:List PV)(n:Nat)(j:Int):q7w k (.list t cs n) j K=(0<=j/\j<n/\j.toNat*k<cs.length/\K (.iptr cs (j.toNat*k))):=rfl
@[simp] theorem j37 (k b off n c:Nat)(j:Int):q7w k (.val (.slice (some ⟨b,off,none⟩) n c)) j K=(0<=j/\j<n/\K (.ptr b (off+j.toNat*k))):=rfl
@[simp] theorem j38 (k:Nat)(j:Int):q7w k (.val (.slice none 0 0)) j K=False:=rfl
@[simp ↓] theorem j6w (k:Nat) (x i:MX):q63 (.indexAddr k x i) ρ st K=q5s (ρ i).int? fun q=>q7w k (ρ x) q.2 K:=by
 simp only [q63,q7c]
 rw [k5o]
 cases h:(ρ i).int? with
 | none=>simp
 | some q=>
  simp only [Option.map_some,q5t]
  cases hx:ρ x with
  | val v=>
   cases v with
   | slice a n c=>
    cases a with
    | none=>
     cases n <;> cases c <;> simp [PV.asList,q7w]
    | some a=>obtain⟨b,off,t⟩:=a; cases t <;> simp [PV.asList,q7w]
   | _=>simp [PV.asList,q7w]
  | _=>simp [PV.asList,q7w]
def k6s (n k:Nat)(p:PV)(j:Int)(K:PV->Prop)(_:Tok K:=⟨⟩):Prop:=
 match p with
 | .iptr cs off=>0<=j/\j<n/\K (.iptr cs (off+j.toNat*k))
 | .val (.pointer (some ⟨b,off,none⟩))=>0<=j/\j<n/\K (.ptr b (off+j.toNat*k))
 | _=>False
@[simp] theorem j39 (n k:Nat)(cs:List PV)(off:Nat)(j:Int):k6s n k (.iptr cs off) j K=(0<=j/\j<n/\K (.iptr cs (off+j.toNat*k))):=rfl
@[simp] theorem j6x (n k b off:Nat)(j:Int):k6s n k (.val (.pointer (some ⟨b,off,none⟩))) j K=(0<=j/\j<n/\K (.ptr b (off+j.toNat*k))):=rfl
@[simp ↓] theorem j7j (n k:Nat) (x i:MX):q63 (.indexArr n k x i) ρ st K=q5s (ρ i).int? fun q=>k6s n k (ρ x) q.2 K:=by
 simp only [q63,q7c]
 rw [k5o]
 cases h:(ρ i).int? with
 | none=>simp
 | some q=>simp only [Option.map_some,q5t]; rfl
@[simp ↓] theorem j7k (x i:MX):q63 (.indexStr x i) ρ st K=q5s (ρ i).int? fun q=>q5s (ρ x).str? fun s=>0<=q.2/\q5s (s[q.2.toNat]?) fun c=>K (.val (.int .u8 c.toNat)):=by
 simp only [q63,q7c]
 rw [k5o]
 cases h:(ρ i).int? with
 | none=>simp
 | some q=>
  cases hx:ρ x with
  | val v=>cases v <;> simp [PV.str?,q5s]
  | _=>simp [PV.str?]
def PV.len?:PV->Option Nat
 | .list _ _ n=>some n
 | .val (.slice _ n _)=>some n
 | _=>none
@[simp] theorem y5f (t:Bool)(cs:List PV)(n:Nat):PV.len? (.list t cs n)=some n:=rfl
@[simp] theorem y8q (a:Option Addr)(n c:Nat):PV.len? (.val (.slice a n c))=some n:=rfl
@[simp ↓] theorem y8r (x:MX):q63 (.len x) ρ st K=q5s (ρ x).len? fun n=>K (.int n):=by
 simp only [q63,q7c]
 cases hx:ρ x with
 | val v=>
  cases v with
  | slice a n c=>
   cases a with
   | none=>cases n <;> cases c <;> simp [PV.asList]
   | some a=>simp [PV.asList]
  | _=>simp [PV.asList,PV.len?]
 | _=>simp [PV.asList,PV.len?]
@[simp ↓] theorem y1q (x:MX):q63 (.strlen x) ρ st K=q5s (ρ x).str? fun s=>K (.int s.size):=by
 simp only [q63,q7c]
 cases hx:ρ x with
 | val v=>cases v <;> simp [PV.str?]
 | _=>simp [PV.str?]
def PV.cap?:PV->Option Nat
 | .list true _ n=>some n
 | .val (.slice _ _ c)=>some c
 | _=>none
@[simp] theorem y5g (cs:List PV)(n:Nat):PV.cap? (.list true cs n)=some n:=rfl
@[simp] theorem y8s (a:Option Addr)(n c:Nat):PV.cap? (.val (.slice a n c))=some c:=rfl
@[simp ↓] theorem y8t (x:MX):q63 (.cap x) ρ st K=q5s (ρ x).cap? fun n=>K (.int n):=by
 simp only [q63,q7c]
 cases hx:ρ x with
 | val v=>cases v <;> simp [PV.cap?]
 | list t cs n=>cases t <;> simp [PV.cap?]
 | _=>simp [PV.cap?]
@[simp ↓] theorem j90 (i:Nat) (x:MX):q63 (.extract i x) ρ st K=q5s (ρ x).tuple? fun ps=>q5s (ps[i]?) K:=by
 simp only [q63,q7c]
 cases hx:ρ x <;> simp [PV.tuple?,q5s]
def j0f (isMax:Bool)(ps:List PV)(K:PV->Prop)(_:Tok K:=⟨⟩):Prop:=
 match ps with
 | [.val (.int k a),.val (.int _ b)]=>K (.val (.int k (if isMax then (if b > a then b else a) else (if b<a then b else a))))
 | _=>False
@[simp] theorem j91 (m:Bool)(k k':IntKind)(a b:Int):j0f m [.val (.int k a),.val (.int k' b)] K=K (.val (.int k (if m then (if b > a then b else a) else (if b<a then b else a)))):=rfl
@[simp ↓] theorem y1r (m:Bool) (xs:List MX):q63 (.minmax m xs) ρ st K=j0f m (xs.map ρ) K:=rfl
def z23 (T:TypeId)(z:PV)(ok:Bool)(p:PV)(K:PV->Prop)(_:Tok K:=⟨⟩):Prop:=
 match p with
 | .iface U p=>if U=T then (if ok then K (.tuple [p,.bool true]) else K p) else (ok=true/\K (.tuple [z,.bool false]))
 | .val .nilIface=>ok=true/\K (.tuple [z,.bool false])
 | _=>False
@[simp] theorem j6y (T U:TypeId)(z:PV)(ok:Bool)(p:PV):z23 T z ok (.iface U p) K=if U=T then (if ok then K (.tuple [p,.bool true]) else K p) else (ok=true/\K (.tuple [z,.bool false])):=rfl
@[simp] theorem j92 (T:TypeId)(z:PV)(ok:Bool):z23 T z ok (.val .nilIface) K=(ok=true/\K (.tuple [z,.bool false])):=rfl
@[simp ↓] theorem y1s (T:TypeId) (z:PV) (ok:Bool) (x:MX):q63 (.assert T z ok x) ρ st K=z23 T z ok (ρ x) K:=rfl
@[simp] theorem y8u (ρ:MX->PV):bnd ρ none=some none:=rfl
@[simp] theorem y8v (ρ:MX->PV)(x:MX):bnd ρ (some x)=(ρ x).int?.map fun q=>some q.2:=by
 simp only [bnd,k5o]
 cases (ρ x).int? <;> rfl
def k6t (s:ByteArray)(lo hi:Option Int)(K:PV->Prop)(_:Tok K:=⟨⟩):Prop:=q88 s lo hi K
@[simp] theorem j7l (s:ByteArray)(l:Int):k6t s (some l) none K=(0<=l/\l<=s.size/\K (.str (s.extract l.toNat s.size))):=rfl
@[simp] theorem j7m (s:ByteArray)(h:Int):k6t s none (some h) K=(0<=h/\h<=s.size/\K (.str (s.extract 0 h.toNat))):=rfl
@[simp] theorem j4a (s:ByteArray)(l h:Int):k6t s (some l) (some h) K=(0<=l/\l<=h/\h<=s.size/\K (.str (s.extract l.toNat h.toNat))):=rfl
@[simp] theorem z1j (b off n cap:Nat)(lo hi mx:Option Int):j3j (.val (.slice (some ⟨b,off,none⟩) n cap)) lo hi mx=false:=rfl
def k0j (k:Nat)(p:PV)(lo hi mx:Option Int)(K:PV->Prop)(_:Tok K:=⟨⟩):Prop:=k1u k p lo hi mx K
section
variable (k n b off cap:Nat) (t:Bool) (cs:List PV) (l h m:Int)
@[simp] theorem y5h:k0j k (.list t cs n) none none none K=K (.list t cs n):=rfl
@[simp] theorem y5i:k0j k (.list t cs n) (some l) none none K=(0<=l/\l<=n/\cs.length<=n*k/\K (.list t (cs.drop (l.toNat*k)) (n-l.toNat))):=rfl
@[simp] theorem y5j:k0j k (.list t cs n) none (some h) none K=(0<=h/\h<=n/\K (.list false (cs.take (h.toNat*k)) h.toNat)):=rfl
@[simp] theorem y5k:k0j k (.list t cs n) (some l) (some h) none K=(0<=l/\l<=h/\h<=n/\K (.list false ((cs.take (h.toNat*k)).drop (l.toNat*k)) (h.toNat-l.toNat))):=rfl
@[simp] theorem y5l:k0j k (.list t cs n) none (some h) (some m) K=(0<=h/\h<=m/\m<=n/\K (.list (decide (h=m)) (cs.take (h.toNat*k)) h.toNat)):=rfl
@[simp] theorem y5m:k0j k (.list t cs n) (some l) (some h) (some m) K=(0<=l/\l<=h/\h<=m/\m<=n/\K (.list (decide (h=m)) ((cs.take (h.toNat*k)).drop (l.toNat*k)) (h.toNat-l.toNat))):=rfl
@[simp] theorem y5n:k0j k (.val (.slice none 0 0)) none none none K=K .nil:=rfl
@[simp] theorem y5o:k0j k (.val (.slice none 0 0)) (some l) none none K=(0<=l/\l<=((0:Nat):Int)/\([]:List PV).length<=0*k/\K (.list true (([]:List PV).drop (l.toNat*k)) (0-l.toNat))):=rfl
@[simp] theorem y5p:k0j k (.val (.slice none 0 0)) none (some h) none K=(h=0/\K .nil):=rfl
@[simp] theorem y5q:k0j k (.val (.slice none 0 0)) none (some h) (some m) K=(0<=h/\h<=m/\m<=((0:Nat):Int)/\K (.list (decide (h=m)) (([]:List PV).take (h.toNat*k)) h.toNat)):=rfl
@[simp] theorem y5r:k0j k (.val (.slice (some ⟨b,off,none⟩) n cap)) (some l) none none K=(n<=cap/\0<=l/\l<=n/\(l=cap->K (.list true [] 0))/\(l<cap->K (.own b (off+l.toNat*k) (n-l.toNat) (cap-l.toNat)))):=by
 simp only [k0j,k1u,z1j,Bool.false_eq_true,if_false,PV.asList,q90]
 simp
@[simp] theorem y5s:k0j k (.val (.slice (some ⟨b,off,none⟩) n cap)) none (some h) none K=(0<=h/\h<=cap/\K (.own b off h.toNat cap)):=by
 simp only [k0j,k1u,z1j,Bool.false_eq_true,if_false,PV.asList,q90]
 simp
end
@[simp ↓] theorem y3u (k:Nat) (x:MX) (lo hi mx:Option MX):q63 (.slice k x lo hi mx) ρ st K=q5s (bnd ρ lo) fun l=>q5s (bnd ρ hi) fun h=>q5s (bnd ρ mx) fun m=>k0j k (ρ x) l h m K:=by
 simp only [q63,q7c]
 split
 ·rename_i h1 h2 h3
  simp only [h1,h2,h3,q5t]
  rfl
 ·rename_i hn
  simp only [q5s,eq_iff_iff,false_iff]
  rintro⟨l,h1,h,h2,m,h3, -⟩
  exact hn l h m h1 h2 h3
def k22 (n k:Nat)(p:PV)(lo hi mx:Option Int)(K:PV->Prop)(_:Tok K:=⟨⟩):Prop:=q72 n k p lo hi mx K
section
variable (k n b off:Nat) (cs:List PV) (l h m:Int)
@[simp] theorem j93:k22 n k (.iptr cs off) none none none K=(n<=9223372036854775807/\K (.list true ((cs.drop off).take (n*k)) n)):=by
 simp [k22,q72]
@[simp] theorem j94:k22 n k (.val (.pointer (some ⟨b,off,none⟩))) none none none K=K (.own b off n n):=by
 simp only [k22,q72,q90]
 simp
end
@[simp ↓] theorem j7n (n k:Nat) (x:MX) (lo hi mx:Option MX):q63 (.sliceArr n k x lo hi mx) ρ st K=q5s (bnd ρ lo) fun l=>q5s (bnd ρ hi) fun h=>q5s (bnd ρ mx) fun m=>k22 n k (ρ x) l h m K:=by
 simp only [q63,q7c]
 split
 ·rename_i h1 h2 h3
  simp only [h1,h2,h3,q5t]
  rfl
 ·rename_i hn
  simp only [q5s,eq_iff_iff,false_iff]
  rintro⟨l,h1,h,h2,m,h3, -⟩
  exact hn l h m h1 h2 h3
@[simp ↓] theorem y3v (x:MX):q63 (.strOf x) ρ st K=q5s (q6s 1 st (ρ x)) fun r=>q5s (q8t r.1) fun bs=>K (.str ⟨bs.toArray⟩):=by
 simp only [q63,q7c]
 split
 ·rename_i cs n h
  simp only [h,q5t]
  split
  ·rename_i bs hb; simp only [hb,q5t]
  ·rename_i hb; simp only [hb,q9f]
 ·rename_i h; simp only [h,q9f]
def z5b (r:Option (Option Nat))(vs:List PV)(z:PV)(ok:Bool)(K:PV->Prop)(_:Tok K:=⟨⟩):Prop:=
 match r with
 | some (some j)=>∃ p,vs[j]?=some p/\K (if ok then .tuple [p,.bool true] else p)
 | some none=>K (if ok then .tuple [z,.bool false] else z)
 | none=>False
@[simp] theorem v01 (j:Nat)(vs:List PV)(z:PV):z5b (some (some j)) vs z true K=q5s (vs[j]?) fun p=>K (.tuple [p,.bool true]):=rfl
@[simp] theorem v02 (j:Nat)(vs:List PV)(z:PV):z5b (some (some j)) vs z false K=q5s (vs[j]?) fun p=>K p:=rfl
@[simp] theorem y8w (vs:List PV)(z:PV):z5b (some none) vs z true K=K (.tuple [z,.bool false]):=rfl
@[simp] theorem y8x (vs:List PV)(z:PV):z5b (some none) vs z false K=K z:=rfl
@[simp ↓] theorem y1t (kp:KP) (z:PV) (ok:Bool) (x i:MX):q63 (.lookup kp z ok x i) ρ st K=q5s (z2e st (ρ x)) fun m=>q5s (ρ i).key? fun kv=>q8h kp kv=true/\z5b (k36 kp kv m.1) m.2 z ok K:=by
 simp only [q63,q7c]
 split
 ·rename_i h1 h2
  simp only [h1,h2,q5t]
  rfl
 ·rename_i hn
  simp only [q5s,eq_iff_iff,false_iff]
  rintro⟨⟨ks,vs⟩,h1,kv,h2, -⟩
  exact hn ks vs kv h1 h2
end
inductive Gd where
 | b (c:Bool)
 | skip
def PV.gd?:PV->Option Gd
 | .val (.bool c)=>some (.b c)
 | .val (.tuple _)=>some .skip
 | _=>none
@[simp] theorem k75 (c:Bool):PV.gd? (.val (.bool c))=some (.b c):=rfl
@[simp] theorem y5t:PV.gd? (.val (.tuple #[]))=some .skip:=rfl
def onG (g:Gd)(A B C:Prop)(_:Tok (A,B,C):=⟨⟩):Prop:=
 match g with
 | .b c=>onB c A B
 | .skip=>C
@[simp ↓,simp] theorem j7o (c:Bool) (A B C:Prop):onG (.b c) A B C=onB c A B:=rfl
@[simp ↓,simp] theorem y8y (A B C:Prop):onG .skip A B C=C:=rfl
def q93 {α:Type}(a:α)(K:α->Prop)(_:Tok K:=⟨⟩):Prop:=K a
@[simp] theorem k5p {α:Type}(a:α)(K:α->Prop):q93 a K=K a:=rfl
def xop (P:Program)(op:MOp)(ρ:MX->PV)(st:q5f)(K QP:PV->q5f->Prop)(_:Tok (K,QP):=⟨⟩):Prop:=mop P op ρ st K QP
def Fresh (st:q5f)(K:Nat->Prop)(_:Tok K:=⟨⟩):Prop:=∀ b,q54 st b->K b
theorem Fresh.intro {st:q5f}{K:Nat->Prop}(h:∀ b,q54 st b->K b):Fresh st K:=h
def j7p {α β:Type}(o:Option α)(f:α->Option β)(_:Tok f:=⟨⟩):Option β:=o.bind f
@[simp ↓,simp] theorem y3w {α β:Type} (a:α) (f:α->Option β):j7p (some a) f=f a:=rfl
@[simp] theorem y3x {α β:Type}(f:α->Option β):j7p none f=none:=rfl
def y1u:MVal->Bool
 | .buildSlice ..=>true
 | _=>false
def Lit (T:TypeId)(cs:List PV)(len:Nat)(st:q5f)(K:PV->q5f->Prop)(_:Tok K:=⟨⟩):Prop:=K (.list true cs len) st\/∀ b,q54 st b->K (.own b 0 len len) ((b,.arr T cs)::st)
theorem Lit.imm {T:TypeId}{cs:List PV}{len:Nat}{st:q5f}{K:PV->q5f->Prop}(h:K (.list true cs len) st):Lit T cs len st K:=.inl h
theorem Lit.own {T:TypeId}{cs:List PV}{len:Nat}{st:q5f}{K:PV->q5f->Prop}(h:∀ b,q54 st b->K (.own b 0 len len) ((b,.arr T cs)::st)):Lit T cs len st K:=.inr h
def Grow (T:TypeId)(bytes k:Nat)(cs:List PV)(need:Nat)(st:q5f)(K:PV->q5f->Prop)(_:Tok K:=⟨⟩):Prop:=j1j T bytes k cs need st K
theorem Grow.intro {T:TypeId}{bytes k:Nat}{cs:List PV}{need:Nat}{st:q5f}{K:PV->q5f->Prop}(h1:need*bytes<=140737488355328)
  (h2:∀ b cap,q54 st b->need<=cap->cap<=9223372036854775807->K (.own b 0 need cap) ((b,.arr T (cs++List.replicate ((cap-need)*k) .any))::st)):Grow T bytes k cs need st K:=⟨h1,.inl h2⟩
def q67 (T:TypeId)(bytes k:Nat)(p:PV)(new:List PV)(m:Nat)(st:q5f)(K:PV->q5f->Prop)(_:Tok K:=⟨⟩):Prop:=q9w T bytes k p new m st K
section
variable (T:TypeId) (bytes k:Nat) (new:List PV) (m:Nat) (st:q5f) (K:PV->q5f->Prop)
theorem k4p:q67 T bytes k (.val (.slice none 0 0)) new m st K=((m=0->K .nil st)/\(¬ m=0->Grow T bytes k new m st K)):=by
 show (if m=0 then K .nil st else Grow T bytes k new m st K)=_
 split <;> simp [*]
@[simp] theorem q5g (t:Bool)(cs:List PV)(n:Nat):q67 T bytes k (.list t cs n) new m st K=((m=0->K (.list t cs n) st)/\(¬ m=0->t=true/\cs.length=n*k/\Grow T bytes k (cs++new) (n+m) st K)):=by
 show (if m=0 then K (.list t cs n) st else t=true/\cs.length=n*k/\Grow T bytes k (cs++new) (n+m) st K)=_
 split <;> simp [*]
end
theorem k2a {T:TypeId}{bytes k:Nat}{new:List PV}{m:Nat}{st:q5f}{K:PV->q5f->Prop}{b n cap:Nat}{row:List PV}(hb:q55 st b=some (.arr T row))(hl:row.length=cap*k)(hn:n<=cap)(hc:cap<=9223372036854775807)
  (h:Grow T bytes k (row.take (n*k)++new) (n+m) (k2l b st) K):q67 T bytes k (.own b 0 n cap) new m st K:=by
 show q9w _ _ _ _ _ _ _ _
 simp only [q9w,hb]
 exact⟨trivial,by omega,hn,hc,.inl ⟨trivial,hl,h⟩⟩
theorem z5c {T:TypeId}{bytes k:Nat}{new:List PV}{m:Nat}{st:q5f}{K:PV->q5f->Prop}{b off n cap:Nat}{row:List PV}(hb:q55 st b=some (.arr T row))(hl:off+cap*k<=row.length)(hn:n<=cap)(hc:cap<=9223372036854775807)
  (h0:(n+m)*bytes<=140737488355328) (h1:n+m<=cap->K (.own b off (n+m) cap) (q83 st b (.arr T (q5j row (off+n*k) new)))) (h2:cap<n+m->Grow T bytes k ((row.drop off).take (n*k)++new) (n+m) st K):q67 T bytes k (.own b off n cap) new m st K:=by
 show q9w _ _ _ _ _ _ _ _
 simp only [q9w,hb]
 exact⟨trivial,hl,hn,hc,.inr ⟨h0,h1,h2⟩⟩
def j4b (k:Nat)(p:PV)(new:List PV)(m:Nat)(st:q5f)(K:PV->q5f->Prop)(_:Tok K:=⟨⟩):Prop:=j3l k p new m st K
@[simp] theorem y5u (k:Nat)(new:List PV)(m:Nat)(st:q5f)(K:PV->q5f->Prop):j4b k (.val (.slice none 0 0)) new m st K=K (.int 0) st:=rfl
@[simp] theorem y1v (k:Nat)(new:List PV)(m:Nat)(st:q5f)(K:PV->q5f->Prop)(t:Bool)(cs:List PV):j4b k (.list t cs 0) new m st K=K (.int 0) st:=rfl
@[simp] theorem y5v (k:Nat)(new:List PV)(m:Nat)(st:q5f)(K:PV->q5f->Prop)(b off n cap:Nat):j4b k (.val (.slice (some ⟨b,off,none⟩) n cap)) new m st K =
  q5s (z73 (q55 st b)) fun r=>off+min m n*k<=r.2.length/\K (.int (min m n:Nat)) (q83 st b (.arr r.1 (q5j r.2 off (new.take (min m n*k))))):=by
 simp only [j4b,j3l]
 cases h:q55 st b with
 | none=>simp [z73]
 | some o=>cases o <;> simp [z73]
@[simp] theorem j7q (k:Nat)(st:q5f)(t:Bool)(cs:List PV)(n:Nat):q6s k st (.list t cs n)=if cs.length=n*k then some (cs,n) else none:=rfl
@[simp] theorem j95 (k:Nat)(st:q5f):q6s k st (.val (.slice none 0 0))=some ([],0):=rfl
@[simp] theorem j96 (k:Nat)(st:q5f)(b off n cap:Nat):q6s k st (.val (.slice (some ⟨b,off,none⟩) n cap))=j7p (z73 (q55 st b)) fun r=>if off+n*k<=r.2.length then some ((r.2.drop off).take (n*k),n) else none:=by
 simp only [q6s]
 cases h:q55 st b with
 | none=>rfl
 | some o=>cases o <;> rfl
@[simp] theorem j97 (st:q5f)(s:ByteArray):q6s 1 st (.val (.string s))=some (s.data.toList.map fun b=>.val (.int .u8 b.toNat),s.size):=rfl
def j7r (neg:Bool)(nk:NK)(p:PV)(st:q5f)(K:PV->q5f->Prop)(_:Tok K:=⟨⟩):Prop:=z4i neg nk p st K
section
variable (neg:Bool) (st:q5f) (K:PV->q5f->Prop)
@[simp] theorem y8z (n c:Nat):j7r neg .slice (.val (.slice none n c)) st K=K (.bool !neg) st:=rfl
@[simp] theorem y80 (a:Addr)(n c:Nat):j7r neg .slice (.val (.slice (some a) n c)) st K=K (.bool neg) st:=rfl
@[simp] theorem y5w (t:Bool)(cs:List PV)(n:Nat):j7r neg .slice (.list t cs n) st K=((cs=[]->K (.bool !neg) st)/\K (.bool neg) st):=rfl
@[simp] theorem y5x:j7r neg .iface (.val .nilIface) st K=K (.bool !neg) st:=rfl
@[simp] theorem y3y (T:TypeId)(p:PV):j7r neg .iface (.iface T p) st K=K (.bool neg) st:=rfl
@[simp] theorem y5y:j7r neg .map (.val (.map none)) st K=K (.bool !neg) st:=rfl
@[simp] theorem y81 (r:Nat):j7r neg .map (.val (.map (some r))) st K=K (.bool neg) st:=rfl
@[simp] theorem y5z (ks:List Value)(vs:List PV):j7r neg .map (.imap ks vs) st K=K (.bool neg) st:=rfl
end
def PV.map?:PV->Option Nat
 | .val (.map (some b))=>some b
 | _=>none
@[simp] theorem j7s (b:Nat):PV.map? (.val (.map (some b)))=some b:=rfl
def map?:Option PObj->Option (List Value × List PV)
 | some (.map ks vs)=>some (ks,vs)
 | _=>none
@[simp] theorem j4c (ks:List Value)(vs:List PV):map? (some (.map ks vs))=some (ks,vs):=rfl
@[simp] theorem y50 (st:q5f)(b:Nat):z2e st (.val (.map (some b)))=map? (q55 st b):=by
 simp only [z2e]
 cases h:q55 st b with
 | none=>rfl
 | some o=>cases o <;> rfl
@[simp] theorem y51 (st:q5f):z2e st (.val (.map none))=some ([],[]):=rfl
@[simp] theorem y3z (st:q5f)(ks:List Value)(vs:List PV):z2e st (.imap ks vs)=some (ks,vs):=rfl
@[simp] theorem y82 (v:Value):PV.key? (.val v)=some v:=rfl
@[simp] theorem y83 (cs:List PV):PV.key? (.agg cs)=(PV.vals? cs).map fun vs=>.agg vs.toArray:=rfl
@[simp] theorem y52:PV.vals? []=some []:=rfl
@[simp] theorem y30 (v:Value)(ps:List PV):PV.vals? (.val v::ps)=(PV.vals? ps).map (v::·):=rfl
@[simp] theorem y53 (lk:List LK)(v:Value):q8h (false,lk) v=(lk.length == 1):=rfl
@[simp] theorem y54 (lk:List LK)(cs:Array Value):q8h (true,lk) (.agg cs)=(cs.size == lk.length):=rfl
@[simp] theorem y84 (kp:KP)(k:Value):k36 kp k []=some none:=rfl
def j4d (r:Option Bool)(rest:Option (Option Nat)):Option (Option Nat):=
 match r with
 | some true=>some (some 0)
 | some false=>rest.map (·.map (·+1))
 | none=>none
@[simp] theorem v03 (rest:Option (Option Nat)):j4d (some true) rest=some (some 0):=rfl
@[simp] theorem v04 (rest:Option (Option Nat)):j4d (some false) rest=rest.map (·.map (·+1)):=rfl
@[simp] theorem y55 (kp:KP)(k k':Value)(ks:List Value):k36 kp k (k'::ks)=j4d (q6c kp.2 (q6m kp.1 k) (q6m kp.1 k')) (k36 kp k ks):=by
 simp only [k36,j4d]
 split <;> rename_i h <;> simp only [h]
@[simp] theorem y31 (v:Value):q6m false v=[.val v]:=by cases v <;> rfl
@[simp] theorem y32 (cs:Array Value):q6m true (.agg cs)=cs.toList.map .val:=rfl
def v05 (b:Nat)(kv:Value)(p:PV)(ks:List Value)(vs:List PV)(r:Option (Option Nat))(st:q5f)(K:PV->q5f->Prop)(_:Tok K:=⟨⟩):Prop:=
 match r with
 | some (some j)=>K .any (q83 st b (.map (ks.set j kv) (vs.set j p)))
 | some none=>K .any (q83 st b (.map (ks++[kv]) (vs++[p])))
 | none=>False
@[simp] theorem xput_s (b:Nat)(kv:Value)(p:PV)(ks:List Value)(vs:List PV)(j:Nat)(st:q5f)(K:PV->q5f->Prop):v05 b kv p ks vs (some (some j)) st K=K .any (q83 st b (.map (ks.set j kv) (vs.set j p))):=rfl
@[simp] theorem xput_n (b:Nat)(kv:Value)(p:PV)(ks:List Value)(vs:List PV)(st:q5f)(K:PV->q5f->Prop):v05 b kv p ks vs (some none) st K=K .any (q83 st b (.map (ks++[kv]) (vs++[p]))):=rfl
def xdel (b:Nat)(ks:List Value)(vs:List PV)(r:Option (Option Nat))(st:q5f)(K:PV->q5f->Prop)(_:Tok K:=⟨⟩):Prop:=
 match r with
 | some (some j)=>K .any (q83 st b (.map (ks.eraseIdx j) (vs.eraseIdx j)))
 | some none=>K .any st
 | none=>False
@[simp] theorem xdel_s (b:Nat)(ks:List Value)(vs:List PV)(j:Nat)(st:q5f)(K:PV->q5f->Prop):xdel b ks vs (some (some j)) st K=K .any (q83 st b (.map (ks.eraseIdx j) (vs.eraseIdx j))):=rfl
@[simp] theorem xdel_n (b:Nat)(ks:List Value)(vs:List PV)(st:q5f)(K:PV->q5f->Prop):xdel b ks vs (some none) st K=K .any st:=rfl
def xcall (P:Program)(g:FuncId)(ps:List PV)(st:q5f)(Q:PEnd->q5f->Prop)(_:Tok Q:=⟨⟩):Prop:=PCalls P g ps st Q
def j98 (P:Program)(l:Nat)(ps:List PV)(st:q5f)(Q:PEnd->q5f->Prop)(_:Tok Q:=⟨⟩):Prop:=PRound P l ps st Q
def j4e (P:Program)(f:PV)(ps:List PV)(st:q5f)(Q:PEnd->q5f->Prop)(_:Tok Q:=⟨⟩):Prop:=z92 P f ps st Q
@[simp ↓,simp] theorem y1w (P:Program) (g:FuncId) (fs cs ps:List PV) (st:q5f) (Q:PEnd->q5f->Prop):j4e P (.func (.func g) fs cs) ps st Q=xcall P g (fs++ps++cs) st Q:=rfl
@[simp ↓,simp] theorem j99 (P:Program) (l:Nat) (ps:List PV) (st:q5f) (Q:PEnd->q5f->Prop):j4e P (.func (.yield l) [] []) ps st Q=j98 P l ps st Q:=rfl
def z5d (k:Nat)(zs:List PV)(p:PV)(st:q5f)(K:PV->q5f->Prop)(_:Tok K:=⟨⟩):Prop:=z4j k zs p st K
@[simp] theorem y33 (k:Nat)(zs:List PV)(st:q5f)(K:PV->q5f->Prop):z5d k zs (.val (.slice none 0 0)) st K=K .any st:=rfl
@[simp] theorem y0a (k:Nat)(zs:List PV)(st:q5f)(K:PV->q5f->Prop)(t:Bool)(cs:List PV):z5d k zs (.list t cs 0) st K=K .any st:=rfl
@[simp] theorem y34 (k:Nat)(zs:List PV)(st:q5f)(K:PV->q5f->Prop)(b off n cap:Nat):z5d k zs (.val (.slice (some ⟨b,off,none⟩) n cap)) st K =
  q5s (z73 (q55 st b)) fun r=>off+n*k<=r.2.length/\K .any (q83 st b (.arr r.1 (q5j r.2 off (List.replicate n zs).flatten))):=by
 simp only [z5d,z4j]
 cases h:q55 st b with
 | none=>simp [z73]
 | some o=>cases o <;> simp [z73]
def j4f (p:PV)(st:q5f)(K:PV->q5f->Prop)(_:Tok K:=⟨⟩):Prop:=z93 p st K
def v06 (p:PV)(st:q5f)(K:PV->q5f->Prop)(_:Tok K:=⟨⟩):Prop:=j7a p st K
def y56 (p:PV)(st:q5f)(K:PV->q5f->Prop)(_:Tok K:=⟨⟩):Prop:=z94 p st K
def v07 (K QP:PV->q5f->Prop)(e:PEnd)(st:q5f)(_:Tok (K,QP):=⟨⟩):Prop:=q89 K QP e st
section
variable (P:Program) (ρ:MX->PV) (st:q5f) (K QP:PV->q5f->Prop)
@[simp] theorem q5x (p:PV):v07 K QP (.ret p) st=K p st:=rfl
@[simp] theorem y35 (p:PV):v07 K QP (.panic p) st=QP p st:=rfl
theorem q62 (v:MVal)(h:y1u v=false):xop P (.val v) ρ st K QP=q63 v ρ st fun p=>K p st:=by
 have:y1c v ρ st K=False:=by
  unfold y1c
  split
  ·simp [y1u] at h
  ·rfl
 simp only [xop,mop,this,or_false]
 rfl
@[simp ↓] theorem mop_mv (x:MX):xop P (.val (.mv x)) ρ st K QP=q63 (.mv x) ρ st fun p=>K p st:=q62 P ρ st K QP _ rfl
@[simp ↓] theorem y85 (c a b:MX):xop P (.val (.pick c a b)) ρ st K QP=q63 (.pick c a b) ρ st fun p=>K p st:=q62 P ρ st K QP _ rfl
@[simp ↓] theorem y57 (zs:List PV) (parts:List (Nat × Nat × MX)):xop P (.val (.build zs parts)) ρ st K QP=q63 (.build zs parts) ρ st fun p=>K p st:=q62 P ρ st K QP _ rfl
@[simp ↓] theorem y86 (k:Nat) (agg:Bool) (x:MX):xop P (.val (.load k agg x)) ρ st K QP=q63 (.load k agg x) ρ st fun p=>K p st:=q62 P ρ st K QP _ rfl
@[simp ↓] theorem y0b (x:MX):xop P (.val (.nilCheck x)) ρ st K QP=q63 (.nilCheck x) ρ st fun p=>K p st:=q62 P ρ st K QP _ rfl
@[simp ↓] theorem v08 (op:BinOp) (T:TypeId) (x y:MX):xop P (.val (.bin op T x y)) ρ st K QP=q63 (.bin op T x y) ρ st fun p=>K p st:=q62 P ρ st K QP _ rfl
@[simp ↓] theorem y58 (neg:Bool) (ks:List LK) (x y:MX):xop P (.val (.eqAgg neg ks x y)) ρ st K QP=q63 (.eqAgg neg ks x y) ρ st fun p=>K p st:=q62 P ρ st K QP _ rfl
@[simp ↓] theorem mop_un (op:UnOp) (x:MX):xop P (.val (.un op x)) ρ st K QP=q63 (.un op x) ρ st fun p=>K p st:=q62 P ρ st K QP _ rfl
@[simp ↓] theorem y59 (k:IntKind) (x:MX):xop P (.val (.toInt k x)) ρ st K QP=q63 (.toInt k x) ρ st fun p=>K p st:=q62 P ρ st K QP _ rfl
@[simp ↓] theorem y1x (T:TypeId) (x:MX):xop P (.val (.mkIface T x)) ρ st K QP=q63 (.mkIface T x) ρ st fun p=>K p st:=q62 P ρ st K QP _ rfl
@[simp ↓] theorem y36 (fn:Fn) (first captured:List MX):xop P (.val (.mkFunc fn first captured)) ρ st K QP=q63 (.mkFunc fn first captured) ρ st fun p=>K p st:=q62 P ρ st K QP _ rfl
@[simp ↓] theorem j7t (off:Nat) (x:MX):xop P (.val (.fieldAddr off x)) ρ st K QP=q63 (.fieldAddr off x) ρ st fun p=>K p st:=q62 P ρ st K QP _ rfl
@[simp ↓] theorem j7u (k:Nat) (x i:MX):xop P (.val (.indexAddr k x i)) ρ st K QP=q63 (.indexAddr k x i) ρ st fun p=>K p st:=q62 P ρ st K QP _ rfl
@[simp ↓] theorem y0c (n k:Nat) (x i:MX):xop P (.val (.indexArr n k x i)) ρ st K QP=q63 (.indexArr n k x i) ρ st fun p=>K p st:=q62 P ρ st K QP _ rfl
@[simp ↓] theorem y0d (x i:MX):xop P (.val (.indexStr x i)) ρ st K QP=q63 (.indexStr x i) ρ st fun p=>K p st:=q62 P ρ st K QP _ rfl
@[simp ↓] theorem v09 (x:MX):xop P (.val (.len x)) ρ st K QP=q63 (.len x) ρ st fun p=>K p st:=q62 P ρ st K QP _ rfl
@[simp ↓] theorem v1c (x:MX):xop P (.val (.cap x)) ρ st K QP=q63 (.cap x) ρ st fun p=>K p st:=q62 P ρ st K QP _ rfl
@[simp ↓] theorem y37 (lk:Bool × List LK) (z:PV) (ok:Bool) (x i:MX):xop P (.val (.lookup lk z ok x i)) ρ st K QP=q63 (.lookup lk z ok x i) ρ st fun p=>K p st:=q62 P ρ st K QP _ rfl
@[simp ↓] theorem y6a (k:Nat) (x:MX) (lo hi mx:Option MX):xop P (.val (.slice k x lo hi mx)) ρ st K QP=q63 (.slice k x lo hi mx) ρ st fun p=>K p st:=q62 P ρ st K QP _ rfl
@[simp ↓] theorem y6b (x:MX):xop P (.val (.strOf x)) ρ st K QP=q63 (.strOf x) ρ st fun p=>K p st:=q62 P ρ st K QP _ rfl
@[simp ↓] theorem y1y (i:Nat) (x:MX):xop P (.val (.extract i x)) ρ st K QP=q63 (.extract i x) ρ st fun p=>K p st:=q62 P ρ st K QP _ rfl
@[simp ↓] theorem y38 (isMax:Bool) (xs:List MX):xop P (.val (.minmax isMax xs)) ρ st K QP=q63 (.minmax isMax xs) ρ st fun p=>K p st:=q62 P ρ st K QP _ rfl
@[simp ↓] theorem y39 (T:TypeId) (z:PV) (ok:Bool) (x:MX):xop P (.val (.assert T z ok x)) ρ st K QP=q63 (.assert T z ok x) ρ st fun p=>K p st:=q62 P ρ st K QP _ rfl
@[simp ↓] theorem v1d (T:TypeId) (len:Nat) (zs:List PV) (parts:List (Nat × Nat × MX)):xop P (.val (.buildSlice T len zs parts)) ρ st K QP =
  q5s (k0a zs (parts.map fun q=>(q.1,q.2.1,ρ q.2.2))) fun cs=>Lit T cs len st K:=by
 simp only [xop,mop,q7c,y1c,Lit]
 split <;> simp_all
@[simp ↓] theorem y4a (T:TypeId) (bytes k:Nat) (x y:MX):xop P (.append T bytes k x y) ρ st K QP=q5s (q6s k st (ρ y)) fun r=>q67 T bytes k (ρ x) r.1 r.2 st K:=by
 simp only [xop,mop]
 split
 ·rename_i h; simp only [h,q5t]; rfl
 ·rename_i h; simp only [h,q9f]
@[simp ↓] theorem y1z (T:TypeId) (bytes k:Nat) (zs:List PV) (x n:MX):xop P (.appendZ T bytes k zs x n) ρ st K QP=q5s (ρ n).int? fun q=>0<=q.2/\q.2<=9223372036854775807/\q67 T bytes k (ρ x) (List.replicate q.2.toNat zs).flatten q.2.toNat st K:=by
 simp only [xop,mop]
 split
 ·rename_i h; simp only [h,j0d,q5t]; rfl
 ·rename_i h
  simp only [q5s,eq_iff_iff,false_iff]
  rintro⟨⟨k,m⟩,h1, -⟩
  unfold PV.int? at h1
  split at h1
  ·rename_i h2; exact h _ _ h2
  ·cases h1
@[simp ↓] theorem y10 (T:TypeId) (bytes k:Nat) (zs:List PV) (l c:MX):xop P (.mkSlice T bytes k zs l c) ρ st K QP=q5s (ρ l).int? fun a=>q5s (ρ c).int? fun b=>0<=a.2/\a.2<=b.2/\b.2*bytes<=281474976710656/\b.2<=9223372036854775807 ∧
  Fresh st fun d=>K (.own d 0 a.2.toNat b.2.toNat) ((d,.arr T (List.replicate b.2.toNat zs).flatten)::st):=by
 simp only [xop,mop]
 split
 ·rename_i h1 h2; simp only [h1,h2,j0d,q5t]; rfl
 ·rename_i h
  simp only [q5s,eq_iff_iff,false_iff]
  rintro⟨⟨k,m⟩,h1,⟨k',m'⟩,h2, -⟩
  unfold PV.int? at h1 h2
  split at h1
  ·split at h2
   ·rename_i h3 _ _ _ h4; exact h _ _ _ _ h3 h4
   ·cases h2
  ·cases h1
@[simp ↓] theorem y87 (k:Nat) (x y:MX):xop P (.copy k x y) ρ st K QP=q5s (q6s k st (ρ y)) fun r=>j4b k (ρ x) r.1 r.2 st K:=by
 simp only [xop,mop]
 split
 ·rename_i h; simp only [h,q5t]; rfl
 ·rename_i h; simp only [h,q9f]
@[simp ↓] theorem y6c (neg:Bool) (nk:NK) (x:MX):xop P (.eqNil neg nk x) ρ st K QP=j7r neg nk (ρ x) st K:=rfl
@[simp ↓] theorem y6d:xop P .mkMap ρ st K QP=Fresh st fun b=>K (.val (.map (some b))) ((b,.map [] [])::st):=rfl
@[simp ↓] theorem y4b (kp:KP) (m k v:MX):xop P (.mapSet kp m k v) ρ st K QP=q5s (ρ m).map? fun b=>q5s (ρ k).key? fun kv=>q5s (map? (q55 st b)) fun r=>q8h kp kv=true/\v05 b kv (ρ v) r.1 r.2 (k36 kp kv r.1) st K:=by
 simp only [xop,mop]
 split
 ·rename_i b kv h1 h2
  simp only [h1,h2,j7s,q5t]
  split
  ·rename_i h3; simp only [h3,j4c,q5t]; rfl
  ·rename_i h3
   cases h4:q55 st b with
   | none=>simp [map?]
   | some o=>cases o <;> simp_all [map?]
 ·rename_i h
  simp only [q5s,eq_iff_iff,false_iff]
  rintro⟨b,h1,kv,h2, -⟩
  refine h b kv ?_ h2
  revert h1
  unfold PV.map?
  split <;> simp
  rintro rfl
  assumption
@[simp ↓] theorem y6e (T:TypeId) (zs:List PV):xop P (.alloc T zs) ρ st K QP=Fresh st fun b=>K (.ptr b 0) ((b,.arr T zs)::st):=rfl
@[simp ↓] theorem v1e (T:TypeId) (x:MX):xop P (.box T x) ρ st K QP=q5s (ρ x).cells fun cs=>Fresh st fun b=>K (.ptr b 0) ((b,.arr T cs)::st):=by
 simp only [xop,mop]; split <;> simp_all [Fresh]
@[simp ↓] theorem y6f (k:Nat) (x y:MX):xop P (.store k x y) ρ st K QP=q5s (ρ x).ptr? fun a=>q5s (ρ y).cells fun ps=>q5s (z73 (q55 st a.1)) fun r=>
  ps.length=k/\a.2+k<=r.2.length/\K .any (q83 st a.1 (.arr r.1 (q5j r.2 a.2 ps))):=by
 simp only [xop,mop]
 split
 ·rename_i b off ps h1 h2
  simp only [h1,h2,j7g,q5t]
  split
  ·rename_i h3; simp [h3]
  ·rename_i h3
   cases h4:q55 st b with
   | none=>simp [z73]
   | some o=>cases o <;> simp_all [z73]
 ·rename_i h1
  simp only [q5s,false_iff,eq_iff_iff]
  rintro⟨⟨b,off⟩,h2,ps,h3, -⟩
  refine h1 b off ps ?_ h3
  revert h2
  unfold PV.ptr?
  split <;> simp
  intro e1 e2
  subst e1; subst e2
  assumption
@[simp ↓] theorem y88 (f:MX) (args:List MX):xop P (.call f args) ρ st K QP=j4e P (ρ f) (args.map ρ) st fun e st'=>v07 K QP e st':=rfl
@[simp ↓] theorem y6g (k:Nat) (zs:List PV) (x:MX):xop P (.clear k zs x) ρ st K QP=z5d k zs (ρ x) st K:=rfl
@[simp ↓] theorem y0e (x:MX):xop P (.rangeMap x) ρ st K QP=j4f (ρ x) st K:=rfl
@[simp ↓] theorem y89 (x:MX):xop P (.next x) ρ st K QP=v06 (ρ x) st K:=rfl
@[simp ↓] theorem y6h (x:MX):xop P (.entry x) ρ st K QP=y56 (ρ x) st K:=rfl
@[simp ↓] theorem y6i (x:MX):xop P (.bytes x) ρ st K QP=q5s (ρ x).str? fun s=>s.size<=140737488355328/\K (.list false (k1t s) s.size) st:=by
 simp only [xop,mop]
 split <;> simp_all [PV.str?]
@[simp ↓] theorem y6j (x:MX):xop P (.panic x) ρ st K QP=q5s (ρ x).iface? fun q=>QP (.iface q.1 q.2) st:=by
 simp only [xop,mop]
 split <;> simp_all [PV.iface?]
end
def z7c (P:Program)(l:List MInst)(s:PS)(K:PS->Prop)(QP:PV->q5f->Prop)(_:Tok (l,K,QP):=⟨⟩):Prop:=z4k P l s K QP
def xwp (P:Program)(c:MCode)(Q:q7e)(s:PS)(_:Tok (c,Q):=⟨⟩):Prop:=mwp P c Q s
def k70 (K:PS->Prop)(Q:q7e)(e:MExit)(s:PS)(_:Tok (K,Q):=⟨⟩):Prop:=j1k K Q e s
def z5e (id:Nat)(Q:q7e)(e:MExit)(s:PS)(_:Tok Q:=⟨⟩):Prop:=z2h id Q e s
def y11 (P:Program)(c:MCode)(Q:q7e)(s:PS)(_:Tok (c,Q):=⟨⟩):Prop:=z2i View (mwp P c) Q s
def y0f (P:Program)(f:PV)(ps:List Nat)(a b:MCode)(Q:q7e)(s:PS)(_:Tok (a,b,Q):=⟨⟩):Prop:=
 match f with
 | .func (.func f) fs cs=>k0b P f/\∀ key:LoopKey,key.Conv P ps a b->∀ l,q54 s.st l ->
   PCalls P f (fs++[.func (.yield l) [] []]++cs) ((l,.loop key s.env .ready none)::s.st) (k3p l Q s.env)
 | _=>False
def z74:Option PObj->Option (LoopKey × Env × LoopState × Option Code)
 | some (.loop key e state pend)=>some (key,e,state,pend)
 | _=>none
@[simp] theorem k6u (key:LoopKey)(e:Env)(state:LoopState)(pend:Option Code):z74 (some (.loop key e state pend))=some (key,e,state,pend):=rfl
theorem z1k {o:Option PObj}(h:∀ key e state pend,o=some (.loop key e state pend)->False):z74 o=none:=by
 unfold z74
 split
 ·rename_i key e state pend; exact (h key e state pend rfl).elim
 ·rfl
def j7v (pend:Option Code)(Q:q7e)(s:PS)(_:Tok Q:=⟨⟩):Prop:=
 match pend with
 | none=>Q .normal s
 | some .ret=>Q .ret s
 | some (.exit id)=>Q (.exit id) s
 | _=>False
@[simp ↓,simp] theorem y4c (Q:q7e) (s:PS):j7v none Q s=Q .normal s:=rfl
@[simp ↓,simp] theorem y6k (Q:q7e) (s:PS):j7v (some .ret) Q s=Q .ret s:=rfl
@[simp ↓,simp] theorem y4d (id:Nat) (Q:q7e) (s:PS):j7v (some (.exit id)) Q s=Q (.exit id) s:=rfl
def j7w (l:Nat)(Q:q7e)(e:Env)(en:PEnd)(st:q5f)(_:Tok Q:=⟨⟩):Prop:=k3p l Q e en st
@[simp ↓,simp] theorem y6l (l:Nat) (Q:q7e) (e:Env) (p:PV) (st:q5f):j7w l Q e (.ret p) st=q5s (z74 (q55 st l)) fun r=>r.2.2.1 ≠ .busy/\j7v r.2.2.2 Q ⟨e,k2l l st⟩:=by
 simp only [j7w,k3p]
 split
 ·rename_i h; simp only [h,k6u,q5t]
  congr 1
 ·rename_i h; rw [z1k h]; simp
@[simp ↓,simp] theorem y12 (l:Nat) (Q:q7e) (e:Env) (p:PV) (st:q5f):j7w l Q e (.panic p) st=Q (.panic p) ⟨[],st⟩:=rfl
theorem z75 {P:Program}{f:FuncId}{fs cs:List PV}{ps:List Nat}{a b:MCode}{Q:q7e}{e:Env}{st:q5f}(hent:k0b P f)
  (h:∀ key:LoopKey,key.Conv P ps a b->∀ l,q54 st l->xcall P f (fs++[.func (.yield l) [] []]++cs) ((l,.loop key e .ready none)::st) fun en s=>j7w l Q e en s):y0f P (.func (.func f) fs cs) ps a b Q ⟨e,st⟩:=⟨hent,h⟩
@[simp] theorem y4e (e:Env)(t:Nat)(ts:List Nat)(p:PV)(ps:List PV):k8u e (t::ts) (p::ps)=k8u (k0m e (some t) p) ts ps:=rfl
@[simp] theorem y6m (e:Env):k8u e [] []=e:=rfl
def z26 (l:Nat)(Q:PEnd->q5f->Prop)(ex:MExit)(s:PS)(_:Tok Q:=⟨⟩):Prop:=k8v l Q ex s
def k4q (P:Program)(l:Nat)(b:MCode)(Q:PEnd->q5f->Prop)(ex:MExit)(s:PS)(_:Tok (b,Q):=⟨⟩):Prop:=j0a P l b Q ex s
section
variable (l id:Nat) (Q:PEnd->q5f->Prop) (e:Env) (st:q5f)
@[simp ↓] theorem j6z:z26 l Q .normal ⟨e,st⟩=q5s (z74 (q55 st l)) fun r=>Q (.ret (.bool true)) (q83 st l (.loop r.1 r.2.1 .ready none)):=by
 simp only [z26,k8v]
 split
 ·rename_i h; simp only [h,k6u,q5t]
 ·rename_i h; rw [z1k h]; simp
@[simp ↓] theorem j7x (p:PV) (s:PS):z26 l Q (.panic p) s=False:=rfl
@[simp ↓] theorem j60 (P:Program) (b:MCode):k4q P l b Q .normal ⟨e,st⟩=q5s (z74 (q55 st l)) fun r=>r.2.2.1=.ready/\xwp P b (fun ex s=>z26 l Q ex s) ⟨e,q83 st l (.loop r.1 r.2.1 .busy r.2.2.2)⟩:=by
 simp only [k4q,j0a]
 split
 ·rename_i h; simp only [h,k6u,q5t,true_and]; rfl
 ·rename_i h
  simp only [q5s,eq_iff_iff,false_iff]
  rintro⟨⟨key,e',state,pend⟩,h1,h2, -⟩
  simp only at h2
  subst h2
  unfold z74 at h1
  split at h1
  ·rename_i h3; cases h1; exact h _ _ _ h3
  ·cases h1
@[simp ↓] theorem y13 (P:Program) (b:MCode) (s:PS):k4q P l b Q .ret s=False:=rfl
@[simp ↓] theorem y0g (P:Program) (b:MCode) (s:PS):k4q P l b Q (.exit id) s=False:=rfl
@[simp ↓] theorem j7y (P:Program) (b:MCode) (p:PV) (s:PS):k4q P l b Q (.panic p) s=False:=rfl
end
theorem z78 {P:Program}(q5n:P.follows .mixedOrders=true){l:Nat}{key:LoopKey}{params:List Nat}{ma mb:MCode}(hconv:key.Conv P params ma mb){e:Env}{st:q5f}(hget:q55 st l=some (.loop key e .ready none))
  {args:List PV} (hlen:params.length=args.length) {Q:PEnd->q5f->Prop} (h:xwp P ma (fun ex s=>k4q P l mb Q ex s) ⟨k8u e params args,st⟩):PRound P l args st Q:=z2y q5n hconv hget hlen h
def z5f (Q:q7e)(p:PV)(st:q5f)(_:Tok Q:=⟨⟩):Prop:=Q (.panic p) ⟨[],st⟩
def j61 (rs:List MRes)(R E:PV->q5f->Prop)(e:MExit)(s:PS)(_:Tok (R,E):=⟨⟩):Prop:=k1v rs R E e s
def j62 (s:PS)(rs:List MRes)(K:List PV->Prop)(_:Tok K:=⟨⟩):Prop:=y3k s rs K
section
variable (P:Program) (K:PS->Prop) (QP:PV->q5f->Prop) (Q:q7e) (s:PS) (e:Env) (st:q5f)
@[simp ↓] theorem y9a:z7c P [] s K QP=K s:=rfl
@[simp ↓] theorem y6n (d:Option Nat) (op:MOp) (l:List MInst):z7c P (⟨d,none,op⟩::l) ⟨e,st⟩ K QP=xop P op (q57 e) st (fun p st'=>q93 (⟨k0m e d p,st'⟩:PS) fun s=>z7c P l s K QP) QP:=rfl
theorem j13 {p:PV}(h:∀ c,p=.val (.bool c)->False):p.bool?=none:=by
 unfold PV.bool?
 split
 ·rename_i c; exact (h c rfl).elim
 ·rfl
theorem k76 {p:PV}(h:∀ c,p=.val (.bool c)->False)(h2:∀ vs,p=.val (.tuple vs)->False):p.gd?=none:=by
 unfold PV.gd?
 split
 ·rename_i c; exact (h c rfl).elim
 ·rename_i c; exact (h2 c rfl).elim
 ·rfl
@[simp ↓] theorem y0h (d:Option Nat) (t:Nat) (op:MOp) (l:List MInst):z7c P (⟨d,some (t,true),op⟩::l) ⟨e,st⟩ K QP=q5s (q6g e t).gd? fun c=>
  onG c (q93 (z2g e t true) fun e=>xop P op (q57 e) st (fun p st'=>q93 (⟨k0m e d p,st'⟩:PS) fun s=>z7c P l s K QP) QP)
   (q93 (⟨k0m (z2g e t false) d .undef,st⟩:PS) fun s=>z7c P l s K QP) (q93 (⟨k0m e d .undef,st⟩:PS) fun s=>z7c P l s K QP):=by
 simp only [z7c,z4k]
 split
 ·rename_i c h; simp only [h,k75,q5t,j7o,k5p]; cases c <;> simp [xop]
 ·rename_i vs h
  have hg:(q6g e t).gd?=some .skip:=by rw [h]; rfl
  rw [hg,q5t]
  rfl
 ·rename_i h h2; rw [k76 h h2]; simp
@[simp ↓] theorem y0i (d:Option Nat) (t:Nat) (op:MOp) (l:List MInst):z7c P (⟨d,some (t,false),op⟩::l) ⟨e,st⟩ K QP=q5s (q6g e t).gd? fun c=>
  onG c (q93 (⟨k0m (z2g e t true) d .undef,st⟩:PS) fun s=>z7c P l s K QP)
   (q93 (z2g e t false) fun e=>xop P op (q57 e) st (fun p st'=>q93 (⟨k0m e d p,st'⟩:PS) fun s=>z7c P l s K QP) QP) (q93 (⟨k0m e d .undef,st⟩:PS) fun s=>z7c P l s K QP):=by
 simp only [z7c,z4k]
 split
 ·rename_i c h; simp only [h,k75,q5t,j7o,k5p]; cases c <;> simp [xop]
 ·rename_i vs h
  have hg:(q6g e t).gd?=some .skip:=by rw [h]; rfl
  rw [hg,q5t]
  rfl
 ·rename_i h h2; rw [k76 h h2]; simp
@[simp ↓] theorem y9b:xwp P .skip Q s=Q .normal s:=rfl
@[simp ↓] theorem y4f (l:List MInst) (ks:List Nat):xwp P (.region l ks) Q s=z7c P l s (fun s'=>q93 (⟨q8s ks s'.env,s'.st⟩:PS) fun s'=>Q .normal s') (fun p st'=>z5f Q p st'):=rfl
@[simp ↓] theorem v1f (a b:MCode):xwp P (.seq a b) Q s=xwp P a (fun e s'=>k70 (fun s'=>xwp P b Q s') Q e s') s:=rfl
@[simp ↓] theorem y9c (c:MX) (a b:MCode):xwp P (.cond c a b) Q ⟨e,st⟩=q5s (q57 e c).bool? fun t=>onB t (xwp P a Q ⟨e,st⟩) (xwp P b Q ⟨e,st⟩):=by
 simp only [xwp,mwp]
 split
 ·rename_i t h; simp only [h,j11,q5t]; cases t <;> simp
 ·rename_i h; rw [j13 h]; simp
@[simp ↓] theorem y6o (id:Nat) (c:MCode):xwp P (.block id c) Q s=xwp P c (fun e s'=>z5e id Q e s') s:=rfl
@[simp ↓] theorem y9d (c:MCode):xwp P (.loop c) Q s=y11 P c Q s:=rfl
@[simp ↓] theorem j7z (g:MX) (ps:List Nat) (a b:MCode):xwp P (.rangeFunc g ps a b) Q ⟨e,st⟩=y0f P (q57 e g) ps a b Q ⟨e,st⟩:=rfl
@[simp ↓] theorem y9e (id:Nat):xwp P (.exit id) Q s=Q (.exit id) s:=rfl
@[simp ↓] theorem v1g:xwp P .ret Q s=Q .ret s:=rfl
@[simp ↓] theorem y0j:k70 K Q .normal s=K s:=rfl
@[simp ↓] theorem y4g (id:Nat):k70 K Q (.exit id) s=Q (.exit id) s:=rfl
@[simp ↓] theorem y6p:k70 K Q .ret s=Q .ret s:=rfl
@[simp ↓] theorem y14 (p:PV):k70 K Q (.panic p) s=Q (.panic p) s:=rfl
@[simp ↓] theorem j70 (id:Nat):z5e id Q .normal s=Q .normal s:=rfl
@[simp ↓] theorem y15 (id j:Nat):z5e id Q (.exit j) s=if j=id then Q .normal s else Q (.exit j) s:=rfl
@[simp ↓] theorem y4h (id:Nat):z5e id Q .ret s=Q .ret s:=rfl
@[simp ↓] theorem y0k (id:Nat) (p:PV):z5e id Q (.panic p) s=Q (.panic p) s:=rfl
@[simp ↓] theorem y6q (p:PV) (st':q5f):z5f Q p st'=Q (.panic p) ⟨[],st'⟩:=rfl
section
variable (rs:List MRes) (R E:PV->q5f->Prop)
@[simp ↓] theorem y16:j61 rs R E .normal s=j62 s rs fun ps=>R (k2t ps) s.st:=rfl
@[simp ↓] theorem y9f:j61 rs R E .ret s=j62 s rs fun ps=>R (k2t ps) s.st:=rfl
@[simp ↓] theorem y4i (p:PV):j61 rs R E (.panic p) s=E p s.st:=rfl
@[simp ↓] theorem y6r (id:Nat):j61 rs R E (.exit id) s=False:=rfl
end
@[simp ↓] theorem y9g (K:List PV->Prop):j62 s [] K=K []:=rfl
@[simp ↓] theorem y9h (K:List PV->Prop) (t:Nat) (rs:List MRes):j62 ⟨e,st⟩ (.tmp t::rs) K=j62 ⟨e,st⟩ rs fun ps=>K (q6g e t::ps):=rfl
@[simp ↓] theorem y6s (K:List PV->Prop) (t k:Nat) (agg:Bool) (rs:List MRes):j62 ⟨e,st⟩ (.cell t k agg::rs) K=q5s (k2k st (q6g e t)) fun r=>k0i r.1 r.2 k agg fun p=>j62 ⟨e,st⟩ rs fun ps=>K (p::ps):=by
 have:j62 ⟨e,st⟩ (.cell t k agg::rs) K=q63 (.load k agg (.tmp t)) (q57 e) st fun p=>j62 ⟨e,st⟩ rs fun ps=>K (p::ps):=rfl
 rw [this,j34]
 rfl
end
theorem j4g (op:BinOp)(p q:PV)(K:PV->Prop):k8k op p q K ↔ ∃ r,k8k op p q (fun x=>x=r)/\K r:=by
 unfold k8k
 repeat' split
 all_goals first | (simp; done) | (constructor <;> grind)
theorem k7k (k b off n cap:Nat)(lo hi mx:Option Int)(K:PV->Prop):q90 k b off n cap lo hi mx K ↔ ∃ r,q90 k b off n cap lo hi mx (fun x=>x=r)/\K r:=by
 unfold q90
 cases lo with
 | none=>simp only; constructor <;> grind
 | some l=>
  simp only
  constructor
  ·rintro⟨h0,h1,h2,h3,h4,h5,h6,h7⟩
   by_cases hl:l=mx.getD cap
   ·exact⟨_,⟨h0,h1,h2,h3,h4,h5,fun _=>rfl,fun h=>by omega⟩,h6 hl⟩
   ·exact⟨_,⟨h0,h1,h2,h3,h4,h5,fun h=>absurd h hl,fun _=>rfl⟩,h7 (by omega)⟩
  ·rintro⟨r,⟨h0,h1,h2,h3,h4,h5,h6,h7⟩,h8⟩
   exact⟨h0,h1,h2,h3,h4,h5,fun h=>by rw [h6 h]; exact h8,fun h=>by rw [h7 h]; exact h8⟩
theorem z27 (k:Nat)(t:Bool)(cs:List PV)(n:Nat)(p:PV)(lo hi mx:Option Int)(K:PV->Prop):k2s k t cs n p lo hi mx K ↔ ∃ r,k2s k t cs n p lo hi mx (fun x=>x=r)/\K r:=by
 unfold k2s
 split <;> first | (simp; done) | (constructor <;> grind)
theorem z79 (k:Nat)(p:PV)(lo hi mx:Option Int)(K:PV->Prop):k1u k p lo hi mx K ↔ ∃ r,k1u k p lo hi mx (fun x=>x=r)/\K r:=by
 unfold k1u
 split
 ·constructor
  ·rintro⟨h1,h2⟩; exact⟨p,⟨h1,rfl⟩,h2⟩
  ·rintro⟨r,⟨h1,rfl⟩,h2⟩; exact⟨h1,h2⟩
 split
 ·exact z27 ..
 ·split
  ·exact k7k ..
  ·simp
theorem z0f (n k:Nat)(p:PV)(lo hi mx:Option Int)(K:PV->Prop):q72 n k p lo hi mx K ↔ ∃ r,q72 n k p lo hi mx (fun x=>x=r)/\K r:=by
 unfold q72
 split
 ·constructor <;> grind
 ·exact k7k ..
 ·simp
theorem z0g (s:ByteArray)(lo hi:Option Int)(K:PV->Prop):q88 s lo hi K ↔ ∃ r,q88 s lo hi (fun x=>x=r)/\K r:=by
 unfold q88
 split <;> first | (simp; done) | (constructor <;> grind)
theorem k5q (v:MVal)(ρ:MX->PV)(st:q5f)(K:PV->Prop):q7c v ρ st K ↔ ∃ p,q7c v ρ st (fun q=>q=p)/\K p:=by
 cases v
 case bin op T x y=>exact j4g op _ _ K
 case pick c a b=>
  simp only [q7c]
  split
  ·rename_i t _
   cases t <;> simp
  ·simp
 case slice k x lo hi mx=>
  simp only [q7c]
  split
  ·exact z79 ..
  ·simp
 case sliceArr n k x lo hi mx=>
  simp only [q7c]
  split
  ·exact z0f ..
  ·simp
 case sliceStr x lo hi=>
  simp only [q7c]
  split
  ·exact z0g ..
  ·simp
 all_goals simp only [q7c]
 all_goals (repeat' split)
 all_goals first | (simp; done) | (constructor <;> grind)
def k0n (P:Program)(Cl:q5f->Prop)(l:List (DFlag × MInst))(s:PS)(K:PS->Prop)(QP:PV->q5f->Prop)(_:Tok (Cl,l,K,QP):=⟨⟩):Prop:=mdraw P Cl l s K QP
def k43 (P:Program)(Cl:q5f->Prop)(fl:DFlag)(op:MOp)(e:Env)(st:q5f)(K QP:PV->q5f->Prop)(_:Tok (Cl,fl,op,K,QP):=⟨⟩):Prop:=mdraw.one P Cl fl ⟨none,none,op⟩ ⟨e,st⟩ K QP
theorem Rets.xcall {P:Program}{g:FuncId}{ps:List PV}{st:q5f}{p:PV}(h:Rets P g ps st p){Q:PEnd->q5f->Prop}(hk:Q (.ret p) st):xcall P g ps st Q:=h.calls hk
def z5g (P:Program)(Cl:q5f->Prop)(g:FuncId)(ps:List PV)(K:PV->Prop)(QP:PV->q5f->Prop)(_:Tok (Cl,K,QP):=⟨⟩):Prop:=
 ∃ p,(∀ st,Cl st->PCalls P g ps st (fun en st'=>st'=st/\(en=.ret p\/∃ q,en=.panic q/\QP q st)))/\K p
theorem q56 {P:Program}{Cl:q5f->Prop}{g:FuncId}{ps:List PV}{p:PV}(h:∀ st,Rets P g ps st p){K:PV->Prop}{QP:PV->q5f->Prop}(hk:K p):z5g P Cl g ps K QP:=
 ⟨p,fun st _=>PCalls.mono (h st) fun _ _ ⟨h1,h2⟩=>⟨h2,.inl h1⟩,hk⟩
def k1k (Cl:q5f->Prop)(k:Nat)(agg:Bool)(p:PV)(K:PV->Prop)(_:Tok (Cl,K):=⟨⟩):Prop:=
 ∃ q,(∀ st,Cl st->q7c (.load k agg (.const p)) (q57 []) st (fun r=>r=q))/\K q
theorem z0h {Cl:q5f->Prop}{k:Nat}{agg:Bool}{cs:List PV}{off:Nat}{K:PV->Prop}(h:k0i cs off k agg K):k1k Cl k agg (.iptr cs off) K:=by
 have h':q7c (.load k agg (.const (.iptr cs off))) (q57 []) [] K:=h
 obtain⟨q,h1,h2⟩:=(k5q _ _ _ _).1 h'
 exact⟨q,fun _ _=>h1,h2⟩
theorem z28 {st0:q5f}{M:List Nat}{k:Nat}{agg:Bool}{b off:Nat}{T:TypeId}{cs:List PV}{K:PV->Prop}(hb:b ∉ M)(hg:q55 st0 b=some (.arr T cs))(h:k0i cs off k agg K):k1k (Cls st0 M) k agg (.ptr b off) K:=by
 have key:∀ (st:q5f) (K':PV->Prop),q55 st b=some (.arr T cs)->q7c (.load k agg (.const (.ptr b off))) (q57 []) st K'=k0i cs off k agg K':=by
  intro st K' hst
  simp only [q7c,q57,k2k,hst]
  rfl
 obtain⟨q,h1,h2⟩:=(k5q _ _ _ _).1 ((key st0 K hg).symm ▸ h)
 exact⟨q,fun st hst=>by rw [key st _ (hst b hb _ hg)]; rwa [key st0 _ hg] at h1,h2⟩
@[simp] theorem y9i (b:Nat):q54 [] b=True:=propext ⟨fun _=>trivial,fun _=>trivial⟩
@[simp] theorem q7j (c:Nat)(o:PObj)(st:q5f)(b:Nat):q54 ((c,o)::st) b=((¬ c=b/\¬ b=c)/\q54 st b):=propext ⟨fun h=>h,fun h=>h⟩
@[simp] theorem y9j (c:Nat):q55 [] c=none:=by rw [q55]
@[simp] theorem y6t (b:Nat)(o:PObj)(st:q5f)(c:Nat):q55 ((b,o)::st) c=if b=c then some o else q55 st c:=by rw [q55]
theorem Cls.self (st:q5f)(M:List Nat):Cls st M st:=fun _ _ _ h=>h
@[simp] theorem y9k (st:q5f)(M:List Nat):Cls st M st=True:=eq_true (Cls.self st M)
@[simp] theorem q6i {st0 st:q5f}{M:List Nat}{b:Nat}{o:PObj}(hn:q54 st b)(h:Cls st0 M st):Cls st0 M ((b,o)::st):=fun c hc x hx=>by
 have:=h c hc x hx
 simp only [q55]
 rw [if_neg]
 ·exact this
 ·rintro rfl; rw [k1r hn] at this; cases this
@[simp] theorem j0g {st0 st:q5f}{M:List Nat}{b:Nat}{o:PObj}(h:Cls st0 M st):Cls ((b,o)::st0) M ((b,o)::st):=fun c hc x hx=>by
 simp only [q55] at hx ⊢
 split
 ·rename_i e; rw [if_pos e] at hx; exact hx
 ·rename_i e; rw [if_neg e] at hx; exact h c hc x hx
@[simp] theorem Cls_in {st0 st:q5f}{M:List Nat}{b:Nat}{o o':PObj}(hb:b ∈ M)(h:Cls st0 M st):Cls ((b,o)::st0) M ((b,o')::st):=fun c hc x hx=>by
 have hne:b ≠ c:=by rintro rfl; exact hc hb
 simp only [q55,if_neg hne] at hx ⊢
 exact h c hc x hx
@[simp] theorem j71 {st0:q5f}{M:List Nat}{k:Nat}{agg:Bool}{b off:Nat}{K:PV->Prop}(hb:b ∉ M):k1k (Cls st0 M) k agg (.val (.pointer (some ⟨b,off,none⟩))) K=q5s (z73 (q55 st0 b)) fun r=>k0i r.2 off k agg K:=by
 apply propext
 cases hg:q55 st0 b with
 | none=>
  simp only [z73,q9f,iff_false]
  rintro⟨q,h1, -⟩
  have:=h1 st0 (Cls.self _ _)
  simp [q7c,q57,k2k,hg] at this
 | some o=>
  cases o with
  | arr T cs=>
   simp only [j7h,q5t]
   refine⟨?_,fun h=>z28 hb hg h⟩
   rintro⟨q,h1,h2⟩
   have:=h1 st0 (Cls.self _ _)
   have h3:q7c (.load k agg (.const (.ptr b off))) (q57 []) st0 K:=(k5q _ _ _ _).2 ⟨q,this,h2⟩
   simpa only [q7c,q57,k2k,hg,k0i] using h3
  | _=>
   simp only [z73,q9f,iff_false]
   rintro⟨q,h1, -⟩
   have:=h1 st0 (Cls.self _ _)
   simp [q7c,q57,k2k,hg] at this
@[simp] theorem j72 {st0:q5f}{M:List Nat}{k:Nat}{agg:Bool}{cs:List PV}{off:Nat}{K:PV->Prop}:k1k (Cls st0 M) k agg (.iptr cs off) K=k0i cs off k agg K:=by
 apply propext
 refine⟨?_,fun h=>z0h h⟩
 rintro⟨q,h1,h2⟩
 exact (k5q (.load k agg (.const (.iptr cs off))) (q57 []) st0 K).2 ⟨q,h1 st0 (Cls.self _ _),h2⟩
section
variable (P:Program) (Cl:q5f->Prop) (K:PS->Prop) (QP:PV->q5f->Prop) (K1:PV->q5f->Prop) (Q:q7e) (e:Env) (st:q5f)
@[simp ↓] theorem y6u (s:PS):k0n P Cl [] s K QP=K s:=rfl
@[simp ↓] theorem y4j (fl:DFlag) (d:Option Nat) (op:MOp) (l:List (DFlag × MInst)):k0n P Cl ((fl,⟨d,none,op⟩)::l) ⟨e,st⟩ K QP =
  k43 P Cl fl op e st (fun p st'=>q93 (⟨k0m e d p,st'⟩:PS) fun s=>k0n P Cl l s K QP) QP:=rfl
@[simp ↓] theorem j73 (fl:DFlag) (d:Option Nat) (t:Nat) (op:MOp) (l:List (DFlag × MInst)):k0n P Cl ((fl,⟨d,some (t,true),op⟩)::l) ⟨e,st⟩ K QP=q5s (q6g e t).gd? fun c=>
  onG c (q93 (z2g e t true) fun e=>k43 P Cl fl op e st (fun p st'=>q93 (⟨k0m e d p,st'⟩:PS) fun s=>k0n P Cl l s K QP) QP)
   (q93 (⟨k0m (z2g e t false) d .undef,st⟩:PS) fun s=>k0n P Cl l s K QP) (q93 (⟨k0m e d .undef,st⟩:PS) fun s=>k0n P Cl l s K QP):=by
 simp only [k0n,mdraw]
 split
 ·rename_i c h; simp only [h,k75,q5t,j7o,k5p]; cases c <;> simp <;> rfl
 ·rename_i vs h
  have hg:(q6g e t).gd?=some .skip:=by rw [h]; rfl
  rw [hg,q5t]
  rfl
 ·rename_i h h2; rw [k76 h h2]; simp
@[simp ↓] theorem j74 (fl:DFlag) (d:Option Nat) (t:Nat) (op:MOp) (l:List (DFlag × MInst)):k0n P Cl ((fl,⟨d,some (t,false),op⟩)::l) ⟨e,st⟩ K QP=q5s (q6g e t).gd? fun c=>
  onG c (q93 (⟨k0m (z2g e t true) d .undef,st⟩:PS) fun s=>k0n P Cl l s K QP)
   (q93 (z2g e t false) fun e=>k43 P Cl fl op e st (fun p st'=>q93 (⟨k0m e d p,st'⟩:PS) fun s=>k0n P Cl l s K QP) QP) (q93 (⟨k0m e d .undef,st⟩:PS) fun s=>k0n P Cl l s K QP):=by
 simp only [k0n,mdraw]
 split
 ·rename_i c h; simp only [h,k75,q5t,j7o,k5p]; cases c <;> simp <;> rfl
 ·rename_i vs h
  have hg:(q6g e t).gd?=some .skip:=by rw [h]; rfl
  rw [hg,q5t]
  rfl
 ·rename_i h h2; rw [k76 h h2]; simp
@[simp ↓] theorem j63 (v:MVal):k43 P Cl .early (.val v) e st K1 QP=q63 v (q57 e) st fun p=>K1 p st:=rfl
@[simp ↓] theorem y6v (op:MOp):k43 P Cl .last op e st K1 QP=xop P op (q57 e) st K1 QP:=rfl
@[simp ↓] theorem y6w (op:MOp):k43 P Cl .hard op e st K1 QP=xop P op (q57 e) st (fun p st'=>Cl st'/\K1 p st') QP:=rfl
theorem q5z (v:MVal)(hv:q9o v=false):k43 P Cl .late (.val v) e st K1 QP=q63 v (q57 e) [] fun p=>K1 p st:=by
 simp only [k43,mdraw.one,z7g,hv,Bool.false_eq_true,if_false,q63]
 exact propext (k5q v (q57 e) [] fun p=>K1 p st).symm
@[simp ↓] theorem y0l (x:MX):k43 P Cl .late (.val (.mv x)) e st K1 QP=q63 (.mv x) (q57 e) [] fun p=>K1 p st:=q5z P Cl QP K1 e st _ rfl
@[simp ↓] theorem j64 (c a b:MX):k43 P Cl .late (.val (.pick c a b)) e st K1 QP=q63 (.pick c a b) (q57 e) [] fun p=>K1 p st:=q5z P Cl QP K1 e st _ rfl
@[simp ↓] theorem j4h (zs:List PV) (parts:List (Nat × Nat × MX)):k43 P Cl .late (.val (.build zs parts)) e st K1 QP=q63 (.build zs parts) (q57 e) [] fun p=>K1 p st:=q5z P Cl QP K1 e st _ rfl
@[simp ↓] theorem j0h (x:MX):k43 P Cl .late (.val (.nilCheck x)) e st K1 QP=q63 (.nilCheck x) (q57 e) [] fun p=>K1 p st:=q5z P Cl QP K1 e st _ rfl
@[simp ↓] theorem j75 (op:BinOp) (T:TypeId) (x y:MX):k43 P Cl .late (.val (.bin op T x y)) e st K1 QP=q63 (.bin op T x y) (q57 e) [] fun p=>K1 p st:=q5z P Cl QP K1 e st _ rfl
@[simp ↓] theorem j4i (neg:Bool) (ks:List LK) (x y:MX):k43 P Cl .late (.val (.eqAgg neg ks x y)) e st K1 QP=q63 (.eqAgg neg ks x y) (q57 e) [] fun p=>K1 p st:=q5z P Cl QP K1 e st _ rfl
@[simp ↓] theorem y0m (op:UnOp) (x:MX):k43 P Cl .late (.val (.un op x)) e st K1 QP=q63 (.un op x) (q57 e) [] fun p=>K1 p st:=q5z P Cl QP K1 e st _ rfl
@[simp ↓] theorem j4j (k:IntKind) (x:MX):k43 P Cl .late (.val (.toInt k x)) e st K1 QP=q63 (.toInt k x) (q57 e) [] fun p=>K1 p st:=q5z P Cl QP K1 e st _ rfl
@[simp ↓] theorem z8a (off:Nat) (x:MX):k43 P Cl .late (.val (.fieldAddr off x)) e st K1 QP=q63 (.fieldAddr off x) (q57 e) [] fun p=>K1 p st:=q5z P Cl QP K1 e st _ rfl
@[simp ↓] theorem j4k (off k:Nat) (agg:Bool) (x:MX):k43 P Cl .late (.val (.field off k agg x)) e st K1 QP=q63 (.field off k agg x) (q57 e) [] fun p=>K1 p st:=q5z P Cl QP K1 e st _ rfl
@[simp ↓] theorem z8b (k:Nat) (x i:MX):k43 P Cl .late (.val (.indexAddr k x i)) e st K1 QP=q63 (.indexAddr k x i) (q57 e) [] fun p=>K1 p st:=q5z P Cl QP K1 e st _ rfl
@[simp ↓] theorem j0i (n k:Nat) (x i:MX):k43 P Cl .late (.val (.indexArr n k x i)) e st K1 QP=q63 (.indexArr n k x i) (q57 e) [] fun p=>K1 p st:=q5z P Cl QP K1 e st _ rfl
@[simp ↓] theorem j76 (x:MX):k43 P Cl .late (.val (.len x)) e st K1 QP=q63 (.len x) (q57 e) [] fun p=>K1 p st:=q5z P Cl QP K1 e st _ rfl
@[simp ↓] theorem j4l (k:Nat) (x:MX) (lo hi mx:Option MX):k43 P Cl .late (.val (.slice k x lo hi mx)) e st K1 QP=q63 (.slice k x lo hi mx) (q57 e) [] fun p=>K1 p st:=q5z P Cl QP K1 e st _ rfl
@[simp ↓] theorem j0j (n k:Nat) (x:MX) (lo hi mx:Option MX):k43 P Cl .late (.val (.sliceArr n k x lo hi mx)) e st K1 QP=q63 (.sliceArr n k x lo hi mx) (q57 e) [] fun p=>K1 p st:=q5z P Cl QP K1 e st _ rfl
@[simp ↓] theorem j14 (i:Nat) (x:MX):k43 P Cl .late (.val (.extract i x)) e st K1 QP=q63 (.extract i x) (q57 e) [] fun p=>K1 p st:=q5z P Cl QP K1 e st _ rfl
@[simp ↓] theorem j3g (T:TypeId) (z:PV) (ok:Bool) (x:MX):k43 P Cl .late (.val (.assert T z ok x)) e st K1 QP=q63 (.assert T z ok x) (q57 e) [] fun p=>K1 p st:=q5z P Cl QP K1 e st _ rfl
@[simp ↓] theorem z7d (T:TypeId) (len:Nat) (zs:List PV) (parts:List (Nat × Nat × MX)):k43 P Cl .late (.val (.buildSlice T len zs parts)) e st K1 QP=q63 (.buildSlice T len zs parts) (q57 e) [] fun p=>K1 p st:=q5z P Cl QP K1 e st _ rfl
@[simp ↓] theorem j65 (k:Nat) (agg:Bool) (x:MX):k43 P Cl .late (.val (.load k agg x)) e st K1 QP=k1k Cl k agg (q57 e x) fun p=>K1 p st:=by
 simp only [k43,mdraw.one,z7g,q9o,if_true,k1k,q7c]
 rfl
@[simp ↓] theorem j66 (g:FuncId) (fs cs:List PV) (args:List MX):k43 P Cl .late (.call (.const (.func (.func g) fs cs)) args) e st K1 QP=z5g P Cl g (fs++args.map (q57 e)++cs) (fun p=>K1 p st) QP:=rfl
@[simp ↓] theorem y9l (l:List (DFlag × MInst)) (ks:List Nat) (s:PS):xwp P (.draw false l ks) Q s=k0n P (fun _=>True) l s (fun s'=>q93 (⟨q8s ks s'.env,s'.st⟩:PS) fun s'=>Q .normal s') (fun p st'=>z5f Q p st'):=rfl
def DrawLate (P:Program)(l:List (DFlag × MInst))(K:PS->Prop)(QP:PV->q5f->Prop)(s:PS)(_:Tok (l,K,QP):=⟨⟩):Prop:=∃ Cl:q5f->Prop,Cl s.st/\mdraw P Cl l s K QP
theorem DrawLate.intro {P:Program}{l:List (DFlag × MInst)}{K:PS->Prop}{QP:PV->q5f->Prop}{e:Env}{st:q5f}(M:List Nat)(h:k0n P (Cls st M) l ⟨e,st⟩ K QP):DrawLate P l K QP ⟨e,st⟩:=⟨_,Cls.self st M,h⟩
theorem DrawLate.by {P:Program}{l:List (DFlag × MInst)}{K:PS->Prop}{QP:PV->q5f->Prop}{e:Env}{st:q5f}(Cl:q5f->Prop)(h0:Cl st)(h:k0n P Cl l ⟨e,st⟩ K QP):DrawLate P l K QP ⟨e,st⟩:=⟨Cl,h0,h⟩
@[simp ↓] theorem y0n (l:List (DFlag × MInst)) (ks:List Nat) (s:PS):xwp P (.draw true l ks) Q s=DrawLate P l (fun s'=>q93 (⟨q8s ks s'.env,s'.st⟩:PS) fun s'=>Q .normal s') (fun p st'=>z5f Q p st') s:=rfl
def DrawFork (P:Program)(l a b:List (DFlag × MInst))(K:PS->Prop)(QP:PV->q5f->Prop)(s:PS)(_:Tok (l,a,b,K,QP):=⟨⟩):Prop:=∃ Cl:q5f->Prop,Cl s.st/\mdraw P Cl l s (fun s1=>mdraw P Cl a s1 K QP/\mdraw P Cl b s1 K QP) QP
theorem DrawFork.by {P:Program}{l a b:List (DFlag × MInst)}{K:PS->Prop}{QP:PV->q5f->Prop}{e:Env}{st:q5f}(Cl:q5f->Prop)(h0:Cl st)(h:k0n P Cl l ⟨e,st⟩ (fun s1=>k0n P Cl a s1 K QP/\k0n P Cl b s1 K QP) QP):DrawFork P l a b K QP ⟨e,st⟩:=⟨Cl,h0,h⟩
theorem DrawFork.intro {P:Program}{l a b:List (DFlag × MInst)}{K:PS->Prop}{QP:PV->q5f->Prop}{e:Env}{st:q5f}(M:List Nat)(h:k0n P (Cls st M) l ⟨e,st⟩ (fun s1=>k0n P (Cls st M) a s1 K QP/\k0n P (Cls st M) b s1 K QP) QP):DrawFork P l a b K QP ⟨e,st⟩:=⟨_,Cls.self st M,h⟩
@[simp ↓] theorem y6x (l a b:List (DFlag × MInst)) (ks:List Nat) (s:PS):xwp P (.draw2 l a b ks) Q s=DrawFork P l a b (fun s'=>q93 (⟨q8s ks s'.env,s'.st⟩:PS) fun s'=>Q .normal s') (fun p st'=>z5f Q p st') s:=rfl
end
theorem Has.walk {P:Program}(q5n:P.follows .mixedOrders=true){g:FuncId}{m:MFunc}(h:Has P g m){nt np:Nat}{rs:List MRes}{c:MCode}(hm:m=⟨nt,np,rs,c⟩){ps:List PV}{st:q5f}{Q:PEnd->q5f->Prop}(hlen:ps.length=np)
  {R E:PV->q5f->Prop} (hR:∀ p st,R p st->RetView .ret p st Q) (hE:∀ p st,E p st->RetView .panic p st Q)
  (hw:xwp P c (fun e s=>j61 rs R E e s) ⟨q65 0 ps,st⟩):PCalls P g ps st Q:=by
 subst hm
 exact h.calls q5n hlen hR hE hw
theorem Has.pure {P:Program}(q5n:P.follows .mixedOrders=true){g:FuncId}{m:MFunc}(h:Has P g m){nt np:Nat}{rs:List MRes}{c:MCode}(hm:m=⟨nt,np,rs,c⟩){ps:List PV}{st:q5f}{p:PV}(hlen:ps.length=np)
  (hw:xwp P c (fun e s=>j61 rs (fun q st'=>q=p/\Over st st') (fun _ _=>False) e s) ⟨q65 0 ps,st⟩):Rets P g ps st p:=by
 subst hm
 exact h.rets q5n hlen hw
@[simp] theorem y17 (st:q5f)(cs:List PV)(off:Nat):k2k st (.iptr cs off)=some (cs,off):=rfl
@[simp] theorem y4k (st:q5f)(b off:Nat):k2k st (.val (.pointer (some ⟨b,off,none⟩)))=(z73 (q55 st b)).map fun r=>(r.2,off):=by
 simp only [k2k]
 cases q55 st b with
 | none=>rfl
 | some o=>cases o <;> rfl
@[simp] theorem y4l (zs:List PV):k0a zs []=some zs:=rfl
@[simp] theorem y18 (zs:List PV)(off k:Nat)(p:PV)(rest:List (Nat × Nat × PV)) :
  k0a zs ((off,k,p)::rest)=j7p p.cells fun ps=>if ps.length=k/\off+k<=zs.length then k0a (q5j zs off ps) rest else none:=by
 rw [k0a]
 cases p.cells <;> rfl
section
variable (k:IntKind) (n:Int) (c:Bool) (s:ByteArray) (a:Option Addr) (l m:Nat) (r:Option Nat)
@[simp] theorem y6y:(PV.val (.int k n)).cells=some [.val (.int k n)]:=rfl
@[simp] theorem y4m:(PV.val (.bool c)).cells=some [.val (.bool c)]:=rfl
@[simp] theorem y6z:(PV.val (.string s)).cells=some [.val (.string s)]:=rfl
@[simp] theorem y60:(PV.val (.pointer a)).cells=some [.val (.pointer a)]:=rfl
@[simp] theorem y19:(PV.val (.slice a l m)).cells=some [.val (.slice a l m)]:=rfl
@[simp] theorem y61:(PV.val (.map r)).cells=some [.val (.map r)]:=rfl
@[simp] theorem j67:(PV.val .nilIface).cells=some [.val .nilIface]:=rfl
@[simp] theorem y62 (cs:List PV):(PV.agg cs).cells=some cs:=rfl
@[simp] theorem y4n (t:Bool)(cs:List PV)(n:Nat):(PV.list t cs n).cells=some [.list t cs n]:=rfl
@[simp] theorem y4o (cs:List PV)(n:Nat):(PV.iptr cs n).cells=some [.iptr cs n]:=rfl
@[simp] theorem y4p (ks:List Value)(vs:List PV):(PV.imap ks vs).cells=some [.imap ks vs]:=rfl
@[simp] theorem y4q (f:Fn)(fs cs:List PV):(PV.func f fs cs).cells=some [.func f fs cs]:=rfl
@[simp] theorem y2a (T:TypeId)(p:PV):(PV.iface T p).cells=some [.iface T p]:=rfl
end
attribute [simp] q9o y1u q65 q57 q6g k0m y1b q8s z2g k2t q5j q83
end Go.Pv

/- All of the pure layer. -/
import Derived.Test.YtnooplpbpfiapaaGreatDoorLSf
import Derived.KernelRfl
namespace Go.Pv
def Has (P : Program) (g : FuncId) (m : MFunc) : Prop := ∃ fn, P.funcs[g]? = some fn ∧ (fn.name == "runtime.NumGoroutine") = false ∧ k7w P fn = some m
theorem Has.calls {P : Program} (q5d : P.follows .mixedOrders = true) {g : FuncId} {m : MFunc} (h : Has P g m) {ps : List PV} {st : q43} {Q : PEnd → q43 → Prop} (hlen : ps.length = m.nparams)
  {R E : PV → q43 → Prop} (hR : ∀ p st, R p st → RetView .ret p st Q) (hE : ∀ p st, E p st → RetView .panic p st Q)
  (hw : mwp P m.body (k1v m.results R E) ⟨q6n 0 ps, st⟩) : PCalls P g ps st Q := by
 obtain ⟨fn, h1, h2, h3⟩ := h
 exact z2i q5d h1 h2 h3 hlen hR hE hw
theorem Sees.refl (p : PV) (st : q43) : Sees p st p st := ⟨fun I _ _ h1 h2 => ⟨I, I.le_refl, h1, h2⟩⟩
theorem Sees.trans {p q r : PV} {s t u : q43} (h : Sees p s q t) (k : Sees q t r u) : Sees p s r u := ⟨fun I w v h1 h2 => by
 obtain ⟨I', a, b, c⟩ := h.out I w v h1 h2
 obtain ⟨I'', a', b', c'⟩ := k.out I' w v b c
 exact ⟨I'', Imm.le_trans a a', b', c'⟩⟩
def StLe (st' st : q43) : Prop := ∀ b o, q5m st' b = some o → q5m st b = some o
theorem StLe.refl (st : q43) : StLe st st := fun _ _ h => h
theorem StLe.trans {a b c : q43} (h : StLe a b) (k : StLe b c) : StLe a c := fun x o hx => k x o (h x o hx)
theorem StLe.cons {st : q43} {b : Nat} {o : PObj} (h : q5m st b = none) : StLe st ((b, o) :: st) := by
 intro c x hc
 simp only [q5m]
 split
 ·rename_i e; subst e; rw [h] at hc; cases hc
 ·exact hc
theorem StLe.fresh {st : q43} {b : Nat} {o : PObj} (h : q6h st b) : StLe st ((b, o) :: st) := .cons (k3g h)
theorem k5e {n : Nat} : ∀ {st : q43}, (∀ b o, q5m st b = some o → b < n) → k2d st n
 | [], _ => trivial
 | (b, o) :: st, h => by
  refine ⟨h b o (by simp [q5m]), k5e fun c x hc => ?_⟩
  by_cases hbc : b = c
  ·subst hbc; exact h b o (by simp [q5m])
  ·exact h c x (by simp [q5m, hbc, hc])
theorem SRep.le {I : Imm} {st st' : q43} {w : World} (h : SRep I st w) (hle : StLe st' st) : SRep I st' w :=
 ⟨h.imm, fun b o hb => h.objs b o (hle b o hb), k5e fun b o hb => h.obj_lt (hle b o hb)⟩
theorem Sees.drop {p : PV} {st st' : q43} (h : StLe st' st) : Sees p st p st' := ⟨fun I _ _ h1 h2 => ⟨I, I.le_refl, h1.le h, h2⟩⟩
theorem RetView.same {c : PV → PEnd} {p : PV} {st : q43} {Q : PEnd → q43 → Prop} (h : Q (c p) st) : RetView c p st Q := ⟨p, st, .refl _ _, h⟩
theorem RetView.drop {c : PV → PEnd} {p : PV} {st st' : q43} {Q : PEnd → q43 → Prop} (hle : StLe st' st) (h : Q (c p) st') : RetView c p st Q := ⟨p, st', .drop hle, h⟩
theorem RetView.fresh1 {c : PV → PEnd} {p : PV} {st : q43} {b : Nat} {o : PObj} {Q : PEnd → q43 → Prop} (hf : q6h st b) (h : RetView c p st Q) : RetView c p ((b, o) :: st) Q := by
 obtain ⟨p', st', h1, h2⟩ := h
 exact ⟨p', st', (Sees.drop (.fresh hf)).trans h1, h2⟩
theorem View.trans {s t u : PS} (h : View s t) (k : View t u) : View s u := fun I tm w h1 h2 => by
 obtain ⟨I', a, b, c⟩ := h I tm w h1 h2
 obtain ⟨I'', a', b', c'⟩ := k I' tm w b c
 exact ⟨I'', Imm.le_trans a a', b', c'⟩
theorem z76 {e : Env} : ∀ {l : Env} {t : Nat}, (∀ q ∈ l, q54 e q.1 = q.2) → q54 l t = .any ∨ q54 l t = q54 e t
 | [], _, _ => .inl rfl
 | (u, p) :: l, t, h => by
  simp only [q54]
  by_cases hut : u = t
  ·subst hut
   simp only [if_true]
   exact .inr (h (u, p) (by simp)).symm
  ·simp only [hut, if_false]
   exact z76 fun q hq => h q (by simp [hq])
theorem View.weak {e e' : Env} {st st' : q43} (he : ∀ q ∈ e', q54 e q.1 = q.2) (hle : StLe st' st) : View ⟨e, st⟩ ⟨e', st'⟩ := fun I tm w h1 h2 =>
 ⟨I, I.le_refl, fun t => by
  rcases z76 (t := t) he with h | h
  ·simp only [h, vrep]
  ·simp only [h]; exact h1 t, h2.le hle⟩
def Over (st0 : q43) : q43 → Prop
 | [] => st0 = []
 | (b, o) :: st => st0 = (b, o) :: st ∨ q6h st b ∧ Over st0 st
theorem Over.le {st0 : q43} : ∀ {st : q43}, Over st0 st → StLe st0 st
 | [], h => by simp only [Over] at h; subst h; exact .refl _
 | (b, o) :: st, h => by
  simp only [Over] at h
  rcases h with rfl | ⟨h1, h2⟩
  ·exact .refl _
  ·exact h2.le.trans (.fresh h1)
@[simp] theorem Over.self (st : q43) : Over st st := by
 cases st with
 | nil => rfl
 | cons q st => exact .inl rfl
@[simp] theorem Over.cons {st : q43} (b : Nat) (o : PObj) (st0 : q43) : Over st0 ((b, o) :: st) ↔ st0 = (b, o) :: st ∨ q6h st b ∧ Over st0 st := .rfl
def Rets (P : Program) (g : FuncId) (ps : List PV) (st : q43) (p : PV) : Prop := PCalls P g ps st fun e s => e = .ret p ∧ s = st
theorem Has.rets {P : Program} (q5d : P.follows .mixedOrders = true) {g : FuncId} {m : MFunc} (h : Has P g m) {ps : List PV} {st : q43} {p : PV} (hlen : ps.length = m.nparams)
  (hw : mwp P m.body (k1v m.results (fun q st' => q = p ∧ Over st st') (fun _ _ => False)) ⟨q6n 0 ps, st⟩) : Rets P g ps st p :=
 h.calls q5d hlen (fun _ _ ⟨h1, h2⟩ => .drop h2.le ⟨by rw [h1], rfl⟩) (fun _ _ h => h.elim) hw
theorem Rets.calls {P : Program} {g : FuncId} {ps : List PV} {st : q43} {p : PV} (h : Rets P g ps st p) {Q : PEnd → q43 → Prop} (hq : Q (.ret p) st) : PCalls P g ps st Q :=
 PCalls.mono h fun e s ⟨h1, h2⟩ => by subst h1; subst h2; exact hq
@[congr] theorem j63 {P : Program} {g : FuncId} {ps ps' : List PV} {st st' : q43} {Q : PEnd → q43 → Prop} (h1 : ps = ps') (h2 : st = st') : PCalls P g ps st Q = PCalls P g ps' st' Q := by
 subst h1; subst h2; rfl
@[congr] theorem j42 {V : PS → PS → Prop} {body : q7a → PS → Prop} {Q : q7a} {s s' : PS} (h : s = s') : z13 V body Q s = z13 V body Q s' := by subst h; rfl
@[congr] theorem j43 {c : PV → PEnd} {p p' : PV} {st st' : q43} {Q : PEnd → q43 → Prop} (h : p = p') (h2 : st = st') : RetView c p st Q = RetView c p' st' Q := by subst h; subst h2; rfl
universe u
structure Tok {α : Sort u} (a : α) : Type where
def q5f {α : Type} (o : Option α) (K : α → Prop) (_ : Tok K := ⟨⟩) : Prop := ∃ a, o = some a ∧ K a
@[simp ↓, simp] theorem q5g {α : Type} (a : α) (K : α → Prop) : q5f (some a) K = K a := by simp [q5f]
@[simp] theorem q88 {α : Type} (K : α → Prop) : q5f none K = False := by simp [q5f]
def PV.bool? : PV → Option Bool
 | .val (.bool c) => some c
 | _ => none
@[simp] theorem z9l (c : Bool) : PV.bool? (.val (.bool c)) = some c := rfl
def PV.int? : PV → Option (IntKind × Int)
 | .val (.int k n) => some (k, n)
 | _ => none
@[simp] theorem z77 (k : IntKind) (n : Int) : PV.int? (.val (.int k n)) = some (k, n) := rfl
def PV.str? : PV → Option ByteArray
 | .val (.string s) => some s
 | _ => none
@[simp] theorem y5f (s : ByteArray) : PV.str? (.val (.string s)) = some s := rfl
def PV.agg? : PV → Option (List PV)
 | .agg cs => some cs
 | _ => none
@[simp] theorem y5g (cs : List PV) : PV.agg? (.agg cs) = some cs := rfl
def PV.tuple? : PV → Option (List PV)
 | .tuple cs => some cs
 | _ => none
@[simp] theorem j64 (cs : List PV) : PV.tuple? (.tuple cs) = some cs := rfl
def PV.func? : PV → Option (FuncId × List PV × List PV)
 | .func (.func g) fs cs => some (g, fs, cs)
 | _ => none
@[simp] theorem z9m (g : FuncId) (fs cs : List PV) : PV.func? (.func (.func g) fs cs) = some (g, fs, cs) := rfl
def PV.iface? : PV → Option (TypeId × PV)
 | .iface T p => some (T, p)
 | _ => none
@[simp] theorem j65 (T : TypeId) (p : PV) : PV.iface? (.iface T p) = some (T, p) := rfl
def PV.ptr? : PV → Option (Nat × Nat)
 | .val (.pointer (some ⟨b, off, none⟩)) => some (b, off)
 | _ => none
@[simp] theorem j44 (b off : Nat) : PV.ptr? (.val (.pointer (some ⟨b, off, none⟩))) = some (b, off) := rfl
def j03 : Option PObj → Option (TypeId × List PV)
 | some (.arr T cs) => some (T, cs)
 | _ => none
@[simp] theorem j45 (T : TypeId) (cs : List PV) : j03 (some (.arr T cs)) = some (T, cs) := rfl
def onB (c : Bool) (A B : Prop) (_ : Tok (A, B) := ⟨⟩) : Prop := (c = true → A) ∧ (c = false → B)
@[simp ↓, simp] theorem y5h (A B : Prop) : onB true A B = A := by simp [onB]
@[simp ↓, simp] theorem y2p (A B : Prop) : onB false A B = B := by simp [onB]
@[simp] theorem y03 (p : Prop) [Decidable p] (A B : Prop) : onB (decide p) A B = ((p → A) ∧ (¬ p → B)) := by simp [onB]
@[simp] theorem y64 (c : Bool) (A B : Prop) : onB (!c) A B = onB c B A := by cases c <;> simp
@[simp low] theorem onB_eq (c : Bool) (A B : Prop) : onB c A B = ((c = true → A) ∧ (c = false → B)) := rfl
theorem k5f (p : PV) : k6y p = p.int?.map (·.2) := by
 cases p <;> try rfl
 rename_i v; cases v <;> rfl
def q60 (op : MVal) (ρ : MX → PV) (st : q43) (K : PV → Prop) (_ : Tok K := ⟨⟩) : Prop := q69 op ρ st K
def k3t (op : BinOp) (p q : PV) (K : PV → Prop) (_ : Tok K := ⟨⟩) : Prop := k9y op p q K
def k0h (cs : List PV) (off k : Nat) (agg : Bool) (K : PV → Prop) (_ : Tok K := ⟨⟩) : Prop :=
 if agg then ∃ ps, sub cs off k = some ps ∧ K (.agg ps) else ∃ p, cs[off]? = some p ∧ K p
@[simp] theorem j8q (cs : List PV) (off k : Nat) (K : PV → Prop) : k0h cs off k true K = q5f (sub cs off k) fun ps => K (.agg ps) := by simp [k0h, q5f]
@[simp] theorem j66 (cs : List PV) (off k : Nat) (K : PV → Prop) : k0h cs off k false K = q5f (cs[off]?) K := by simp [k0h, q5f]
theorem j67 (cs : List PV) (off k : Nat) : sub cs off k = if off + k ≤ cs.length then some ((cs.drop off).take k) else none := rfl
@[simp] theorem y65 (c : PV) (cs : List PV) (off k : Nat) : sub (c :: cs) off k = if off + k ≤ (c :: cs).length then some (((c :: cs).drop off).take k) else none := rfl
section
variable (ρ : MX → PV) (st : q43) (K : PV → Prop)
@[simp ↓] theorem y66 (x : MX) : q60 (.mv x) ρ st K = K (ρ x) := rfl
@[simp ↓] theorem y2q (c a b : MX) : q60 (.pick c a b) ρ st K = q5f (ρ c).bool? fun t => onB t (K (ρ a)) (K (ρ b)) := by
 simp only [q60, q69]; split <;> simp_all [PV.bool?]
@[simp ↓] theorem y04 (zs : List PV) (parts : List (Nat × Nat × MX)) : q60 (.build zs parts) ρ st K = q5f (k0b zs (parts.map fun q => (q.1, q.2.1, ρ q.2.2))) fun cs => K (.agg cs) := by
 simp only [q60, q69]; split <;> simp_all
@[simp ↓] theorem j1v (T : TypeId) (len : Nat) (zs : List PV) (parts : List (Nat × Nat × MX)) : q60 (.buildSlice T len zs parts) ρ st K = q5f (k0b zs (parts.map fun q => (q.1, q.2.1, ρ q.2.2))) fun cs => K (.list true cs len) := by
 simp only [q60, q69]; split <;> simp_all
@[simp ↓] theorem j1w (k : Nat) (agg : Bool) (x : MX) : q60 (.load k agg x) ρ st K = q5f (k1d st (ρ x)) fun r => k0h r.1 r.2 k agg K := by
 simp only [q60, q69]; split <;> simp_all [k0h]
def j1x (p : PV) (K : PV → Prop) (_ : Tok K := ⟨⟩) : Prop :=
 match p with
 | .iptr cs off => K (.iptr cs off)
 | .val (.pointer (some a)) => K (.val (.pointer (some a)))
 | .func (.func f) fs cs => K (.func (.func f) fs cs)
 | .func (.yield l) fs cs => K (.func (.yield l) fs cs)
 | _ => False
@[simp] theorem y05 (cs : List PV) (off : Nat) : j1x (.iptr cs off) K = K (.iptr cs off) := rfl
@[simp] theorem y2r (a : Addr) : j1x (.val (.pointer (some a))) K = K (.val (.pointer (some a))) := rfl
@[simp] theorem j8r (l : Nat) (fs cs : List PV) : j1x (.func (.yield l) fs cs) K = K (.func (.yield l) fs cs) := rfl
@[simp] theorem y06 (f : FuncId) (fs cs : List PV) : j1x (.func (.func f) fs cs) K = K (.func (.func f) fs cs) := rfl
@[simp ↓] theorem j46 (x : MX) : q60 (.nilCheck x) ρ st K = j1x (ρ x) K := rfl
@[simp ↓] theorem y5i (op : BinOp) (T : TypeId) (x y : MX) : q60 (.bin op T x y) ρ st K = k3t op (ρ x) (ρ y) K := rfl
section
variable (k k' : IntKind) (a b : Int) (s t : ByteArray)
@[simp] theorem j8s : k3t .add (.val (.int k a)) (.val (.int k' b)) K = (k = k' ∧ K (.val (.int k (k.wrap (a + b))))) := rfl
@[simp] theorem y67 : k3t .sub (.val (.int k a)) (.val (.int k' b)) K = (k = k' ∧ K (.val (.int k (k.wrap (a - b))))) := rfl
@[simp] theorem y68 : k3t .mul (.val (.int k a)) (.val (.int k' b)) K = (k = k' ∧ K (.val (.int k (k.wrap (a * b))))) := rfl
@[simp] theorem y69 : k3t .quo (.val (.int k a)) (.val (.int k' b)) K = (k = k' ∧ b ≠ 0 ∧ K (.val (.int k (k.wrap (a.tdiv b))))) := rfl
@[simp] theorem y7a : k3t .rem (.val (.int k a)) (.val (.int k' b)) K = (k = k' ∧ b ≠ 0 ∧ K (.val (.int k (a.tmod b)))) := rfl
@[simp] theorem j8t : k3t .shl (.val (.int k a)) (.val (.int k' b)) K = (0 ≤ b ∧ K (.val (.int k (k.wrap (a * 2 ^ min b.toNat k.bits))))) := rfl
@[simp] theorem j8u : k3t .shr (.val (.int k a)) (.val (.int k' b)) K = (0 ≤ b ∧ K (.val (.int k (a.fdiv (2 ^ min b.toNat k.bits))))) := rfl
@[simp] theorem j1y : k3t .and (.val (.int k a)) (.val (.int k' b)) K = (k = k' ∧ K (.val (.int k (k.wrap (BitVec.ofInt k.bits a &&& BitVec.ofInt k.bits b).toNat)))) := rfl
@[simp] theorem y2s : k3t .or (.val (.int k a)) (.val (.int k' b)) K = (k = k' ∧ K (.val (.int k (k.wrap (BitVec.ofInt k.bits a ||| BitVec.ofInt k.bits b).toNat)))) := rfl
@[simp] theorem j8v : k3t .xor (.val (.int k a)) (.val (.int k' b)) K = (k = k' ∧ K (.val (.int k (k.wrap (BitVec.ofInt k.bits a ^^^ BitVec.ofInt k.bits b).toNat)))) := rfl
@[simp] theorem y07 : k3t .andNot (.val (.int k a)) (.val (.int k' b)) K = (k = k' ∧ K (.val (.int k (k.wrap (BitVec.ofInt k.bits a &&& ~~~ BitVec.ofInt k.bits b).toNat)))) := rfl
@[simp] theorem y7b : k3t .eql (.val (.int k a)) (.val (.int k' b)) K = (k = k' ∧ K (.val (.bool (decide (a = b))))) := by
 have : (a == b) = decide (a = b) := rfl
 simp only [k3t, k9y, k4v, z1y, this]
@[simp] theorem y7c : k3t .neq (.val (.int k a)) (.val (.int k' b)) K = (k = k' ∧ K (.val (.bool (decide (a ≠ b))))) := by
 have : (a != b) = decide (a ≠ b) := by by_cases h : a = b <;> simp [h]
 simp only [k3t, k9y, k4v, z1y, this]
@[simp] theorem y7d : k3t .lss (.val (.int k a)) (.val (.int k' b)) K = (k = k' ∧ K (.val (.bool (decide (a < b))))) := rfl
@[simp] theorem y7e : k3t .leq (.val (.int k a)) (.val (.int k' b)) K = (k = k' ∧ K (.val (.bool (decide (a ≤ b))))) := rfl
@[simp] theorem y7f : k3t .gtr (.val (.int k a)) (.val (.int k' b)) K = (k = k' ∧ K (.val (.bool (decide (b < a))))) := rfl
@[simp] theorem y7g : k3t .geq (.val (.int k a)) (.val (.int k' b)) K = (k = k' ∧ K (.val (.bool (decide (b ≤ a))))) := rfl
@[simp] theorem y7h : k3t .add (.val (.string s)) (.val (.string t)) K = (s.size + t.size < 2 ^ 62 ∧ K (.val (.string (s ++ t)))) := rfl
theorem z9n : (s.toList == t.toList) = decide (s = t) := by
 by_cases h : s = t
 ·simp [h]
 ·have : s.toList ≠ t.toList := by
   intro e
   rw [ByteArray.toList_eq, ByteArray.toList_eq] at e
   exact h (ByteArray.ext (Array.ext' e))
  simp [h, this]
@[simp] theorem y5j : k3t .eql (.val (.string s)) (.val (.string t)) K = K (.val (.bool (decide (s = t)))) := by
 simp only [k3t, k9y, z5q, z9n]
@[simp] theorem y5k : k3t .lss (.val (.string s)) (.val (.string t)) K = K (.val (.bool (Op.bytesLess s.toList t.toList))) := rfl
end
@[simp ↓] theorem y08 (neg : Bool) (ks : List LK) (x y : MX) : q60 (.eqAgg neg ks x y) ρ st K = q5f (ρ x).agg? fun cs => q5f (ρ y).agg? fun ds => q5f (q52 ks cs ds) fun b => K (.bool (if neg then !b else b)) := by
 simp only [q60, q69]; split <;> simp_all [q5f, PV.agg?]
 rename_i h
 intro x h1 y h2
 split at h1 <;> split at h2 <;> simp_all
@[simp] theorem y09 (k k' : IntKind) (a b : Int) : q9m .int (.val (.int k a)) (.val (.int k' b)) = if k = k' then some (decide (a = b)) else none := rfl
@[simp] theorem j8w (a b : Bool) : q9m .bool (.val (.bool a)) (.val (.bool b)) = some (a == b) := rfl
@[simp] theorem j8x : q52 [] [] [] = some true := rfl
def y7i : Option Bool → Option Bool → Option Bool
 | some a, some b => some (a && b)
 | _, _ => none
@[simp] theorem y2t (a b : Bool) : y7i (some a) (some b) = some (a && b) := rfl
@[simp] theorem j68 (k : LK) (ks : List LK) (p q : PV) (ps qs : List PV) : q52 (k :: ks) (p :: ps) (q :: qs) = y7i (q9m k p q) (q52 ks ps qs) := by
 simp only [q52]
 cases q9m k p q <;> cases q52 ks ps qs <;> rfl
@[simp ↓] theorem y5l (x : MX) : q60 (.un .neg x) ρ st K = q5f (ρ x).int? fun q => K (.val (.int q.1 (q.1.wrap (0 - q.2)))) := by
 simp only [q60, q69]; cases h : ρ x <;> simp [PV.int?]
 rename_i v; cases v <;> simp
def j8y (p : PV) (K : PV → Prop) (_ : Tok K := ⟨⟩) : Prop :=
 match p with
 | .val (.int k n) => K (.val (.int k (k.wrap (BitVec.ofInt k.bits (if k.signed then -1 else k.max) ^^^ BitVec.ofInt k.bits n).toNat)))
 | _ => False
@[simp ↓] theorem y1a (x : MX) : q60 (.un .xor x) ρ st K = j8y (ρ x) K := by
 simp only [q60, q69, j8y]
 split <;> simp_all
@[simp ↓] theorem y5m (x : MX) : q60 (.un .not x) ρ st K = q5f (ρ x).bool? fun b => K (.val (.bool !b)) := by
 simp only [q60, q69]; cases h : ρ x <;> simp [PV.bool?]
 rename_i v; cases v <;> simp
@[simp ↓] theorem y1b (k : IntKind) (x : MX) : q60 (.toInt k x) ρ st K = q5f (ρ x).int? fun q => K (.val (.int k (k.wrap q.2))) := by
 simp only [q60, q69]; cases h : ρ x <;> simp [PV.int?]
 rename_i v; cases v <;> simp
@[simp ↓] theorem j69 (T : TypeId) (x : MX) : q60 (.mkIface T x) ρ st K = K (.iface T (ρ x)) := rfl
@[simp ↓] theorem j8z (fn : Fn) (fs cs : List MX) : q60 (.mkFunc fn fs cs) ρ st K = K (.func fn (fs.map ρ) (cs.map ρ)) := rfl
def k4e (off : Nat) (p : PV) (K : PV → Prop) (_ : Tok K := ⟨⟩) : Prop :=
 match p with
 | .iptr cs k => K (.iptr cs (k + off))
 | .val (.pointer (some ⟨b, k, none⟩)) => K (.ptr b (k + off))
 | _ => False
@[simp] theorem j04 (off : Nat) (cs : List PV) (k : Nat) : k4e off (.iptr cs k) K = K (.iptr cs (k + off)) := rfl
@[simp] theorem j1z (off b k : Nat) : k4e off (.val (.pointer (some ⟨b, k, none⟩))) K = K (.ptr b (k + off)) := rfl
@[simp ↓] theorem j4h (off : Nat) (x : MX) : q60 (.fieldAddr off x) ρ st K = k4e off (ρ x) K := rfl
def q7w (k : Nat) (p : PV) (j : Int) (K : PV → Prop) (_ : Tok K := ⟨⟩) : Prop :=
 match p with
 | .list _ cs n => 0 ≤ j ∧ j < n ∧ j.toNat * k < cs.length ∧ K (.iptr cs (j.toNat * k))
 | .val (.slice (some ⟨b, off, none⟩) n _) => 0 ≤ j ∧ j < n ∧ K (.ptr b (off + j.toNat * k))
 | _ => False
@[simp] theorem j05 (k : Nat) (t : Bool) (cs : List PV) (n : Nat) (j : Int) : q7w k (.list t cs n) j K = (0 ≤ j ∧ j < n ∧ j.toNat * k < cs.length ∧ K (.iptr cs (j.toNat * k))) := rfl
@[simp] theorem j10 (k b off n c : Nat) (j : Int) : q7w k (.val (.slice (some ⟨b, off, none⟩) n c)) j K = (0 ≤ j ∧ j < n ∧ K (.ptr b (off + j.toNat * k))) := rfl
@[simp] theorem j11 (k : Nat) (j : Int) : q7w k (.val (.slice none 0 0)) j K = False := rfl
@[simp ↓] theorem j4i (k : Nat) (x i : MX) : q60 (.indexAddr k x i) ρ st K = q5f (ρ i).int? fun q => q7w k (ρ x) q.2 K := by
 simp only [q60, q69]
 rw [k5f]
 cases h : (ρ i).int? with
 | none => simp
 | some q =>
  simp only [Option.map_some, q5g]
  cases hx : ρ x with
  | val v =>
   cases v with
   | slice a n c =>
    cases a with
    | none =>
     cases n <;> cases c <;> simp [PV.asList, q7w]
    | some a => obtain ⟨b, off, t⟩ := a; cases t <;> simp [PV.asList, q7w]
   | _ => simp [PV.asList, q7w]
  | _ => simp [PV.asList, q7w]
def k59 (n k : Nat) (p : PV) (j : Int) (K : PV → Prop) (_ : Tok K := ⟨⟩) : Prop :=
 match p with
 | .iptr cs off => 0 ≤ j ∧ j < n ∧ K (.iptr cs (off + j.toNat * k))
 | .val (.pointer (some ⟨b, off, none⟩)) => 0 ≤ j ∧ j < n ∧ K (.ptr b (off + j.toNat * k))
 | _ => False
@[simp] theorem j12 (n k : Nat) (cs : List PV) (off : Nat) (j : Int) : k59 n k (.iptr cs off) j K = (0 ≤ j ∧ j < n ∧ K (.iptr cs (off + j.toNat * k))) := rfl
@[simp] theorem j4j (n k b off : Nat) (j : Int) : k59 n k (.val (.pointer (some ⟨b, off, none⟩))) j K = (0 ≤ j ∧ j < n ∧ K (.ptr b (off + j.toNat * k))) := rfl
@[simp ↓] theorem j47 (n k : Nat) (x i : MX) : q60 (.indexArr n k x i) ρ st K = q5f (ρ i).int? fun q => k59 n k (ρ x) q.2 K := by
 simp only [q60, q69]
 rw [k5f]
 cases h : (ρ i).int? with
 | none => simp
 | some q => simp only [Option.map_some, q5g]; rfl
@[simp ↓] theorem y1c (n k : Nat) (agg : Bool) (x i : MX) : q60 (.index n k agg x i) ρ st K = q5f (ρ i).int? fun q => q5f (ρ x).agg? fun cs => 0 ≤ q.2 ∧ q.2 < n ∧ k0h cs (q.2.toNat * k) k agg K := by
 simp only [q60, q69]
 rw [k5f]
 cases h : (ρ i).int? with
 | none => simp
 | some q => cases hx : ρ x <;> simp [PV.agg?, k0h]
def PV.len? : PV → Option Nat
 | .list _ _ n => some n
 | .val (.slice _ n _) => some n
 | _ => none
@[simp] theorem y2u (t : Bool) (cs : List PV) (n : Nat) : PV.len? (.list t cs n) = some n := rfl
@[simp] theorem y5n (a : Option Addr) (n c : Nat) : PV.len? (.val (.slice a n c)) = some n := rfl
@[simp ↓] theorem y5o (x : MX) : q60 (.len x) ρ st K = q5f (ρ x).len? fun n => K (.int n) := by
 simp only [q60, q69]
 cases hx : ρ x with
 | val v =>
  cases v with
  | slice a n c =>
   cases a with
   | none => cases n <;> cases c <;> simp [PV.asList]
   | some a => simp [PV.asList]
  | _ => simp [PV.asList, PV.len?]
 | _ => simp [PV.asList, PV.len?]
@[simp ↓] theorem j80 (x : MX) : q60 (.strlen x) ρ st K = q5f (ρ x).str? fun s => K (.int s.size) := by
 simp only [q60, q69]
 cases hx : ρ x with
 | val v => cases v <;> simp [PV.str?]
 | _ => simp [PV.str?]
def PV.cap? : PV → Option Nat
 | .list true _ n => some n
 | .val (.slice _ _ c) => some c
 | _ => none
@[simp] theorem y2v (cs : List PV) (n : Nat) : PV.cap? (.list true cs n) = some n := rfl
@[simp] theorem y5p (a : Option Addr) (n c : Nat) : PV.cap? (.val (.slice a n c)) = some c := rfl
@[simp ↓] theorem y5q (x : MX) : q60 (.cap x) ρ st K = q5f (ρ x).cap? fun n => K (.int n) := by
 simp only [q60, q69]
 cases hx : ρ x with
 | val v => cases v <;> simp [PV.cap?]
 | list t cs n => cases t <;> simp [PV.cap?]
 | _ => simp [PV.cap?]
@[simp ↓] theorem j7a (i : Nat) (x : MX) : q60 (.extract i x) ρ st K = q5f (ρ x).tuple? fun ps => q5f (ps[i]?) K := by
 simp only [q60, q69]
 cases hx : ρ x <;> simp [PV.tuple?, q5f]
def z78 (isMax : Bool) (ps : List PV) (K : PV → Prop) (_ : Tok K := ⟨⟩) : Prop :=
 match ps with
 | [.val (.int k a), .val (.int _ b)] => K (.val (.int k (if isMax then (if b > a then b else a) else (if b < a then b else a))))
 | _ => False
@[simp] theorem j7b (m : Bool) (k k' : IntKind) (a b : Int) : z78 m [.val (.int k a), .val (.int k' b)] K = K (.val (.int k (if m then (if b > a then b else a) else (if b < a then b else a)))) := rfl
@[simp ↓] theorem j81 (m : Bool) (xs : List MX) : q60 (.minmax m xs) ρ st K = z78 m (xs.map ρ) K := rfl
def z2n (T : TypeId) (z : PV) (ok : Bool) (p : PV) (K : PV → Prop) (_ : Tok K := ⟨⟩) : Prop :=
 match p with
 | .iface U p => if U = T then (if ok then K (.tuple [p, .bool true]) else K p) else (ok = true ∧ K (.tuple [z, .bool false]))
 | .val .nilIface => ok = true ∧ K (.tuple [z, .bool false])
 | _ => False
@[simp] theorem j4k (T U : TypeId) (z : PV) (ok : Bool) (p : PV) : z2n T z ok (.iface U p) K = if U = T then (if ok then K (.tuple [p, .bool true]) else K p) else (ok = true ∧ K (.tuple [z, .bool false])) := rfl
@[simp] theorem j7c (T : TypeId) (z : PV) (ok : Bool) : z2n T z ok (.val .nilIface) K = (ok = true ∧ K (.tuple [z, .bool false])) := rfl
@[simp ↓] theorem j82 (T : TypeId) (z : PV) (ok : Bool) (x : MX) : q60 (.assert T z ok x) ρ st K = z2n T z ok (ρ x) K := rfl
@[simp] theorem y5r (ρ : MX → PV) : bnd ρ none = some none := rfl
@[simp] theorem y5s (ρ : MX → PV) (x : MX) : bnd ρ (some x) = (ρ x).int?.map fun q => some q.2 := by
 simp only [bnd, k5f]
 cases (ρ x).int? <;> rfl
def k6a (s : ByteArray) (lo hi : Option Int) (K : PV → Prop) (_ : Tok K := ⟨⟩) : Prop := q81 s lo hi K
@[simp] theorem j48 (s : ByteArray) (l : Int) : k6a s (some l) none K = (0 ≤ l ∧ l ≤ s.size ∧ K (.str (s.extract l.toNat s.size))) := rfl
@[simp] theorem j49 (s : ByteArray) (h : Int) : k6a s none (some h) K = (0 ≤ h ∧ h ≤ s.size ∧ K (.str (s.extract 0 h.toNat))) := rfl
@[simp] theorem j13 (s : ByteArray) (l h : Int) : k6a s (some l) (some h) K = (0 ≤ l ∧ l ≤ h ∧ h ≤ s.size ∧ K (.str (s.extract l.toNat h.toNat))) := rfl
@[simp] theorem z09 (b off n cap : Nat) (lo hi mx : Option Int) : j1a (.val (.slice (some ⟨b, off, none⟩) n cap)) lo hi mx = false := rfl
def k0i (k : Nat) (p : PV) (lo hi mx : Option Int) (K : PV → Prop) (_ : Tok K := ⟨⟩) : Prop := k1u k p lo hi mx K
section
variable (k n b off cap : Nat) (t : Bool) (cs : List PV) (l h m : Int)
@[simp] theorem y2w : k0i k (.list t cs n) none none none K = K (.list t cs n) := rfl
@[simp] theorem y2x : k0i k (.list t cs n) (some l) none none K = (0 ≤ l ∧ l ≤ n ∧ cs.length ≤ n * k ∧ K (.list t (cs.drop (l.toNat * k)) (n - l.toNat))) := rfl
@[simp] theorem y2y : k0i k (.list t cs n) none (some h) none K = (0 ≤ h ∧ h ≤ n ∧ K (.list false (cs.take (h.toNat * k)) h.toNat)) := rfl
@[simp] theorem y2z : k0i k (.list t cs n) (some l) (some h) none K = (0 ≤ l ∧ l ≤ h ∧ h ≤ n ∧ K (.list false ((cs.take (h.toNat * k)).drop (l.toNat * k)) (h.toNat - l.toNat))) := rfl
@[simp] theorem y20 : k0i k (.list t cs n) none (some h) (some m) K = (0 ≤ h ∧ h ≤ m ∧ m ≤ n ∧ K (.list (decide (h = m)) (cs.take (h.toNat * k)) h.toNat)) := rfl
@[simp] theorem y21 : k0i k (.list t cs n) (some l) (some h) (some m) K = (0 ≤ l ∧ l ≤ h ∧ h ≤ m ∧ m ≤ n ∧ K (.list (decide (h = m)) ((cs.take (h.toNat * k)).drop (l.toNat * k)) (h.toNat - l.toNat))) := rfl
@[simp] theorem y22 : k0i k (.val (.slice none 0 0)) none none none K = K .nil := rfl
@[simp] theorem y23 : k0i k (.val (.slice none 0 0)) (some l) none none K = (0 ≤ l ∧ l ≤ ((0 : Nat) : Int) ∧ ([] : List PV).length ≤ 0 * k ∧ K (.list true (([] : List PV).drop (l.toNat * k)) (0 - l.toNat))) := rfl
@[simp] theorem y24 : k0i k (.val (.slice none 0 0)) none (some h) none K = (h = 0 ∧ K .nil) := rfl
@[simp] theorem y25 : k0i k (.val (.slice none 0 0)) none (some h) (some m) K = (0 ≤ h ∧ h ≤ m ∧ m ≤ ((0 : Nat) : Int) ∧ K (.list (decide (h = m)) (([] : List PV).take (h.toNat * k)) h.toNat)) := rfl
@[simp] theorem y26 : k0i k (.val (.slice (some ⟨b, off, none⟩) n cap)) (some l) none none K = (n ≤ cap ∧ 0 ≤ l ∧ l ≤ n ∧ (l = cap → K (.list true [] 0)) ∧ (l < cap → K (.own b (off + l.toNat * k) (n - l.toNat) (cap - l.toNat)))) := by
 simp only [k0i, k1u, z09, Bool.false_eq_true, if_false, PV.asList, q8h]
 simp
@[simp] theorem y27 : k0i k (.val (.slice (some ⟨b, off, none⟩) n cap)) none (some h) none K = (0 ≤ h ∧ h ≤ cap ∧ K (.own b off h.toNat cap)) := by
 simp only [k0i, k1u, z09, Bool.false_eq_true, if_false, PV.asList, q8h]
 simp
end
@[simp ↓] theorem y1d (k : Nat) (x : MX) (lo hi mx : Option MX) : q60 (.slice k x lo hi mx) ρ st K = q5f (bnd ρ lo) fun l => q5f (bnd ρ hi) fun h => q5f (bnd ρ mx) fun m => k0i k (ρ x) l h m K := by
 simp only [q60, q69]
 split
 ·rename_i h1 h2 h3
  simp only [h1, h2, h3, q5g]
  rfl
 ·rename_i hn
  simp only [q5f, eq_iff_iff, false_iff]
  rintro ⟨l, h1, h, h2, m, h3, -⟩
  exact hn l h m h1 h2 h3
def q8w (n k : Nat) (p : PV) (lo hi mx : Option Int) (K : PV → Prop) (_ : Tok K := ⟨⟩) : Prop := q7d n k p lo hi mx K
section
variable (k n b off : Nat) (cs : List PV) (l h m : Int)
@[simp] theorem j7d : q8w n k (.val (.pointer (some ⟨b, off, none⟩))) none none none K = K (.own b off n n) := by
 simp only [q8w, q7d, q8h]
 simp
@[simp] theorem j7e : q8w n k (.val (.pointer (some ⟨b, off, none⟩))) (some l) none none K = (0 ≤ l ∧ l ≤ n ∧ (l = n → K (.list true [] 0)) ∧ (l < n → K (.own b (off + l.toNat * k) (n - l.toNat) (n - l.toNat)))) := by
 simp only [q8w, q7d, q8h]
 simp
@[simp] theorem j7f : q8w n k (.val (.pointer (some ⟨b, off, none⟩))) none (some h) none K = (0 ≤ h ∧ h ≤ n ∧ K (.own b off h.toNat n)) := by
 simp only [q8w, q7d, q8h]
 simp
end
@[simp ↓] theorem j5a (n k : Nat) (x : MX) (lo hi mx : Option MX) : q60 (.sliceArr n k x lo hi mx) ρ st K = q5f (bnd ρ lo) fun l => q5f (bnd ρ hi) fun h => q5f (bnd ρ mx) fun m => q8w n k (ρ x) l h m K := by
 simp only [q60, q69]
 split
 ·rename_i h1 h2 h3
  simp only [h1, h2, h3, q5g]
  rfl
 ·rename_i hn
  simp only [q5f, eq_iff_iff, false_iff]
  rintro ⟨l, h1, h, h2, m, h3, -⟩
  exact hn l h m h1 h2 h3
@[simp ↓] theorem y1e (x : MX) : q60 (.strOf x) ρ st K = q5f (q6z 1 st (ρ x)) fun r => q5f (q91 r.1) fun bs => K (.str ⟨bs.toArray⟩) := by
 simp only [q60, q69]
 split
 ·rename_i cs n h
  simp only [h, q5g]
  split
  ·rename_i bs hb; simp only [hb, q5g]
  ·rename_i hb; simp only [hb, q88]
 ·rename_i h; simp only [h, q88]
def j14 (r : Option (Option Nat)) (vs : List PV) (z : PV) (ok : Bool) (K : PV → Prop) (_ : Tok K := ⟨⟩) : Prop :=
 match r with
 | some (some j) => ∃ p, vs[j]? = some p ∧ K (if ok then .tuple [p, .bool true] else p)
 | some none => K (if ok then .tuple [z, .bool false] else z)
 | none => False
@[simp] theorem y7j (j : Nat) (vs : List PV) (z : PV) : j14 (some (some j)) vs z true K = q5f (vs[j]?) fun p => K (.tuple [p, .bool true]) := rfl
@[simp] theorem y7k (j : Nat) (vs : List PV) (z : PV) : j14 (some (some j)) vs z false K = q5f (vs[j]?) fun p => K p := rfl
@[simp] theorem y5t (vs : List PV) (z : PV) : j14 (some none) vs z true K = K (.tuple [z, .bool false]) := rfl
@[simp] theorem y5u (vs : List PV) (z : PV) : j14 (some none) vs z false K = K z := rfl
@[simp ↓] theorem j83 (kp : KP) (z : PV) (ok : Bool) (x i : MX) : q60 (.lookup kp z ok x i) ρ st K = q5f (z1z st (ρ x)) fun m => q5f (ρ i).key? fun kv => q8i kp kv = true ∧ j14 (k2i kp kv m.1) m.2 z ok K := by
 simp only [q60, q69]
 split
 ·rename_i h1 h2
  simp only [h1, h2, q5g]
  rfl
 ·rename_i hn
  simp only [q5f, eq_iff_iff, false_iff]
  rintro ⟨⟨ks, vs⟩, h1, kv, h2, -⟩
  exact hn ks vs kv h1 h2
end
inductive Gd where
 | b (c : Bool)
 | skip
def PV.gd? : PV → Option Gd
 | .val (.bool c) => some (.b c)
 | .val (.tuple _) => some .skip
 | _ => none
@[simp] theorem k7y (c : Bool) : PV.gd? (.val (.bool c)) = some (.b c) := rfl
@[simp] theorem y28 : PV.gd? (.val (.tuple #[])) = some .skip := rfl
def onG (g : Gd) (A B C : Prop) (_ : Tok (A, B, C) := ⟨⟩) : Prop :=
 match g with
 | .b c => onB c A B
 | .skip => C
@[simp ↓, simp] theorem j5b (c : Bool) (A B C : Prop) : onG (.b c) A B C = onB c A B := rfl
@[simp ↓, simp] theorem y5v (A B C : Prop) : onG .skip A B C = C := rfl
def q94 {α : Type} (a : α) (K : α → Prop) (_ : Tok K := ⟨⟩) : Prop := K a
@[simp] theorem k3n {α : Type} (a : α) (K : α → Prop) : q94 a K = K a := rfl
def xop (P : Program) (op : MOp) (ρ : MX → PV) (st : q43) (K QP : PV → q43 → Prop) (_ : Tok (K, QP) := ⟨⟩) : Prop := mop P op ρ st K QP
def Fresh (st : q43) (K : Nat → Prop) (_ : Tok K := ⟨⟩) : Prop := ∀ b, q6h st b → K b
theorem Fresh.intro {st : q43} {K : Nat → Prop} (h : ∀ b, q6h st b → K b) : Fresh st K := h
def j5c {α β : Type} (o : Option α) (f : α → Option β) (_ : Tok f := ⟨⟩) : Option β := o.bind f
@[simp ↓, simp] theorem y1f {α β : Type} (a : α) (f : α → Option β) : j5c (some a) f = f a := rfl
@[simp] theorem y1g {α β : Type} (f : α → Option β) : j5c none f = none := rfl
def j84 : MVal → Bool
 | .buildSlice .. => true
 | _ => false
def Lit (T : TypeId) (cs : List PV) (len : Nat) (st : q43) (K : PV → q43 → Prop) (_ : Tok K := ⟨⟩) : Prop := K (.list true cs len) st ∨ ∀ b, q6h st b → K (.own b 0 len len) ((b, .arr T cs) :: st)
theorem Lit.imm {T : TypeId} {cs : List PV} {len : Nat} {st : q43} {K : PV → q43 → Prop} (h : K (.list true cs len) st) : Lit T cs len st K := .inl h
theorem Lit.own {T : TypeId} {cs : List PV} {len : Nat} {st : q43} {K : PV → q43 → Prop} (h : ∀ b, q6h st b → K (.own b 0 len len) ((b, .arr T cs) :: st)) : Lit T cs len st K := .inr h
def Grow (T : TypeId) (bytes k : Nat) (cs : List PV) (need : Nat) (st : q43) (K : PV → q43 → Prop) (_ : Tok K := ⟨⟩) : Prop := z83 T bytes k cs need st K
theorem Grow.intro {T : TypeId} {bytes k : Nat} {cs : List PV} {need : Nat} {st : q43} {K : PV → q43 → Prop} (h1 : need * bytes ≤ 140737488355328)
  (h2 : ∀ b cap, q6h st b → need ≤ cap → cap ≤ 9223372036854775807 → K (.own b 0 need cap) ((b, .arr T (cs ++ List.replicate ((cap - need) * k) .any)) :: st)) : Grow T bytes k cs need st K := ⟨h1, .inl h2⟩
def q6o (T : TypeId) (bytes k : Nat) (p : PV) (new : List PV) (m : Nat) (st : q43) (K : PV → q43 → Prop) (_ : Tok K := ⟨⟩) : Prop := q8t T bytes k p new m st K
section
variable (T : TypeId) (bytes k : Nat) (new : List PV) (m : Nat) (st : q43) (K : PV → q43 → Prop)
theorem k4f : q6o T bytes k (.val (.slice none 0 0)) new m st K = ((m = 0 → K .nil st) ∧ (¬ m = 0 → Grow T bytes k new m st K)) := by
 show (if m = 0 then K .nil st else Grow T bytes k new m st K) = _
 split <;> simp [*]
@[simp] theorem q45 (t : Bool) (cs : List PV) (n : Nat) : q6o T bytes k (.list t cs n) new m st K = ((m = 0 → K (.list t cs n) st) ∧ (¬ m = 0 → t = true ∧ cs.length = n * k ∧ Grow T bytes k (cs ++ new) (n + m) st K)) := by
 show (if m = 0 then K (.list t cs n) st else t = true ∧ cs.length = n * k ∧ Grow T bytes k (cs ++ new) (n + m) st K) = _
 split <;> simp [*]
end
theorem q8m {T : TypeId} {bytes k : Nat} {new : List PV} {m : Nat} {st : q43} {K : PV → q43 → Prop} {b n cap : Nat} {row : List PV} (hb : q5m st b = some (.arr T row)) (hl : row.length = cap * k) (hn : n ≤ cap) (hc : cap ≤ 9223372036854775807)
  (h : Grow T bytes k (row.take (n * k) ++ new) (n + m) (k2m b st) K) : q6o T bytes k (.own b 0 n cap) new m st K := by
 show q8t _ _ _ _ _ _ _ _
 simp only [q8t, hb]
 exact ⟨trivial, by omega, hn, hc, .inl ⟨trivial, hl, h⟩⟩
theorem k2y {T : TypeId} {bytes k : Nat} {new : List PV} {m : Nat} {st : q43} {K : PV → q43 → Prop} {b off n cap : Nat} {row : List PV} (hb : q5m st b = some (.arr T row)) (hl : off + cap * k ≤ row.length) (hn : n ≤ cap) (hc : cap ≤ 9223372036854775807)
  (h0 : (n + m) * bytes ≤ 140737488355328) (h1 : n + m ≤ cap → K (.own b off (n + m) cap) (q9x st b (.arr T (q48 row (off + n * k) new)))) (h2 : cap < n + m → Grow T bytes k ((row.drop off).take (n * k) ++ new) (n + m) st K) : q6o T bytes k (.own b off n cap) new m st K := by
 show q8t _ _ _ _ _ _ _ _
 simp only [q8t, hb]
 exact ⟨trivial, hl, hn, hc, .inr ⟨h0, h1, h2⟩⟩
def j15 (k : Nat) (p : PV) (new : List PV) (m : Nat) (st : q43) (K : PV → q43 → Prop) (_ : Tok K := ⟨⟩) : Prop := j1c k p new m st K
@[simp] theorem y29 (k : Nat) (new : List PV) (m : Nat) (st : q43) (K : PV → q43 → Prop) : j15 k (.val (.slice none 0 0)) new m st K = K (.int 0) st := rfl
@[simp] theorem j85 (k : Nat) (new : List PV) (m : Nat) (st : q43) (K : PV → q43 → Prop) (t : Bool) (cs : List PV) : j15 k (.list t cs 0) new m st K = K (.int 0) st := rfl
@[simp] theorem y3a (k : Nat) (new : List PV) (m : Nat) (st : q43) (K : PV → q43 → Prop) (b off n cap : Nat) : j15 k (.val (.slice (some ⟨b, off, none⟩) n cap)) new m st K =
  q5f (j03 (q5m st b)) fun r => off + min m n * k ≤ r.2.length ∧ K (.int (min m n : Nat)) (q9x st b (.arr r.1 (q48 r.2 off (new.take (min m n * k))))) := by
 simp only [j15, j1c]
 cases h : q5m st b with
 | none => simp [j03]
 | some o => cases o <;> simp [j03]
@[simp] theorem j5d (k : Nat) (st : q43) (t : Bool) (cs : List PV) (n : Nat) : q6z k st (.list t cs n) = if cs.length = n * k then some (cs, n) else none := rfl
@[simp] theorem j7g (k : Nat) (st : q43) : q6z k st (.val (.slice none 0 0)) = some ([], 0) := rfl
@[simp] theorem j7h (k : Nat) (st : q43) (b off n cap : Nat) : q6z k st (.val (.slice (some ⟨b, off, none⟩) n cap)) = j5c (j03 (q5m st b)) fun r => if off + n * k ≤ r.2.length then some ((r.2.drop off).take (n * k), n) else none := by
 simp only [q6z]
 cases h : q5m st b with
 | none => rfl
 | some o => cases o <;> rfl
@[simp] theorem j7i (st : q43) (s : ByteArray) : q6z 1 st (.val (.string s)) = some (s.data.toList.map fun b => .val (.int .u8 b.toNat), s.size) := rfl
def j5e (neg : Bool) (nk : NK) (p : PV) (st : q43) (K : PV → q43 → Prop) (_ : Tok K := ⟨⟩) : Prop := z3y neg nk p st K
section
variable (neg : Bool) (st : q43) (K : PV → q43 → Prop)
@[simp] theorem y5w (n c : Nat) : j5e neg .slice (.val (.slice none n c)) st K = K (.bool !neg) st := rfl
@[simp] theorem y5x (a : Addr) (n c : Nat) : j5e neg .slice (.val (.slice (some a) n c)) st K = K (.bool neg) st := rfl
@[simp] theorem y3b (t : Bool) (cs : List PV) (n : Nat) : j5e neg .slice (.list t cs n) st K = ((cs = [] → K (.bool !neg) st) ∧ K (.bool neg) st) := rfl
@[simp] theorem y3c : j5e neg .iface (.val .nilIface) st K = K (.bool !neg) st := rfl
@[simp] theorem y1h (T : TypeId) (p : PV) : j5e neg .iface (.iface T p) st K = K (.bool neg) st := rfl
@[simp] theorem y3d : j5e neg .map (.val (.map none)) st K = K (.bool !neg) st := rfl
@[simp] theorem y5y (r : Nat) : j5e neg .map (.val (.map (some r))) st K = K (.bool neg) st := rfl
@[simp] theorem y3e (ks : List Value) (vs : List PV) : j5e neg .map (.imap ks vs) st K = K (.bool neg) st := rfl
end
def PV.map? : PV → Option Nat
 | .val (.map (some b)) => some b
 | _ => none
@[simp] theorem j5f (b : Nat) : PV.map? (.val (.map (some b))) = some b := rfl
def map? : Option PObj → Option (List Value × List PV)
 | some (.map ks vs) => some (ks, vs)
 | _ => none
@[simp] theorem j16 (ks : List Value) (vs : List PV) : map? (some (.map ks vs)) = some (ks, vs) := rfl
@[simp] theorem y3f (st : q43) (b : Nat) : z1z st (.val (.map (some b))) = map? (q5m st b) := by
 simp only [z1z]
 cases h : q5m st b with
 | none => rfl
 | some o => cases o <;> rfl
@[simp] theorem y3g (st : q43) : z1z st (.val (.map none)) = some ([], []) := rfl
@[simp] theorem y1i (st : q43) (ks : List Value) (vs : List PV) : z1z st (.imap ks vs) = some (ks, vs) := rfl
@[simp] theorem y5z (v : Value) : PV.key? (.val v) = some v := rfl
@[simp] theorem y50 (cs : List PV) : PV.key? (.agg cs) = (PV.vals? cs).map fun vs => .agg vs.toArray := rfl
@[simp] theorem y3h : PV.vals? [] = some [] := rfl
@[simp] theorem y1j (v : Value) (ps : List PV) : PV.vals? (.val v :: ps) = (PV.vals? ps).map (v :: ·) := rfl
@[simp] theorem y3i (lk : List LK) (v : Value) : q8i (false, lk) v = (lk.length == 1) := rfl
@[simp] theorem y3j (lk : List LK) (cs : Array Value) : q8i (true, lk) (.agg cs) = (cs.size == lk.length) := rfl
@[simp] theorem y51 (kp : KP) (k : Value) : k2i kp k [] = some none := rfl
def j5g (r : Option Bool) (rest : Option (Option Nat)) : Option (Option Nat) :=
 match r with
 | some true => some (some 0)
 | some false => rest.map (·.map (· + 1))
 | none => none
@[simp] theorem y7l (rest : Option (Option Nat)) : j5g (some true) rest = some (some 0) := rfl
@[simp] theorem y7m (rest : Option (Option Nat)) : j5g (some false) rest = rest.map (·.map (· + 1)) := rfl
@[simp] theorem j17 (kp : KP) (k k' : Value) (ks : List Value) : k2i kp k (k' :: ks) = j5g (q52 kp.2 (q56 kp.1 k) (q56 kp.1 k')) (k2i kp k ks) := by
 simp only [k2i, j5g]
 split <;> rename_i h <;> simp only [h]
@[simp] theorem y1k (v : Value) : q56 false v = [.val v] := by cases v <;> rfl
@[simp] theorem y1l (cs : Array Value) : q56 true (.agg cs) = cs.toList.map .val := rfl
def y3k (b : Nat) (kv : Value) (p : PV) (ks : List Value) (vs : List PV) (r : Option (Option Nat)) (st : q43) (K : PV → q43 → Prop) (_ : Tok K := ⟨⟩) : Prop :=
 match r with
 | some (some j) => K .any (q9x st b (.map (ks.set j kv) (vs.set j p)))
 | some none => K .any (q9x st b (.map (ks ++ [kv]) (vs ++ [p])))
 | none => False
@[simp] theorem xput_s (b : Nat) (kv : Value) (p : PV) (ks : List Value) (vs : List PV) (j : Nat) (st : q43) (K : PV → q43 → Prop) : y3k b kv p ks vs (some (some j)) st K = K .any (q9x st b (.map (ks.set j kv) (vs.set j p))) := rfl
@[simp] theorem xput_n (b : Nat) (kv : Value) (p : PV) (ks : List Value) (vs : List PV) (st : q43) (K : PV → q43 → Prop) : y3k b kv p ks vs (some none) st K = K .any (q9x st b (.map (ks ++ [kv]) (vs ++ [p]))) := rfl
def xdel (b : Nat) (ks : List Value) (vs : List PV) (r : Option (Option Nat)) (st : q43) (K : PV → q43 → Prop) (_ : Tok K := ⟨⟩) : Prop :=
 match r with
 | some (some j) => K .any (q9x st b (.map (ks.eraseIdx j) (vs.eraseIdx j)))
 | some none => K .any st
 | none => False
@[simp] theorem xdel_s (b : Nat) (ks : List Value) (vs : List PV) (j : Nat) (st : q43) (K : PV → q43 → Prop) : xdel b ks vs (some (some j)) st K = K .any (q9x st b (.map (ks.eraseIdx j) (vs.eraseIdx j))) := rfl
@[simp] theorem xdel_n (b : Nat) (ks : List Value) (vs : List PV) (st : q43) (K : PV → q43 → Prop) : xdel b ks vs (some none) st K = K .any st := rfl
def xcall (P : Program) (g : FuncId) (ps : List PV) (st : q43) (Q : PEnd → q43 → Prop) (_ : Tok Q := ⟨⟩) : Prop := PCalls P g ps st Q
def j7j (P : Program) (l : Nat) (ps : List PV) (st : q43) (Q : PEnd → q43 → Prop) (_ : Tok Q := ⟨⟩) : Prop := PRound P l ps st Q
def j18 (P : Program) (f : PV) (ps : List PV) (st : q43) (Q : PEnd → q43 → Prop) (_ : Tok Q := ⟨⟩) : Prop := z7u P f ps st Q
@[simp ↓, simp] theorem j86 (P : Program) (g : FuncId) (fs cs ps : List PV) (st : q43) (Q : PEnd → q43 → Prop) : j18 P (.func (.func g) fs cs) ps st Q = xcall P g (fs ++ ps ++ cs) st Q := rfl
@[simp ↓, simp] theorem j7k (P : Program) (l : Nat) (ps : List PV) (st : q43) (Q : PEnd → q43 → Prop) : j18 P (.func (.yield l) [] []) ps st Q = j7j P l ps st Q := rfl
def j19 (k : Nat) (zs : List PV) (p : PV) (st : q43) (K : PV → q43 → Prop) (_ : Tok K := ⟨⟩) : Prop := z7v k zs p st K
@[simp] theorem y1m (k : Nat) (zs : List PV) (st : q43) (K : PV → q43 → Prop) : j19 k zs (.val (.slice none 0 0)) st K = K .any st := rfl
@[simp] theorem j7l (k : Nat) (zs : List PV) (st : q43) (K : PV → q43 → Prop) (t : Bool) (cs : List PV) : j19 k zs (.list t cs 0) st K = K .any st := rfl
def j2a (p : PV) (st : q43) (K : PV → q43 → Prop) (_ : Tok K := ⟨⟩) : Prop := z7w p st K
def y7n (p : PV) (st : q43) (K : PV → q43 → Prop) (_ : Tok K := ⟨⟩) : Prop := j4w p st K
def y3l (p : PV) (st : q43) (K : PV → q43 → Prop) (_ : Tok K := ⟨⟩) : Prop := z7x p st K
def y7o (K QP : PV → q43 → Prop) (e : PEnd) (st : q43) (_ : Tok (K, QP) := ⟨⟩) : Prop := q82 K QP e st
section
variable (P : Program) (ρ : MX → PV) (st : q43) (K QP : PV → q43 → Prop)
@[simp] theorem q7b (p : PV) : y7o K QP (.ret p) st = K p st := rfl
@[simp] theorem y1n (p : PV) : y7o K QP (.panic p) st = QP p st := rfl
theorem q6k (v : MVal) (h : j84 v = false) : xop P (.val v) ρ st K QP = q60 v ρ st fun p => K p st := by
 have : j8g v ρ st K = False := by
  unfold j8g
  split
  ·simp [j84] at h
  ·rfl
 simp only [xop, mop, this, or_false]
 rfl
@[simp ↓] theorem mop_mv (x : MX) : xop P (.val (.mv x)) ρ st K QP = q60 (.mv x) ρ st fun p => K p st := q6k P ρ st K QP _ rfl
@[simp ↓] theorem y52 (c a b : MX) : xop P (.val (.pick c a b)) ρ st K QP = q60 (.pick c a b) ρ st fun p => K p st := q6k P ρ st K QP _ rfl
@[simp ↓] theorem y3m (zs : List PV) (parts : List (Nat × Nat × MX)) : xop P (.val (.build zs parts)) ρ st K QP = q60 (.build zs parts) ρ st fun p => K p st := q6k P ρ st K QP _ rfl
@[simp ↓] theorem y53 (k : Nat) (agg : Bool) (x : MX) : xop P (.val (.load k agg x)) ρ st K QP = q60 (.load k agg x) ρ st fun p => K p st := q6k P ρ st K QP _ rfl
@[simp ↓] theorem j7m (x : MX) : xop P (.val (.nilCheck x)) ρ st K QP = q60 (.nilCheck x) ρ st fun p => K p st := q6k P ρ st K QP _ rfl
@[simp ↓] theorem y7p (op : BinOp) (T : TypeId) (x y : MX) : xop P (.val (.bin op T x y)) ρ st K QP = q60 (.bin op T x y) ρ st fun p => K p st := q6k P ρ st K QP _ rfl
@[simp ↓] theorem y3n (neg : Bool) (ks : List LK) (x y : MX) : xop P (.val (.eqAgg neg ks x y)) ρ st K QP = q60 (.eqAgg neg ks x y) ρ st fun p => K p st := q6k P ρ st K QP _ rfl
@[simp ↓] theorem mop_un (op : UnOp) (x : MX) : xop P (.val (.un op x)) ρ st K QP = q60 (.un op x) ρ st fun p => K p st := q6k P ρ st K QP _ rfl
@[simp ↓] theorem y3o (k : IntKind) (x : MX) : xop P (.val (.toInt k x)) ρ st K QP = q60 (.toInt k x) ρ st fun p => K p st := q6k P ρ st K QP _ rfl
@[simp ↓] theorem j87 (T : TypeId) (x : MX) : xop P (.val (.mkIface T x)) ρ st K QP = q60 (.mkIface T x) ρ st fun p => K p st := q6k P ρ st K QP _ rfl
@[simp ↓] theorem y1o (fn : Fn) (first captured : List MX) : xop P (.val (.mkFunc fn first captured)) ρ st K QP = q60 (.mkFunc fn first captured) ρ st fun p => K p st := q6k P ρ st K QP _ rfl
@[simp ↓] theorem j5h (off : Nat) (x : MX) : xop P (.val (.fieldAddr off x)) ρ st K QP = q60 (.fieldAddr off x) ρ st fun p => K p st := q6k P ρ st K QP _ rfl
@[simp ↓] theorem j5i (k : Nat) (x i : MX) : xop P (.val (.indexAddr k x i)) ρ st K QP = q60 (.indexAddr k x i) ρ st fun p => K p st := q6k P ρ st K QP _ rfl
@[simp ↓] theorem j7n (n k : Nat) (x i : MX) : xop P (.val (.indexArr n k x i)) ρ st K QP = q60 (.indexArr n k x i) ρ st fun p => K p st := q6k P ρ st K QP _ rfl
@[simp ↓] theorem y3p (n k : Nat) (agg : Bool) (x i : MX) : xop P (.val (.index n k agg x i)) ρ st K QP = q60 (.index n k agg x i) ρ st fun p => K p st := q6k P ρ st K QP _ rfl
@[simp ↓] theorem y7q (x : MX) : xop P (.val (.len x)) ρ st K QP = q60 (.len x) ρ st fun p => K p st := q6k P ρ st K QP _ rfl
@[simp ↓] theorem y1p (x : MX) : xop P (.val (.maplen x)) ρ st K QP = q60 (.maplen x) ρ st fun p => K p st := q6k P ρ st K QP _ rfl
@[simp ↓] theorem y7r (x : MX) : xop P (.val (.cap x)) ρ st K QP = q60 (.cap x) ρ st fun p => K p st := q6k P ρ st K QP _ rfl
@[simp ↓] theorem y1q (lk : Bool × List LK) (z : PV) (ok : Bool) (x i : MX) : xop P (.val (.lookup lk z ok x i)) ρ st K QP = q60 (.lookup lk z ok x i) ρ st fun p => K p st := q6k P ρ st K QP _ rfl
@[simp ↓] theorem y3q (k : Nat) (x : MX) (lo hi mx : Option MX) : xop P (.val (.slice k x lo hi mx)) ρ st K QP = q60 (.slice k x lo hi mx) ρ st fun p => K p st := q6k P ρ st K QP _ rfl
@[simp ↓] theorem j7o (n k : Nat) (x : MX) (lo hi mx : Option MX) : xop P (.val (.sliceArr n k x lo hi mx)) ρ st K QP = q60 (.sliceArr n k x lo hi mx) ρ st fun p => K p st := q6k P ρ st K QP _ rfl
@[simp ↓] theorem y3r (x : MX) : xop P (.val (.strOf x)) ρ st K QP = q60 (.strOf x) ρ st fun p => K p st := q6k P ρ st K QP _ rfl
@[simp ↓] theorem j88 (i : Nat) (x : MX) : xop P (.val (.extract i x)) ρ st K QP = q60 (.extract i x) ρ st fun p => K p st := q6k P ρ st K QP _ rfl
@[simp ↓] theorem y1r (isMax : Bool) (xs : List MX) : xop P (.val (.minmax isMax xs)) ρ st K QP = q60 (.minmax isMax xs) ρ st fun p => K p st := q6k P ρ st K QP _ rfl
@[simp ↓] theorem y1s (T : TypeId) (z : PV) (ok : Bool) (x : MX) : xop P (.val (.assert T z ok x)) ρ st K QP = q60 (.assert T z ok x) ρ st fun p => K p st := q6k P ρ st K QP _ rfl
@[simp ↓] theorem y7s (T : TypeId) (len : Nat) (zs : List PV) (parts : List (Nat × Nat × MX)) : xop P (.val (.buildSlice T len zs parts)) ρ st K QP =
  q5f (k0b zs (parts.map fun q => (q.1, q.2.1, ρ q.2.2))) fun cs => Lit T cs len st K := by
 simp only [xop, mop, q69, j8g, Lit]
 split <;> simp_all
@[simp ↓] theorem y1t (T : TypeId) (bytes k : Nat) (x y : MX) : xop P (.append T bytes k x y) ρ st K QP = q5f (q6z k st (ρ y)) fun r => q6o T bytes k (ρ x) r.1 r.2 st K := by
 simp only [xop, mop]
 split
 ·rename_i h; simp only [h, q5g]; rfl
 ·rename_i h; simp only [h, q88]
@[simp ↓] theorem j89 (T : TypeId) (bytes k : Nat) (zs : List PV) (x n : MX) : xop P (.appendZ T bytes k zs x n) ρ st K QP = q5f (ρ n).int? fun q => 0 ≤ q.2 ∧ q.2 ≤ 9223372036854775807 ∧ q6o T bytes k (ρ x) (List.replicate q.2.toNat zs).flatten q.2.toNat st K := by
 simp only [xop, mop]
 split
 ·rename_i h; simp only [h, z77, q5g]; rfl
 ·rename_i h
  simp only [q5f, eq_iff_iff, false_iff]
  rintro ⟨⟨k, m⟩, h1, -⟩
  unfold PV.int? at h1
  split at h1
  ·rename_i h2; exact h _ _ h2
  ·cases h1
@[simp ↓] theorem j9a (T : TypeId) (bytes k : Nat) (zs : List PV) (l c : MX) : xop P (.mkSlice T bytes k zs l c) ρ st K QP = q5f (ρ l).int? fun a => q5f (ρ c).int? fun b => 0 ≤ a.2 ∧ a.2 ≤ b.2 ∧ b.2 * bytes ≤ 281474976710656 ∧ b.2 ≤ 9223372036854775807 ∧
  Fresh st fun d => K (.own d 0 a.2.toNat b.2.toNat) ((d, .arr T (List.replicate b.2.toNat zs).flatten) :: st) := by
 simp only [xop, mop]
 split
 ·rename_i h1 h2; simp only [h1, h2, z77, q5g]; rfl
 ·rename_i h
  simp only [q5f, eq_iff_iff, false_iff]
  rintro ⟨⟨k, m⟩, h1, ⟨k', m'⟩, h2, -⟩
  unfold PV.int? at h1 h2
  split at h1
  ·split at h2
   ·rename_i h3 _ _ _ h4; exact h _ _ _ _ h3 h4
   ·cases h2
  ·cases h1
@[simp ↓] theorem y54 (k : Nat) (x y : MX) : xop P (.copy k x y) ρ st K QP = q5f (q6z k st (ρ y)) fun r => j15 k (ρ x) r.1 r.2 st K := by
 simp only [xop, mop]
 split
 ·rename_i h; simp only [h, q5g]; rfl
 ·rename_i h; simp only [h, q88]
@[simp ↓] theorem y3s (neg : Bool) (nk : NK) (x : MX) : xop P (.eqNil neg nk x) ρ st K QP = j5e neg nk (ρ x) st K := rfl
@[simp ↓] theorem y3t : xop P .mkMap ρ st K QP = Fresh st fun b => K (.val (.map (some b))) ((b, .map [] []) :: st) := rfl
@[simp ↓] theorem y1u (kp : KP) (m k v : MX) : xop P (.mapSet kp m k v) ρ st K QP = q5f (ρ m).map? fun b => q5f (ρ k).key? fun kv => q5f (map? (q5m st b)) fun r => q8i kp kv = true ∧ y3k b kv (ρ v) r.1 r.2 (k2i kp kv r.1) st K := by
 simp only [xop, mop]
 split
 ·rename_i b kv h1 h2
  simp only [h1, h2, j5f, q5g]
  split
  ·rename_i h3; simp only [h3, j16, q5g]; rfl
  ·rename_i h3
   cases h4 : q5m st b with
   | none => simp [map?]
   | some o => cases o <;> simp_all [map?]
 ·rename_i h
  simp only [q5f, eq_iff_iff, false_iff]
  rintro ⟨b, h1, kv, h2, -⟩
  refine h b kv ?_ h2
  revert h1
  unfold PV.map?
  split <;> simp
  rintro rfl
  assumption
@[simp ↓] theorem y3u (T : TypeId) (zs : List PV) : xop P (.alloc T zs) ρ st K QP = Fresh st fun b => K (.ptr b 0) ((b, .arr T zs) :: st) := rfl
@[simp ↓] theorem y7t (T : TypeId) (x : MX) : xop P (.box T x) ρ st K QP = q5f (ρ x).cells fun cs => Fresh st fun b => K (.ptr b 0) ((b, .arr T cs) :: st) := by
 simp only [xop, mop]; split <;> simp_all [Fresh]
@[simp ↓] theorem y3v (k : Nat) (x y : MX) : xop P (.store k x y) ρ st K QP = q5f (ρ x).ptr? fun a => q5f (ρ y).cells fun ps => q5f (j03 (q5m st a.1)) fun r =>
  ps.length = k ∧ a.2 + k ≤ r.2.length ∧ K .any (q9x st a.1 (.arr r.1 (q48 r.2 a.2 ps))) := by
 simp only [xop, mop]
 split
 ·rename_i b off ps h1 h2
  simp only [h1, h2, j44, q5g]
  split
  ·rename_i h3; simp [h3]
  ·rename_i h3
   cases h4 : q5m st b with
   | none => simp [j03]
   | some o => cases o <;> simp_all [j03]
 ·rename_i h1
  simp only [q5f, false_iff, eq_iff_iff]
  rintro ⟨⟨b, off⟩, h2, ps, h3, -⟩
  refine h1 b off ps ?_ h3
  revert h2
  unfold PV.ptr?
  split <;> simp
  intro e1 e2
  subst e1; subst e2
  assumption
@[simp ↓] theorem y55 (f : MX) (args : List MX) : xop P (.call f args) ρ st K QP = j18 P (ρ f) (args.map ρ) st fun e st' => y7o K QP e st' := rfl
@[simp ↓] theorem y3w (k : Nat) (zs : List PV) (x : MX) : xop P (.clear k zs x) ρ st K QP = j19 k zs (ρ x) st K := rfl
@[simp ↓] theorem j7p (x : MX) : xop P (.rangeMap x) ρ st K QP = j2a (ρ x) st K := rfl
@[simp ↓] theorem y56 (x : MX) : xop P (.next x) ρ st K QP = y7n (ρ x) st K := rfl
@[simp ↓] theorem y3x (x : MX) : xop P (.entry x) ρ st K QP = y3l (ρ x) st K := rfl
@[simp ↓] theorem y3y (x : MX) : xop P (.bytes x) ρ st K QP = q5f (ρ x).str? fun s => s.size ≤ 140737488355328 ∧ K (.list false (k1t s) s.size) st := by
 simp only [xop, mop]
 split <;> simp_all [PV.str?]
@[simp ↓] theorem y3z (x : MX) : xop P (.panic x) ρ st K QP = q5f (ρ x).iface? fun q => QP (.iface q.1 q.2) st := by
 simp only [xop, mop]
 split <;> simp_all [PV.iface?]
end
def z79 (P : Program) (l : List MInst) (s : PS) (K : PS → Prop) (QP : PV → q43 → Prop) (_ : Tok (l, K, QP) := ⟨⟩) : Prop := z5m P l s K QP
def xwp (P : Program) (c : MCode) (Q : q7a) (s : PS) (_ : Tok (c, Q) := ⟨⟩) : Prop := mwp P c Q s
def k4g (K : PS → Prop) (Q : q7a) (e : MExit) (s : PS) (_ : Tok (K, Q) := ⟨⟩) : Prop := z5t K Q e s
def z4k (id : Nat) (Q : q7a) (e : MExit) (s : PS) (_ : Tok Q := ⟨⟩) : Prop := z12 id Q e s
def j5j (P : Program) (c : MCode) (Q : q7a) (s : PS) (_ : Tok (c, Q) := ⟨⟩) : Prop := z13 View (mwp P c) Q s
def j7q (P : Program) (f : PV) (ps : List Nat) (a b : MCode) (Q : q7a) (s : PS) (_ : Tok (a, b, Q) := ⟨⟩) : Prop :=
 match f with
 | .func (.func f) fs cs => k2e P f ∧ ∀ key : LoopKey, key.Conv P ps a b → ∀ l, q6h s.st l →
   PCalls P f (fs ++ [.func (.yield l) [] []] ++ cs) ((l, .loop key s.env .ready none) :: s.st) (k3m l Q s.env)
 | _ => False
def z6f : Option PObj → Option (LoopKey × Env × LoopState × Option Code)
 | some (.loop key e state pend) => some (key, e, state, pend)
 | _ => none
@[simp] theorem k6b (key : LoopKey) (e : Env) (state : LoopState) (pend : Option Code) : z6f (some (.loop key e state pend)) = some (key, e, state, pend) := rfl
theorem z1a {o : Option PObj} (h : ∀ key e state pend, o = some (.loop key e state pend) → False) : z6f o = none := by
 unfold z6f
 split
 ·rename_i key e state pend; exact (h key e state pend rfl).elim
 ·rfl
def j5k (pend : Option Code) (Q : q7a) (s : PS) (_ : Tok Q := ⟨⟩) : Prop :=
 match pend with
 | none => Q .normal s
 | some .ret => Q .ret s
 | some (.exit id) => Q (.exit id) s
 | _ => False
@[simp ↓, simp] theorem y1v (Q : q7a) (s : PS) : j5k none Q s = Q .normal s := rfl
@[simp ↓, simp] theorem y30 (Q : q7a) (s : PS) : j5k (some .ret) Q s = Q .ret s := rfl
@[simp ↓, simp] theorem y1w (id : Nat) (Q : q7a) (s : PS) : j5k (some (.exit id)) Q s = Q (.exit id) s := rfl
def j5l (l : Nat) (Q : q7a) (e : Env) (en : PEnd) (st : q43) (_ : Tok Q := ⟨⟩) : Prop := k3m l Q e en st
@[simp ↓, simp] theorem y31 (l : Nat) (Q : q7a) (e : Env) (p : PV) (st : q43) : j5l l Q e (.ret p) st = q5f (z6f (q5m st l)) fun r => r.2.2.1 ≠ .busy ∧ j5k r.2.2.2 Q ⟨e, k2m l st⟩ := by
 simp only [j5l, k3m]
 split
 ·rename_i h; simp only [h, k6b, q5g]
  congr 1
 ·rename_i h; rw [z1a h]; simp
@[simp ↓, simp] theorem j9b (l : Nat) (Q : q7a) (e : Env) (p : PV) (st : q43) : j5l l Q e (.panic p) st = Q (.panic p) ⟨[], st⟩ := rfl
theorem z6g {P : Program} {f : FuncId} {fs cs : List PV} {ps : List Nat} {a b : MCode} {Q : q7a} {e : Env} {st : q43} (hent : k2e P f)
  (h : ∀ key : LoopKey, key.Conv P ps a b → ∀ l, q6h st l → xcall P f (fs ++ [.func (.yield l) [] []] ++ cs) ((l, .loop key e .ready none) :: st) fun en s => j5l l Q e en s) : j7q P (.func (.func f) fs cs) ps a b Q ⟨e, st⟩ := ⟨hent, h⟩
@[simp] theorem y1x (e : Env) (t : Nat) (ts : List Nat) (p : PV) (ps : List PV) : k8k e (t :: ts) (p :: ps) = k8k (q99 e (some t) p) ts ps := rfl
@[simp] theorem y32 (e : Env) : k8k e [] [] = e := rfl
def z2o (l : Nat) (Q : PEnd → q43 → Prop) (ex : MExit) (s : PS) (_ : Tok Q := ⟨⟩) : Prop := k8l l Q ex s
def k4h (P : Program) (l : Nat) (b : MCode) (Q : PEnd → q43 → Prop) (ex : MExit) (s : PS) (_ : Tok (b, Q) := ⟨⟩) : Prop := z73 P l b Q ex s
section
variable (l id : Nat) (Q : PEnd → q43 → Prop) (e : Env) (st : q43)
@[simp ↓] theorem j4l : z2o l Q .normal ⟨e, st⟩ = q5f (z6f (q5m st l)) fun r => Q (.ret (.bool true)) (q9x st l (.loop r.1 r.2.1 .ready none)) := by
 simp only [z2o, k8l]
 split
 ·rename_i h; simp only [h, k6b, q5g]
 ·rename_i h; rw [z1a h]; simp
@[simp ↓] theorem j5m (p : PV) (s : PS) : z2o l Q (.panic p) s = False := rfl
@[simp ↓] theorem j4m (P : Program) (b : MCode) : k4h P l b Q .normal ⟨e, st⟩ = q5f (z6f (q5m st l)) fun r => r.2.2.1 = .ready ∧ xwp P b (fun ex s => z2o l Q ex s) ⟨e, q9x st l (.loop r.1 r.2.1 .busy r.2.2.2)⟩ := by
 simp only [k4h, z73]
 split
 ·rename_i h; simp only [h, k6b, q5g, true_and]; rfl
 ·rename_i h
  simp only [q5f, eq_iff_iff, false_iff]
  rintro ⟨⟨key, e', state, pend⟩, h1, h2, -⟩
  simp only at h2
  subst h2
  unfold z6f at h1
  split at h1
  ·rename_i h3; cases h1; exact h _ _ _ h3
  ·cases h1
@[simp ↓] theorem j9c (P : Program) (b : MCode) (s : PS) : k4h P l b Q .ret s = False := rfl
@[simp ↓] theorem j7r (P : Program) (b : MCode) (s : PS) : k4h P l b Q (.exit id) s = False := rfl
@[simp ↓] theorem j5n (P : Program) (b : MCode) (p : PV) (s : PS) : k4h P l b Q (.panic p) s = False := rfl
end
theorem z6h {P : Program} (q5d : P.follows .mixedOrders = true) {l : Nat} {key : LoopKey} {params : List Nat} {ma mb : MCode} (hconv : key.Conv P params ma mb) {e : Env} {st : q43} (hget : q5m st l = some (.loop key e .ready none))
  {args : List PV} (hlen : params.length = args.length) {Q : PEnd → q43 → Prop} (h : xwp P ma (fun ex s => k4h P l mb Q ex s) ⟨k8k e params args, st⟩) : PRound P l args st Q := z2j q5d hconv hget hlen h
def z8a (Q : q7a) (p : PV) (st : q43) (_ : Tok Q := ⟨⟩) : Prop := Q (.panic p) ⟨[], st⟩
def j2b (rs : List MRes) (R E : PV → q43 → Prop) (e : MExit) (s : PS) (_ : Tok (R, E) := ⟨⟩) : Prop := k1v rs R E e s
def j4n (s : PS) (rs : List MRes) (K : List PV → Prop) (_ : Tok K := ⟨⟩) : Prop := y02 s rs K
section
variable (P : Program) (K : PS → Prop) (QP : PV → q43 → Prop) (Q : q7a) (s : PS) (e : Env) (st : q43)
@[simp ↓] theorem y57 : z79 P [] s K QP = K s := rfl
@[simp ↓] theorem y33 (d : Option Nat) (op : MOp) (l : List MInst) : z79 P (⟨d, none, op⟩ :: l) ⟨e, st⟩ K QP = xop P op (q5z e) st (fun p st' => q94 (⟨q99 e d p, st'⟩ : PS) fun s => z79 P l s K QP) QP := rfl
theorem z9o {p : PV} (h : ∀ c, p = .val (.bool c) → False) : p.bool? = none := by
 unfold PV.bool?
 split
 ·rename_i c; exact (h c rfl).elim
 ·rfl
theorem k7z {p : PV} (h : ∀ c, p = .val (.bool c) → False) (h2 : ∀ vs, p = .val (.tuple vs) → False) : p.gd? = none := by
 unfold PV.gd?
 split
 ·rename_i c; exact (h c rfl).elim
 ·rename_i c; exact (h2 c rfl).elim
 ·rfl
@[simp ↓] theorem j7s (d : Option Nat) (t : Nat) (op : MOp) (l : List MInst) : z79 P (⟨d, some (t, true), op⟩ :: l) ⟨e, st⟩ K QP = q5f (q54 e t).gd? fun c =>
  onG c (q94 (z11 e t true) fun e => xop P op (q5z e) st (fun p st' => q94 (⟨q99 e d p, st'⟩ : PS) fun s => z79 P l s K QP) QP)
   (q94 (⟨q99 (z11 e t false) d .undef, st⟩ : PS) fun s => z79 P l s K QP) (q94 (⟨q99 e d .undef, st⟩ : PS) fun s => z79 P l s K QP) := by
 simp only [z79, z5m]
 split
 ·rename_i c h; simp only [h, k7y, q5g, j5b, k3n]; cases c <;> simp [xop]
 ·rename_i vs h
  have hg : (q54 e t).gd? = some .skip := by rw [h]; rfl
  rw [hg, q5g]
  rfl
 ·rename_i h h2; rw [k7z h h2]; simp
@[simp ↓] theorem j7t (d : Option Nat) (t : Nat) (op : MOp) (l : List MInst) : z79 P (⟨d, some (t, false), op⟩ :: l) ⟨e, st⟩ K QP = q5f (q54 e t).gd? fun c =>
  onG c (q94 (⟨q99 (z11 e t true) d .undef, st⟩ : PS) fun s => z79 P l s K QP)
   (q94 (z11 e t false) fun e => xop P op (q5z e) st (fun p st' => q94 (⟨q99 e d p, st'⟩ : PS) fun s => z79 P l s K QP) QP) (q94 (⟨q99 e d .undef, st⟩ : PS) fun s => z79 P l s K QP) := by
 simp only [z79, z5m]
 split
 ·rename_i c h; simp only [h, k7y, q5g, j5b, k3n]; cases c <;> simp [xop]
 ·rename_i vs h
  have hg : (q54 e t).gd? = some .skip := by rw [h]; rfl
  rw [hg, q5g]
  rfl
 ·rename_i h h2; rw [k7z h h2]; simp
@[simp ↓] theorem y58 : xwp P .skip Q s = Q .normal s := rfl
@[simp ↓] theorem y1y (l : List MInst) (ks : List Nat) : xwp P (.region l ks) Q s = z79 P l s (fun s' => q94 (⟨k0a ks s'.env, s'.st⟩ : PS) fun s' => Q .normal s') (fun p st' => z8a Q p st') := rfl
@[simp ↓] theorem y7u (a b : MCode) : xwp P (.seq a b) Q s = xwp P a (fun e s' => k4g (fun s' => xwp P b Q s') Q e s') s := rfl
@[simp ↓] theorem y59 (c : MX) (a b : MCode) : xwp P (.cond c a b) Q ⟨e, st⟩ = q5f (q5z e c).bool? fun t => onB t (xwp P a Q ⟨e, st⟩) (xwp P b Q ⟨e, st⟩) := by
 simp only [xwp, mwp]
 split
 ·rename_i t h; simp only [h, z9l, q5g]; cases t <;> simp
 ·rename_i h; rw [z9o h]; simp
@[simp ↓] theorem y34 (id : Nat) (c : MCode) : xwp P (.block id c) Q s = xwp P c (fun e s' => z4k id Q e s') s := rfl
@[simp ↓] theorem y6a (c : MCode) : xwp P (.loop c) Q s = j5j P c Q s := rfl
@[simp ↓] theorem j5o (g : MX) (ps : List Nat) (a b : MCode) : xwp P (.rangeFunc g ps a b) Q ⟨e, st⟩ = j7q P (q5z e g) ps a b Q ⟨e, st⟩ := rfl
@[simp ↓] theorem y6b (id : Nat) : xwp P (.exit id) Q s = Q (.exit id) s := rfl
@[simp ↓] theorem y7v : xwp P .ret Q s = Q .ret s := rfl
@[simp ↓] theorem j7u : k4g K Q .normal s = K s := rfl
@[simp ↓] theorem y1z (id : Nat) : k4g K Q (.exit id) s = Q (.exit id) s := rfl
@[simp ↓] theorem y35 : k4g K Q .ret s = Q .ret s := rfl
@[simp ↓] theorem j9d (p : PV) : k4g K Q (.panic p) s = Q (.panic p) s := rfl
@[simp ↓] theorem j5p (id : Nat) : z4k id Q .normal s = Q .normal s := rfl
@[simp ↓] theorem j9e (id j : Nat) : z4k id Q (.exit j) s = if j = id then Q .normal s else Q (.exit j) s := rfl
@[simp ↓] theorem y10 (id : Nat) : z4k id Q .ret s = Q .ret s := rfl
@[simp ↓] theorem j7v (id : Nat) (p : PV) : z4k id Q (.panic p) s = Q (.panic p) s := rfl
@[simp ↓] theorem y36 (p : PV) (st' : q43) : z8a Q p st' = Q (.panic p) ⟨[], st'⟩ := rfl
section
variable (rs : List MRes) (R E : PV → q43 → Prop)
@[simp ↓] theorem j9f : j2b rs R E .normal s = j4n s rs fun ps => R (k2n ps) s.st := rfl
@[simp ↓] theorem y6c : j2b rs R E .ret s = j4n s rs fun ps => R (k2n ps) s.st := rfl
@[simp ↓] theorem y11 (p : PV) : j2b rs R E (.panic p) s = E p s.st := rfl
@[simp ↓] theorem y37 (id : Nat) : j2b rs R E (.exit id) s = False := rfl
end
@[simp ↓] theorem y6d (K : List PV → Prop) : j4n s [] K = K [] := rfl
@[simp ↓] theorem y6e (K : List PV → Prop) (t : Nat) (rs : List MRes) : j4n ⟨e, st⟩ (.tmp t :: rs) K = j4n ⟨e, st⟩ rs fun ps => K (q54 e t :: ps) := rfl
@[simp ↓] theorem y38 (K : List PV → Prop) (t k : Nat) (agg : Bool) (rs : List MRes) : j4n ⟨e, st⟩ (.cell t k agg :: rs) K = q5f (k1d st (q54 e t)) fun r => k0h r.1 r.2 k agg fun p => j4n ⟨e, st⟩ rs fun ps => K (p :: ps) := by
 have : j4n ⟨e, st⟩ (.cell t k agg :: rs) K = q60 (.load k agg (.tmp t)) (q5z e) st fun p => j4n ⟨e, st⟩ rs fun ps => K (p :: ps) := rfl
 rw [this, j1w]
 rfl
end
theorem j2c (op : BinOp) (p q : PV) (K : PV → Prop) : k9y op p q K ↔ ∃ r, k9y op p q (fun x => x = r) ∧ K r := by
 unfold k9y
 repeat' split
 all_goals first | (simp; done) | (constructor <;> grind)
theorem k69 (k b off n cap : Nat) (lo hi mx : Option Int) (K : PV → Prop) : q8h k b off n cap lo hi mx K ↔ ∃ r, q8h k b off n cap lo hi mx (fun x => x = r) ∧ K r := by
 unfold q8h
 cases lo with
 | none => simp only; constructor <;> grind
 | some l =>
  simp only
  constructor
  ·rintro ⟨h0, h1, h2, h3, h4, h5, h6, h7⟩
   by_cases hl : l = mx.getD cap
   ·exact ⟨_, ⟨h0, h1, h2, h3, h4, h5, fun _ => rfl, fun h => by omega⟩, h6 hl⟩
   ·exact ⟨_, ⟨h0, h1, h2, h3, h4, h5, fun h => absurd h hl, fun _ => rfl⟩, h7 (by omega)⟩
  ·rintro ⟨r, ⟨h0, h1, h2, h3, h4, h5, h6, h7⟩, h8⟩
   exact ⟨h0, h1, h2, h3, h4, h5, fun h => by rw [h6 h]; exact h8, fun h => by rw [h7 h]; exact h8⟩
theorem z2p (k : Nat) (t : Bool) (cs : List PV) (n : Nat) (p : PV) (lo hi mx : Option Int) (K : PV → Prop) : k2l k t cs n p lo hi mx K ↔ ∃ r, k2l k t cs n p lo hi mx (fun x => x = r) ∧ K r := by
 unfold k2l
 split <;> first | (simp; done) | (constructor <;> grind)
theorem z6i (k : Nat) (p : PV) (lo hi mx : Option Int) (K : PV → Prop) : k1u k p lo hi mx K ↔ ∃ r, k1u k p lo hi mx (fun x => x = r) ∧ K r := by
 unfold k1u
 split
 ·constructor
  ·rintro ⟨h1, h2⟩; exact ⟨p, ⟨h1, rfl⟩, h2⟩
  ·rintro ⟨r, ⟨h1, rfl⟩, h2⟩; exact ⟨h1, h2⟩
 split
 ·exact z2p ..
 ·split
  ·exact k69 ..
  ·simp
theorem k97 (n k : Nat) (p : PV) (lo hi mx : Option Int) (K : PV → Prop) : q7d n k p lo hi mx K ↔ ∃ r, q7d n k p lo hi mx (fun x => x = r) ∧ K r := by
 unfold q7d
 split
 ·constructor <;> grind
 ·exact k69 ..
 ·simp
theorem k98 (s : ByteArray) (lo hi : Option Int) (K : PV → Prop) : q81 s lo hi K ↔ ∃ r, q81 s lo hi (fun x => x = r) ∧ K r := by
 unfold q81
 split <;> first | (simp; done) | (constructor <;> grind)
theorem k5g (v : MVal) (ρ : MX → PV) (st : q43) (K : PV → Prop) : q69 v ρ st K ↔ ∃ p, q69 v ρ st (fun q => q = p) ∧ K p := by
 cases v
 case bin op T x y => exact j2c op _ _ K
 case pick c a b =>
  simp only [q69]
  split
  ·rename_i t _
   cases t <;> simp
  ·simp
 case slice k x lo hi mx =>
  simp only [q69]
  split
  ·exact z6i ..
  ·simp
 case sliceArr n k x lo hi mx =>
  simp only [q69]
  split
  ·exact k97 ..
  ·simp
 case sliceStr x lo hi =>
  simp only [q69]
  split
  ·exact k98 ..
  ·simp
 all_goals simp only [q69]
 all_goals (repeat' split)
 all_goals first | (simp; done) | (constructor <;> grind)
def k3u (P : Program) (Cl : q43 → Prop) (l : List (DFlag × MInst)) (s : PS) (K : PS → Prop) (QP : PV → q43 → Prop) (_ : Tok (Cl, l, K, QP) := ⟨⟩) : Prop := mdraw P Cl l s K QP
def k7r (P : Program) (Cl : q43 → Prop) (fl : DFlag) (op : MOp) (e : Env) (st : q43) (K QP : PV → q43 → Prop) (_ : Tok (Cl, fl, op, K, QP) := ⟨⟩) : Prop := mdraw.one P Cl fl ⟨none, none, op⟩ ⟨e, st⟩ K QP
theorem Rets.xcall {P : Program} {g : FuncId} {ps : List PV} {st : q43} {p : PV} (h : Rets P g ps st p) {Q : PEnd → q43 → Prop} (hk : Q (.ret p) st) : xcall P g ps st Q := h.calls hk
def j2d (P : Program) (Cl : q43 → Prop) (g : FuncId) (ps : List PV) (K : PV → Prop) (QP : PV → q43 → Prop) (_ : Tok (Cl, K, QP) := ⟨⟩) : Prop :=
 ∃ p, (∀ st, Cl st → PCalls P g ps st (fun en st' => st' = st ∧ (en = .ret p ∨ ∃ q, en = .panic q ∧ QP q st))) ∧ K p
def k0j (Cl : q43 → Prop) (k : Nat) (agg : Bool) (p : PV) (K : PV → Prop) (_ : Tok (Cl, K) := ⟨⟩) : Prop :=
 ∃ q, (∀ st, Cl st → q69 (.load k agg (.const p)) (q5z []) st (fun r => r = q)) ∧ K q
theorem k99 {Cl : q43 → Prop} {k : Nat} {agg : Bool} {cs : List PV} {off : Nat} {K : PV → Prop} (h : k0h cs off k agg K) : k0j Cl k agg (.iptr cs off) K := by
 have h' : q69 (.load k agg (.const (.iptr cs off))) (q5z []) [] K := h
 obtain ⟨q, h1, h2⟩ := (k5g _ _ _ _).1 h'
 exact ⟨q, fun _ _ => h1, h2⟩
theorem z2q {st0 : q43} {M : List Nat} {k : Nat} {agg : Bool} {b off : Nat} {T : TypeId} {cs : List PV} {K : PV → Prop} (hb : b ∉ M) (hg : q5m st0 b = some (.arr T cs)) (h : k0h cs off k agg K) : k0j (Cls st0 M) k agg (.ptr b off) K := by
 have key : ∀ (st : q43) (K' : PV → Prop), q5m st b = some (.arr T cs) → q69 (.load k agg (.const (.ptr b off))) (q5z []) st K' = k0h cs off k agg K' := by
  intro st K' hst
  simp only [q69, q5z, k1d, hst]
  rfl
 obtain ⟨q, h1, h2⟩ := (k5g _ _ _ _).1 ((key st0 K hg).symm ▸ h)
 exact ⟨q, fun st hst => by rw [key st _ (hst b hb _ hg)]; rwa [key st0 _ hg] at h1, h2⟩
@[simp] theorem j2e (c : Nat) (o : PObj) (st : q43) (b : Nat) : q6h ((c, o) :: st) b = ((¬ c = b ∧ ¬ b = c) ∧ q6h st b) := propext ⟨fun h => h, fun h => h⟩
@[simp] theorem y6f (c : Nat) : q5m [] c = none := by rw [q5m]
@[simp] theorem y39 (b : Nat) (o : PObj) (st : q43) (c : Nat) : q5m ((b, o) :: st) c = if b = c then some o else q5m st c := by rw [q5m]
theorem Cls.self (st : q43) (M : List Nat) : Cls st M st := fun _ _ _ h => h
@[simp] theorem y6g (st : q43) (M : List Nat) : Cls st M st = True := eq_true (Cls.self st M)
@[simp] theorem j2f {st0 st : q43} {M : List Nat} {b : Nat} {o : PObj} (hn : q6h st b) (h : Cls st0 M st) : Cls st0 M ((b, o) :: st) := fun c hc x hx => by
 have := h c hc x hx
 simp only [q5m]
 rw [if_neg]
 ·exact this
 ·rintro rfl; rw [k3g hn] at this; cases this
@[simp] theorem z8b {st0 st : q43} {M : List Nat} {b : Nat} {o : PObj} (h : Cls st0 M st) : Cls ((b, o) :: st0) M ((b, o) :: st) := fun c hc x hx => by
 simp only [q5m] at hx ⊢
 split
 ·rename_i e; rw [if_pos e] at hx; exact hx
 ·rename_i e; rw [if_neg e] at hx; exact h c hc x hx
@[simp] theorem y4a {st0 st : q43} {M : List Nat} {b : Nat} {o o' : PObj} (hb : b ∈ M) (h : Cls st0 M st) : Cls ((b, o) :: st0) M ((b, o') :: st) := fun c hc x hx => by
 have hne : b ≠ c := by rintro rfl; exact hc hb
 simp only [q5m, if_neg hne] at hx ⊢
 exact h c hc x hx
@[simp] theorem j5q {st0 : q43} {M : List Nat} {k : Nat} {agg : Bool} {b off : Nat} {K : PV → Prop} (hb : b ∉ M) : k0j (Cls st0 M) k agg (.val (.pointer (some ⟨b, off, none⟩))) K = q5f (j03 (q5m st0 b)) fun r => k0h r.2 off k agg K := by
 apply propext
 cases hg : q5m st0 b with
 | none =>
  simp only [j03, q88, iff_false]
  rintro ⟨q, h1, -⟩
  have := h1 st0 (Cls.self _ _)
  simp [q69, q5z, k1d, hg] at this
 | some o =>
  cases o with
  | arr T cs =>
   simp only [j45, q5g]
   refine ⟨?_, fun h => z2q hb hg h⟩
   rintro ⟨q, h1, h2⟩
   have := h1 st0 (Cls.self _ _)
   have h3 : q69 (.load k agg (.const (.ptr b off))) (q5z []) st0 K := (k5g _ _ _ _).2 ⟨q, this, h2⟩
   simpa only [q69, q5z, k1d, hg, k0h] using h3
  | _ =>
   simp only [j03, q88, iff_false]
   rintro ⟨q, h1, -⟩
   have := h1 st0 (Cls.self _ _)
   simp [q69, q5z, k1d, hg] at this
@[simp] theorem j5r {st0 : q43} {M : List Nat} {k : Nat} {agg : Bool} {cs : List PV} {off : Nat} {K : PV → Prop} : k0j (Cls st0 M) k agg (.iptr cs off) K = k0h cs off k agg K := by
 apply propext
 refine ⟨?_, fun h => k99 h⟩
 rintro ⟨q, h1, h2⟩
 exact (k5g (.load k agg (.const (.iptr cs off))) (q5z []) st0 K).2 ⟨q, h1 st0 (Cls.self _ _), h2⟩
section
variable (P : Program) (Cl : q43 → Prop) (K : PS → Prop) (QP : PV → q43 → Prop) (K1 : PV → q43 → Prop) (Q : q7a) (e : Env) (st : q43)
@[simp ↓] theorem y4b (s : PS) : k3u P Cl [] s K QP = K s := rfl
@[simp ↓] theorem y12 (fl : DFlag) (d : Option Nat) (op : MOp) (l : List (DFlag × MInst)) : k3u P Cl ((fl, ⟨d, none, op⟩) :: l) ⟨e, st⟩ K QP =
  k7r P Cl fl op e st (fun p st' => q94 (⟨q99 e d p, st'⟩ : PS) fun s => k3u P Cl l s K QP) QP := rfl
@[simp ↓] theorem j5s (fl : DFlag) (d : Option Nat) (t : Nat) (op : MOp) (l : List (DFlag × MInst)) : k3u P Cl ((fl, ⟨d, some (t, true), op⟩) :: l) ⟨e, st⟩ K QP = q5f (q54 e t).gd? fun c =>
  onG c (q94 (z11 e t true) fun e => k7r P Cl fl op e st (fun p st' => q94 (⟨q99 e d p, st'⟩ : PS) fun s => k3u P Cl l s K QP) QP)
   (q94 (⟨q99 (z11 e t false) d .undef, st⟩ : PS) fun s => k3u P Cl l s K QP) (q94 (⟨q99 e d .undef, st⟩ : PS) fun s => k3u P Cl l s K QP) := by
 simp only [k3u, mdraw]
 split
 ·rename_i c h; simp only [h, k7y, q5g, j5b, k3n]; cases c <;> simp <;> rfl
 ·rename_i vs h
  have hg : (q54 e t).gd? = some .skip := by rw [h]; rfl
  rw [hg, q5g]
  rfl
 ·rename_i h h2; rw [k7z h h2]; simp
@[simp ↓] theorem j5t (fl : DFlag) (d : Option Nat) (t : Nat) (op : MOp) (l : List (DFlag × MInst)) : k3u P Cl ((fl, ⟨d, some (t, false), op⟩) :: l) ⟨e, st⟩ K QP = q5f (q54 e t).gd? fun c =>
  onG c (q94 (⟨q99 (z11 e t true) d .undef, st⟩ : PS) fun s => k3u P Cl l s K QP)
   (q94 (z11 e t false) fun e => k7r P Cl fl op e st (fun p st' => q94 (⟨q99 e d p, st'⟩ : PS) fun s => k3u P Cl l s K QP) QP) (q94 (⟨q99 e d .undef, st⟩ : PS) fun s => k3u P Cl l s K QP) := by
 simp only [k3u, mdraw]
 split
 ·rename_i c h; simp only [h, k7y, q5g, j5b, k3n]; cases c <;> simp <;> rfl
 ·rename_i vs h
  have hg : (q54 e t).gd? = some .skip := by rw [h]; rfl
  rw [hg, q5g]
  rfl
 ·rename_i h h2; rw [k7z h h2]; simp
@[simp ↓] theorem j4o (v : MVal) : k7r P Cl .early (.val v) e st K1 QP = q60 v (q5z e) st fun p => K1 p st := rfl
@[simp ↓] theorem y4c (op : MOp) : k7r P Cl .last op e st K1 QP = xop P op (q5z e) st K1 QP := rfl
@[simp ↓] theorem y4d (op : MOp) : k7r P Cl .hard op e st K1 QP = xop P op (q5z e) st (fun p st' => Cl st' ∧ K1 p st') QP := rfl
theorem q51 (v : MVal) (hv : q9n v = false) : k7r P Cl .late (.val v) e st K1 QP = q60 v (q5z e) [] fun p => K1 p st := by
 simp only [k7r, mdraw.one, z5s, hv, Bool.false_eq_true, if_false, q60]
 exact propext (k5g v (q5z e) [] fun p => K1 p st).symm
@[simp ↓] theorem j7w (x : MX) : k7r P Cl .late (.val (.mv x)) e st K1 QP = q60 (.mv x) (q5z e) [] fun p => K1 p st := q51 P Cl QP K1 e st _ rfl
@[simp ↓] theorem j4p (c a b : MX) : k7r P Cl .late (.val (.pick c a b)) e st K1 QP = q60 (.pick c a b) (q5z e) [] fun p => K1 p st := q51 P Cl QP K1 e st _ rfl
@[simp ↓] theorem z8c (x : MX) : k7r P Cl .late (.val (.nilCheck x)) e st K1 QP = q60 (.nilCheck x) (q5z e) [] fun p => K1 p st := q51 P Cl QP K1 e st _ rfl
@[simp ↓] theorem j5u (op : BinOp) (T : TypeId) (x y : MX) : k7r P Cl .late (.val (.bin op T x y)) e st K1 QP = q60 (.bin op T x y) (q5z e) [] fun p => K1 p st := q51 P Cl QP K1 e st _ rfl
@[simp ↓] theorem j2g (neg : Bool) (ks : List LK) (x y : MX) : k7r P Cl .late (.val (.eqAgg neg ks x y)) e st K1 QP = q60 (.eqAgg neg ks x y) (q5z e) [] fun p => K1 p st := q51 P Cl QP K1 e st _ rfl
@[simp ↓] theorem j7x (op : UnOp) (x : MX) : k7r P Cl .late (.val (.un op x)) e st K1 QP = q60 (.un op x) (q5z e) [] fun p => K1 p st := q51 P Cl QP K1 e st _ rfl
@[simp ↓] theorem j2h (k : IntKind) (x : MX) : k7r P Cl .late (.val (.toInt k x)) e st K1 QP = q60 (.toInt k x) (q5z e) [] fun p => K1 p st := q51 P Cl QP K1 e st _ rfl
@[simp ↓] theorem z6j (off : Nat) (x : MX) : k7r P Cl .late (.val (.fieldAddr off x)) e st K1 QP = q60 (.fieldAddr off x) (q5z e) [] fun p => K1 p st := q51 P Cl QP K1 e st _ rfl
@[simp ↓] theorem z6k (k : Nat) (x i : MX) : k7r P Cl .late (.val (.indexAddr k x i)) e st K1 QP = q60 (.indexAddr k x i) (q5z e) [] fun p => K1 p st := q51 P Cl QP K1 e st _ rfl
@[simp ↓] theorem z8d (n k : Nat) (x i : MX) : k7r P Cl .late (.val (.indexArr n k x i)) e st K1 QP = q60 (.indexArr n k x i) (q5z e) [] fun p => K1 p st := q51 P Cl QP K1 e st _ rfl
@[simp ↓] theorem j5v (x : MX) : k7r P Cl .late (.val (.len x)) e st K1 QP = q60 (.len x) (q5z e) [] fun p => K1 p st := q51 P Cl QP K1 e st _ rfl
@[simp ↓] theorem z9p (i : Nat) (x : MX) : k7r P Cl .late (.val (.extract i x)) e st K1 QP = q60 (.extract i x) (q5z e) [] fun p => K1 p st := q51 P Cl QP K1 e st _ rfl
@[simp ↓] theorem j06 (x : MX) : k7r P Cl .late (.val (.strlen x)) e st K1 QP = q60 (.strlen x) (q5z e) [] fun p => K1 p st := q51 P Cl QP K1 e st _ rfl
@[simp ↓] theorem z5n (T : TypeId) (len : Nat) (zs : List PV) (parts : List (Nat × Nat × MX)) : k7r P Cl .late (.val (.buildSlice T len zs parts)) e st K1 QP = q60 (.buildSlice T len zs parts) (q5z e) [] fun p => K1 p st := q51 P Cl QP K1 e st _ rfl
@[simp ↓] theorem j4q (k : Nat) (agg : Bool) (x : MX) : k7r P Cl .late (.val (.load k agg x)) e st K1 QP = k0j Cl k agg (q5z e x) fun p => K1 p st := by
 simp only [k7r, mdraw.one, z5s, q9n, if_true, k0j, q69]
 rfl
@[simp ↓] theorem j4r (g : FuncId) (fs cs : List PV) (args : List MX) : k7r P Cl .late (.call (.const (.func (.func g) fs cs)) args) e st K1 QP = j2d P Cl g (fs ++ args.map (q5z e) ++ cs) (fun p => K1 p st) QP := rfl
@[simp ↓] theorem y6h (l : List (DFlag × MInst)) (ks : List Nat) (s : PS) : xwp P (.draw false l ks) Q s = k3u P (fun _ => True) l s (fun s' => q94 (⟨k0a ks s'.env, s'.st⟩ : PS) fun s' => Q .normal s') (fun p st' => z8a Q p st') := rfl
def DrawLate (P : Program) (l : List (DFlag × MInst)) (K : PS → Prop) (QP : PV → q43 → Prop) (s : PS) (_ : Tok (l, K, QP) := ⟨⟩) : Prop := ∃ Cl : q43 → Prop, Cl s.st ∧ mdraw P Cl l s K QP
theorem DrawLate.intro {P : Program} {l : List (DFlag × MInst)} {K : PS → Prop} {QP : PV → q43 → Prop} {e : Env} {st : q43} (M : List Nat) (h : k3u P (Cls st M) l ⟨e, st⟩ K QP) : DrawLate P l K QP ⟨e, st⟩ := ⟨_, Cls.self st M, h⟩
theorem DrawLate.by {P : Program} {l : List (DFlag × MInst)} {K : PS → Prop} {QP : PV → q43 → Prop} {e : Env} {st : q43} (Cl : q43 → Prop) (h0 : Cl st) (h : k3u P Cl l ⟨e, st⟩ K QP) : DrawLate P l K QP ⟨e, st⟩ := ⟨Cl, h0, h⟩
@[simp ↓] theorem j7y (l : List (DFlag × MInst)) (ks : List Nat) (s : PS) : xwp P (.draw true l ks) Q s = DrawLate P l (fun s' => q94 (⟨k0a ks s'.env, s'.st⟩ : PS) fun s' => Q .normal s') (fun p st' => z8a Q p st') s := rfl
end
theorem Has.walk {P : Program} (q5d : P.follows .mixedOrders = true) {g : FuncId} {m : MFunc} (h : Has P g m) {nt np : Nat} {rs : List MRes} {c : MCode} (hm : m = ⟨nt, np, rs, c⟩) {ps : List PV} {st : q43} {Q : PEnd → q43 → Prop} (hlen : ps.length = np)
  {R E : PV → q43 → Prop} (hR : ∀ p st, R p st → RetView .ret p st Q) (hE : ∀ p st, E p st → RetView .panic p st Q)
  (hw : xwp P c (fun e s => j2b rs R E e s) ⟨q6n 0 ps, st⟩) : PCalls P g ps st Q := by
 subst hm
 exact h.calls q5d hlen hR hE hw
theorem Has.pure {P : Program} (q5d : P.follows .mixedOrders = true) {g : FuncId} {m : MFunc} (h : Has P g m) {nt np : Nat} {rs : List MRes} {c : MCode} (hm : m = ⟨nt, np, rs, c⟩) {ps : List PV} {st : q43} {p : PV} (hlen : ps.length = np)
  (hw : xwp P c (fun e s => j2b rs (fun q st' => q = p ∧ Over st st') (fun _ _ => False) e s) ⟨q6n 0 ps, st⟩) : Rets P g ps st p := by
 subst hm
 exact h.rets q5d hlen hw
@[simp] theorem j9g (st : q43) (cs : List PV) (off : Nat) : k1d st (.iptr cs off) = some (cs, off) := rfl
@[simp] theorem y13 (st : q43) (b off : Nat) : k1d st (.val (.pointer (some ⟨b, off, none⟩))) = (j03 (q5m st b)).map fun r => (r.2, off) := by
 simp only [k1d]
 cases q5m st b with
 | none => rfl
 | some o => cases o <;> rfl
@[simp] theorem y14 (zs : List PV) : k0b zs [] = some zs := rfl
@[simp] theorem j9h (zs : List PV) (off k : Nat) (p : PV) (rest : List (Nat × Nat × PV)) :
  k0b zs ((off, k, p) :: rest) = j5c p.cells fun ps => if ps.length = k ∧ off + k ≤ zs.length then k0b (q48 zs off ps) rest else none := by
 rw [k0b]
 cases p.cells <;> rfl
section
variable (k : IntKind) (n : Int) (c : Bool) (s : ByteArray) (a : Option Addr) (l m : Nat) (r : Option Nat)
@[simp] theorem y4e : (PV.val (.int k n)).cells = some [.val (.int k n)] := rfl
@[simp] theorem y15 : (PV.val (.bool c)).cells = some [.val (.bool c)] := rfl
@[simp] theorem y4f : (PV.val (.string s)).cells = some [.val (.string s)] := rfl
@[simp] theorem y4g : (PV.val (.pointer a)).cells = some [.val (.pointer a)] := rfl
@[simp] theorem j9i : (PV.val (.slice a l m)).cells = some [.val (.slice a l m)] := rfl
@[simp] theorem y4h : (PV.val (.map r)).cells = some [.val (.map r)] := rfl
@[simp] theorem j4s : (PV.val .nilIface).cells = some [.val .nilIface] := rfl
@[simp] theorem y4i (cs : List PV) : (PV.agg cs).cells = some cs := rfl
@[simp] theorem y16 (t : Bool) (cs : List PV) (n : Nat) : (PV.list t cs n).cells = some [.list t cs n] := rfl
@[simp] theorem y17 (cs : List PV) (n : Nat) : (PV.iptr cs n).cells = some [.iptr cs n] := rfl
@[simp] theorem y18 (ks : List Value) (vs : List PV) : (PV.imap ks vs).cells = some [.imap ks vs] := rfl
@[simp] theorem y19 (f : Fn) (fs cs : List PV) : (PV.func f fs cs).cells = some [.func f fs cs] := rfl
@[simp] theorem j9j (T : TypeId) (p : PV) : (PV.iface T p).cells = some [.iface T p] := rfl
end
attribute [simp] q9n j84 q6n q5z q54 q99 j8f k0a z11 k2n q48 q9x
end Go.Pv

/- All of the pure layer. -/
import Derived.Test.YtnooplpbpfiapaaGreatDoorLSf
import Derived.KernelRfl
namespace Go.Pv
def Has (P : Program) (g : FuncId) (m : MFunc) : Prop := ∃ fn, P.funcs[g]? = some fn ∧ (fn.name == "runtime.NumGoroutine") = false ∧ k8o P fn = some m
theorem Has.calls {P : Program} (q5m : P.follows .mixedOrders = true) {g : FuncId} {m : MFunc} (h : Has P g m) {ps : List PV} {st : q5d} {Q : PEnd → q5d → Prop} (hlen : ps.length = m.nparams)
  {R E : PV → q5d → Prop} (hR : ∀ p st, R p st → RetView .ret p st Q) (hE : ∀ p st, E p st → RetView .panic p st Q)
  (hw : mwp P m.body (k18 m.results R E) ⟨q61 0 ps, st⟩) : PCalls P g ps st Q := by
 obtain ⟨fn, h1, h2, h3⟩ := h
 exact z27 q5m h1 h2 h3 hlen hR hE hw
theorem Sees.refl (p : PV) (st : q5d) : Sees p st p st := ⟨fun I _ _ h1 h2 => ⟨I, I.le_refl, h1, h2⟩⟩
theorem Sees.trans {p q r : PV} {s t u : q5d} (h : Sees p s q t) (k : Sees q t r u) : Sees p s r u := ⟨fun I w v h1 h2 => by
 obtain ⟨I', a, b, c⟩ := h.out I w v h1 h2
 obtain ⟨I'', a', b', c'⟩ := k.out I' w v b c
 exact ⟨I'', Imm.le_trans a a', b', c'⟩⟩
def StLe (st' st : q5d) : Prop := ∀ b o, q5x st' b = some o → q5x st b = some o
theorem StLe.refl (st : q5d) : StLe st st := fun _ _ h => h
theorem StLe.trans {a b c : q5d} (h : StLe a b) (k : StLe b c) : StLe a c := fun x o hx => k x o (h x o hx)
theorem StLe.cons {st : q5d} {b : Nat} {o : PObj} (h : q5x st b = none) : StLe st ((b, o) :: st) := by
 intro c x hc
 simp only [q5x]
 split
 ·rename_i e; subst e; rw [h] at hc; cases hc
 ·exact hc
theorem StLe.fresh {st : q5d} {b : Nat} {o : PObj} (h : q6w st b) : StLe st ((b, o) :: st) := .cons (k3y h)
theorem k5z {n : Nat} : ∀ {st : q5d}, (∀ b o, q5x st b = some o → b < n) → k2p st n
 | [], _ => trivial
 | (b, o) :: st, h => by
  refine ⟨h b o (by simp [q5x]), k5z fun c x hc => ?_⟩
  by_cases hbc : b = c
  ·subst hbc; exact h b o (by simp [q5x])
  ·exact h c x (by simp [q5x, hbc, hc])
theorem SRep.le {I : Imm} {st st' : q5d} {w : World} (h : SRep I st w) (hle : StLe st' st) : SRep I st' w :=
 ⟨h.imm, fun b o hb => h.objs b o (hle b o hb), k5z fun b o hb => h.obj_lt (hle b o hb)⟩
theorem Sees.drop {p : PV} {st st' : q5d} (h : StLe st' st) : Sees p st p st' := ⟨fun I _ _ h1 h2 => ⟨I, I.le_refl, h1.le h, h2⟩⟩
theorem RetView.same {c : PV → PEnd} {p : PV} {st : q5d} {Q : PEnd → q5d → Prop} (h : Q (c p) st) : RetView c p st Q := ⟨p, st, .refl _ _, h⟩
theorem RetView.drop {c : PV → PEnd} {p : PV} {st st' : q5d} {Q : PEnd → q5d → Prop} (hle : StLe st' st) (h : Q (c p) st') : RetView c p st Q := ⟨p, st', .drop hle, h⟩
theorem RetView.fresh1 {c : PV → PEnd} {p : PV} {st : q5d} {b : Nat} {o : PObj} {Q : PEnd → q5d → Prop} (hf : q6w st b) (h : RetView c p st Q) : RetView c p ((b, o) :: st) Q := by
 obtain ⟨p', st', h1, h2⟩ := h
 exact ⟨p', st', (Sees.drop (.fresh hf)).trans h1, h2⟩
theorem View.trans {s t u : PS} (h : View s t) (k : View t u) : View s u := fun I tm w h1 h2 => by
 obtain ⟨I', a, b, c⟩ := h I tm w h1 h2
 obtain ⟨I'', a', b', c'⟩ := k I' tm w b c
 exact ⟨I'', Imm.le_trans a a', b', c'⟩
theorem z8k {e : Env} : ∀ {l : Env} {t : Nat}, (∀ q ∈ l, q6h e q.1 = q.2) → q6h l t = .any ∨ q6h l t = q6h e t
 | [], _, _ => .inl rfl
 | (u, p) :: l, t, h => by
  simp only [q6h]
  by_cases hut : u = t
  ·subst hut
   simp only [if_true]
   exact .inr (h (u, p) (by simp)).symm
  ·simp only [hut, if_false]
   exact z8k fun q hq => h q (by simp [hq])
theorem View.weak {e e' : Env} {st st' : q5d} (he : ∀ q ∈ e', q6h e q.1 = q.2) (hle : StLe st' st) : View ⟨e, st⟩ ⟨e', st'⟩ := fun I tm w h1 h2 =>
 ⟨I, I.le_refl, fun t => by
  rcases z8k (t := t) he with h | h
  ·simp only [h, vrep]
  ·simp only [h]; exact h1 t, h2.le hle⟩
def Over (st0 : q5d) : q5d → Prop
 | [] => st0 = []
 | (b, o) :: st => st0 = (b, o) :: st ∨ q6w st b ∧ Over st0 st
theorem Over.le {st0 : q5d} : ∀ {st : q5d}, Over st0 st → StLe st0 st
 | [], h => by simp only [Over] at h; subst h; exact .refl _
 | (b, o) :: st, h => by
  simp only [Over] at h
  rcases h with rfl | ⟨h1, h2⟩
  ·exact .refl _
  ·exact h2.le.trans (.fresh h1)
@[simp] theorem Over.self (st : q5d) : Over st st := by
 cases st with
 | nil => rfl
 | cons q st => exact .inl rfl
@[simp] theorem Over.cons {st : q5d} (b : Nat) (o : PObj) (st0 : q5d) : Over st0 ((b, o) :: st) ↔ st0 = (b, o) :: st ∨ q6w st b ∧ Over st0 st := .rfl
def Rets (P : Program) (g : FuncId) (ps : List PV) (st : q5d) (p : PV) : Prop := PCalls P g ps st fun e s => e = .ret p ∧ s = st
theorem Has.rets {P : Program} (q5m : P.follows .mixedOrders = true) {g : FuncId} {m : MFunc} (h : Has P g m) {ps : List PV} {st : q5d} {p : PV} (hlen : ps.length = m.nparams)
  (hw : mwp P m.body (k18 m.results (fun q st' => q = p ∧ Over st st') (fun _ _ => False)) ⟨q61 0 ps, st⟩) : Rets P g ps st p :=
 h.calls q5m hlen (fun _ _ ⟨h1, h2⟩ => .drop h2.le ⟨by rw [h1], rfl⟩) (fun _ _ h => h.elim) hw
theorem Rets.calls {P : Program} {g : FuncId} {ps : List PV} {st : q5d} {p : PV} (h : Rets P g ps st p) {Q : PEnd → q5d → Prop} (hq : Q (.ret p) st) : PCalls P g ps st Q :=
 PCalls.mono h fun e s ⟨h1, h2⟩ => by subst h1; subst h2; exact hq
@[congr] theorem j7a {P : Program} {g : FuncId} {ps ps' : List PV} {st st' : q5d} {Q : PEnd → q5d → Prop} (h1 : ps = ps') (h2 : st = st') : PCalls P g ps st Q = PCalls P g ps' st' Q := by
 subst h1; subst h2; rfl
@[congr] theorem j42 {V : PS → PS → Prop} {body : q7n → PS → Prop} {Q : q7n} {s s' : PS} (h : s = s') : z2s V body Q s = z2s V body Q s' := by subst h; rfl
@[congr] theorem j43 {c : PV → PEnd} {p p' : PV} {st st' : q5d} {Q : PEnd → q5d → Prop} (h : p = p') (h2 : st = st') : RetView c p st Q = RetView c p' st' Q := by subst h; subst h2; rfl
universe u
structure Tok {α : Sort u} (a : α) : Type where
def q5p {α : Type} (o : Option α) (K : α → Prop) (_ : Tok K := ⟨⟩) : Prop := ∃ a, o = some a ∧ K a
@[simp ↓, simp] theorem q5r {α : Type} (a : α) (K : α → Prop) : q5p (some a) K = K a := by simp [q5p]
@[simp] theorem q9j {α : Type} (K : α → Prop) : q5p none K = False := by simp [q5p]
def PV.bool? : PV → Option Bool
 | .val (.bool c) => some c
 | _ => none
@[simp] theorem z10 (c : Bool) : PV.bool? (.val (.bool c)) = some c := rfl
def PV.int? : PV → Option (IntKind × Int)
 | .val (.int k n) => some (k, n)
 | _ => none
@[simp] theorem z8l (k : IntKind) (n : Int) : PV.int? (.val (.int k n)) = some (k, n) := rfl
def PV.str? : PV → Option ByteArray
 | .val (.string s) => some s
 | _ => none
@[simp] theorem y5q (s : ByteArray) : PV.str? (.val (.string s)) = some s := rfl
def PV.agg? : PV → Option (List PV)
 | .agg cs => some cs
 | _ => none
@[simp] theorem y5r (cs : List PV) : PV.agg? (.agg cs) = some cs := rfl
def PV.tuple? : PV → Option (List PV)
 | .tuple cs => some cs
 | _ => none
@[simp] theorem j7b (cs : List PV) : PV.tuple? (.tuple cs) = some cs := rfl
def PV.func? : PV → Option (FuncId × List PV × List PV)
 | .func (.func g) fs cs => some (g, fs, cs)
 | _ => none
@[simp] theorem z9t (g : FuncId) (fs cs : List PV) : PV.func? (.func (.func g) fs cs) = some (g, fs, cs) := rfl
def PV.iface? : PV → Option (TypeId × PV)
 | .iface T p => some (T, p)
 | _ => none
@[simp] theorem j7c (T : TypeId) (p : PV) : PV.iface? (.iface T p) = some (T, p) := rfl
def PV.ptr? : PV → Option (Nat × Nat)
 | .val (.pointer (some ⟨b, off, none⟩)) => some (b, off)
 | _ => none
@[simp] theorem j44 (b off : Nat) : PV.ptr? (.val (.pointer (some ⟨b, off, none⟩))) = some (b, off) := rfl
def j1b : Option PObj → Option (TypeId × List PV)
 | some (.arr T cs) => some (T, cs)
 | _ => none
@[simp] theorem j45 (T : TypeId) (cs : List PV) : j1b (some (.arr T cs)) = some (T, cs) := rfl
def onB (c : Bool) (A B : Prop) (_ : Tok (A, B) := ⟨⟩) : Prop := (c = true → A) ∧ (c = false → B)
@[simp ↓, simp] theorem y5s (A B : Prop) : onB true A B = A := by simp [onB]
@[simp ↓, simp] theorem y2y (A B : Prop) : onB false A B = B := by simp [onB]
@[simp] theorem y08 (p : Prop) [Decidable p] (A B : Prop) : onB (decide p) A B = ((p → A) ∧ (¬ p → B)) := by simp [onB]
@[simp] theorem y7d (c : Bool) (A B : Prop) : onB (!c) A B = onB c B A := by cases c <;> simp
@[simp low] theorem onB_eq (c : Bool) (A B : Prop) : onB c A B = ((c = true → A) ∧ (c = false → B)) := rfl
theorem k50 (p : PV) : k7p p = p.int?.map (·.2) := by
 cases p <;> try rfl
 rename_i v; cases v <;> rfl
def q64 (op : MVal) (ρ : MX → PV) (st : q5d) (K : PV → Prop) (_ : Tok K := ⟨⟩) : Prop := q7j op ρ st K
def k4b (op : BinOp) (p q : PV) (K : PV → Prop) (_ : Tok K := ⟨⟩) : Prop := z0q op p q K
def k0q (cs : List PV) (off k : Nat) (agg : Bool) (K : PV → Prop) (_ : Tok K := ⟨⟩) : Prop :=
 if agg then ∃ ps, sub cs off k = some ps ∧ K (.agg ps) else ∃ p, cs[off]? = some p ∧ K p
@[simp] theorem j8w (cs : List PV) (off k : Nat) (K : PV → Prop) : k0q cs off k true K = q5p (sub cs off k) fun ps => K (.agg ps) := by simp [k0q, q5p]
@[simp] theorem j7d (cs : List PV) (off k : Nat) (K : PV → Prop) : k0q cs off k false K = q5p (cs[off]?) K := by simp [k0q, q5p]
theorem j7e (cs : List PV) (off k : Nat) : sub cs off k = if off + k ≤ cs.length then some ((cs.drop off).take k) else none := rfl
@[simp] theorem y7e (c : PV) (cs : List PV) (off k : Nat) : sub (c :: cs) off k = if off + k ≤ (c :: cs).length then some (((c :: cs).drop off).take k) else none := rfl
section
variable (ρ : MX → PV) (st : q5d) (K : PV → Prop)
@[simp ↓] theorem y7f (x : MX) : q64 (.mv x) ρ st K = K (ρ x) := rfl
@[simp ↓] theorem y2z (c a b : MX) : q64 (.pick c a b) ρ st K = q5p (ρ c).bool? fun t => onB t (K (ρ a)) (K (ρ b)) := by
 simp only [q64, q7j]; split <;> simp_all [PV.bool?]
@[simp ↓] theorem y09 (zs : List PV) (parts : List (Nat × Nat × MX)) : q64 (.build zs parts) ρ st K = q5p (k0k zs (parts.map fun q => (q.1, q.2.1, ρ q.2.2))) fun cs => K (.agg cs) := by
 simp only [q64, q7j]; split <;> simp_all
@[simp ↓] theorem j14 (T : TypeId) (len : Nat) (zs : List PV) (parts : List (Nat × Nat × MX)) : q64 (.buildSlice T len zs parts) ρ st K = q5p (k0k zs (parts.map fun q => (q.1, q.2.1, ρ q.2.2))) fun cs => K (.list true cs len) := by
 simp only [q64, q7j]; split <;> simp_all
@[simp ↓] theorem j15 (k : Nat) (agg : Bool) (x : MX) : q64 (.load k agg x) ρ st K = q5p (k1o st (ρ x)) fun r => k0q r.1 r.2 k agg K := by
 simp only [q64, q7j]; split <;> simp_all [k0q]
def j16 (p : PV) (K : PV → Prop) (_ : Tok K := ⟨⟩) : Prop :=
 match p with
 | .iptr cs off => K (.iptr cs off)
 | .val (.pointer (some a)) => K (.val (.pointer (some a)))
 | .func (.func f) fs cs => K (.func (.func f) fs cs)
 | .func (.yield l) fs cs => K (.func (.yield l) fs cs)
 | _ => False
@[simp] theorem y1a (cs : List PV) (off : Nat) : j16 (.iptr cs off) K = K (.iptr cs off) := rfl
@[simp] theorem y20 (a : Addr) : j16 (.val (.pointer (some a))) K = K (.val (.pointer (some a))) := rfl
@[simp] theorem j8x (l : Nat) (fs cs : List PV) : j16 (.func (.yield l) fs cs) K = K (.func (.yield l) fs cs) := rfl
@[simp] theorem y1b (f : FuncId) (fs cs : List PV) : j16 (.func (.func f) fs cs) K = K (.func (.func f) fs cs) := rfl
@[simp ↓] theorem j46 (x : MX) : q64 (.nilCheck x) ρ st K = j16 (ρ x) K := rfl
@[simp ↓] theorem y5t (op : BinOp) (T : TypeId) (x y : MX) : q64 (.bin op T x y) ρ st K = k4b op (ρ x) (ρ y) K := rfl
section
variable (k k' : IntKind) (a b : Int) (s t : ByteArray)
@[simp] theorem j8y : k4b .add (.val (.int k a)) (.val (.int k' b)) K = (k = k' ∧ K (.val (.int k (k.wrap (a + b))))) := rfl
@[simp] theorem y7g : k4b .sub (.val (.int k a)) (.val (.int k' b)) K = (k = k' ∧ K (.val (.int k (k.wrap (a - b))))) := rfl
@[simp] theorem y7h : k4b .mul (.val (.int k a)) (.val (.int k' b)) K = (k = k' ∧ K (.val (.int k (k.wrap (a * b))))) := rfl
@[simp] theorem y7i : k4b .quo (.val (.int k a)) (.val (.int k' b)) K = (k = k' ∧ b ≠ 0 ∧ K (.val (.int k (k.wrap (a.tdiv b))))) := rfl
@[simp] theorem y7j : k4b .rem (.val (.int k a)) (.val (.int k' b)) K = (k = k' ∧ b ≠ 0 ∧ K (.val (.int k (a.tmod b)))) := rfl
@[simp] theorem j8z : k4b .shl (.val (.int k a)) (.val (.int k' b)) K = (0 ≤ b ∧ K (.val (.int k (k.wrap (a * 2 ^ min b.toNat k.bits))))) := rfl
@[simp] theorem j80 : k4b .shr (.val (.int k a)) (.val (.int k' b)) K = (0 ≤ b ∧ K (.val (.int k (a.fdiv (2 ^ min b.toNat k.bits))))) := rfl
@[simp] theorem j17 : k4b .and (.val (.int k a)) (.val (.int k' b)) K = (k = k' ∧ K (.val (.int k (k.wrap (BitVec.ofInt k.bits a &&& BitVec.ofInt k.bits b).toNat)))) := rfl
@[simp] theorem y21 : k4b .or (.val (.int k a)) (.val (.int k' b)) K = (k = k' ∧ K (.val (.int k (k.wrap (BitVec.ofInt k.bits a ||| BitVec.ofInt k.bits b).toNat)))) := rfl
@[simp] theorem j81 : k4b .xor (.val (.int k a)) (.val (.int k' b)) K = (k = k' ∧ K (.val (.int k (k.wrap (BitVec.ofInt k.bits a ^^^ BitVec.ofInt k.bits b).toNat)))) := rfl
@[simp] theorem y1c : k4b .andNot (.val (.int k a)) (.val (.int k' b)) K = (k = k' ∧ K (.val (.int k (k.wrap (BitVec.ofInt k.bits a &&& ~~~ BitVec.ofInt k.bits b).toNat)))) := rfl
@[simp] theorem y7k : k4b .eql (.val (.int k a)) (.val (.int k' b)) K = (k = k' ∧ K (.val (.bool (decide (a = b))))) := by
 have : (a == b) = decide (a = b) := rfl
 simp only [k4b, z0q, k5g, z2n, this]
@[simp] theorem y7l : k4b .neq (.val (.int k a)) (.val (.int k' b)) K = (k = k' ∧ K (.val (.bool (decide (a ≠ b))))) := by
 have : (a != b) = decide (a ≠ b) := by by_cases h : a = b <;> simp [h]
 simp only [k4b, z0q, k5g, z2n, this]
@[simp] theorem y7m : k4b .lss (.val (.int k a)) (.val (.int k' b)) K = (k = k' ∧ K (.val (.bool (decide (a < b))))) := rfl
@[simp] theorem y7n : k4b .leq (.val (.int k a)) (.val (.int k' b)) K = (k = k' ∧ K (.val (.bool (decide (a ≤ b))))) := rfl
@[simp] theorem y7o : k4b .gtr (.val (.int k a)) (.val (.int k' b)) K = (k = k' ∧ K (.val (.bool (decide (b < a))))) := rfl
@[simp] theorem y7p : k4b .geq (.val (.int k a)) (.val (.int k' b)) K = (k = k' ∧ K (.val (.bool (decide (b ≤ a))))) := rfl
@[simp] theorem y7q : k4b .add (.val (.string s)) (.val (.string t)) K = (s.size + t.size < 2 ^ 62 ∧ K (.val (.string (s ++ t)))) := rfl
theorem z9u : (s.toList == t.toList) = decide (s = t) := by
 by_cases h : s = t
 ·simp [h]
 ·have : s.toList ≠ t.toList := by
   intro e
   rw [ByteArray.toList_eq, ByteArray.toList_eq] at e
   exact h (ByteArray.ext (Array.ext' e))
  simp [h, this]
@[simp] theorem y5u : k4b .eql (.val (.string s)) (.val (.string t)) K = K (.val (.bool (decide (s = t)))) := by
 simp only [k4b, z0q, z54, z9u]
@[simp] theorem y5v : k4b .lss (.val (.string s)) (.val (.string t)) K = K (.val (.bool (Op.bytesLess s.toList t.toList))) := rfl
end
@[simp ↓] theorem y1d (neg : Bool) (ks : List LK) (x y : MX) : q64 (.eqAgg neg ks x y) ρ st K = q5p (ρ x).agg? fun cs => q5p (ρ y).agg? fun ds => q5p (q6e ks cs ds) fun b => K (.bool (if neg then !b else b)) := by
 simp only [q64, q7j]; split <;> simp_all [q5p, PV.agg?]
 rename_i h
 intro x h1 y h2
 split at h1 <;> split at h2 <;> simp_all
@[simp ↓] theorem j82 (neg : Bool) (x y : MX) : q64 (.eqBool neg x y) ρ st K = q5p (ρ x).bool? fun a => q5p (ρ y).bool? fun b => K (.bool (if neg then !(a == b) else (a == b))) := by
 simp only [q64, q7j]
 split
 ·rename_i h1 h2; simp only [h1, h2, z10, q5r]
 ·rename_i h
  simp only [q5p, eq_iff_iff, false_iff]
  rintro ⟨a, h1, b, h2, -⟩
  unfold PV.bool? at h1 h2
  split at h1
  ·split at h2
   ·rename_i h3 _ _ h4; exact h _ _ h3 h4
   ·cases h2
  ·cases h1
@[simp] theorem y1e (k k' : IntKind) (a b : Int) : q9w .int (.val (.int k a)) (.val (.int k' b)) = if k = k' then some (decide (a = b)) else none := rfl
@[simp] theorem j83 (a b : Bool) : q9w .bool (.val (.bool a)) (.val (.bool b)) = some (a == b) := rfl
@[simp] theorem j84 : q6e [] [] [] = some true := rfl
def y7r : Option Bool → Option Bool → Option Bool
 | some a, some b => some (a && b)
 | _, _ => none
@[simp] theorem y22 (a b : Bool) : y7r (some a) (some b) = some (a && b) := rfl
@[simp] theorem j7f (k : LK) (ks : List LK) (p q : PV) (ps qs : List PV) : q6e (k :: ks) (p :: ps) (q :: qs) = y7r (q9w k p q) (q6e ks ps qs) := by
 simp only [q6e]
 cases q9w k p q <;> cases q6e ks ps qs <;> rfl
@[simp ↓] theorem y5w (x : MX) : q64 (.un .neg x) ρ st K = q5p (ρ x).int? fun q => K (.val (.int q.1 (q.1.wrap (0 - q.2)))) := by
 simp only [q64, q7j]; cases h : ρ x <;> simp [PV.int?]
 rename_i v; cases v <;> simp
def j85 (p : PV) (K : PV → Prop) (_ : Tok K := ⟨⟩) : Prop :=
 match p with
 | .val (.int k n) => K (.val (.int k (k.wrap (BitVec.ofInt k.bits (if k.signed then -1 else k.max) ^^^ BitVec.ofInt k.bits n).toNat)))
 | _ => False
@[simp ↓] theorem y1f (x : MX) : q64 (.un .xor x) ρ st K = j85 (ρ x) K := by
 simp only [q64, q7j, j85]
 split <;> simp_all
@[simp ↓] theorem y5x (x : MX) : q64 (.un .not x) ρ st K = q5p (ρ x).bool? fun b => K (.val (.bool !b)) := by
 simp only [q64, q7j]; cases h : ρ x <;> simp [PV.bool?]
 rename_i v; cases v <;> simp
@[simp ↓] theorem y1g (k : IntKind) (x : MX) : q64 (.toInt k x) ρ st K = q5p (ρ x).int? fun q => K (.val (.int k (k.wrap q.2))) := by
 simp only [q64, q7j]; cases h : ρ x <;> simp [PV.int?]
 rename_i v; cases v <;> simp
@[simp ↓] theorem j7g (T : TypeId) (x : MX) : q64 (.mkIface T x) ρ st K = K (.iface T (ρ x)) := rfl
@[simp ↓] theorem j86 (fn : Fn) (fs cs : List MX) : q64 (.mkFunc fn fs cs) ρ st K = K (.func fn (fs.map ρ) (cs.map ρ)) := rfl
def k4x (off : Nat) (p : PV) (K : PV → Prop) (_ : Tok K := ⟨⟩) : Prop :=
 match p with
 | .iptr cs k => K (.iptr cs (k + off))
 | .val (.pointer (some ⟨b, k, none⟩)) => K (.ptr b (k + off))
 | _ => False
@[simp] theorem j1c (off : Nat) (cs : List PV) (k : Nat) : k4x off (.iptr cs k) K = K (.iptr cs (k + off)) := rfl
@[simp] theorem j18 (off b k : Nat) : k4x off (.val (.pointer (some ⟨b, k, none⟩))) K = K (.ptr b (k + off)) := rfl
@[simp ↓] theorem j4j (off : Nat) (x : MX) : q64 (.fieldAddr off x) ρ st K = k4x off (ρ x) K := rfl
def q8b (k : Nat) (p : PV) (j : Int) (K : PV → Prop) (_ : Tok K := ⟨⟩) : Prop :=
 match p with
 | .list _ cs n => 0 ≤ j ∧ j < n ∧ j.toNat * k < cs.length ∧ K (.iptr cs (j.toNat * k))
 | .val (.slice (some ⟨b, off, none⟩) n _) => 0 ≤ j ∧ j < n ∧ K (.ptr b (off + j.toNat * k))
 | _ => False
@[simp] theorem j1d (k : Nat) (t : Bool) (cs : List PV) (n : Nat) (j : Int) : q8b k (.list t cs n) j K = (0 ≤ j ∧ j < n ∧ j.toNat * k < cs.length ∧ K (.iptr cs (j.toNat * k))) := rfl
@[simp] theorem j19 (k b off n c : Nat) (j : Int) : q8b k (.val (.slice (some ⟨b, off, none⟩) n c)) j K = (0 ≤ j ∧ j < n ∧ K (.ptr b (off + j.toNat * k))) := rfl
@[simp] theorem j2a (k : Nat) (j : Int) : q8b k (.val (.slice none 0 0)) j K = False := rfl
@[simp ↓] theorem j4k (k : Nat) (x i : MX) : q64 (.indexAddr k x i) ρ st K = q5p (ρ i).int? fun q => q8b k (ρ x) q.2 K := by
 simp only [q64, q7j]
 rw [k50]
 cases h : (ρ i).int? with
 | none => simp
 | some q =>
  simp only [Option.map_some, q5r]
  cases hx : ρ x with
  | val v =>
   cases v with
   | slice a n c =>
    cases a with
    | none =>
     cases n <;> cases c <;> simp [PV.asList, q8b]
    | some a => obtain ⟨b, off, t⟩ := a; cases t <;> simp [PV.asList, q8b]
   | _ => simp [PV.asList, q8b]
  | _ => simp [PV.asList, q8b]
def k6w (n k : Nat) (p : PV) (j : Int) (K : PV → Prop) (_ : Tok K := ⟨⟩) : Prop :=
 match p with
 | .iptr cs off => 0 ≤ j ∧ j < n ∧ K (.iptr cs (off + j.toNat * k))
 | .val (.pointer (some ⟨b, off, none⟩)) => 0 ≤ j ∧ j < n ∧ K (.ptr b (off + j.toNat * k))
 | _ => False
@[simp] theorem j2b (n k : Nat) (cs : List PV) (off : Nat) (j : Int) : k6w n k (.iptr cs off) j K = (0 ≤ j ∧ j < n ∧ K (.iptr cs (off + j.toNat * k))) := rfl
@[simp] theorem j4l (n k b off : Nat) (j : Int) : k6w n k (.val (.pointer (some ⟨b, off, none⟩))) j K = (0 ≤ j ∧ j < n ∧ K (.ptr b (off + j.toNat * k))) := rfl
@[simp ↓] theorem j47 (n k : Nat) (x i : MX) : q64 (.indexArr n k x i) ρ st K = q5p (ρ i).int? fun q => k6w n k (ρ x) q.2 K := by
 simp only [q64, q7j]
 rw [k50]
 cases h : (ρ i).int? with
 | none => simp
 | some q => simp only [Option.map_some, q5r]; rfl
@[simp ↓] theorem y1h (n k : Nat) (agg : Bool) (x i : MX) : q64 (.index n k agg x i) ρ st K = q5p (ρ i).int? fun q => q5p (ρ x).agg? fun cs => 0 ≤ q.2 ∧ q.2 < n ∧ k0q cs (q.2.toNat * k) k agg K := by
 simp only [q64, q7j]
 rw [k50]
 cases h : (ρ i).int? with
 | none => simp
 | some q => cases hx : ρ x <;> simp [PV.agg?, k0q]
def PV.len? : PV → Option Nat
 | .list _ _ n => some n
 | .val (.slice _ n _) => some n
 | _ => none
@[simp] theorem y23 (t : Bool) (cs : List PV) (n : Nat) : PV.len? (.list t cs n) = some n := rfl
@[simp] theorem y5y (a : Option Addr) (n c : Nat) : PV.len? (.val (.slice a n c)) = some n := rfl
@[simp ↓] theorem y5z (x : MX) : q64 (.len x) ρ st K = q5p (ρ x).len? fun n => K (.int n) := by
 simp only [q64, q7j]
 cases hx : ρ x with
 | val v =>
  cases v with
  | slice a n c =>
   cases a with
   | none => cases n <;> cases c <;> simp [PV.asList]
   | some a => simp [PV.asList]
  | _ => simp [PV.asList, PV.len?]
 | _ => simp [PV.asList, PV.len?]
@[simp ↓] theorem j87 (x : MX) : q64 (.strlen x) ρ st K = q5p (ρ x).str? fun s => K (.int s.size) := by
 simp only [q64, q7j]
 cases hx : ρ x with
 | val v => cases v <;> simp [PV.str?]
 | _ => simp [PV.str?]
def PV.cap? : PV → Option Nat
 | .list true _ n => some n
 | .val (.slice _ _ c) => some c
 | _ => none
@[simp] theorem y24 (cs : List PV) (n : Nat) : PV.cap? (.list true cs n) = some n := rfl
@[simp] theorem y50 (a : Option Addr) (n c : Nat) : PV.cap? (.val (.slice a n c)) = some c := rfl
@[simp ↓] theorem y51 (x : MX) : q64 (.cap x) ρ st K = q5p (ρ x).cap? fun n => K (.int n) := by
 simp only [q64, q7j]
 cases hx : ρ x with
 | val v => cases v <;> simp [PV.cap?]
 | list t cs n => cases t <;> simp [PV.cap?]
 | _ => simp [PV.cap?]
@[simp ↓] theorem j7h (i : Nat) (x : MX) : q64 (.extract i x) ρ st K = q5p (ρ x).tuple? fun ps => q5p (ps[i]?) K := by
 simp only [q64, q7j]
 cases hx : ρ x <;> simp [PV.tuple?, q5p]
def z8m (isMax : Bool) (ps : List PV) (K : PV → Prop) (_ : Tok K := ⟨⟩) : Prop :=
 match ps with
 | [.val (.int k a), .val (.int _ b)] => K (.val (.int k (if isMax then (if b > a then b else a) else (if b < a then b else a))))
 | _ => False
@[simp] theorem j7i (m : Bool) (k k' : IntKind) (a b : Int) : z8m m [.val (.int k a), .val (.int k' b)] K = K (.val (.int k (if m then (if b > a then b else a) else (if b < a then b else a)))) := rfl
@[simp ↓] theorem j88 (m : Bool) (xs : List MX) : q64 (.minmax m xs) ρ st K = z8m m (xs.map ρ) K := rfl
def z3c (T : TypeId) (z : PV) (ok : Bool) (p : PV) (K : PV → Prop) (_ : Tok K := ⟨⟩) : Prop :=
 match p with
 | .iface U p => if U = T then (if ok then K (.tuple [p, .bool true]) else K p) else (ok = true ∧ K (.tuple [z, .bool false]))
 | .val .nilIface => ok = true ∧ K (.tuple [z, .bool false])
 | _ => False
@[simp] theorem j4m (T U : TypeId) (z : PV) (ok : Bool) (p : PV) : z3c T z ok (.iface U p) K = if U = T then (if ok then K (.tuple [p, .bool true]) else K p) else (ok = true ∧ K (.tuple [z, .bool false])) := rfl
@[simp] theorem j7j (T : TypeId) (z : PV) (ok : Bool) : z3c T z ok (.val .nilIface) K = (ok = true ∧ K (.tuple [z, .bool false])) := rfl
@[simp ↓] theorem j89 (T : TypeId) (z : PV) (ok : Bool) (x : MX) : q64 (.assert T z ok x) ρ st K = z3c T z ok (ρ x) K := rfl
@[simp] theorem y52 (ρ : MX → PV) : bnd ρ none = some none := rfl
@[simp] theorem y53 (ρ : MX → PV) (x : MX) : bnd ρ (some x) = (ρ x).int?.map fun q => some q.2 := by
 simp only [bnd, k50]
 cases (ρ x).int? <;> rfl
def k6x (s : ByteArray) (lo hi : Option Int) (K : PV → Prop) (_ : Tok K := ⟨⟩) : Prop := q9c s lo hi K
@[simp] theorem j48 (s : ByteArray) (l : Int) : k6x s (some l) none K = (0 ≤ l ∧ l ≤ s.size ∧ K (.str (s.extract l.toNat s.size))) := rfl
@[simp] theorem j49 (s : ByteArray) (h : Int) : k6x s none (some h) K = (0 ≤ h ∧ h ≤ s.size ∧ K (.str (s.extract 0 h.toNat))) := rfl
@[simp] theorem j2c (s : ByteArray) (l h : Int) : k6x s (some l) (some h) K = (0 ≤ l ∧ l ≤ h ∧ h ≤ s.size ∧ K (.str (s.extract l.toNat h.toNat))) := rfl
@[simp] theorem z11 (b off n cap : Nat) (lo hi mx : Option Int) : j1j (.val (.slice (some ⟨b, off, none⟩) n cap)) lo hi mx = false := rfl
def k0r (k : Nat) (p : PV) (lo hi mx : Option Int) (K : PV → Prop) (_ : Tok K := ⟨⟩) : Prop := k17 k p lo hi mx K
section
variable (k n b off cap : Nat) (t : Bool) (cs : List PV) (l h m : Int)
@[simp] theorem y25 : k0r k (.list t cs n) none none none K = K (.list t cs n) := rfl
@[simp] theorem y26 : k0r k (.list t cs n) (some l) none none K = (0 ≤ l ∧ l ≤ n ∧ cs.length ≤ n * k ∧ K (.list t (cs.drop (l.toNat * k)) (n - l.toNat))) := rfl
@[simp] theorem y27 : k0r k (.list t cs n) none (some h) none K = (0 ≤ h ∧ h ≤ n ∧ K (.list false (cs.take (h.toNat * k)) h.toNat)) := rfl
@[simp] theorem y28 : k0r k (.list t cs n) (some l) (some h) none K = (0 ≤ l ∧ l ≤ h ∧ h ≤ n ∧ K (.list false ((cs.take (h.toNat * k)).drop (l.toNat * k)) (h.toNat - l.toNat))) := rfl
@[simp] theorem y29 : k0r k (.list t cs n) none (some h) (some m) K = (0 ≤ h ∧ h ≤ m ∧ m ≤ n ∧ K (.list (decide (h = m)) (cs.take (h.toNat * k)) h.toNat)) := rfl
@[simp] theorem y3a : k0r k (.list t cs n) (some l) (some h) (some m) K = (0 ≤ l ∧ l ≤ h ∧ h ≤ m ∧ m ≤ n ∧ K (.list (decide (h = m)) ((cs.take (h.toNat * k)).drop (l.toNat * k)) (h.toNat - l.toNat))) := rfl
@[simp] theorem y3b : k0r k (.val (.slice none 0 0)) none none none K = K .nil := rfl
@[simp] theorem y3c : k0r k (.val (.slice none 0 0)) (some l) none none K = (0 ≤ l ∧ l ≤ ((0 : Nat) : Int) ∧ ([] : List PV).length ≤ 0 * k ∧ K (.list true (([] : List PV).drop (l.toNat * k)) (0 - l.toNat))) := rfl
@[simp] theorem y3d : k0r k (.val (.slice none 0 0)) none (some h) none K = (h = 0 ∧ K .nil) := rfl
@[simp] theorem y3e : k0r k (.val (.slice none 0 0)) none (some h) (some m) K = (0 ≤ h ∧ h ≤ m ∧ m ≤ ((0 : Nat) : Int) ∧ K (.list (decide (h = m)) (([] : List PV).take (h.toNat * k)) h.toNat)) := rfl
@[simp] theorem y3f : k0r k (.val (.slice (some ⟨b, off, none⟩) n cap)) (some l) none none K = (n ≤ cap ∧ 0 ≤ l ∧ l ≤ n ∧ (l = cap → K (.list true [] 0)) ∧ (l < cap → K (.own b (off + l.toNat * k) (n - l.toNat) (cap - l.toNat)))) := by
 simp only [k0r, k17, z11, Bool.false_eq_true, if_false, PV.asList, q8q]
 simp
@[simp] theorem y3g : k0r k (.val (.slice (some ⟨b, off, none⟩) n cap)) none (some h) none K = (0 ≤ h ∧ h ≤ cap ∧ K (.own b off h.toNat cap)) := by
 simp only [k0r, k17, z11, Bool.false_eq_true, if_false, PV.asList, q8q]
 simp
end
@[simp ↓] theorem y1i (k : Nat) (x : MX) (lo hi mx : Option MX) : q64 (.slice k x lo hi mx) ρ st K = q5p (bnd ρ lo) fun l => q5p (bnd ρ hi) fun h => q5p (bnd ρ mx) fun m => k0r k (ρ x) l h m K := by
 simp only [q64, q7j]
 split
 ·rename_i h1 h2 h3
  simp only [h1, h2, h3, q5r]
  rfl
 ·rename_i hn
  simp only [q5p, eq_iff_iff, false_iff]
  rintro ⟨l, h1, h, h2, m, h3, -⟩
  exact hn l h m h1 h2 h3
def q86 (n k : Nat) (p : PV) (lo hi mx : Option Int) (K : PV → Prop) (_ : Tok K := ⟨⟩) : Prop := q7q n k p lo hi mx K
section
variable (k n b off : Nat) (cs : List PV) (l h m : Int)
@[simp] theorem j7k : q86 n k (.val (.pointer (some ⟨b, off, none⟩))) none none none K = K (.own b off n n) := by
 simp only [q86, q7q, q8q]
 simp
@[simp] theorem j7l : q86 n k (.val (.pointer (some ⟨b, off, none⟩))) (some l) none none K = (0 ≤ l ∧ l ≤ n ∧ (l = n → K (.list true [] 0)) ∧ (l < n → K (.own b (off + l.toNat * k) (n - l.toNat) (n - l.toNat)))) := by
 simp only [q86, q7q, q8q]
 simp
@[simp] theorem j7m : q86 n k (.val (.pointer (some ⟨b, off, none⟩))) none (some h) none K = (0 ≤ h ∧ h ≤ n ∧ K (.own b off h.toNat n)) := by
 simp only [q86, q7q, q8q]
 simp
end
@[simp ↓] theorem j5a (n k : Nat) (x : MX) (lo hi mx : Option MX) : q64 (.sliceArr n k x lo hi mx) ρ st K = q5p (bnd ρ lo) fun l => q5p (bnd ρ hi) fun h => q5p (bnd ρ mx) fun m => q86 n k (ρ x) l h m K := by
 simp only [q64, q7j]
 split
 ·rename_i h1 h2 h3
  simp only [h1, h2, h3, q5r]
  rfl
 ·rename_i hn
  simp only [q5p, eq_iff_iff, false_iff]
  rintro ⟨l, h1, h, h2, m, h3, -⟩
  exact hn l h m h1 h2 h3
@[simp ↓] theorem y1j (x : MX) : q64 (.strOf x) ρ st K = q5p (q7c 1 st (ρ x)) fun r => q5p (k0b r.1) fun bs => K (.str ⟨bs.toArray⟩) := by
 simp only [q64, q7j]
 split
 ·rename_i cs n h
  simp only [h, q5r]
  split
  ·rename_i bs hb; simp only [hb, q5r]
  ·rename_i hb; simp only [hb, q9j]
 ·rename_i h; simp only [h, q9j]
def j2d (r : Option (Option Nat)) (vs : List PV) (z : PV) (ok : Bool) (K : PV → Prop) (_ : Tok K := ⟨⟩) : Prop :=
 match r with
 | some (some j) => ∃ p, vs[j]? = some p ∧ K (if ok then .tuple [p, .bool true] else p)
 | some none => K (if ok then .tuple [z, .bool false] else z)
 | none => False
@[simp] theorem y7s (j : Nat) (vs : List PV) (z : PV) : j2d (some (some j)) vs z true K = q5p (vs[j]?) fun p => K (.tuple [p, .bool true]) := rfl
@[simp] theorem y7t (j : Nat) (vs : List PV) (z : PV) : j2d (some (some j)) vs z false K = q5p (vs[j]?) fun p => K p := rfl
@[simp] theorem y54 (vs : List PV) (z : PV) : j2d (some none) vs z true K = K (.tuple [z, .bool false]) := rfl
@[simp] theorem y55 (vs : List PV) (z : PV) : j2d (some none) vs z false K = K z := rfl
@[simp ↓] theorem j9a (kp : KP) (z : PV) (ok : Bool) (x i : MX) : q64 (.lookup kp z ok x i) ρ st K = q5p (z2o st (ρ x)) fun m => q5p (ρ i).key? fun kv => q8r kp kv = true ∧ j2d (k2x kp kv m.1) m.2 z ok K := by
 simp only [q64, q7j]
 split
 ·rename_i h1 h2
  simp only [h1, h2, q5r]
  rfl
 ·rename_i hn
  simp only [q5p, eq_iff_iff, false_iff]
  rintro ⟨⟨ks, vs⟩, h1, kv, h2, -⟩
  exact hn ks vs kv h1 h2
end
inductive Gd where
 | b (c : Bool)
 | skip
def PV.gd? : PV → Option Gd
 | .val (.bool c) => some (.b c)
 | .val (.tuple _) => some .skip
 | _ => none
@[simp] theorem k8q (c : Bool) : PV.gd? (.val (.bool c)) = some (.b c) := rfl
@[simp] theorem y3h : PV.gd? (.val (.tuple #[])) = some .skip := rfl
def onG (g : Gd) (A B C : Prop) (_ : Tok (A, B, C) := ⟨⟩) : Prop :=
 match g with
 | .b c => onB c A B
 | .skip => C
@[simp ↓, simp] theorem j5b (c : Bool) (A B C : Prop) : onG (.b c) A B C = onB c A B := rfl
@[simp ↓, simp] theorem y56 (A B C : Prop) : onG .skip A B C = C := rfl
def k0e {α : Type} (a : α) (K : α → Prop) (_ : Tok K := ⟨⟩) : Prop := K a
@[simp] theorem k35 {α : Type} (a : α) (K : α → Prop) : k0e a K = K a := rfl
def xop (P : Program) (op : MOp) (ρ : MX → PV) (st : q5d) (K QP : PV → q5d → Prop) (_ : Tok (K, QP) := ⟨⟩) : Prop := mop P op ρ st K QP
def Fresh (st : q5d) (K : Nat → Prop) (_ : Tok K := ⟨⟩) : Prop := ∀ b, q6w st b → K b
theorem Fresh.intro {st : q5d} {K : Nat → Prop} (h : ∀ b, q6w st b → K b) : Fresh st K := h
def j5c {α β : Type} (o : Option α) (f : α → Option β) (_ : Tok f := ⟨⟩) : Option β := o.bind f
@[simp ↓, simp] theorem y1k {α β : Type} (a : α) (f : α → Option β) : j5c (some a) f = f a := rfl
@[simp] theorem y1l {α β : Type} (f : α → Option β) : j5c none f = none := rfl
def j9b : MVal → Bool
 | .buildSlice .. => true
 | _ => false
def Lit (T : TypeId) (cs : List PV) (len : Nat) (st : q5d) (K : PV → q5d → Prop) (_ : Tok K := ⟨⟩) : Prop := K (.list true cs len) st ∨ ∀ b, q6w st b → K (.own b 0 len len) ((b, .arr T cs) :: st)
theorem Lit.imm {T : TypeId} {cs : List PV} {len : Nat} {st : q5d} {K : PV → q5d → Prop} (h : K (.list true cs len) st) : Lit T cs len st K := .inl h
theorem Lit.own {T : TypeId} {cs : List PV} {len : Nat} {st : q5d} {K : PV → q5d → Prop} (h : ∀ b, q6w st b → K (.own b 0 len len) ((b, .arr T cs) :: st)) : Lit T cs len st K := .inr h
def Grow (T : TypeId) (bytes k : Nat) (cs : List PV) (need : Nat) (st : q5d) (K : PV → q5d → Prop) (_ : Tok K := ⟨⟩) : Prop := z9b T bytes k cs need st K
theorem Grow.intro {T : TypeId} {bytes k : Nat} {cs : List PV} {need : Nat} {st : q5d} {K : PV → q5d → Prop} (h1 : need * bytes ≤ 140737488355328)
  (h2 : ∀ b cap, q6w st b → need ≤ cap → cap ≤ 9223372036854775807 → K (.own b 0 need cap) ((b, .arr T (cs ++ List.replicate ((cap - need) * k) .any)) :: st)) : Grow T bytes k cs need st K := ⟨h1, .inl h2⟩
def q6u (T : TypeId) (bytes k : Nat) (p : PV) (new : List PV) (m : Nat) (st : q5d) (K : PV → q5d → Prop) (_ : Tok K := ⟨⟩) : Prop := q83 T bytes k p new m st K
section
variable (T : TypeId) (bytes k : Nat) (new : List PV) (m : Nat) (st : q5d) (K : PV → q5d → Prop)
theorem k4y : q6u T bytes k (.val (.slice none 0 0)) new m st K = ((m = 0 → K .nil st) ∧ (¬ m = 0 → Grow T bytes k new m st K)) := by
 show (if m = 0 then K .nil st else Grow T bytes k new m st K) = _
 split <;> simp [*]
@[simp] theorem q5f (t : Bool) (cs : List PV) (n : Nat) : q6u T bytes k (.list t cs n) new m st K = ((m = 0 → K (.list t cs n) st) ∧ (¬ m = 0 → t = true ∧ cs.length = n * k ∧ Grow T bytes k (cs ++ new) (n + m) st K)) := by
 show (if m = 0 then K (.list t cs n) st else t = true ∧ cs.length = n * k ∧ Grow T bytes k (cs ++ new) (n + m) st K) = _
 split <;> simp [*]
end
theorem q8v {T : TypeId} {bytes k : Nat} {new : List PV} {m : Nat} {st : q5d} {K : PV → q5d → Prop} {b n cap : Nat} {row : List PV} (hb : q5x st b = some (.arr T row)) (hl : row.length = cap * k) (hn : n ≤ cap) (hc : cap ≤ 9223372036854775807)
  (h : Grow T bytes k (row.take (n * k) ++ new) (n + m) (k2y b st) K) : q6u T bytes k (.own b 0 n cap) new m st K := by
 show q83 _ _ _ _ _ _ _ _
 simp only [q83, hb]
 exact ⟨trivial, by omega, hn, hc, .inl ⟨trivial, hl, h⟩⟩
theorem k3e {T : TypeId} {bytes k : Nat} {new : List PV} {m : Nat} {st : q5d} {K : PV → q5d → Prop} {b off n cap : Nat} {row : List PV} (hb : q5x st b = some (.arr T row)) (hl : off + cap * k ≤ row.length) (hn : n ≤ cap) (hc : cap ≤ 9223372036854775807)
  (h0 : (n + m) * bytes ≤ 140737488355328) (h1 : n + m ≤ cap → K (.own b off (n + m) cap) (q98 st b (.arr T (q5i row (off + n * k) new)))) (h2 : cap < n + m → Grow T bytes k ((row.drop off).take (n * k) ++ new) (n + m) st K) : q6u T bytes k (.own b off n cap) new m st K := by
 show q83 _ _ _ _ _ _ _ _
 simp only [q83, hb]
 exact ⟨trivial, hl, hn, hc, .inr ⟨h0, h1, h2⟩⟩
def j2e (k : Nat) (p : PV) (new : List PV) (m : Nat) (st : q5d) (K : PV → q5d → Prop) (_ : Tok K := ⟨⟩) : Prop := j1l k p new m st K
@[simp] theorem y3i (k : Nat) (new : List PV) (m : Nat) (st : q5d) (K : PV → q5d → Prop) : j2e k (.val (.slice none 0 0)) new m st K = K (.int 0) st := rfl
@[simp] theorem j9c (k : Nat) (new : List PV) (m : Nat) (st : q5d) (K : PV → q5d → Prop) (t : Bool) (cs : List PV) : j2e k (.list t cs 0) new m st K = K (.int 0) st := rfl
@[simp] theorem y3j (k : Nat) (new : List PV) (m : Nat) (st : q5d) (K : PV → q5d → Prop) (b off n cap : Nat) : j2e k (.val (.slice (some ⟨b, off, none⟩) n cap)) new m st K =
  q5p (j1b (q5x st b)) fun r => off + min m n * k ≤ r.2.length ∧ K (.int (min m n : Nat)) (q98 st b (.arr r.1 (q5i r.2 off (new.take (min m n * k))))) := by
 simp only [j2e, j1l]
 cases h : q5x st b with
 | none => simp [j1b]
 | some o => cases o <;> simp [j1b]
@[simp] theorem j5d (k : Nat) (st : q5d) (t : Bool) (cs : List PV) (n : Nat) : q7c k st (.list t cs n) = if cs.length = n * k then some (cs, n) else none := rfl
@[simp] theorem j7n (k : Nat) (st : q5d) : q7c k st (.val (.slice none 0 0)) = some ([], 0) := rfl
@[simp] theorem j7o (k : Nat) (st : q5d) (b off n cap : Nat) : q7c k st (.val (.slice (some ⟨b, off, none⟩) n cap)) = j5c (j1b (q5x st b)) fun r => if off + n * k ≤ r.2.length then some ((r.2.drop off).take (n * k), n) else none := by
 simp only [q7c]
 cases h : q5x st b with
 | none => rfl
 | some o => cases o <;> rfl
@[simp] theorem j7p (st : q5d) (s : ByteArray) : q7c 1 st (.val (.string s)) = some (s.data.toList.map fun b => .val (.int .u8 b.toNat), s.size) := rfl
def j5e (neg : Bool) (nk : NK) (p : PV) (st : q5d) (K : PV → q5d → Prop) (_ : Tok K := ⟨⟩) : Prop := z4g neg nk p st K
section
variable (neg : Bool) (st : q5d) (K : PV → q5d → Prop)
@[simp] theorem y57 (n c : Nat) : j5e neg .slice (.val (.slice none n c)) st K = K (.bool !neg) st := rfl
@[simp] theorem y58 (a : Addr) (n c : Nat) : j5e neg .slice (.val (.slice (some a) n c)) st K = K (.bool neg) st := rfl
@[simp] theorem y3k (t : Bool) (cs : List PV) (n : Nat) : j5e neg .slice (.list t cs n) st K = ((cs = [] → K (.bool !neg) st) ∧ K (.bool neg) st) := rfl
@[simp] theorem y3l : j5e neg .iface (.val .nilIface) st K = K (.bool !neg) st := rfl
@[simp] theorem y1m (T : TypeId) (p : PV) : j5e neg .iface (.iface T p) st K = K (.bool neg) st := rfl
@[simp] theorem y3m : j5e neg .map (.val (.map none)) st K = K (.bool !neg) st := rfl
@[simp] theorem y59 (r : Nat) : j5e neg .map (.val (.map (some r))) st K = K (.bool neg) st := rfl
@[simp] theorem y3n (ks : List Value) (vs : List PV) : j5e neg .map (.imap ks vs) st K = K (.bool neg) st := rfl
end
def PV.map? : PV → Option Nat
 | .val (.map (some b)) => some b
 | _ => none
@[simp] theorem j5f (b : Nat) : PV.map? (.val (.map (some b))) = some b := rfl
def map? : Option PObj → Option (List Value × List PV)
 | some (.map ks vs) => some (ks, vs)
 | _ => none
@[simp] theorem j2f (ks : List Value) (vs : List PV) : map? (some (.map ks vs)) = some (ks, vs) := rfl
@[simp] theorem y3o (st : q5d) (b : Nat) : z2o st (.val (.map (some b))) = map? (q5x st b) := by
 simp only [z2o]
 cases h : q5x st b with
 | none => rfl
 | some o => cases o <;> rfl
@[simp] theorem y3p (st : q5d) : z2o st (.val (.map none)) = some ([], []) := rfl
@[simp] theorem y1n (st : q5d) (ks : List Value) (vs : List PV) : z2o st (.imap ks vs) = some (ks, vs) := rfl
@[simp] theorem y6a (v : Value) : PV.key? (.val v) = some v := rfl
@[simp] theorem y6b (cs : List PV) : PV.key? (.agg cs) = (PV.vals? cs).map fun vs => .agg vs.toArray := rfl
@[simp] theorem y3q : PV.vals? [] = some [] := rfl
@[simp] theorem y1o (v : Value) (ps : List PV) : PV.vals? (.val v :: ps) = (PV.vals? ps).map (v :: ·) := rfl
@[simp] theorem y3r (lk : List LK) (v : Value) : q8r (false, lk) v = (lk.length == 1) := rfl
@[simp] theorem y3s (lk : List LK) (cs : Array Value) : q8r (true, lk) (.agg cs) = (cs.size == lk.length) := rfl
@[simp] theorem y6c (kp : KP) (k : Value) : k2x kp k [] = some none := rfl
def j5g (r : Option Bool) (rest : Option (Option Nat)) : Option (Option Nat) :=
 match r with
 | some true => some (some 0)
 | some false => rest.map (·.map (· + 1))
 | none => none
@[simp] theorem y7u (rest : Option (Option Nat)) : j5g (some true) rest = some (some 0) := rfl
@[simp] theorem y7v (rest : Option (Option Nat)) : j5g (some false) rest = rest.map (·.map (· + 1)) := rfl
@[simp] theorem j2g (kp : KP) (k k' : Value) (ks : List Value) : k2x kp k (k' :: ks) = j5g (q6e kp.2 (q6j kp.1 k) (q6j kp.1 k')) (k2x kp k ks) := by
 simp only [k2x, j5g]
 split <;> rename_i h <;> simp only [h]
@[simp] theorem y1p (v : Value) : q6j false v = [.val v] := by cases v <;> rfl
@[simp] theorem y1q (cs : Array Value) : q6j true (.agg cs) = cs.toList.map .val := rfl
def y3t (b : Nat) (kv : Value) (p : PV) (ks : List Value) (vs : List PV) (r : Option (Option Nat)) (st : q5d) (K : PV → q5d → Prop) (_ : Tok K := ⟨⟩) : Prop :=
 match r with
 | some (some j) => K .any (q98 st b (.map (ks.set j kv) (vs.set j p)))
 | some none => K .any (q98 st b (.map (ks ++ [kv]) (vs ++ [p])))
 | none => False
@[simp] theorem xput_s (b : Nat) (kv : Value) (p : PV) (ks : List Value) (vs : List PV) (j : Nat) (st : q5d) (K : PV → q5d → Prop) : y3t b kv p ks vs (some (some j)) st K = K .any (q98 st b (.map (ks.set j kv) (vs.set j p))) := rfl
@[simp] theorem xput_n (b : Nat) (kv : Value) (p : PV) (ks : List Value) (vs : List PV) (st : q5d) (K : PV → q5d → Prop) : y3t b kv p ks vs (some none) st K = K .any (q98 st b (.map (ks ++ [kv]) (vs ++ [p]))) := rfl
def xdel (b : Nat) (ks : List Value) (vs : List PV) (r : Option (Option Nat)) (st : q5d) (K : PV → q5d → Prop) (_ : Tok K := ⟨⟩) : Prop :=
 match r with
 | some (some j) => K .any (q98 st b (.map (ks.eraseIdx j) (vs.eraseIdx j)))
 | some none => K .any st
 | none => False
@[simp] theorem xdel_s (b : Nat) (ks : List Value) (vs : List PV) (j : Nat) (st : q5d) (K : PV → q5d → Prop) : xdel b ks vs (some (some j)) st K = K .any (q98 st b (.map (ks.eraseIdx j) (vs.eraseIdx j))) := rfl
@[simp] theorem xdel_n (b : Nat) (ks : List Value) (vs : List PV) (st : q5d) (K : PV → q5d → Prop) : xdel b ks vs (some none) st K = K .any st := rfl
def xcall (P : Program) (g : FuncId) (ps : List PV) (st : q5d) (Q : PEnd → q5d → Prop) (_ : Tok Q := ⟨⟩) : Prop := PCalls P g ps st Q
def j7q (P : Program) (l : Nat) (ps : List PV) (st : q5d) (Q : PEnd → q5d → Prop) (_ : Tok Q := ⟨⟩) : Prop := PRound P l ps st Q
def j2h (P : Program) (f : PV) (ps : List PV) (st : q5d) (Q : PEnd → q5d → Prop) (_ : Tok Q := ⟨⟩) : Prop := z78 P f ps st Q
@[simp ↓, simp] theorem j9d (P : Program) (g : FuncId) (fs cs ps : List PV) (st : q5d) (Q : PEnd → q5d → Prop) : j2h P (.func (.func g) fs cs) ps st Q = xcall P g (fs ++ ps ++ cs) st Q := rfl
@[simp ↓, simp] theorem j7r (P : Program) (l : Nat) (ps : List PV) (st : q5d) (Q : PEnd → q5d → Prop) : j2h P (.func (.yield l) [] []) ps st Q = j7q P l ps st Q := rfl
def j2i (k : Nat) (zs : List PV) (p : PV) (st : q5d) (K : PV → q5d → Prop) (_ : Tok K := ⟨⟩) : Prop := z79 k zs p st K
@[simp] theorem y1r (k : Nat) (zs : List PV) (st : q5d) (K : PV → q5d → Prop) : j2i k zs (.val (.slice none 0 0)) st K = K .any st := rfl
@[simp] theorem j7s (k : Nat) (zs : List PV) (st : q5d) (K : PV → q5d → Prop) (t : Bool) (cs : List PV) : j2i k zs (.list t cs 0) st K = K .any st := rfl
def j2j (p : PV) (st : q5d) (K : PV → q5d → Prop) (_ : Tok K := ⟨⟩) : Prop := z8a p st K
def y7w (p : PV) (st : q5d) (K : PV → q5d → Prop) (_ : Tok K := ⟨⟩) : Prop := j4w p st K
def y3u (p : PV) (st : q5d) (K : PV → q5d → Prop) (_ : Tok K := ⟨⟩) : Prop := z8b p st K
def y7x (K QP : PV → q5d → Prop) (e : PEnd) (st : q5d) (_ : Tok (K, QP) := ⟨⟩) : Prop := q9d K QP e st
section
variable (P : Program) (ρ : MX → PV) (st : q5d) (K QP : PV → q5d → Prop)
@[simp] theorem q7o (p : PV) : y7x K QP (.ret p) st = K p st := rfl
@[simp] theorem y1s (p : PV) : y7x K QP (.panic p) st = QP p st := rfl
theorem q6y (v : MVal) (h : j9b v = false) : xop P (.val v) ρ st K QP = q64 v ρ st fun p => K p st := by
 have : j8m v ρ st K = False := by
  unfold j8m
  split
  ·simp [j9b] at h
  ·rfl
 simp only [xop, mop, this, or_false]
 rfl
@[simp ↓] theorem mop_mv (x : MX) : xop P (.val (.mv x)) ρ st K QP = q64 (.mv x) ρ st fun p => K p st := q6y P ρ st K QP _ rfl
@[simp ↓] theorem y6d (c a b : MX) : xop P (.val (.pick c a b)) ρ st K QP = q64 (.pick c a b) ρ st fun p => K p st := q6y P ρ st K QP _ rfl
@[simp ↓] theorem y3v (zs : List PV) (parts : List (Nat × Nat × MX)) : xop P (.val (.build zs parts)) ρ st K QP = q64 (.build zs parts) ρ st fun p => K p st := q6y P ρ st K QP _ rfl
@[simp ↓] theorem y6e (k : Nat) (agg : Bool) (x : MX) : xop P (.val (.load k agg x)) ρ st K QP = q64 (.load k agg x) ρ st fun p => K p st := q6y P ρ st K QP _ rfl
@[simp ↓] theorem j7t (x : MX) : xop P (.val (.nilCheck x)) ρ st K QP = q64 (.nilCheck x) ρ st fun p => K p st := q6y P ρ st K QP _ rfl
@[simp ↓] theorem y7y (op : BinOp) (T : TypeId) (x y : MX) : xop P (.val (.bin op T x y)) ρ st K QP = q64 (.bin op T x y) ρ st fun p => K p st := q6y P ρ st K QP _ rfl
@[simp ↓] theorem y3w (neg : Bool) (ks : List LK) (x y : MX) : xop P (.val (.eqAgg neg ks x y)) ρ st K QP = q64 (.eqAgg neg ks x y) ρ st fun p => K p st := q6y P ρ st K QP _ rfl
@[simp ↓] theorem mop_un (op : UnOp) (x : MX) : xop P (.val (.un op x)) ρ st K QP = q64 (.un op x) ρ st fun p => K p st := q6y P ρ st K QP _ rfl
@[simp ↓] theorem y3x (k : IntKind) (x : MX) : xop P (.val (.toInt k x)) ρ st K QP = q64 (.toInt k x) ρ st fun p => K p st := q6y P ρ st K QP _ rfl
@[simp ↓] theorem j9e (T : TypeId) (x : MX) : xop P (.val (.mkIface T x)) ρ st K QP = q64 (.mkIface T x) ρ st fun p => K p st := q6y P ρ st K QP _ rfl
@[simp ↓] theorem y1t (fn : Fn) (first captured : List MX) : xop P (.val (.mkFunc fn first captured)) ρ st K QP = q64 (.mkFunc fn first captured) ρ st fun p => K p st := q6y P ρ st K QP _ rfl
@[simp ↓] theorem j5h (off : Nat) (x : MX) : xop P (.val (.fieldAddr off x)) ρ st K QP = q64 (.fieldAddr off x) ρ st fun p => K p st := q6y P ρ st K QP _ rfl
@[simp ↓] theorem j5i (k : Nat) (x i : MX) : xop P (.val (.indexAddr k x i)) ρ st K QP = q64 (.indexAddr k x i) ρ st fun p => K p st := q6y P ρ st K QP _ rfl
@[simp ↓] theorem j7u (n k : Nat) (x i : MX) : xop P (.val (.indexArr n k x i)) ρ st K QP = q64 (.indexArr n k x i) ρ st fun p => K p st := q6y P ρ st K QP _ rfl
@[simp ↓] theorem y3y (n k : Nat) (agg : Bool) (x i : MX) : xop P (.val (.index n k agg x i)) ρ st K QP = q64 (.index n k agg x i) ρ st fun p => K p st := q6y P ρ st K QP _ rfl
@[simp ↓] theorem y7z (x : MX) : xop P (.val (.len x)) ρ st K QP = q64 (.len x) ρ st fun p => K p st := q6y P ρ st K QP _ rfl
@[simp ↓] theorem y1u (x : MX) : xop P (.val (.maplen x)) ρ st K QP = q64 (.maplen x) ρ st fun p => K p st := q6y P ρ st K QP _ rfl
@[simp ↓] theorem y70 (x : MX) : xop P (.val (.cap x)) ρ st K QP = q64 (.cap x) ρ st fun p => K p st := q6y P ρ st K QP _ rfl
@[simp ↓] theorem y1v (lk : Bool × List LK) (z : PV) (ok : Bool) (x i : MX) : xop P (.val (.lookup lk z ok x i)) ρ st K QP = q64 (.lookup lk z ok x i) ρ st fun p => K p st := q6y P ρ st K QP _ rfl
@[simp ↓] theorem y3z (k : Nat) (x : MX) (lo hi mx : Option MX) : xop P (.val (.slice k x lo hi mx)) ρ st K QP = q64 (.slice k x lo hi mx) ρ st fun p => K p st := q6y P ρ st K QP _ rfl
@[simp ↓] theorem j7v (n k : Nat) (x : MX) (lo hi mx : Option MX) : xop P (.val (.sliceArr n k x lo hi mx)) ρ st K QP = q64 (.sliceArr n k x lo hi mx) ρ st fun p => K p st := q6y P ρ st K QP _ rfl
@[simp ↓] theorem y30 (x : MX) : xop P (.val (.strOf x)) ρ st K QP = q64 (.strOf x) ρ st fun p => K p st := q6y P ρ st K QP _ rfl
@[simp ↓] theorem j9f (i : Nat) (x : MX) : xop P (.val (.extract i x)) ρ st K QP = q64 (.extract i x) ρ st fun p => K p st := q6y P ρ st K QP _ rfl
@[simp ↓] theorem y1w (isMax : Bool) (xs : List MX) : xop P (.val (.minmax isMax xs)) ρ st K QP = q64 (.minmax isMax xs) ρ st fun p => K p st := q6y P ρ st K QP _ rfl
@[simp ↓] theorem y1x (T : TypeId) (z : PV) (ok : Bool) (x : MX) : xop P (.val (.assert T z ok x)) ρ st K QP = q64 (.assert T z ok x) ρ st fun p => K p st := q6y P ρ st K QP _ rfl
@[simp ↓] theorem y71 (T : TypeId) (len : Nat) (zs : List PV) (parts : List (Nat × Nat × MX)) : xop P (.val (.buildSlice T len zs parts)) ρ st K QP =
  q5p (k0k zs (parts.map fun q => (q.1, q.2.1, ρ q.2.2))) fun cs => Lit T cs len st K := by
 simp only [xop, mop, q7j, j8m, Lit]
 split <;> simp_all
@[simp ↓] theorem y1y (T : TypeId) (bytes k : Nat) (x y : MX) : xop P (.append T bytes k x y) ρ st K QP = q5p (q7c k st (ρ y)) fun r => q6u T bytes k (ρ x) r.1 r.2 st K := by
 simp only [xop, mop]
 split
 ·rename_i h; simp only [h, q5r]; rfl
 ·rename_i h; simp only [h, q9j]
@[simp ↓] theorem j9g (T : TypeId) (bytes k : Nat) (zs : List PV) (x n : MX) : xop P (.appendZ T bytes k zs x n) ρ st K QP = q5p (ρ n).int? fun q => 0 ≤ q.2 ∧ q.2 ≤ 9223372036854775807 ∧ q6u T bytes k (ρ x) (List.replicate q.2.toNat zs).flatten q.2.toNat st K := by
 simp only [xop, mop]
 split
 ·rename_i h; simp only [h, z8l, q5r]; rfl
 ·rename_i h
  simp only [q5p, eq_iff_iff, false_iff]
  rintro ⟨⟨k, m⟩, h1, -⟩
  unfold PV.int? at h1
  split at h1
  ·rename_i h2; exact h _ _ h2
  ·cases h1
@[simp ↓] theorem j9h (T : TypeId) (bytes k : Nat) (zs : List PV) (l c : MX) : xop P (.mkSlice T bytes k zs l c) ρ st K QP = q5p (ρ l).int? fun a => q5p (ρ c).int? fun b => 0 ≤ a.2 ∧ a.2 ≤ b.2 ∧ b.2 * bytes ≤ 281474976710656 ∧ b.2 ≤ 9223372036854775807 ∧
  Fresh st fun d => K (.own d 0 a.2.toNat b.2.toNat) ((d, .arr T (List.replicate b.2.toNat zs).flatten) :: st) := by
 simp only [xop, mop]
 split
 ·rename_i h1 h2; simp only [h1, h2, z8l, q5r]; rfl
 ·rename_i h
  simp only [q5p, eq_iff_iff, false_iff]
  rintro ⟨⟨k, m⟩, h1, ⟨k', m'⟩, h2, -⟩
  unfold PV.int? at h1 h2
  split at h1
  ·split at h2
   ·rename_i h3 _ _ _ h4; exact h _ _ _ _ h3 h4
   ·cases h2
  ·cases h1
@[simp ↓] theorem y6f (k : Nat) (x y : MX) : xop P (.copy k x y) ρ st K QP = q5p (q7c k st (ρ y)) fun r => j2e k (ρ x) r.1 r.2 st K := by
 simp only [xop, mop]
 split
 ·rename_i h; simp only [h, q5r]; rfl
 ·rename_i h; simp only [h, q9j]
@[simp ↓] theorem y31 (neg : Bool) (nk : NK) (x : MX) : xop P (.eqNil neg nk x) ρ st K QP = j5e neg nk (ρ x) st K := rfl
@[simp ↓] theorem y32 : xop P .mkMap ρ st K QP = Fresh st fun b => K (.val (.map (some b))) ((b, .map [] []) :: st) := rfl
@[simp ↓] theorem y1z (kp : KP) (m k v : MX) : xop P (.mapSet kp m k v) ρ st K QP = q5p (ρ m).map? fun b => q5p (ρ k).key? fun kv => q5p (map? (q5x st b)) fun r => q8r kp kv = true ∧ y3t b kv (ρ v) r.1 r.2 (k2x kp kv r.1) st K := by
 simp only [xop, mop]
 split
 ·rename_i b kv h1 h2
  simp only [h1, h2, j5f, q5r]
  split
  ·rename_i h3; simp only [h3, j2f, q5r]; rfl
  ·rename_i h3
   cases h4 : q5x st b with
   | none => simp [map?]
   | some o => cases o <;> simp_all [map?]
 ·rename_i h
  simp only [q5p, eq_iff_iff, false_iff]
  rintro ⟨b, h1, kv, h2, -⟩
  refine h b kv ?_ h2
  revert h1
  unfold PV.map?
  split <;> simp
  rintro rfl
  assumption
@[simp ↓] theorem y33 (T : TypeId) (zs : List PV) : xop P (.alloc T zs) ρ st K QP = Fresh st fun b => K (.ptr b 0) ((b, .arr T zs) :: st) := rfl
@[simp ↓] theorem y72 (T : TypeId) (x : MX) : xop P (.box T x) ρ st K QP = q5p (ρ x).cells fun cs => Fresh st fun b => K (.ptr b 0) ((b, .arr T cs) :: st) := by
 simp only [xop, mop]; split <;> simp_all [Fresh]
@[simp ↓] theorem y34 (k : Nat) (x y : MX) : xop P (.store k x y) ρ st K QP = q5p (ρ x).ptr? fun a => q5p (ρ y).cells fun ps => q5p (j1b (q5x st a.1)) fun r =>
  ps.length = k ∧ a.2 + k ≤ r.2.length ∧ K .any (q98 st a.1 (.arr r.1 (q5i r.2 a.2 ps))) := by
 simp only [xop, mop]
 split
 ·rename_i b off ps h1 h2
  simp only [h1, h2, j44, q5r]
  split
  ·rename_i h3; simp [h3]
  ·rename_i h3
   cases h4 : q5x st b with
   | none => simp [j1b]
   | some o => cases o <;> simp_all [j1b]
 ·rename_i h1
  simp only [q5p, false_iff, eq_iff_iff]
  rintro ⟨⟨b, off⟩, h2, ps, h3, -⟩
  refine h1 b off ps ?_ h3
  revert h2
  unfold PV.ptr?
  split <;> simp
  intro e1 e2
  subst e1; subst e2
  assumption
@[simp ↓] theorem y6g (f : MX) (args : List MX) : xop P (.call f args) ρ st K QP = j2h P (ρ f) (args.map ρ) st fun e st' => y7x K QP e st' := rfl
@[simp ↓] theorem y35 (k : Nat) (zs : List PV) (x : MX) : xop P (.clear k zs x) ρ st K QP = j2i k zs (ρ x) st K := rfl
@[simp ↓] theorem j7w (x : MX) : xop P (.rangeMap x) ρ st K QP = j2j (ρ x) st K := rfl
@[simp ↓] theorem y6h (x : MX) : xop P (.next x) ρ st K QP = y7w (ρ x) st K := rfl
@[simp ↓] theorem y36 (x : MX) : xop P (.entry x) ρ st K QP = y3u (ρ x) st K := rfl
@[simp ↓] theorem y37 (x : MX) : xop P (.bytes x) ρ st K QP = q5p (ρ x).str? fun s => s.size ≤ 140737488355328 ∧ K (.list false (k16 s) s.size) st := by
 simp only [xop, mop]
 split <;> simp_all [PV.str?]
@[simp ↓] theorem y38 (x : MX) : xop P (.panic x) ρ st K QP = q5p (ρ x).iface? fun q => QP (.iface q.1 q.2) st := by
 simp only [xop, mop]
 split <;> simp_all [PV.iface?]
end
def z8n (P : Program) (l : List MInst) (s : PS) (K : PS → Prop) (QP : PV → q5d → Prop) (_ : Tok (l, K, QP) := ⟨⟩) : Prop := z50 P l s K QP
def xwp (P : Program) (c : MCode) (Q : q7n) (s : PS) (_ : Tok (c, Q) := ⟨⟩) : Prop := mwp P c Q s
def k4z (K : PS → Prop) (Q : q7n) (e : MExit) (s : PS) (_ : Tok (K, Q) := ⟨⟩) : Prop := z57 K Q e s
def z41 (id : Nat) (Q : q7n) (e : MExit) (s : PS) (_ : Tok Q := ⟨⟩) : Prop := z2r id Q e s
def j5j (P : Program) (c : MCode) (Q : q7n) (s : PS) (_ : Tok (c, Q) := ⟨⟩) : Prop := z2s View (mwp P c) Q s
def j7x (P : Program) (f : PV) (ps : List Nat) (a b : MCode) (Q : q7n) (s : PS) (_ : Tok (a, b, Q) := ⟨⟩) : Prop :=
 match f with
 | .func (.func f) fs cs => k2q P f ∧ ∀ key : LoopKey, key.Conv P ps a b → ∀ l, q6w s.st l →
   PCalls P f (fs ++ [.func (.yield l) [] []] ++ cs) ((l, .loop key s.env .ready none) :: s.st) (k34 l Q s.env)
 | _ => False
def z6t : Option PObj → Option (LoopKey × Env × LoopState × Option Code)
 | some (.loop key e state pend) => some (key, e, state, pend)
 | _ => none
@[simp] theorem k6y (key : LoopKey) (e : Env) (state : LoopState) (pend : Option Code) : z6t (some (.loop key e state pend)) = some (key, e, state, pend) := rfl
theorem z12 {o : Option PObj} (h : ∀ key e state pend, o = some (.loop key e state pend) → False) : z6t o = none := by
 unfold z6t
 split
 ·rename_i key e state pend; exact (h key e state pend rfl).elim
 ·rfl
def j5k (pend : Option Code) (Q : q7n) (s : PS) (_ : Tok Q := ⟨⟩) : Prop :=
 match pend with
 | none => Q .normal s
 | some .ret => Q .ret s
 | some (.exit id) => Q (.exit id) s
 | _ => False
@[simp ↓, simp] theorem y10 (Q : q7n) (s : PS) : j5k none Q s = Q .normal s := rfl
@[simp ↓, simp] theorem y39 (Q : q7n) (s : PS) : j5k (some .ret) Q s = Q .ret s := rfl
@[simp ↓, simp] theorem y11 (id : Nat) (Q : q7n) (s : PS) : j5k (some (.exit id)) Q s = Q (.exit id) s := rfl
def j5l (l : Nat) (Q : q7n) (e : Env) (en : PEnd) (st : q5d) (_ : Tok Q := ⟨⟩) : Prop := k34 l Q e en st
@[simp ↓, simp] theorem y4a (l : Nat) (Q : q7n) (e : Env) (p : PV) (st : q5d) : j5l l Q e (.ret p) st = q5p (z6t (q5x st l)) fun r => r.2.2.1 ≠ .busy ∧ j5k r.2.2.2 Q ⟨e, k2y l st⟩ := by
 simp only [j5l, k34]
 split
 ·rename_i h; simp only [h, k6y, q5r]
  congr 1
 ·rename_i h; rw [z12 h]; simp
@[simp ↓, simp] theorem j9i (l : Nat) (Q : q7n) (e : Env) (p : PV) (st : q5d) : j5l l Q e (.panic p) st = Q (.panic p) ⟨[], st⟩ := rfl
theorem z6u {P : Program} {f : FuncId} {fs cs : List PV} {ps : List Nat} {a b : MCode} {Q : q7n} {e : Env} {st : q5d} (hent : k2q P f)
  (h : ∀ key : LoopKey, key.Conv P ps a b → ∀ l, q6w st l → xcall P f (fs ++ [.func (.yield l) [] []] ++ cs) ((l, .loop key e .ready none) :: st) fun en s => j5l l Q e en s) : j7x P (.func (.func f) fs cs) ps a b Q ⟨e, st⟩ := ⟨hent, h⟩
@[simp] theorem y12 (e : Env) (t : Nat) (ts : List Nat) (p : PV) (ps : List PV) : k9a e (t :: ts) (p :: ps) = k9a (k0i e (some t) p) ts ps := rfl
@[simp] theorem y4b (e : Env) : k9a e [] [] = e := rfl
def z3d (l : Nat) (Q : PEnd → q5d → Prop) (ex : MExit) (s : PS) (_ : Tok Q := ⟨⟩) : Prop := k9b l Q ex s
def k40 (P : Program) (l : Nat) (b : MCode) (Q : PEnd → q5d → Prop) (ex : MExit) (s : PS) (_ : Tok (b, Q) := ⟨⟩) : Prop := z8h P l b Q ex s
section
variable (l id : Nat) (Q : PEnd → q5d → Prop) (e : Env) (st : q5d)
@[simp ↓] theorem j4n : z3d l Q .normal ⟨e, st⟩ = q5p (z6t (q5x st l)) fun r => Q (.ret (.bool true)) (q98 st l (.loop r.1 r.2.1 .ready none)) := by
 simp only [z3d, k9b]
 split
 ·rename_i h; simp only [h, k6y, q5r]
 ·rename_i h; rw [z12 h]; simp
@[simp ↓] theorem j5m (p : PV) (s : PS) : z3d l Q (.panic p) s = False := rfl
@[simp ↓] theorem j4o (P : Program) (b : MCode) : k40 P l b Q .normal ⟨e, st⟩ = q5p (z6t (q5x st l)) fun r => r.2.2.1 = .ready ∧ xwp P b (fun ex s => z3d l Q ex s) ⟨e, q98 st l (.loop r.1 r.2.1 .busy r.2.2.2)⟩ := by
 simp only [k40, z8h]
 split
 ·rename_i h; simp only [h, k6y, q5r, true_and]; rfl
 ·rename_i h
  simp only [q5p, eq_iff_iff, false_iff]
  rintro ⟨⟨key, e', state, pend⟩, h1, h2, -⟩
  simp only at h2
  subst h2
  unfold z6t at h1
  split at h1
  ·rename_i h3; cases h1; exact h _ _ _ h3
  ·cases h1
@[simp ↓] theorem j9j (P : Program) (b : MCode) (s : PS) : k40 P l b Q .ret s = False := rfl
@[simp ↓] theorem j7y (P : Program) (b : MCode) (s : PS) : k40 P l b Q (.exit id) s = False := rfl
@[simp ↓] theorem j5n (P : Program) (b : MCode) (p : PV) (s : PS) : k40 P l b Q (.panic p) s = False := rfl
end
theorem z6v {P : Program} (q5m : P.follows .mixedOrders = true) {l : Nat} {key : LoopKey} {params : List Nat} {ma mb : MCode} (hconv : key.Conv P params ma mb) {e : Env} {st : q5d} (hget : q5x st l = some (.loop key e .ready none))
  {args : List PV} (hlen : params.length = args.length) {Q : PEnd → q5d → Prop} (h : xwp P ma (fun ex s => k40 P l mb Q ex s) ⟨k9a e params args, st⟩) : PRound P l args st Q := z28 q5m hconv hget hlen h
def z8o (Q : q7n) (p : PV) (st : q5d) (_ : Tok Q := ⟨⟩) : Prop := Q (.panic p) ⟨[], st⟩
def j2k (rs : List MRes) (R E : PV → q5d → Prop) (e : MExit) (s : PS) (_ : Tok (R, E) := ⟨⟩) : Prop := k18 rs R E e s
def j4p (s : PS) (rs : List MRes) (K : List PV → Prop) (_ : Tok K := ⟨⟩) : Prop := y07 s rs K
section
variable (P : Program) (K : PS → Prop) (QP : PV → q5d → Prop) (Q : q7n) (s : PS) (e : Env) (st : q5d)
@[simp ↓] theorem y6i : z8n P [] s K QP = K s := rfl
@[simp ↓] theorem y4c (d : Option Nat) (op : MOp) (l : List MInst) : z8n P (⟨d, none, op⟩ :: l) ⟨e, st⟩ K QP = xop P op (q6a e) st (fun p st' => k0e (⟨k0i e d p, st'⟩ : PS) fun s => z8n P l s K QP) QP := rfl
theorem z9v {p : PV} (h : ∀ c, p = .val (.bool c) → False) : p.bool? = none := by
 unfold PV.bool?
 split
 ·rename_i c; exact (h c rfl).elim
 ·rfl
theorem k8r {p : PV} (h : ∀ c, p = .val (.bool c) → False) (h2 : ∀ vs, p = .val (.tuple vs) → False) : p.gd? = none := by
 unfold PV.gd?
 split
 ·rename_i c; exact (h c rfl).elim
 ·rename_i c; exact (h2 c rfl).elim
 ·rfl
@[simp ↓] theorem j7z (d : Option Nat) (t : Nat) (op : MOp) (l : List MInst) : z8n P (⟨d, some (t, true), op⟩ :: l) ⟨e, st⟩ K QP = q5p (q6h e t).gd? fun c =>
  onG c (k0e (z2q e t true) fun e => xop P op (q6a e) st (fun p st' => k0e (⟨k0i e d p, st'⟩ : PS) fun s => z8n P l s K QP) QP)
   (k0e (⟨k0i (z2q e t false) d .undef, st⟩ : PS) fun s => z8n P l s K QP) (k0e (⟨k0i e d .undef, st⟩ : PS) fun s => z8n P l s K QP) := by
 simp only [z8n, z50]
 split
 ·rename_i c h; simp only [h, k8q, q5r, j5b, k35]; cases c <;> simp [xop]
 ·rename_i vs h
  have hg : (q6h e t).gd? = some .skip := by rw [h]; rfl
  rw [hg, q5r]
  rfl
 ·rename_i h h2; rw [k8r h h2]; simp
@[simp ↓] theorem j70 (d : Option Nat) (t : Nat) (op : MOp) (l : List MInst) : z8n P (⟨d, some (t, false), op⟩ :: l) ⟨e, st⟩ K QP = q5p (q6h e t).gd? fun c =>
  onG c (k0e (⟨k0i (z2q e t true) d .undef, st⟩ : PS) fun s => z8n P l s K QP)
   (k0e (z2q e t false) fun e => xop P op (q6a e) st (fun p st' => k0e (⟨k0i e d p, st'⟩ : PS) fun s => z8n P l s K QP) QP) (k0e (⟨k0i e d .undef, st⟩ : PS) fun s => z8n P l s K QP) := by
 simp only [z8n, z50]
 split
 ·rename_i c h; simp only [h, k8q, q5r, j5b, k35]; cases c <;> simp [xop]
 ·rename_i vs h
  have hg : (q6h e t).gd? = some .skip := by rw [h]; rfl
  rw [hg, q5r]
  rfl
 ·rename_i h h2; rw [k8r h h2]; simp
@[simp ↓] theorem y6j : xwp P .skip Q s = Q .normal s := rfl
@[simp ↓] theorem y13 (l : List MInst) (ks : List Nat) : xwp P (.region l ks) Q s = z8n P l s (fun s' => k0e (⟨k0j ks s'.env, s'.st⟩ : PS) fun s' => Q .normal s') (fun p st' => z8o Q p st') := rfl
@[simp ↓] theorem y73 (a b : MCode) : xwp P (.seq a b) Q s = xwp P a (fun e s' => k4z (fun s' => xwp P b Q s') Q e s') s := rfl
@[simp ↓] theorem y6k (c : MX) (a b : MCode) : xwp P (.cond c a b) Q ⟨e, st⟩ = q5p (q6a e c).bool? fun t => onB t (xwp P a Q ⟨e, st⟩) (xwp P b Q ⟨e, st⟩) := by
 simp only [xwp, mwp]
 split
 ·rename_i t h; simp only [h, z10, q5r]; cases t <;> simp
 ·rename_i h; rw [z9v h]; simp
@[simp ↓] theorem y4d (id : Nat) (c : MCode) : xwp P (.block id c) Q s = xwp P c (fun e s' => z41 id Q e s') s := rfl
@[simp ↓] theorem y6l (c : MCode) : xwp P (.loop c) Q s = j5j P c Q s := rfl
@[simp ↓] theorem j5o (g : MX) (ps : List Nat) (a b : MCode) : xwp P (.rangeFunc g ps a b) Q ⟨e, st⟩ = j7x P (q6a e g) ps a b Q ⟨e, st⟩ := rfl
@[simp ↓] theorem y6m (id : Nat) : xwp P (.exit id) Q s = Q (.exit id) s := rfl
@[simp ↓] theorem y74 : xwp P .ret Q s = Q .ret s := rfl
@[simp ↓] theorem j71 : k4z K Q .normal s = K s := rfl
@[simp ↓] theorem y14 (id : Nat) : k4z K Q (.exit id) s = Q (.exit id) s := rfl
@[simp ↓] theorem y4e : k4z K Q .ret s = Q .ret s := rfl
@[simp ↓] theorem j9k (p : PV) : k4z K Q (.panic p) s = Q (.panic p) s := rfl
@[simp ↓] theorem j5p (id : Nat) : z41 id Q .normal s = Q .normal s := rfl
@[simp ↓] theorem j9l (id j : Nat) : z41 id Q (.exit j) s = if j = id then Q .normal s else Q (.exit j) s := rfl
@[simp ↓] theorem y15 (id : Nat) : z41 id Q .ret s = Q .ret s := rfl
@[simp ↓] theorem j72 (id : Nat) (p : PV) : z41 id Q (.panic p) s = Q (.panic p) s := rfl
@[simp ↓] theorem y4f (p : PV) (st' : q5d) : z8o Q p st' = Q (.panic p) ⟨[], st'⟩ := rfl
section
variable (rs : List MRes) (R E : PV → q5d → Prop)
@[simp ↓] theorem j9m : j2k rs R E .normal s = j4p s rs fun ps => R (k23 ps) s.st := rfl
@[simp ↓] theorem y6n : j2k rs R E .ret s = j4p s rs fun ps => R (k23 ps) s.st := rfl
@[simp ↓] theorem y16 (p : PV) : j2k rs R E (.panic p) s = E p s.st := rfl
@[simp ↓] theorem y4g (id : Nat) : j2k rs R E (.exit id) s = False := rfl
end
@[simp ↓] theorem y6o (K : List PV → Prop) : j4p s [] K = K [] := rfl
@[simp ↓] theorem y6p (K : List PV → Prop) (t : Nat) (rs : List MRes) : j4p ⟨e, st⟩ (.tmp t :: rs) K = j4p ⟨e, st⟩ rs fun ps => K (q6h e t :: ps) := rfl
@[simp ↓] theorem y4h (K : List PV → Prop) (t k : Nat) (agg : Bool) (rs : List MRes) : j4p ⟨e, st⟩ (.cell t k agg :: rs) K = q5p (k1o st (q6h e t)) fun r => k0q r.1 r.2 k agg fun p => j4p ⟨e, st⟩ rs fun ps => K (p :: ps) := by
 have : j4p ⟨e, st⟩ (.cell t k agg :: rs) K = q64 (.load k agg (.tmp t)) (q6a e) st fun p => j4p ⟨e, st⟩ rs fun ps => K (p :: ps) := rfl
 rw [this, j15]
 rfl
end
theorem j2l (op : BinOp) (p q : PV) (K : PV → Prop) : z0q op p q K ↔ ∃ r, z0q op p q (fun x => x = r) ∧ K r := by
 unfold z0q
 repeat' split
 all_goals first | (simp; done) | (constructor <;> grind)
theorem k70 (k b off n cap : Nat) (lo hi mx : Option Int) (K : PV → Prop) : q8q k b off n cap lo hi mx K ↔ ∃ r, q8q k b off n cap lo hi mx (fun x => x = r) ∧ K r := by
 unfold q8q
 cases lo with
 | none => simp only; constructor <;> grind
 | some l =>
  simp only
  constructor
  ·rintro ⟨h0, h1, h2, h3, h4, h5, h6, h7⟩
   by_cases hl : l = mx.getD cap
   ·exact ⟨_, ⟨h0, h1, h2, h3, h4, h5, fun _ => rfl, fun h => by omega⟩, h6 hl⟩
   ·exact ⟨_, ⟨h0, h1, h2, h3, h4, h5, fun h => absurd h hl, fun _ => rfl⟩, h7 (by omega)⟩
  ·rintro ⟨r, ⟨h0, h1, h2, h3, h4, h5, h6, h7⟩, h8⟩
   exact ⟨h0, h1, h2, h3, h4, h5, fun h => by rw [h6 h]; exact h8, fun h => by rw [h7 h]; exact h8⟩
theorem z3e (k : Nat) (t : Bool) (cs : List PV) (n : Nat) (p : PV) (lo hi mx : Option Int) (K : PV → Prop) : k22 k t cs n p lo hi mx K ↔ ∃ r, k22 k t cs n p lo hi mx (fun x => x = r) ∧ K r := by
 unfold k22
 split <;> first | (simp; done) | (constructor <;> grind)
theorem z6w (k : Nat) (p : PV) (lo hi mx : Option Int) (K : PV → Prop) : k17 k p lo hi mx K ↔ ∃ r, k17 k p lo hi mx (fun x => x = r) ∧ K r := by
 unfold k17
 split
 ·constructor
  ·rintro ⟨h1, h2⟩; exact ⟨p, ⟨h1, rfl⟩, h2⟩
  ·rintro ⟨r, ⟨h1, rfl⟩, h2⟩; exact ⟨h1, h2⟩
 split
 ·exact z3e ..
 ·split
  ·exact k70 ..
  ·simp
theorem z0z (n k : Nat) (p : PV) (lo hi mx : Option Int) (K : PV → Prop) : q7q n k p lo hi mx K ↔ ∃ r, q7q n k p lo hi mx (fun x => x = r) ∧ K r := by
 unfold q7q
 split
 ·constructor <;> grind
 ·exact k70 ..
 ·simp
theorem z00 (s : ByteArray) (lo hi : Option Int) (K : PV → Prop) : q9c s lo hi K ↔ ∃ r, q9c s lo hi (fun x => x = r) ∧ K r := by
 unfold q9c
 split <;> first | (simp; done) | (constructor <;> grind)
theorem k51 (v : MVal) (ρ : MX → PV) (st : q5d) (K : PV → Prop) : q7j v ρ st K ↔ ∃ p, q7j v ρ st (fun q => q = p) ∧ K p := by
 cases v
 case bin op T x y => exact j2l op _ _ K
 case pick c a b =>
  simp only [q7j]
  split
  ·rename_i t _
   cases t <;> simp
  ·simp
 case slice k x lo hi mx =>
  simp only [q7j]
  split
  ·exact z6w ..
  ·simp
 case sliceArr n k x lo hi mx =>
  simp only [q7j]
  split
  ·exact z0z ..
  ·simp
 case sliceStr x lo hi =>
  simp only [q7j]
  split
  ·exact z00 ..
  ·simp
 all_goals simp only [q7j]
 all_goals (repeat' split)
 all_goals first | (simp; done) | (constructor <;> grind)
def k4c (P : Program) (Cl : q5d → Prop) (l : List (DFlag × MInst)) (s : PS) (K : PS → Prop) (QP : PV → q5d → Prop) (_ : Tok (Cl, l, K, QP) := ⟨⟩) : Prop := mdraw P Cl l s K QP
def k6z (P : Program) (Cl : q5d → Prop) (fl : DFlag) (op : MOp) (e : Env) (st : q5d) (K QP : PV → q5d → Prop) (_ : Tok (Cl, fl, op, K, QP) := ⟨⟩) : Prop := mdraw.one P Cl fl ⟨none, none, op⟩ ⟨e, st⟩ K QP
theorem Rets.xcall {P : Program} {g : FuncId} {ps : List PV} {st : q5d} {p : PV} (h : Rets P g ps st p) {Q : PEnd → q5d → Prop} (hk : Q (.ret p) st) : xcall P g ps st Q := h.calls hk
def j2m (P : Program) (Cl : q5d → Prop) (g : FuncId) (ps : List PV) (K : PV → Prop) (QP : PV → q5d → Prop) (_ : Tok (Cl, K, QP) := ⟨⟩) : Prop :=
 ∃ p, (∀ st, Cl st → PCalls P g ps st (fun en st' => st' = st ∧ (en = .ret p ∨ ∃ q, en = .panic q ∧ QP q st))) ∧ K p
def k0s (Cl : q5d → Prop) (k : Nat) (agg : Bool) (p : PV) (K : PV → Prop) (_ : Tok (Cl, K) := ⟨⟩) : Prop :=
 ∃ q, (∀ st, Cl st → q7j (.load k agg (.const p)) (q6a []) st (fun r => r = q)) ∧ K q
theorem z01 {Cl : q5d → Prop} {k : Nat} {agg : Bool} {cs : List PV} {off : Nat} {K : PV → Prop} (h : k0q cs off k agg K) : k0s Cl k agg (.iptr cs off) K := by
 have h' : q7j (.load k agg (.const (.iptr cs off))) (q6a []) [] K := h
 obtain ⟨q, h1, h2⟩ := (k51 _ _ _ _).1 h'
 exact ⟨q, fun _ _ => h1, h2⟩
theorem z3f {st0 : q5d} {M : List Nat} {k : Nat} {agg : Bool} {b off : Nat} {T : TypeId} {cs : List PV} {K : PV → Prop} (hb : b ∉ M) (hg : q5x st0 b = some (.arr T cs)) (h : k0q cs off k agg K) : k0s (Cls st0 M) k agg (.ptr b off) K := by
 have key : ∀ (st : q5d) (K' : PV → Prop), q5x st b = some (.arr T cs) → q7j (.load k agg (.const (.ptr b off))) (q6a []) st K' = k0q cs off k agg K' := by
  intro st K' hst
  simp only [q7j, q6a, k1o, hst]
  rfl
 obtain ⟨q, h1, h2⟩ := (k51 _ _ _ _).1 ((key st0 K hg).symm ▸ h)
 exact ⟨q, fun st hst => by rw [key st _ (hst b hb _ hg)]; rwa [key st0 _ hg] at h1, h2⟩
@[simp] theorem k0t (c : Nat) (o : PObj) (st : q5d) (b : Nat) : q6w ((c, o) :: st) b = ((¬ c = b ∧ ¬ b = c) ∧ q6w st b) := propext ⟨fun h => h, fun h => h⟩
@[simp] theorem y6q (c : Nat) : q5x [] c = none := by rw [q5x]
@[simp] theorem y4i (b : Nat) (o : PObj) (st : q5d) (c : Nat) : q5x ((b, o) :: st) c = if b = c then some o else q5x st c := by rw [q5x]
theorem Cls.self (st : q5d) (M : List Nat) : Cls st M st := fun _ _ _ h => h
@[simp] theorem y6r (st : q5d) (M : List Nat) : Cls st M st = True := eq_true (Cls.self st M)
@[simp] theorem j2n {st0 st : q5d} {M : List Nat} {b : Nat} {o : PObj} (hn : q6w st b) (h : Cls st0 M st) : Cls st0 M ((b, o) :: st) := fun c hc x hx => by
 have := h c hc x hx
 simp only [q5x]
 rw [if_neg]
 ·exact this
 ·rintro rfl; rw [k3y hn] at this; cases this
@[simp] theorem z8p {st0 st : q5d} {M : List Nat} {b : Nat} {o : PObj} (h : Cls st0 M st) : Cls ((b, o) :: st0) M ((b, o) :: st) := fun c hc x hx => by
 simp only [q5x] at hx ⊢
 split
 ·rename_i e; rw [if_pos e] at hx; exact hx
 ·rename_i e; rw [if_neg e] at hx; exact h c hc x hx
@[simp] theorem y4j {st0 st : q5d} {M : List Nat} {b : Nat} {o o' : PObj} (hb : b ∈ M) (h : Cls st0 M st) : Cls ((b, o) :: st0) M ((b, o') :: st) := fun c hc x hx => by
 have hne : b ≠ c := by rintro rfl; exact hc hb
 simp only [q5x, if_neg hne] at hx ⊢
 exact h c hc x hx
@[simp] theorem j5q {st0 : q5d} {M : List Nat} {k : Nat} {agg : Bool} {b off : Nat} {K : PV → Prop} (hb : b ∉ M) : k0s (Cls st0 M) k agg (.val (.pointer (some ⟨b, off, none⟩))) K = q5p (j1b (q5x st0 b)) fun r => k0q r.2 off k agg K := by
 apply propext
 cases hg : q5x st0 b with
 | none =>
  simp only [j1b, q9j, iff_false]
  rintro ⟨q, h1, -⟩
  have := h1 st0 (Cls.self _ _)
  simp [q7j, q6a, k1o, hg] at this
 | some o =>
  cases o with
  | arr T cs =>
   simp only [j45, q5r]
   refine ⟨?_, fun h => z3f hb hg h⟩
   rintro ⟨q, h1, h2⟩
   have := h1 st0 (Cls.self _ _)
   have h3 : q7j (.load k agg (.const (.ptr b off))) (q6a []) st0 K := (k51 _ _ _ _).2 ⟨q, this, h2⟩
   simpa only [q7j, q6a, k1o, hg, k0q] using h3
  | _ =>
   simp only [j1b, q9j, iff_false]
   rintro ⟨q, h1, -⟩
   have := h1 st0 (Cls.self _ _)
   simp [q7j, q6a, k1o, hg] at this
@[simp] theorem j5r {st0 : q5d} {M : List Nat} {k : Nat} {agg : Bool} {cs : List PV} {off : Nat} {K : PV → Prop} : k0s (Cls st0 M) k agg (.iptr cs off) K = k0q cs off k agg K := by
 apply propext
 refine ⟨?_, fun h => z01 h⟩
 rintro ⟨q, h1, h2⟩
 exact (k51 (.load k agg (.const (.iptr cs off))) (q6a []) st0 K).2 ⟨q, h1 st0 (Cls.self _ _), h2⟩
section
variable (P : Program) (Cl : q5d → Prop) (K : PS → Prop) (QP : PV → q5d → Prop) (K1 : PV → q5d → Prop) (Q : q7n) (e : Env) (st : q5d)
@[simp ↓] theorem y4k (s : PS) : k4c P Cl [] s K QP = K s := rfl
@[simp ↓] theorem y17 (fl : DFlag) (d : Option Nat) (op : MOp) (l : List (DFlag × MInst)) : k4c P Cl ((fl, ⟨d, none, op⟩) :: l) ⟨e, st⟩ K QP =
  k6z P Cl fl op e st (fun p st' => k0e (⟨k0i e d p, st'⟩ : PS) fun s => k4c P Cl l s K QP) QP := rfl
@[simp ↓] theorem j5s (fl : DFlag) (d : Option Nat) (t : Nat) (op : MOp) (l : List (DFlag × MInst)) : k4c P Cl ((fl, ⟨d, some (t, true), op⟩) :: l) ⟨e, st⟩ K QP = q5p (q6h e t).gd? fun c =>
  onG c (k0e (z2q e t true) fun e => k6z P Cl fl op e st (fun p st' => k0e (⟨k0i e d p, st'⟩ : PS) fun s => k4c P Cl l s K QP) QP)
   (k0e (⟨k0i (z2q e t false) d .undef, st⟩ : PS) fun s => k4c P Cl l s K QP) (k0e (⟨k0i e d .undef, st⟩ : PS) fun s => k4c P Cl l s K QP) := by
 simp only [k4c, mdraw]
 split
 ·rename_i c h; simp only [h, k8q, q5r, j5b, k35]; cases c <;> simp <;> rfl
 ·rename_i vs h
  have hg : (q6h e t).gd? = some .skip := by rw [h]; rfl
  rw [hg, q5r]
  rfl
 ·rename_i h h2; rw [k8r h h2]; simp
@[simp ↓] theorem j5t (fl : DFlag) (d : Option Nat) (t : Nat) (op : MOp) (l : List (DFlag × MInst)) : k4c P Cl ((fl, ⟨d, some (t, false), op⟩) :: l) ⟨e, st⟩ K QP = q5p (q6h e t).gd? fun c =>
  onG c (k0e (⟨k0i (z2q e t true) d .undef, st⟩ : PS) fun s => k4c P Cl l s K QP)
   (k0e (z2q e t false) fun e => k6z P Cl fl op e st (fun p st' => k0e (⟨k0i e d p, st'⟩ : PS) fun s => k4c P Cl l s K QP) QP) (k0e (⟨k0i e d .undef, st⟩ : PS) fun s => k4c P Cl l s K QP) := by
 simp only [k4c, mdraw]
 split
 ·rename_i c h; simp only [h, k8q, q5r, j5b, k35]; cases c <;> simp <;> rfl
 ·rename_i vs h
  have hg : (q6h e t).gd? = some .skip := by rw [h]; rfl
  rw [hg, q5r]
  rfl
 ·rename_i h h2; rw [k8r h h2]; simp
@[simp ↓] theorem j4q (v : MVal) : k6z P Cl .early (.val v) e st K1 QP = q64 v (q6a e) st fun p => K1 p st := rfl
@[simp ↓] theorem y4l (op : MOp) : k6z P Cl .last op e st K1 QP = xop P op (q6a e) st K1 QP := rfl
@[simp ↓] theorem y4m (op : MOp) : k6z P Cl .hard op e st K1 QP = xop P op (q6a e) st (fun p st' => Cl st' ∧ K1 p st') QP := rfl
theorem q51 (v : MVal) (hv : q9x v = false) : k6z P Cl .late (.val v) e st K1 QP = q64 v (q6a e) [] fun p => K1 p st := by
 simp only [k6z, mdraw.one, z56, hv, Bool.false_eq_true, if_false, q64]
 exact propext (k51 v (q6a e) [] fun p => K1 p st).symm
@[simp ↓] theorem j73 (x : MX) : k6z P Cl .late (.val (.mv x)) e st K1 QP = q64 (.mv x) (q6a e) [] fun p => K1 p st := q51 P Cl QP K1 e st _ rfl
@[simp ↓] theorem j4r (c a b : MX) : k6z P Cl .late (.val (.pick c a b)) e st K1 QP = q64 (.pick c a b) (q6a e) [] fun p => K1 p st := q51 P Cl QP K1 e st _ rfl
@[simp ↓] theorem z8q (x : MX) : k6z P Cl .late (.val (.nilCheck x)) e st K1 QP = q64 (.nilCheck x) (q6a e) [] fun p => K1 p st := q51 P Cl QP K1 e st _ rfl
@[simp ↓] theorem j5u (op : BinOp) (T : TypeId) (x y : MX) : k6z P Cl .late (.val (.bin op T x y)) e st K1 QP = q64 (.bin op T x y) (q6a e) [] fun p => K1 p st := q51 P Cl QP K1 e st _ rfl
@[simp ↓] theorem j2o (neg : Bool) (ks : List LK) (x y : MX) : k6z P Cl .late (.val (.eqAgg neg ks x y)) e st K1 QP = q64 (.eqAgg neg ks x y) (q6a e) [] fun p => K1 p st := q51 P Cl QP K1 e st _ rfl
@[simp ↓] theorem j1e (neg : Bool) (x y : MX) : k6z P Cl .late (.val (.eqBool neg x y)) e st K1 QP = q64 (.eqBool neg x y) (q6a e) [] fun p => K1 p st := q51 P Cl QP K1 e st _ rfl
@[simp ↓] theorem j74 (op : UnOp) (x : MX) : k6z P Cl .late (.val (.un op x)) e st K1 QP = q64 (.un op x) (q6a e) [] fun p => K1 p st := q51 P Cl QP K1 e st _ rfl
@[simp ↓] theorem j2p (k : IntKind) (x : MX) : k6z P Cl .late (.val (.toInt k x)) e st K1 QP = q64 (.toInt k x) (q6a e) [] fun p => K1 p st := q51 P Cl QP K1 e st _ rfl
@[simp ↓] theorem z6x (off : Nat) (x : MX) : k6z P Cl .late (.val (.fieldAddr off x)) e st K1 QP = q64 (.fieldAddr off x) (q6a e) [] fun p => K1 p st := q51 P Cl QP K1 e st _ rfl
@[simp ↓] theorem z6y (k : Nat) (x i : MX) : k6z P Cl .late (.val (.indexAddr k x i)) e st K1 QP = q64 (.indexAddr k x i) (q6a e) [] fun p => K1 p st := q51 P Cl QP K1 e st _ rfl
@[simp ↓] theorem z8r (n k : Nat) (x i : MX) : k6z P Cl .late (.val (.indexArr n k x i)) e st K1 QP = q64 (.indexArr n k x i) (q6a e) [] fun p => K1 p st := q51 P Cl QP K1 e st _ rfl
@[simp ↓] theorem j5v (x : MX) : k6z P Cl .late (.val (.len x)) e st K1 QP = q64 (.len x) (q6a e) [] fun p => K1 p st := q51 P Cl QP K1 e st _ rfl
@[simp ↓] theorem j2q (k : Nat) (x : MX) (lo hi mx : Option MX) : k6z P Cl .late (.val (.slice k x lo hi mx)) e st K1 QP = q64 (.slice k x lo hi mx) (q6a e) [] fun p => K1 p st := q51 P Cl QP K1 e st _ rfl
@[simp ↓] theorem z9w (i : Nat) (x : MX) : k6z P Cl .late (.val (.extract i x)) e st K1 QP = q64 (.extract i x) (q6a e) [] fun p => K1 p st := q51 P Cl QP K1 e st _ rfl
@[simp ↓] theorem j1f (x : MX) : k6z P Cl .late (.val (.strlen x)) e st K1 QP = q64 (.strlen x) (q6a e) [] fun p => K1 p st := q51 P Cl QP K1 e st _ rfl
@[simp ↓] theorem z51 (T : TypeId) (len : Nat) (zs : List PV) (parts : List (Nat × Nat × MX)) : k6z P Cl .late (.val (.buildSlice T len zs parts)) e st K1 QP = q64 (.buildSlice T len zs parts) (q6a e) [] fun p => K1 p st := q51 P Cl QP K1 e st _ rfl
@[simp ↓] theorem j4s (k : Nat) (agg : Bool) (x : MX) : k6z P Cl .late (.val (.load k agg x)) e st K1 QP = k0s Cl k agg (q6a e x) fun p => K1 p st := by
 simp only [k6z, mdraw.one, z56, q9x, if_true, k0s, q7j]
 rfl
@[simp ↓] theorem j4t (g : FuncId) (fs cs : List PV) (args : List MX) : k6z P Cl .late (.call (.const (.func (.func g) fs cs)) args) e st K1 QP = j2m P Cl g (fs ++ args.map (q6a e) ++ cs) (fun p => K1 p st) QP := rfl
@[simp ↓] theorem y6s (l : List (DFlag × MInst)) (ks : List Nat) (s : PS) : xwp P (.draw false l ks) Q s = k4c P (fun _ => True) l s (fun s' => k0e (⟨k0j ks s'.env, s'.st⟩ : PS) fun s' => Q .normal s') (fun p st' => z8o Q p st') := rfl
def DrawLate (P : Program) (l : List (DFlag × MInst)) (K : PS → Prop) (QP : PV → q5d → Prop) (s : PS) (_ : Tok (l, K, QP) := ⟨⟩) : Prop := ∃ Cl : q5d → Prop, Cl s.st ∧ mdraw P Cl l s K QP
theorem DrawLate.intro {P : Program} {l : List (DFlag × MInst)} {K : PS → Prop} {QP : PV → q5d → Prop} {e : Env} {st : q5d} (M : List Nat) (h : k4c P (Cls st M) l ⟨e, st⟩ K QP) : DrawLate P l K QP ⟨e, st⟩ := ⟨_, Cls.self st M, h⟩
theorem DrawLate.by {P : Program} {l : List (DFlag × MInst)} {K : PS → Prop} {QP : PV → q5d → Prop} {e : Env} {st : q5d} (Cl : q5d → Prop) (h0 : Cl st) (h : k4c P Cl l ⟨e, st⟩ K QP) : DrawLate P l K QP ⟨e, st⟩ := ⟨Cl, h0, h⟩
@[simp ↓] theorem j75 (l : List (DFlag × MInst)) (ks : List Nat) (s : PS) : xwp P (.draw true l ks) Q s = DrawLate P l (fun s' => k0e (⟨k0j ks s'.env, s'.st⟩ : PS) fun s' => Q .normal s') (fun p st' => z8o Q p st') s := rfl
end
theorem Has.walk {P : Program} (q5m : P.follows .mixedOrders = true) {g : FuncId} {m : MFunc} (h : Has P g m) {nt np : Nat} {rs : List MRes} {c : MCode} (hm : m = ⟨nt, np, rs, c⟩) {ps : List PV} {st : q5d} {Q : PEnd → q5d → Prop} (hlen : ps.length = np)
  {R E : PV → q5d → Prop} (hR : ∀ p st, R p st → RetView .ret p st Q) (hE : ∀ p st, E p st → RetView .panic p st Q)
  (hw : xwp P c (fun e s => j2k rs R E e s) ⟨q61 0 ps, st⟩) : PCalls P g ps st Q := by
 subst hm
 exact h.calls q5m hlen hR hE hw
theorem Has.pure {P : Program} (q5m : P.follows .mixedOrders = true) {g : FuncId} {m : MFunc} (h : Has P g m) {nt np : Nat} {rs : List MRes} {c : MCode} (hm : m = ⟨nt, np, rs, c⟩) {ps : List PV} {st : q5d} {p : PV} (hlen : ps.length = np)
  (hw : xwp P c (fun e s => j2k rs (fun q st' => q = p ∧ Over st st') (fun _ _ => False) e s) ⟨q61 0 ps, st⟩) : Rets P g ps st p := by
 subst hm
 exact h.rets q5m hlen hw
@[simp] theorem j9n (st : q5d) (cs : List PV) (off : Nat) : k1o st (.iptr cs off) = some (cs, off) := rfl
@[simp] theorem y18 (st : q5d) (b off : Nat) : k1o st (.val (.pointer (some ⟨b, off, none⟩))) = (j1b (q5x st b)).map fun r => (r.2, off) := by
 simp only [k1o]
 cases q5x st b with
 | none => rfl
 | some o => cases o <;> rfl
@[simp] theorem y19 (zs : List PV) : k0k zs [] = some zs := rfl
@[simp] theorem j9o (zs : List PV) (off k : Nat) (p : PV) (rest : List (Nat × Nat × PV)) :
  k0k zs ((off, k, p) :: rest) = j5c p.cells fun ps => if ps.length = k ∧ off + k ≤ zs.length then k0k (q5i zs off ps) rest else none := by
 rw [k0k]
 cases p.cells <;> rfl
section
variable (k : IntKind) (n : Int) (c : Bool) (s : ByteArray) (a : Option Addr) (l m : Nat) (r : Option Nat)
@[simp] theorem y4n : (PV.val (.int k n)).cells = some [.val (.int k n)] := rfl
@[simp] theorem y2a : (PV.val (.bool c)).cells = some [.val (.bool c)] := rfl
@[simp] theorem y4o : (PV.val (.string s)).cells = some [.val (.string s)] := rfl
@[simp] theorem y4p : (PV.val (.pointer a)).cells = some [.val (.pointer a)] := rfl
@[simp] theorem j9p : (PV.val (.slice a l m)).cells = some [.val (.slice a l m)] := rfl
@[simp] theorem y4q : (PV.val (.map r)).cells = some [.val (.map r)] := rfl
@[simp] theorem j4u : (PV.val .nilIface).cells = some [.val .nilIface] := rfl
@[simp] theorem y4r (cs : List PV) : (PV.agg cs).cells = some cs := rfl
@[simp] theorem y2b (t : Bool) (cs : List PV) (n : Nat) : (PV.list t cs n).cells = some [.list t cs n] := rfl
@[simp] theorem y2c (cs : List PV) (n : Nat) : (PV.iptr cs n).cells = some [.iptr cs n] := rfl
@[simp] theorem y2d (ks : List Value) (vs : List PV) : (PV.imap ks vs).cells = some [.imap ks vs] := rfl
@[simp] theorem y2e (f : Fn) (fs cs : List PV) : (PV.func f fs cs).cells = some [.func f fs cs] := rfl
@[simp] theorem j9q (T : TypeId) (p : PV) : (PV.iface T p).cells = some [.iface T p] := rfl
end
attribute [simp] q9x j9b q61 q6a q6h k0i j8l k0j z2q k23 q5i q98
end Go.Pv

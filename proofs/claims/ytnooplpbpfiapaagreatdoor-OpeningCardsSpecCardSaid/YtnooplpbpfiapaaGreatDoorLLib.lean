/- All of the pure layer. -/
import Derived.Test.YtnooplpbpfiapaaGreatDoorLSf
import Derived.KernelRfl
namespace Go.Pv
def Has (P : Program) (g : FuncId) (m : MFunc) : Prop := ∃ fn, P.funcs[g]? = some fn ∧ (fn.name == "runtime.NumGoroutine") = false ∧ k8a P fn = some m
theorem Has.calls {P : Program} (q5n : P.follows .mixedOrders = true) {g : FuncId} {m : MFunc} (h : Has P g m) {ps : List PV} {st : q5d} {Q : PEnd → q5d → Prop} (hlen : ps.length = m.nparams)
  {R E : PV → q5d → Prop} (hR : ∀ p st, R p st → RetView .ret p st Q) (hE : ∀ p st, E p st → RetView .panic p st Q)
  (hw : mwp P m.body (k2b m.results R E) ⟨q6y 0 ps, st⟩) : PCalls P g ps st Q := by
 obtain ⟨fn, h1, h2, h3⟩ := h
 exact z2w q5n h1 h2 h3 hlen hR hE hw
theorem Sees.refl (p : PV) (st : q5d) : Sees p st p st := ⟨fun I _ _ h1 h2 => ⟨I, I.le_refl, h1, h2⟩⟩
theorem Sees.trans {p q r : PV} {s t u : q5d} (h : Sees p s q t) (k : Sees q t r u) : Sees p s r u := ⟨fun I w v h1 h2 => by
 obtain ⟨I', a, b, c⟩ := h.out I w v h1 h2
 obtain ⟨I'', a', b', c'⟩ := k.out I' w v b c
 exact ⟨I'', Imm.le_trans a a', b', c'⟩⟩
def StLe (st' st : q5d) : Prop := ∀ b o, q5w st' b = some o → q5w st b = some o
theorem StLe.refl (st : q5d) : StLe st st := fun _ _ h => h
theorem StLe.trans {a b c : q5d} (h : StLe a b) (k : StLe b c) : StLe a c := fun x o hx => k x o (h x o hx)
theorem StLe.cons {st : q5d} {b : Nat} {o : PObj} (h : q5w st b = none) : StLe st ((b, o) :: st) := by
 intro c x hc
 simp only [q5w]
 split
 ·rename_i e; subst e; rw [h] at hc; cases hc
 ·exact hc
theorem StLe.fresh {st : q5d} {b : Nat} {o : PObj} (h : q6u st b) : StLe st ((b, o) :: st) := .cons (k3v h)
theorem k5w {n : Nat} : ∀ {st : q5d}, (∀ b o, q5w st b = some o → b < n) → k2s st n
 | [], _ => trivial
 | (b, o) :: st, h => by
  refine ⟨h b o (by simp [q5w]), k5w fun c x hc => ?_⟩
  by_cases hbc : b = c
  ·subst hbc; exact h b o (by simp [q5w])
  ·exact h c x (by simp [q5w, hbc, hc])
theorem SRep.le {I : Imm} {st st' : q5d} {w : World} (h : SRep I st w) (hle : StLe st' st) : SRep I st' w :=
 ⟨h.imm, fun b o hb => h.objs b o (hle b o hb), k5w fun b o hb => h.obj_lt (hle b o hb)⟩
theorem Sees.drop {p : PV} {st st' : q5d} (h : StLe st' st) : Sees p st p st' := ⟨fun I _ _ h1 h2 => ⟨I, I.le_refl, h1.le h, h2⟩⟩
theorem RetView.same {c : PV → PEnd} {p : PV} {st : q5d} {Q : PEnd → q5d → Prop} (h : Q (c p) st) : RetView c p st Q := ⟨p, st, .refl _ _, h⟩
theorem RetView.drop {c : PV → PEnd} {p : PV} {st st' : q5d} {Q : PEnd → q5d → Prop} (hle : StLe st' st) (h : Q (c p) st') : RetView c p st Q := ⟨p, st', .drop hle, h⟩
theorem RetView.fresh1 {c : PV → PEnd} {p : PV} {st : q5d} {b : Nat} {o : PObj} {Q : PEnd → q5d → Prop} (hf : q6u st b) (h : RetView c p st Q) : RetView c p ((b, o) :: st) Q := by
 obtain ⟨p', st', h1, h2⟩ := h
 exact ⟨p', st', (Sees.drop (.fresh hf)).trans h1, h2⟩
theorem View.trans {s t u : PS} (h : View s t) (k : View t u) : View s u := fun I tm w h1 h2 => by
 obtain ⟨I', a, b, c⟩ := h I tm w h1 h2
 obtain ⟨I'', a', b', c'⟩ := k I' tm w b c
 exact ⟨I'', Imm.le_trans a a', b', c'⟩
theorem z8p {e : Env} : ∀ {l : Env} {t : Nat}, (∀ q ∈ l, q6g e q.1 = q.2) → q6g l t = .any ∨ q6g l t = q6g e t
 | [], _, _ => .inl rfl
 | (u, p) :: l, t, h => by
  simp only [q6g]
  by_cases hut : u = t
  ·subst hut
   simp only [if_true]
   exact .inr (h (u, p) (by simp)).symm
  ·simp only [hut, if_false]
   exact z8p fun q hq => h q (by simp [hq])
theorem View.weak {e e' : Env} {st st' : q5d} (he : ∀ q ∈ e', q6g e q.1 = q.2) (hle : StLe st' st) : View ⟨e, st⟩ ⟨e', st'⟩ := fun I tm w h1 h2 =>
 ⟨I, I.le_refl, fun t => by
  rcases z8p (t := t) he with h | h
  ·simp only [h, vrep]
  ·simp only [h]; exact h1 t, h2.le hle⟩
def Over (st0 : q5d) : q5d → Prop
 | [] => st0 = []
 | (b, o) :: st => st0 = (b, o) :: st ∨ q6u st b ∧ Over st0 st
theorem Over.le {st0 : q5d} : ∀ {st : q5d}, Over st0 st → StLe st0 st
 | [], h => by simp only [Over] at h; subst h; exact .refl _
 | (b, o) :: st, h => by
  simp only [Over] at h
  rcases h with rfl | ⟨h1, h2⟩
  ·exact .refl _
  ·exact h2.le.trans (.fresh h1)
@[simp] theorem Over.self (st : q5d) : Over st st := by
 cases st with
 | nil => rfl
 | cons q st => exact .inl rfl
@[simp] theorem Over.cons {st : q5d} (b : Nat) (o : PObj) (st0 : q5d) : Over st0 ((b, o) :: st) ↔ st0 = (b, o) :: st ∨ q6u st b ∧ Over st0 st := .rfl
def Rets (P : Program) (g : FuncId) (ps : List PV) (st : q5d) (p : PV) : Prop := PCalls P g ps st fun e s => e = .ret p ∧ s = st
theorem Has.rets {P : Program} (q5n : P.follows .mixedOrders = true) {g : FuncId} {m : MFunc} (h : Has P g m) {ps : List PV} {st : q5d} {p : PV} (hlen : ps.length = m.nparams)
  (hw : mwp P m.body (k2b m.results (fun q st' => q = p ∧ Over st st') (fun _ _ => False)) ⟨q6y 0 ps, st⟩) : Rets P g ps st p :=
 h.calls q5n hlen (fun _ _ ⟨h1, h2⟩ => .drop h2.le ⟨by rw [h1], rfl⟩) (fun _ _ h => h.elim) hw
theorem Rets.calls {P : Program} {g : FuncId} {ps : List PV} {st : q5d} {p : PV} (h : Rets P g ps st p) {Q : PEnd → q5d → Prop} (hq : Q (.ret p) st) : PCalls P g ps st Q :=
 PCalls.mono h fun e s ⟨h1, h2⟩ => by subst h1; subst h2; exact hq
@[congr] theorem j7e {P : Program} {g : FuncId} {ps ps' : List PV} {st st' : q5d} {Q : PEnd → q5d → Prop} (h1 : ps = ps') (h2 : st = st') : PCalls P g ps st Q = PCalls P g ps' st' Q := by
 subst h1; subst h2; rfl
@[congr] theorem j5c {V : PS → PS → Prop} {body : q7l → PS → Prop} {Q : q7l} {s s' : PS} (h : s = s') : z2h V body Q s = z2h V body Q s' := by subst h; rfl
@[congr] theorem j5d {c : PV → PEnd} {p p' : PV} {st st' : q5d} {Q : PEnd → q5d → Prop} (h : p = p') (h2 : st = st') : RetView c p st Q = RetView c p' st' Q := by subst h; subst h2; rfl
universe u
structure Tok {α : Sort u} (a : α) : Type where
def q5p {α : Type} (o : Option α) (K : α → Prop) (_ : Tok K := ⟨⟩) : Prop := ∃ a, o = some a ∧ K a
@[simp ↓, simp] theorem q5r {α : Type} (a : α) (K : α → Prop) : q5p (some a) K = K a := by simp [q5p]
@[simp] theorem q9k {α : Type} (K : α → Prop) : q5p none K = False := by simp [q5p]
def PV.bool? : PV → Option Bool
 | .val (.bool c) => some c
 | _ => none
@[simp] theorem z92 (c : Bool) : PV.bool? (.val (.bool c)) = some c := rfl
def PV.int? : PV → Option (IntKind × Int)
 | .val (.int k n) => some (k, n)
 | _ => none
@[simp] theorem z8q (k : IntKind) (n : Int) : PV.int? (.val (.int k n)) = some (k, n) := rfl
def PV.str? : PV → Option ByteArray
 | .val (.string s) => some s
 | _ => none
@[simp] theorem y5j (s : ByteArray) : PV.str? (.val (.string s)) = some s := rfl
def PV.agg? : PV → Option (List PV)
 | .agg cs => some cs
 | _ => none
@[simp] theorem y5k (cs : List PV) : PV.agg? (.agg cs) = some cs := rfl
def PV.tuple? : PV → Option (List PV)
 | .tuple cs => some cs
 | _ => none
@[simp] theorem j7f (cs : List PV) : PV.tuple? (.tuple cs) = some cs := rfl
def PV.func? : PV → Option (FuncId × List PV × List PV)
 | .func (.func g) fs cs => some (g, fs, cs)
 | _ => none
@[simp] theorem z93 (g : FuncId) (fs cs : List PV) : PV.func? (.func (.func g) fs cs) = some (g, fs, cs) := rfl
def PV.iface? : PV → Option (TypeId × PV)
 | .iface T p => some (T, p)
 | _ => none
@[simp] theorem j7g (T : TypeId) (p : PV) : PV.iface? (.iface T p) = some (T, p) := rfl
def PV.ptr? : PV → Option (Nat × Nat)
 | .val (.pointer (some ⟨b, off, none⟩)) => some (b, off)
 | _ => none
@[simp] theorem j5e (b off : Nat) : PV.ptr? (.val (.pointer (some ⟨b, off, none⟩))) = some (b, off) := rfl
def j1g : Option PObj → Option (TypeId × List PV)
 | some (.arr T cs) => some (T, cs)
 | _ => none
@[simp] theorem j5f (T : TypeId) (cs : List PV) : j1g (some (.arr T cs)) = some (T, cs) := rfl
def onB (c : Bool) (A B : Prop) (_ : Tok (A, B) := ⟨⟩) : Prop := (c = true → A) ∧ (c = false → B)
@[simp ↓, simp] theorem y5l (A B : Prop) : onB true A B = A := by simp [onB]
@[simp ↓, simp] theorem y2t (A B : Prop) : onB false A B = B := by simp [onB]
@[simp] theorem y05 (p : Prop) [Decidable p] (A B : Prop) : onB (decide p) A B = ((p → A) ∧ (¬ p → B)) := by simp [onB]
@[simp] theorem y66 (c : Bool) (A B : Prop) : onB (!c) A B = onB c B A := by cases c <;> simp
@[simp low] theorem onB_eq (c : Bool) (A B : Prop) : onB c A B = ((c = true → A) ∧ (c = false → B)) := rfl
theorem k5x (p : PV) : k7c p = p.int?.map (·.2) := by
 cases p <;> try rfl
 rename_i v; cases v <;> rfl
def q69 (op : MVal) (ρ : MX → PV) (st : q5d) (K : PV → Prop) (_ : Tok K := ⟨⟩) : Prop := q7k op ρ st K
def k4a (op : BinOp) (p q : PV) (K : PV → Prop) (_ : Tok K := ⟨⟩) : Prop := z0c op p q K
def k0w (cs : List PV) (off k : Nat) (agg : Bool) (K : PV → Prop) (_ : Tok K := ⟨⟩) : Prop :=
 if agg then ∃ ps, sub cs off k = some ps ∧ K (.agg ps) else ∃ p, cs[off]? = some p ∧ K p
@[simp] theorem j80 (cs : List PV) (off k : Nat) (K : PV → Prop) : k0w cs off k true K = q5p (sub cs off k) fun ps => K (.agg ps) := by simp [k0w, q5p]
@[simp] theorem j7h (cs : List PV) (off k : Nat) (K : PV → Prop) : k0w cs off k false K = q5p (cs[off]?) K := by simp [k0w, q5p]
theorem j7i (cs : List PV) (off k : Nat) : sub cs off k = if off + k ≤ cs.length then some ((cs.drop off).take k) else none := rfl
@[simp] theorem y67 (c : PV) (cs : List PV) (off k : Nat) : sub (c :: cs) off k = if off + k ≤ (c :: cs).length then some (((c :: cs).drop off).take k) else none := rfl
section
variable (ρ : MX → PV) (st : q5d) (K : PV → Prop)
@[simp ↓] theorem y68 (x : MX) : q69 (.mv x) ρ st K = K (ρ x) := rfl
@[simp ↓] theorem y2u (c a b : MX) : q69 (.pick c a b) ρ st K = q5p (ρ c).bool? fun t => onB t (K (ρ a)) (K (ρ b)) := by
 simp only [q69, q7k]; split <;> simp_all [PV.bool?]
@[simp ↓] theorem y06 (zs : List PV) (parts : List (Nat × Nat × MX)) : q69 (.build zs parts) ρ st K = q5p (k0q zs (parts.map fun q => (q.1, q.2.1, ρ q.2.2))) fun cs => K (.agg cs) := by
 simp only [q69, q7k]; split <;> simp_all
@[simp ↓] theorem j16 (T : TypeId) (len : Nat) (zs : List PV) (parts : List (Nat × Nat × MX)) : q69 (.buildSlice T len zs parts) ρ st K = q5p (k0q zs (parts.map fun q => (q.1, q.2.1, ρ q.2.2))) fun cs => K (.list true cs len) := by
 simp only [q69, q7k]; split <;> simp_all
@[simp ↓] theorem j17 (k : Nat) (agg : Bool) (x : MX) : q69 (.load k agg x) ρ st K = q5p (k1t st (ρ x)) fun r => k0w r.1 r.2 k agg K := by
 simp only [q69, q7k]; split <;> simp_all [k0w]
def j18 (p : PV) (K : PV → Prop) (_ : Tok K := ⟨⟩) : Prop :=
 match p with
 | .iptr cs off => K (.iptr cs off)
 | .val (.pointer (some a)) => K (.val (.pointer (some a)))
 | .func (.func f) fs cs => K (.func (.func f) fs cs)
 | .func (.yield l) fs cs => K (.func (.yield l) fs cs)
 | _ => False
@[simp] theorem y07 (cs : List PV) (off : Nat) : j18 (.iptr cs off) K = K (.iptr cs off) := rfl
@[simp] theorem y2v (a : Addr) : j18 (.val (.pointer (some a))) K = K (.val (.pointer (some a))) := rfl
@[simp] theorem j81 (l : Nat) (fs cs : List PV) : j18 (.func (.yield l) fs cs) K = K (.func (.yield l) fs cs) := rfl
@[simp] theorem y08 (f : FuncId) (fs cs : List PV) : j18 (.func (.func f) fs cs) K = K (.func (.func f) fs cs) := rfl
@[simp ↓] theorem j5g (x : MX) : q69 (.nilCheck x) ρ st K = j18 (ρ x) K := rfl
@[simp ↓] theorem y5m (op : BinOp) (T : TypeId) (x y : MX) : q69 (.bin op T x y) ρ st K = k4a op (ρ x) (ρ y) K := rfl
section
variable (k k' : IntKind) (a b : Int) (s t : ByteArray)
@[simp] theorem j82 : k4a .add (.val (.int k a)) (.val (.int k' b)) K = (k = k' ∧ K (.val (.int k (k.wrap (a + b))))) := rfl
@[simp] theorem y69 : k4a .sub (.val (.int k a)) (.val (.int k' b)) K = (k = k' ∧ K (.val (.int k (k.wrap (a - b))))) := rfl
@[simp] theorem y7a : k4a .mul (.val (.int k a)) (.val (.int k' b)) K = (k = k' ∧ K (.val (.int k (k.wrap (a * b))))) := rfl
@[simp] theorem y7b : k4a .quo (.val (.int k a)) (.val (.int k' b)) K = (k = k' ∧ b ≠ 0 ∧ K (.val (.int k (k.wrap (a.tdiv b))))) := rfl
@[simp] theorem y7c : k4a .rem (.val (.int k a)) (.val (.int k' b)) K = (k = k' ∧ b ≠ 0 ∧ K (.val (.int k (a.tmod b)))) := rfl
@[simp] theorem j83 : k4a .shl (.val (.int k a)) (.val (.int k' b)) K = (0 ≤ b ∧ K (.val (.int k (k.wrap (a * 2 ^ min b.toNat k.bits))))) := rfl
@[simp] theorem j84 : k4a .shr (.val (.int k a)) (.val (.int k' b)) K = (0 ≤ b ∧ K (.val (.int k (a.fdiv (2 ^ min b.toNat k.bits))))) := rfl
@[simp] theorem j19 : k4a .and (.val (.int k a)) (.val (.int k' b)) K = (k = k' ∧ K (.val (.int k (k.wrap (BitVec.ofInt k.bits a &&& BitVec.ofInt k.bits b).toNat)))) := rfl
@[simp] theorem y2w : k4a .or (.val (.int k a)) (.val (.int k' b)) K = (k = k' ∧ K (.val (.int k (k.wrap (BitVec.ofInt k.bits a ||| BitVec.ofInt k.bits b).toNat)))) := rfl
@[simp] theorem j85 : k4a .xor (.val (.int k a)) (.val (.int k' b)) K = (k = k' ∧ K (.val (.int k (k.wrap (BitVec.ofInt k.bits a ^^^ BitVec.ofInt k.bits b).toNat)))) := rfl
@[simp] theorem y09 : k4a .andNot (.val (.int k a)) (.val (.int k' b)) K = (k = k' ∧ K (.val (.int k (k.wrap (BitVec.ofInt k.bits a &&& ~~~ BitVec.ofInt k.bits b).toNat)))) := rfl
@[simp] theorem y7d : k4a .eql (.val (.int k a)) (.val (.int k' b)) K = (k = k' ∧ K (.val (.bool (decide (a = b))))) := by
 have : (a == b) = decide (a = b) := rfl
 simp only [k4a, z0c, k5d, z2c, this]
@[simp] theorem y7e : k4a .neq (.val (.int k a)) (.val (.int k' b)) K = (k = k' ∧ K (.val (.bool (decide (a ≠ b))))) := by
 have : (a != b) = decide (a ≠ b) := by by_cases h : a = b <;> simp [h]
 simp only [k4a, z0c, k5d, z2c, this]
@[simp] theorem y7f : k4a .lss (.val (.int k a)) (.val (.int k' b)) K = (k = k' ∧ K (.val (.bool (decide (a < b))))) := rfl
@[simp] theorem y7g : k4a .leq (.val (.int k a)) (.val (.int k' b)) K = (k = k' ∧ K (.val (.bool (decide (a ≤ b))))) := rfl
@[simp] theorem y7h : k4a .gtr (.val (.int k a)) (.val (.int k' b)) K = (k = k' ∧ K (.val (.bool (decide (b < a))))) := rfl
@[simp] theorem y7i : k4a .geq (.val (.int k a)) (.val (.int k' b)) K = (k = k' ∧ K (.val (.bool (decide (b ≤ a))))) := rfl
@[simp] theorem y7j : k4a .add (.val (.string s)) (.val (.string t)) K = (s.size + t.size < 2 ^ 62 ∧ K (.val (.string (s ++ t)))) := rfl
theorem z94 : (s.toList == t.toList) = decide (s = t) := by
 by_cases h : s = t
 ·simp [h]
 ·have : s.toList ≠ t.toList := by
   intro e
   rw [ByteArray.toList_eq, ByteArray.toList_eq] at e
   exact h (ByteArray.ext (Array.ext' e))
  simp [h, this]
@[simp] theorem y5n : k4a .eql (.val (.string s)) (.val (.string t)) K = K (.val (.bool (decide (s = t)))) := by
 simp only [k4a, z0c, z50, z94]
@[simp] theorem y5o : k4a .lss (.val (.string s)) (.val (.string t)) K = K (.val (.bool (Op.bytesLess s.toList t.toList))) := rfl
end
@[simp ↓] theorem y1a (neg : Bool) (ks : List LK) (x y : MX) : q69 (.eqAgg neg ks x y) ρ st K = q5p (ρ x).agg? fun cs => q5p (ρ y).agg? fun ds => q5p (q6c ks cs ds) fun b => K (.bool (if neg then !b else b)) := by
 simp only [q69, q7k]; split <;> simp_all [q5p, PV.agg?]
 rename_i h
 intro x h1 y h2
 split at h1 <;> split at h2 <;> simp_all
@[simp] theorem y1b (k k' : IntKind) (a b : Int) : q9y .int (.val (.int k a)) (.val (.int k' b)) = if k = k' then some (decide (a = b)) else none := rfl
@[simp] theorem j86 (a b : Bool) : q9y .bool (.val (.bool a)) (.val (.bool b)) = some (a == b) := rfl
@[simp] theorem j87 : q6c [] [] [] = some true := rfl
def y7k : Option Bool → Option Bool → Option Bool
 | some a, some b => some (a && b)
 | _, _ => none
@[simp] theorem y2x (a b : Bool) : y7k (some a) (some b) = some (a && b) := rfl
@[simp] theorem j7j (k : LK) (ks : List LK) (p q : PV) (ps qs : List PV) : q6c (k :: ks) (p :: ps) (q :: qs) = y7k (q9y k p q) (q6c ks ps qs) := by
 simp only [q6c]
 cases q9y k p q <;> cases q6c ks ps qs <;> rfl
@[simp ↓] theorem y5p (x : MX) : q69 (.un .neg x) ρ st K = q5p (ρ x).int? fun q => K (.val (.int q.1 (q.1.wrap (0 - q.2)))) := by
 simp only [q69, q7k]; cases h : ρ x <;> simp [PV.int?]
 rename_i v; cases v <;> simp
def j88 (p : PV) (K : PV → Prop) (_ : Tok K := ⟨⟩) : Prop :=
 match p with
 | .val (.int k n) => K (.val (.int k (k.wrap (BitVec.ofInt k.bits (if k.signed then -1 else k.max) ^^^ BitVec.ofInt k.bits n).toNat)))
 | _ => False
@[simp ↓] theorem y1c (x : MX) : q69 (.un .xor x) ρ st K = j88 (ρ x) K := by
 simp only [q69, q7k, j88]
 split <;> simp_all
@[simp ↓] theorem y5q (x : MX) : q69 (.un .not x) ρ st K = q5p (ρ x).bool? fun b => K (.val (.bool !b)) := by
 simp only [q69, q7k]; cases h : ρ x <;> simp [PV.bool?]
 rename_i v; cases v <;> simp
@[simp ↓] theorem y1d (k : IntKind) (x : MX) : q69 (.toInt k x) ρ st K = q5p (ρ x).int? fun q => K (.val (.int k (k.wrap q.2))) := by
 simp only [q69, q7k]; cases h : ρ x <;> simp [PV.int?]
 rename_i v; cases v <;> simp
@[simp ↓] theorem j7k (T : TypeId) (x : MX) : q69 (.mkIface T x) ρ st K = K (.iface T (ρ x)) := rfl
@[simp ↓] theorem j89 (fn : Fn) (fs cs : List MX) : q69 (.mkFunc fn fs cs) ρ st K = K (.func fn (fs.map ρ) (cs.map ρ)) := rfl
def k4x (off : Nat) (p : PV) (K : PV → Prop) (_ : Tok K := ⟨⟩) : Prop :=
 match p with
 | .iptr cs k => K (.iptr cs (k + off))
 | .val (.pointer (some ⟨b, k, none⟩)) => K (.ptr b (k + off))
 | _ => False
@[simp] theorem j1h (off : Nat) (cs : List PV) (k : Nat) : k4x off (.iptr cs k) K = K (.iptr cs (k + off)) := rfl
@[simp] theorem j2a (off b k : Nat) : k4x off (.val (.pointer (some ⟨b, k, none⟩))) K = K (.ptr b (k + off)) := rfl
@[simp ↓] theorem j4q (off : Nat) (x : MX) : q69 (.fieldAddr off x) ρ st K = k4x off (ρ x) K := rfl
def q79 (k : Nat) (p : PV) (j : Int) (K : PV → Prop) (_ : Tok K := ⟨⟩) : Prop :=
 match p with
 | .list _ cs n => 0 ≤ j ∧ j < n ∧ j.toNat * k < cs.length ∧ K (.iptr cs (j.toNat * k))
 | .val (.slice (some ⟨b, off, none⟩) n _) => 0 ≤ j ∧ j < n ∧ K (.ptr b (off + j.toNat * k))
 | _ => False
@[simp] theorem j1i (k : Nat) (t : Bool) (cs : List PV) (n : Nat) (j : Int) : q79 k (.list t cs n) j K = (0 ≤ j ∧ j < n ∧ j.toNat * k < cs.length ∧ K (.iptr cs (j.toNat * k))) := rfl
@[simp] theorem j2b (k b off n c : Nat) (j : Int) : q79 k (.val (.slice (some ⟨b, off, none⟩) n c)) j K = (0 ≤ j ∧ j < n ∧ K (.ptr b (off + j.toNat * k))) := rfl
@[simp] theorem j2c (k : Nat) (j : Int) : q79 k (.val (.slice none 0 0)) j K = False := rfl
@[simp ↓] theorem j4r (k : Nat) (x i : MX) : q69 (.indexAddr k x i) ρ st K = q5p (ρ i).int? fun q => q79 k (ρ x) q.2 K := by
 simp only [q69, q7k]
 rw [k5x]
 cases h : (ρ i).int? with
 | none => simp
 | some q =>
  simp only [Option.map_some, q5r]
  cases hx : ρ x with
  | val v =>
   cases v with
   | slice a n c =>
    cases a with
    | none =>
     cases n <;> cases c <;> simp [PV.asList, q79]
    | some a => obtain ⟨b, off, t⟩ := a; cases t <;> simp [PV.asList, q79]
   | _ => simp [PV.asList, q79]
  | _ => simp [PV.asList, q79]
def k6s (n k : Nat) (p : PV) (j : Int) (K : PV → Prop) (_ : Tok K := ⟨⟩) : Prop :=
 match p with
 | .iptr cs off => 0 ≤ j ∧ j < n ∧ K (.iptr cs (off + j.toNat * k))
 | .val (.pointer (some ⟨b, off, none⟩)) => 0 ≤ j ∧ j < n ∧ K (.ptr b (off + j.toNat * k))
 | _ => False
@[simp] theorem j2d (n k : Nat) (cs : List PV) (off : Nat) (j : Int) : k6s n k (.iptr cs off) j K = (0 ≤ j ∧ j < n ∧ K (.iptr cs (off + j.toNat * k))) := rfl
@[simp] theorem j4s (n k b off : Nat) (j : Int) : k6s n k (.val (.pointer (some ⟨b, off, none⟩))) j K = (0 ≤ j ∧ j < n ∧ K (.ptr b (off + j.toNat * k))) := rfl
@[simp ↓] theorem j5h (n k : Nat) (x i : MX) : q69 (.indexArr n k x i) ρ st K = q5p (ρ i).int? fun q => k6s n k (ρ x) q.2 K := by
 simp only [q69, q7k]
 rw [k5x]
 cases h : (ρ i).int? with
 | none => simp
 | some q => simp only [Option.map_some, q5r]; rfl
@[simp ↓] theorem y1e (n k : Nat) (agg : Bool) (x i : MX) : q69 (.index n k agg x i) ρ st K = q5p (ρ i).int? fun q => q5p (ρ x).agg? fun cs => 0 ≤ q.2 ∧ q.2 < n ∧ k0w cs (q.2.toNat * k) k agg K := by
 simp only [q69, q7k]
 rw [k5x]
 cases h : (ρ i).int? with
 | none => simp
 | some q => cases hx : ρ x <;> simp [PV.agg?, k0w]
def PV.len? : PV → Option Nat
 | .list _ _ n => some n
 | .val (.slice _ n _) => some n
 | _ => none
@[simp] theorem y2y (t : Bool) (cs : List PV) (n : Nat) : PV.len? (.list t cs n) = some n := rfl
@[simp] theorem y5r (a : Option Addr) (n c : Nat) : PV.len? (.val (.slice a n c)) = some n := rfl
@[simp ↓] theorem y5s (x : MX) : q69 (.len x) ρ st K = q5p (ρ x).len? fun n => K (.int n) := by
 simp only [q69, q7k]
 cases hx : ρ x with
 | val v =>
  cases v with
  | slice a n c =>
   cases a with
   | none => cases n <;> cases c <;> simp [PV.asList]
   | some a => simp [PV.asList]
  | _ => simp [PV.asList, PV.len?]
 | _ => simp [PV.asList, PV.len?]
@[simp ↓] theorem j9a (x : MX) : q69 (.strlen x) ρ st K = q5p (ρ x).str? fun s => K (.int s.size) := by
 simp only [q69, q7k]
 cases hx : ρ x with
 | val v => cases v <;> simp [PV.str?]
 | _ => simp [PV.str?]
def PV.cap? : PV → Option Nat
 | .list true _ n => some n
 | .val (.slice _ _ c) => some c
 | _ => none
@[simp] theorem y2z (cs : List PV) (n : Nat) : PV.cap? (.list true cs n) = some n := rfl
@[simp] theorem y5t (a : Option Addr) (n c : Nat) : PV.cap? (.val (.slice a n c)) = some c := rfl
@[simp ↓] theorem y5u (x : MX) : q69 (.cap x) ρ st K = q5p (ρ x).cap? fun n => K (.int n) := by
 simp only [q69, q7k]
 cases hx : ρ x with
 | val v => cases v <;> simp [PV.cap?]
 | list t cs n => cases t <;> simp [PV.cap?]
 | _ => simp [PV.cap?]
@[simp ↓] theorem j7l (i : Nat) (x : MX) : q69 (.extract i x) ρ st K = q5p (ρ x).tuple? fun ps => q5p (ps[i]?) K := by
 simp only [q69, q7k]
 cases hx : ρ x <;> simp [PV.tuple?, q5p]
def z8r (isMax : Bool) (ps : List PV) (K : PV → Prop) (_ : Tok K := ⟨⟩) : Prop :=
 match ps with
 | [.val (.int k a), .val (.int _ b)] => K (.val (.int k (if isMax then (if b > a then b else a) else (if b < a then b else a))))
 | _ => False
@[simp] theorem j7m (m : Bool) (k k' : IntKind) (a b : Int) : z8r m [.val (.int k a), .val (.int k' b)] K = K (.val (.int k (if m then (if b > a then b else a) else (if b < a then b else a)))) := rfl
@[simp ↓] theorem j9b (m : Bool) (xs : List MX) : q69 (.minmax m xs) ρ st K = z8r m (xs.map ρ) K := rfl
def z21 (T : TypeId) (z : PV) (ok : Bool) (p : PV) (K : PV → Prop) (_ : Tok K := ⟨⟩) : Prop :=
 match p with
 | .iface U p => if U = T then (if ok then K (.tuple [p, .bool true]) else K p) else (ok = true ∧ K (.tuple [z, .bool false]))
 | .val .nilIface => ok = true ∧ K (.tuple [z, .bool false])
 | _ => False
@[simp] theorem j4t (T U : TypeId) (z : PV) (ok : Bool) (p : PV) : z21 T z ok (.iface U p) K = if U = T then (if ok then K (.tuple [p, .bool true]) else K p) else (ok = true ∧ K (.tuple [z, .bool false])) := rfl
@[simp] theorem j7n (T : TypeId) (z : PV) (ok : Bool) : z21 T z ok (.val .nilIface) K = (ok = true ∧ K (.tuple [z, .bool false])) := rfl
@[simp ↓] theorem j9c (T : TypeId) (z : PV) (ok : Bool) (x : MX) : q69 (.assert T z ok x) ρ st K = z21 T z ok (ρ x) K := rfl
@[simp] theorem y5v (ρ : MX → PV) : bnd ρ none = some none := rfl
@[simp] theorem y5w (ρ : MX → PV) (x : MX) : bnd ρ (some x) = (ρ x).int?.map fun q => some q.2 := by
 simp only [bnd, k5x]
 cases (ρ x).int? <;> rfl
def k6t (s : ByteArray) (lo hi : Option Int) (K : PV → Prop) (_ : Tok K := ⟨⟩) : Prop := q9d s lo hi K
@[simp] theorem j5i (s : ByteArray) (l : Int) : k6t s (some l) none K = (0 ≤ l ∧ l ≤ s.size ∧ K (.str (s.extract l.toNat s.size))) := rfl
@[simp] theorem j5j (s : ByteArray) (h : Int) : k6t s none (some h) K = (0 ≤ h ∧ h ≤ s.size ∧ K (.str (s.extract 0 h.toNat))) := rfl
@[simp] theorem j2e (s : ByteArray) (l h : Int) : k6t s (some l) (some h) K = (0 ≤ l ∧ l ≤ h ∧ h ≤ s.size ∧ K (.str (s.extract l.toNat h.toNat))) := rfl
@[simp] theorem z1m (b off n cap : Nat) (lo hi mx : Option Int) : j1l (.val (.slice (some ⟨b, off, none⟩) n cap)) lo hi mx = false := rfl
def k0x (k : Nat) (p : PV) (lo hi mx : Option Int) (K : PV → Prop) (_ : Tok K := ⟨⟩) : Prop := k2a k p lo hi mx K
section
variable (k n b off cap : Nat) (t : Bool) (cs : List PV) (l h m : Int)
@[simp] theorem y20 : k0x k (.list t cs n) none none none K = K (.list t cs n) := rfl
@[simp] theorem y21 : k0x k (.list t cs n) (some l) none none K = (0 ≤ l ∧ l ≤ n ∧ cs.length ≤ n * k ∧ K (.list t (cs.drop (l.toNat * k)) (n - l.toNat))) := rfl
@[simp] theorem y22 : k0x k (.list t cs n) none (some h) none K = (0 ≤ h ∧ h ≤ n ∧ K (.list false (cs.take (h.toNat * k)) h.toNat)) := rfl
@[simp] theorem y23 : k0x k (.list t cs n) (some l) (some h) none K = (0 ≤ l ∧ l ≤ h ∧ h ≤ n ∧ K (.list false ((cs.take (h.toNat * k)).drop (l.toNat * k)) (h.toNat - l.toNat))) := rfl
@[simp] theorem y24 : k0x k (.list t cs n) none (some h) (some m) K = (0 ≤ h ∧ h ≤ m ∧ m ≤ n ∧ K (.list (decide (h = m)) (cs.take (h.toNat * k)) h.toNat)) := rfl
@[simp] theorem y25 : k0x k (.list t cs n) (some l) (some h) (some m) K = (0 ≤ l ∧ l ≤ h ∧ h ≤ m ∧ m ≤ n ∧ K (.list (decide (h = m)) ((cs.take (h.toNat * k)).drop (l.toNat * k)) (h.toNat - l.toNat))) := rfl
@[simp] theorem y26 : k0x k (.val (.slice none 0 0)) none none none K = K .nil := rfl
@[simp] theorem y27 : k0x k (.val (.slice none 0 0)) (some l) none none K = (0 ≤ l ∧ l ≤ ((0 : Nat) : Int) ∧ ([] : List PV).length ≤ 0 * k ∧ K (.list true (([] : List PV).drop (l.toNat * k)) (0 - l.toNat))) := rfl
@[simp] theorem y28 : k0x k (.val (.slice none 0 0)) none (some h) none K = (h = 0 ∧ K .nil) := rfl
@[simp] theorem y29 : k0x k (.val (.slice none 0 0)) none (some h) (some m) K = (0 ≤ h ∧ h ≤ m ∧ m ≤ ((0 : Nat) : Int) ∧ K (.list (decide (h = m)) (([] : List PV).take (h.toNat * k)) h.toNat)) := rfl
@[simp] theorem y3a : k0x k (.val (.slice (some ⟨b, off, none⟩) n cap)) (some l) none none K = (n ≤ cap ∧ 0 ≤ l ∧ l ≤ n ∧ (l = cap → K (.list true [] 0)) ∧ (l < cap → K (.own b (off + l.toNat * k) (n - l.toNat) (cap - l.toNat)))) := by
 simp only [k0x, k2a, z1m, Bool.false_eq_true, if_false, PV.asList, q8t]
 simp
@[simp] theorem y3b : k0x k (.val (.slice (some ⟨b, off, none⟩) n cap)) none (some h) none K = (0 ≤ h ∧ h ≤ cap ∧ K (.own b off h.toNat cap)) := by
 simp only [k0x, k2a, z1m, Bool.false_eq_true, if_false, PV.asList, q8t]
 simp
end
@[simp ↓] theorem y1f (k : Nat) (x : MX) (lo hi mx : Option MX) : q69 (.slice k x lo hi mx) ρ st K = q5p (bnd ρ lo) fun l => q5p (bnd ρ hi) fun h => q5p (bnd ρ mx) fun m => k0x k (ρ x) l h m K := by
 simp only [q69, q7k]
 split
 ·rename_i h1 h2 h3
  simp only [h1, h2, h3, q5r]
  rfl
 ·rename_i hn
  simp only [q5p, eq_iff_iff, false_iff]
  rintro ⟨l, h1, h, h2, m, h3, -⟩
  exact hn l h m h1 h2 h3
def q89 (n k : Nat) (p : PV) (lo hi mx : Option Int) (K : PV → Prop) (_ : Tok K := ⟨⟩) : Prop := q7p n k p lo hi mx K
section
variable (k n b off : Nat) (cs : List PV) (l h m : Int)
@[simp] theorem j7o : q89 n k (.val (.pointer (some ⟨b, off, none⟩))) none none none K = K (.own b off n n) := by
 simp only [q89, q7p, q8t]
 simp
@[simp] theorem j7p : q89 n k (.val (.pointer (some ⟨b, off, none⟩))) (some l) none none K = (0 ≤ l ∧ l ≤ n ∧ (l = n → K (.list true [] 0)) ∧ (l < n → K (.own b (off + l.toNat * k) (n - l.toNat) (n - l.toNat)))) := by
 simp only [q89, q7p, q8t]
 simp
@[simp] theorem j7q : q89 n k (.val (.pointer (some ⟨b, off, none⟩))) none (some h) none K = (0 ≤ h ∧ h ≤ n ∧ K (.own b off h.toNat n)) := by
 simp only [q89, q7p, q8t]
 simp
end
@[simp ↓] theorem j5k (n k : Nat) (x : MX) (lo hi mx : Option MX) : q69 (.sliceArr n k x lo hi mx) ρ st K = q5p (bnd ρ lo) fun l => q5p (bnd ρ hi) fun h => q5p (bnd ρ mx) fun m => q89 n k (ρ x) l h m K := by
 simp only [q69, q7k]
 split
 ·rename_i h1 h2 h3
  simp only [h1, h2, h3, q5r]
  rfl
 ·rename_i hn
  simp only [q5p, eq_iff_iff, false_iff]
  rintro ⟨l, h1, h, h2, m, h3, -⟩
  exact hn l h m h1 h2 h3
@[simp ↓] theorem y1g (x : MX) : q69 (.strOf x) ρ st K = q5p (q68 1 st (ρ x)) fun r => q5p (k0e r.1) fun bs => K (.str ⟨bs.toArray⟩) := by
 simp only [q69, q7k]
 split
 ·rename_i cs n h
  simp only [h, q5r]
  split
  ·rename_i bs hb; simp only [hb, q5r]
  ·rename_i hb; simp only [hb, q9k]
 ·rename_i h; simp only [h, q9k]
def j2f (r : Option (Option Nat)) (vs : List PV) (z : PV) (ok : Bool) (K : PV → Prop) (_ : Tok K := ⟨⟩) : Prop :=
 match r with
 | some (some j) => ∃ p, vs[j]? = some p ∧ K (if ok then .tuple [p, .bool true] else p)
 | some none => K (if ok then .tuple [z, .bool false] else z)
 | none => False
@[simp] theorem y7l (j : Nat) (vs : List PV) (z : PV) : j2f (some (some j)) vs z true K = q5p (vs[j]?) fun p => K (.tuple [p, .bool true]) := rfl
@[simp] theorem y7m (j : Nat) (vs : List PV) (z : PV) : j2f (some (some j)) vs z false K = q5p (vs[j]?) fun p => K p := rfl
@[simp] theorem y5x (vs : List PV) (z : PV) : j2f (some none) vs z true K = K (.tuple [z, .bool false]) := rfl
@[simp] theorem y5y (vs : List PV) (z : PV) : j2f (some none) vs z false K = K z := rfl
@[simp ↓] theorem j9d (kp : KP) (z : PV) (ok : Bool) (x i : MX) : q69 (.lookup kp z ok x i) ρ st K = q5p (z2d st (ρ x)) fun m => q5p (ρ i).key? fun kv => q8u kp kv = true ∧ j2f (k2z kp kv m.1) m.2 z ok K := by
 simp only [q69, q7k]
 split
 ·rename_i h1 h2
  simp only [h1, h2, q5r]
  rfl
 ·rename_i hn
  simp only [q5p, eq_iff_iff, false_iff]
  rintro ⟨⟨ks, vs⟩, h1, kv, h2, -⟩
  exact hn ks vs kv h1 h2
end
inductive Gd where
 | b (c : Bool)
 | skip
def PV.gd? : PV → Option Gd
 | .val (.bool c) => some (.b c)
 | .val (.tuple _) => some .skip
 | _ => none
@[simp] theorem k8c (c : Bool) : PV.gd? (.val (.bool c)) = some (.b c) := rfl
@[simp] theorem y3c : PV.gd? (.val (.tuple #[])) = some .skip := rfl
def onG (g : Gd) (A B C : Prop) (_ : Tok (A, B, C) := ⟨⟩) : Prop :=
 match g with
 | .b c => onB c A B
 | .skip => C
@[simp ↓, simp] theorem j5l (c : Bool) (A B C : Prop) : onG (.b c) A B C = onB c A B := rfl
@[simp ↓, simp] theorem y5z (A B C : Prop) : onG .skip A B C = C := rfl
def k0h {α : Type} (a : α) (K : α → Prop) (_ : Tok K := ⟨⟩) : Prop := K a
@[simp] theorem k32 {α : Type} (a : α) (K : α → Prop) : k0h a K = K a := rfl
def xop (P : Program) (op : MOp) (ρ : MX → PV) (st : q5d) (K QP : PV → q5d → Prop) (_ : Tok (K, QP) := ⟨⟩) : Prop := mop P op ρ st K QP
def Fresh (st : q5d) (K : Nat → Prop) (_ : Tok K := ⟨⟩) : Prop := ∀ b, q6u st b → K b
theorem Fresh.intro {st : q5d} {K : Nat → Prop} (h : ∀ b, q6u st b → K b) : Fresh st K := h
def j5m {α β : Type} (o : Option α) (f : α → Option β) (_ : Tok f := ⟨⟩) : Option β := o.bind f
@[simp ↓, simp] theorem y1h {α β : Type} (a : α) (f : α → Option β) : j5m (some a) f = f a := rfl
@[simp] theorem y1i {α β : Type} (f : α → Option β) : j5m none f = none := rfl
def j9e : MVal → Bool
 | .buildSlice .. => true
 | _ => false
def Lit (T : TypeId) (cs : List PV) (len : Nat) (st : q5d) (K : PV → q5d → Prop) (_ : Tok K := ⟨⟩) : Prop := K (.list true cs len) st ∨ ∀ b, q6u st b → K (.own b 0 len len) ((b, .arr T cs) :: st)
theorem Lit.imm {T : TypeId} {cs : List PV} {len : Nat} {st : q5d} {K : PV → q5d → Prop} (h : K (.list true cs len) st) : Lit T cs len st K := .inl h
theorem Lit.own {T : TypeId} {cs : List PV} {len : Nat} {st : q5d} {K : PV → q5d → Prop} (h : ∀ b, q6u st b → K (.own b 0 len len) ((b, .arr T cs) :: st)) : Lit T cs len st K := .inr h
def Grow (T : TypeId) (bytes k : Nat) (cs : List PV) (need : Nat) (st : q5d) (K : PV → q5d → Prop) (_ : Tok K := ⟨⟩) : Prop := z9k T bytes k cs need st K
theorem Grow.intro {T : TypeId} {bytes k : Nat} {cs : List PV} {need : Nat} {st : q5d} {K : PV → q5d → Prop} (h1 : need * bytes ≤ 140737488355328)
  (h2 : ∀ b cap, q6u st b → need ≤ cap → cap ≤ 9223372036854775807 → K (.own b 0 need cap) ((b, .arr T (cs ++ List.replicate ((cap - need) * k) .any)) :: st)) : Grow T bytes k cs need st K := ⟨h1, .inl h2⟩
def q6p (T : TypeId) (bytes k : Nat) (p : PV) (new : List PV) (m : Nat) (st : q5d) (K : PV → q5d → Prop) (_ : Tok K := ⟨⟩) : Prop := q86 T bytes k p new m st K
section
variable (T : TypeId) (bytes k : Nat) (new : List PV) (m : Nat) (st : q5d) (K : PV → q5d → Prop)
theorem k4y : q6p T bytes k (.val (.slice none 0 0)) new m st K = ((m = 0 → K .nil st) ∧ (¬ m = 0 → Grow T bytes k new m st K)) := by
 show (if m = 0 then K .nil st else Grow T bytes k new m st K) = _
 split <;> simp [*]
@[simp] theorem q5f (t : Bool) (cs : List PV) (n : Nat) : q6p T bytes k (.list t cs n) new m st K = ((m = 0 → K (.list t cs n) st) ∧ (¬ m = 0 → t = true ∧ cs.length = n * k ∧ Grow T bytes k (cs ++ new) (n + m) st K)) := by
 show (if m = 0 then K (.list t cs n) st else t = true ∧ cs.length = n * k ∧ Grow T bytes k (cs ++ new) (n + m) st K) = _
 split <;> simp [*]
end
theorem q8y {T : TypeId} {bytes k : Nat} {new : List PV} {m : Nat} {st : q5d} {K : PV → q5d → Prop} {b n cap : Nat} {row : List PV} (hb : q5w st b = some (.arr T row)) (hl : row.length = cap * k) (hn : n ≤ cap) (hc : cap ≤ 9223372036854775807)
  (h : Grow T bytes k (row.take (n * k) ++ new) (n + m) (k20 b st) K) : q6p T bytes k (.own b 0 n cap) new m st K := by
 show q86 _ _ _ _ _ _ _ _
 simp only [q86, hb]
 exact ⟨trivial, by omega, hn, hc, .inl ⟨trivial, hl, h⟩⟩
theorem k3g {T : TypeId} {bytes k : Nat} {new : List PV} {m : Nat} {st : q5d} {K : PV → q5d → Prop} {b off n cap : Nat} {row : List PV} (hb : q5w st b = some (.arr T row)) (hl : off + cap * k ≤ row.length) (hn : n ≤ cap) (hc : cap ≤ 9223372036854775807)
  (h0 : (n + m) * bytes ≤ 140737488355328) (h1 : n + m ≤ cap → K (.own b off (n + m) cap) (k0a st b (.arr T (q5i row (off + n * k) new)))) (h2 : cap < n + m → Grow T bytes k ((row.drop off).take (n * k) ++ new) (n + m) st K) : q6p T bytes k (.own b off n cap) new m st K := by
 show q86 _ _ _ _ _ _ _ _
 simp only [q86, hb]
 exact ⟨trivial, hl, hn, hc, .inr ⟨h0, h1, h2⟩⟩
def j2g (k : Nat) (p : PV) (new : List PV) (m : Nat) (st : q5d) (K : PV → q5d → Prop) (_ : Tok K := ⟨⟩) : Prop := j1n k p new m st K
@[simp] theorem y3d (k : Nat) (new : List PV) (m : Nat) (st : q5d) (K : PV → q5d → Prop) : j2g k (.val (.slice none 0 0)) new m st K = K (.int 0) st := rfl
@[simp] theorem j9f (k : Nat) (new : List PV) (m : Nat) (st : q5d) (K : PV → q5d → Prop) (t : Bool) (cs : List PV) : j2g k (.list t cs 0) new m st K = K (.int 0) st := rfl
@[simp] theorem y3e (k : Nat) (new : List PV) (m : Nat) (st : q5d) (K : PV → q5d → Prop) (b off n cap : Nat) : j2g k (.val (.slice (some ⟨b, off, none⟩) n cap)) new m st K =
  q5p (j1g (q5w st b)) fun r => off + min m n * k ≤ r.2.length ∧ K (.int (min m n : Nat)) (k0a st b (.arr r.1 (q5i r.2 off (new.take (min m n * k))))) := by
 simp only [j2g, j1n]
 cases h : q5w st b with
 | none => simp [j1g]
 | some o => cases o <;> simp [j1g]
@[simp] theorem j5n (k : Nat) (st : q5d) (t : Bool) (cs : List PV) (n : Nat) : q68 k st (.list t cs n) = if cs.length = n * k then some (cs, n) else none := rfl
@[simp] theorem j7r (k : Nat) (st : q5d) : q68 k st (.val (.slice none 0 0)) = some ([], 0) := rfl
@[simp] theorem j7s (k : Nat) (st : q5d) (b off n cap : Nat) : q68 k st (.val (.slice (some ⟨b, off, none⟩) n cap)) = j5m (j1g (q5w st b)) fun r => if off + n * k ≤ r.2.length then some ((r.2.drop off).take (n * k), n) else none := by
 simp only [q68]
 cases h : q5w st b with
 | none => rfl
 | some o => cases o <;> rfl
@[simp] theorem j7t (st : q5d) (s : ByteArray) : q68 1 st (.val (.string s)) = some (s.data.toList.map fun b => .val (.int .u8 b.toNat), s.size) := rfl
def j5o (neg : Bool) (nk : NK) (p : PV) (st : q5d) (K : PV → q5d → Prop) (_ : Tok K := ⟨⟩) : Prop := z38 neg nk p st K
section
variable (neg : Bool) (st : q5d) (K : PV → q5d → Prop)
@[simp] theorem y50 (n c : Nat) : j5o neg .slice (.val (.slice none n c)) st K = K (.bool !neg) st := rfl
@[simp] theorem y51 (a : Addr) (n c : Nat) : j5o neg .slice (.val (.slice (some a) n c)) st K = K (.bool neg) st := rfl
@[simp] theorem y3f (t : Bool) (cs : List PV) (n : Nat) : j5o neg .slice (.list t cs n) st K = ((cs = [] → K (.bool !neg) st) ∧ K (.bool neg) st) := rfl
@[simp] theorem y3g : j5o neg .iface (.val .nilIface) st K = K (.bool !neg) st := rfl
@[simp] theorem y1j (T : TypeId) (p : PV) : j5o neg .iface (.iface T p) st K = K (.bool neg) st := rfl
@[simp] theorem y3h : j5o neg .map (.val (.map none)) st K = K (.bool !neg) st := rfl
@[simp] theorem y52 (r : Nat) : j5o neg .map (.val (.map (some r))) st K = K (.bool neg) st := rfl
@[simp] theorem y3i (ks : List Value) (vs : List PV) : j5o neg .map (.imap ks vs) st K = K (.bool neg) st := rfl
end
def PV.map? : PV → Option Nat
 | .val (.map (some b)) => some b
 | _ => none
@[simp] theorem j5p (b : Nat) : PV.map? (.val (.map (some b))) = some b := rfl
def map? : Option PObj → Option (List Value × List PV)
 | some (.map ks vs) => some (ks, vs)
 | _ => none
@[simp] theorem j2h (ks : List Value) (vs : List PV) : map? (some (.map ks vs)) = some (ks, vs) := rfl
@[simp] theorem y3j (st : q5d) (b : Nat) : z2d st (.val (.map (some b))) = map? (q5w st b) := by
 simp only [z2d]
 cases h : q5w st b with
 | none => rfl
 | some o => cases o <;> rfl
@[simp] theorem y3k (st : q5d) : z2d st (.val (.map none)) = some ([], []) := rfl
@[simp] theorem y1k (st : q5d) (ks : List Value) (vs : List PV) : z2d st (.imap ks vs) = some (ks, vs) := rfl
@[simp] theorem y53 (v : Value) : PV.key? (.val v) = some v := rfl
@[simp] theorem y54 (cs : List PV) : PV.key? (.agg cs) = (PV.vals? cs).map fun vs => .agg vs.toArray := rfl
@[simp] theorem y3l : PV.vals? [] = some [] := rfl
@[simp] theorem y1l (v : Value) (ps : List PV) : PV.vals? (.val v :: ps) = (PV.vals? ps).map (v :: ·) := rfl
@[simp] theorem y3m (lk : List LK) (v : Value) : q8u (false, lk) v = (lk.length == 1) := rfl
@[simp] theorem y3n (lk : List LK) (cs : Array Value) : q8u (true, lk) (.agg cs) = (cs.size == lk.length) := rfl
@[simp] theorem y55 (kp : KP) (k : Value) : k2z kp k [] = some none := rfl
def j5q (r : Option Bool) (rest : Option (Option Nat)) : Option (Option Nat) :=
 match r with
 | some true => some (some 0)
 | some false => rest.map (·.map (· + 1))
 | none => none
@[simp] theorem y7n (rest : Option (Option Nat)) : j5q (some true) rest = some (some 0) := rfl
@[simp] theorem y7o (rest : Option (Option Nat)) : j5q (some false) rest = rest.map (·.map (· + 1)) := rfl
@[simp] theorem j2i (kp : KP) (k k' : Value) (ks : List Value) : k2z kp k (k' :: ks) = j5q (q6c kp.2 (q6i kp.1 k) (q6i kp.1 k')) (k2z kp k ks) := by
 simp only [k2z, j5q]
 split <;> rename_i h <;> simp only [h]
@[simp] theorem y1m (v : Value) : q6i false v = [.val v] := by cases v <;> rfl
@[simp] theorem y1n (cs : Array Value) : q6i true (.agg cs) = cs.toList.map .val := rfl
def y3o (b : Nat) (kv : Value) (p : PV) (ks : List Value) (vs : List PV) (r : Option (Option Nat)) (st : q5d) (K : PV → q5d → Prop) (_ : Tok K := ⟨⟩) : Prop :=
 match r with
 | some (some j) => K .any (k0a st b (.map (ks.set j kv) (vs.set j p)))
 | some none => K .any (k0a st b (.map (ks ++ [kv]) (vs ++ [p])))
 | none => False
@[simp] theorem xput_s (b : Nat) (kv : Value) (p : PV) (ks : List Value) (vs : List PV) (j : Nat) (st : q5d) (K : PV → q5d → Prop) : y3o b kv p ks vs (some (some j)) st K = K .any (k0a st b (.map (ks.set j kv) (vs.set j p))) := rfl
@[simp] theorem xput_n (b : Nat) (kv : Value) (p : PV) (ks : List Value) (vs : List PV) (st : q5d) (K : PV → q5d → Prop) : y3o b kv p ks vs (some none) st K = K .any (k0a st b (.map (ks ++ [kv]) (vs ++ [p]))) := rfl
def xdel (b : Nat) (ks : List Value) (vs : List PV) (r : Option (Option Nat)) (st : q5d) (K : PV → q5d → Prop) (_ : Tok K := ⟨⟩) : Prop :=
 match r with
 | some (some j) => K .any (k0a st b (.map (ks.eraseIdx j) (vs.eraseIdx j)))
 | some none => K .any st
 | none => False
@[simp] theorem xdel_s (b : Nat) (ks : List Value) (vs : List PV) (j : Nat) (st : q5d) (K : PV → q5d → Prop) : xdel b ks vs (some (some j)) st K = K .any (k0a st b (.map (ks.eraseIdx j) (vs.eraseIdx j))) := rfl
@[simp] theorem xdel_n (b : Nat) (ks : List Value) (vs : List PV) (st : q5d) (K : PV → q5d → Prop) : xdel b ks vs (some none) st K = K .any st := rfl
def xcall (P : Program) (g : FuncId) (ps : List PV) (st : q5d) (Q : PEnd → q5d → Prop) (_ : Tok Q := ⟨⟩) : Prop := PCalls P g ps st Q
def j7u (P : Program) (l : Nat) (ps : List PV) (st : q5d) (Q : PEnd → q5d → Prop) (_ : Tok Q := ⟨⟩) : Prop := PRound P l ps st Q
def j2j (P : Program) (f : PV) (ps : List PV) (st : q5d) (Q : PEnd → q5d → Prop) (_ : Tok Q := ⟨⟩) : Prop := z8d P f ps st Q
@[simp ↓, simp] theorem j9g (P : Program) (g : FuncId) (fs cs ps : List PV) (st : q5d) (Q : PEnd → q5d → Prop) : j2j P (.func (.func g) fs cs) ps st Q = xcall P g (fs ++ ps ++ cs) st Q := rfl
@[simp ↓, simp] theorem j7v (P : Program) (l : Nat) (ps : List PV) (st : q5d) (Q : PEnd → q5d → Prop) : j2j P (.func (.yield l) [] []) ps st Q = j7u P l ps st Q := rfl
def j2k (k : Nat) (zs : List PV) (p : PV) (st : q5d) (K : PV → q5d → Prop) (_ : Tok K := ⟨⟩) : Prop := z8e k zs p st K
@[simp] theorem y1o (k : Nat) (zs : List PV) (st : q5d) (K : PV → q5d → Prop) : j2k k zs (.val (.slice none 0 0)) st K = K .any st := rfl
@[simp] theorem j7w (k : Nat) (zs : List PV) (st : q5d) (K : PV → q5d → Prop) (t : Bool) (cs : List PV) : j2k k zs (.list t cs 0) st K = K .any st := rfl
def j2l (p : PV) (st : q5d) (K : PV → q5d → Prop) (_ : Tok K := ⟨⟩) : Prop := z8f p st K
def y7p (p : PV) (st : q5d) (K : PV → q5d → Prop) (_ : Tok K := ⟨⟩) : Prop := j46 p st K
def y3p (p : PV) (st : q5d) (K : PV → q5d → Prop) (_ : Tok K := ⟨⟩) : Prop := z8g p st K
def y7q (K QP : PV → q5d → Prop) (e : PEnd) (st : q5d) (_ : Tok (K, QP) := ⟨⟩) : Prop := q9e K QP e st
section
variable (P : Program) (ρ : MX → PV) (st : q5d) (K QP : PV → q5d → Prop)
@[simp] theorem q7m (p : PV) : y7q K QP (.ret p) st = K p st := rfl
@[simp] theorem y1p (p : PV) : y7q K QP (.panic p) st = QP p st := rfl
theorem q6w (v : MVal) (h : j9e v = false) : xop P (.val v) ρ st K QP = q69 v ρ st fun p => K p st := by
 have : j8q v ρ st K = False := by
  unfold j8q
  split
  ·simp [j9e] at h
  ·rfl
 simp only [xop, mop, this, or_false]
 rfl
@[simp ↓] theorem mop_mv (x : MX) : xop P (.val (.mv x)) ρ st K QP = q69 (.mv x) ρ st fun p => K p st := q6w P ρ st K QP _ rfl
@[simp ↓] theorem y56 (c a b : MX) : xop P (.val (.pick c a b)) ρ st K QP = q69 (.pick c a b) ρ st fun p => K p st := q6w P ρ st K QP _ rfl
@[simp ↓] theorem y3q (zs : List PV) (parts : List (Nat × Nat × MX)) : xop P (.val (.build zs parts)) ρ st K QP = q69 (.build zs parts) ρ st fun p => K p st := q6w P ρ st K QP _ rfl
@[simp ↓] theorem y57 (k : Nat) (agg : Bool) (x : MX) : xop P (.val (.load k agg x)) ρ st K QP = q69 (.load k agg x) ρ st fun p => K p st := q6w P ρ st K QP _ rfl
@[simp ↓] theorem j7x (x : MX) : xop P (.val (.nilCheck x)) ρ st K QP = q69 (.nilCheck x) ρ st fun p => K p st := q6w P ρ st K QP _ rfl
@[simp ↓] theorem y7r (op : BinOp) (T : TypeId) (x y : MX) : xop P (.val (.bin op T x y)) ρ st K QP = q69 (.bin op T x y) ρ st fun p => K p st := q6w P ρ st K QP _ rfl
@[simp ↓] theorem y3r (neg : Bool) (ks : List LK) (x y : MX) : xop P (.val (.eqAgg neg ks x y)) ρ st K QP = q69 (.eqAgg neg ks x y) ρ st fun p => K p st := q6w P ρ st K QP _ rfl
@[simp ↓] theorem mop_un (op : UnOp) (x : MX) : xop P (.val (.un op x)) ρ st K QP = q69 (.un op x) ρ st fun p => K p st := q6w P ρ st K QP _ rfl
@[simp ↓] theorem y3s (k : IntKind) (x : MX) : xop P (.val (.toInt k x)) ρ st K QP = q69 (.toInt k x) ρ st fun p => K p st := q6w P ρ st K QP _ rfl
@[simp ↓] theorem j9h (T : TypeId) (x : MX) : xop P (.val (.mkIface T x)) ρ st K QP = q69 (.mkIface T x) ρ st fun p => K p st := q6w P ρ st K QP _ rfl
@[simp ↓] theorem y1q (fn : Fn) (first captured : List MX) : xop P (.val (.mkFunc fn first captured)) ρ st K QP = q69 (.mkFunc fn first captured) ρ st fun p => K p st := q6w P ρ st K QP _ rfl
@[simp ↓] theorem j5r (off : Nat) (x : MX) : xop P (.val (.fieldAddr off x)) ρ st K QP = q69 (.fieldAddr off x) ρ st fun p => K p st := q6w P ρ st K QP _ rfl
@[simp ↓] theorem j5s (k : Nat) (x i : MX) : xop P (.val (.indexAddr k x i)) ρ st K QP = q69 (.indexAddr k x i) ρ st fun p => K p st := q6w P ρ st K QP _ rfl
@[simp ↓] theorem j7y (n k : Nat) (x i : MX) : xop P (.val (.indexArr n k x i)) ρ st K QP = q69 (.indexArr n k x i) ρ st fun p => K p st := q6w P ρ st K QP _ rfl
@[simp ↓] theorem y3t (n k : Nat) (agg : Bool) (x i : MX) : xop P (.val (.index n k agg x i)) ρ st K QP = q69 (.index n k agg x i) ρ st fun p => K p st := q6w P ρ st K QP _ rfl
@[simp ↓] theorem y7s (x : MX) : xop P (.val (.len x)) ρ st K QP = q69 (.len x) ρ st fun p => K p st := q6w P ρ st K QP _ rfl
@[simp ↓] theorem y1r (x : MX) : xop P (.val (.maplen x)) ρ st K QP = q69 (.maplen x) ρ st fun p => K p st := q6w P ρ st K QP _ rfl
@[simp ↓] theorem y7t (x : MX) : xop P (.val (.cap x)) ρ st K QP = q69 (.cap x) ρ st fun p => K p st := q6w P ρ st K QP _ rfl
@[simp ↓] theorem y1s (lk : Bool × List LK) (z : PV) (ok : Bool) (x i : MX) : xop P (.val (.lookup lk z ok x i)) ρ st K QP = q69 (.lookup lk z ok x i) ρ st fun p => K p st := q6w P ρ st K QP _ rfl
@[simp ↓] theorem y3u (k : Nat) (x : MX) (lo hi mx : Option MX) : xop P (.val (.slice k x lo hi mx)) ρ st K QP = q69 (.slice k x lo hi mx) ρ st fun p => K p st := q6w P ρ st K QP _ rfl
@[simp ↓] theorem j7z (n k : Nat) (x : MX) (lo hi mx : Option MX) : xop P (.val (.sliceArr n k x lo hi mx)) ρ st K QP = q69 (.sliceArr n k x lo hi mx) ρ st fun p => K p st := q6w P ρ st K QP _ rfl
@[simp ↓] theorem y3v (x : MX) : xop P (.val (.strOf x)) ρ st K QP = q69 (.strOf x) ρ st fun p => K p st := q6w P ρ st K QP _ rfl
@[simp ↓] theorem j9i (i : Nat) (x : MX) : xop P (.val (.extract i x)) ρ st K QP = q69 (.extract i x) ρ st fun p => K p st := q6w P ρ st K QP _ rfl
@[simp ↓] theorem y1t (isMax : Bool) (xs : List MX) : xop P (.val (.minmax isMax xs)) ρ st K QP = q69 (.minmax isMax xs) ρ st fun p => K p st := q6w P ρ st K QP _ rfl
@[simp ↓] theorem y1u (T : TypeId) (z : PV) (ok : Bool) (x : MX) : xop P (.val (.assert T z ok x)) ρ st K QP = q69 (.assert T z ok x) ρ st fun p => K p st := q6w P ρ st K QP _ rfl
@[simp ↓] theorem y7u (T : TypeId) (len : Nat) (zs : List PV) (parts : List (Nat × Nat × MX)) : xop P (.val (.buildSlice T len zs parts)) ρ st K QP =
  q5p (k0q zs (parts.map fun q => (q.1, q.2.1, ρ q.2.2))) fun cs => Lit T cs len st K := by
 simp only [xop, mop, q7k, j8q, Lit]
 split <;> simp_all
@[simp ↓] theorem y1v (T : TypeId) (bytes k : Nat) (x y : MX) : xop P (.append T bytes k x y) ρ st K QP = q5p (q68 k st (ρ y)) fun r => q6p T bytes k (ρ x) r.1 r.2 st K := by
 simp only [xop, mop]
 split
 ·rename_i h; simp only [h, q5r]; rfl
 ·rename_i h; simp only [h, q9k]
@[simp ↓] theorem j9j (T : TypeId) (bytes k : Nat) (zs : List PV) (x n : MX) : xop P (.appendZ T bytes k zs x n) ρ st K QP = q5p (ρ n).int? fun q => 0 ≤ q.2 ∧ q.2 ≤ 9223372036854775807 ∧ q6p T bytes k (ρ x) (List.replicate q.2.toNat zs).flatten q.2.toNat st K := by
 simp only [xop, mop]
 split
 ·rename_i h; simp only [h, z8q, q5r]; rfl
 ·rename_i h
  simp only [q5p, eq_iff_iff, false_iff]
  rintro ⟨⟨k, m⟩, h1, -⟩
  unfold PV.int? at h1
  split at h1
  ·rename_i h2; exact h _ _ h2
  ·cases h1
@[simp ↓] theorem j9k (T : TypeId) (bytes k : Nat) (zs : List PV) (l c : MX) : xop P (.mkSlice T bytes k zs l c) ρ st K QP = q5p (ρ l).int? fun a => q5p (ρ c).int? fun b => 0 ≤ a.2 ∧ a.2 ≤ b.2 ∧ b.2 * bytes ≤ 281474976710656 ∧ b.2 ≤ 9223372036854775807 ∧
  Fresh st fun d => K (.own d 0 a.2.toNat b.2.toNat) ((d, .arr T (List.replicate b.2.toNat zs).flatten) :: st) := by
 simp only [xop, mop]
 split
 ·rename_i h1 h2; simp only [h1, h2, z8q, q5r]; rfl
 ·rename_i h
  simp only [q5p, eq_iff_iff, false_iff]
  rintro ⟨⟨k, m⟩, h1, ⟨k', m'⟩, h2, -⟩
  unfold PV.int? at h1 h2
  split at h1
  ·split at h2
   ·rename_i h3 _ _ _ h4; exact h _ _ _ _ h3 h4
   ·cases h2
  ·cases h1
@[simp ↓] theorem y58 (k : Nat) (x y : MX) : xop P (.copy k x y) ρ st K QP = q5p (q68 k st (ρ y)) fun r => j2g k (ρ x) r.1 r.2 st K := by
 simp only [xop, mop]
 split
 ·rename_i h; simp only [h, q5r]; rfl
 ·rename_i h; simp only [h, q9k]
@[simp ↓] theorem y3w (neg : Bool) (nk : NK) (x : MX) : xop P (.eqNil neg nk x) ρ st K QP = j5o neg nk (ρ x) st K := rfl
@[simp ↓] theorem y3x : xop P .mkMap ρ st K QP = Fresh st fun b => K (.val (.map (some b))) ((b, .map [] []) :: st) := rfl
@[simp ↓] theorem y1w (kp : KP) (m k v : MX) : xop P (.mapSet kp m k v) ρ st K QP = q5p (ρ m).map? fun b => q5p (ρ k).key? fun kv => q5p (map? (q5w st b)) fun r => q8u kp kv = true ∧ y3o b kv (ρ v) r.1 r.2 (k2z kp kv r.1) st K := by
 simp only [xop, mop]
 split
 ·rename_i b kv h1 h2
  simp only [h1, h2, j5p, q5r]
  split
  ·rename_i h3; simp only [h3, j2h, q5r]; rfl
  ·rename_i h3
   cases h4 : q5w st b with
   | none => simp [map?]
   | some o => cases o <;> simp_all [map?]
 ·rename_i h
  simp only [q5p, eq_iff_iff, false_iff]
  rintro ⟨b, h1, kv, h2, -⟩
  refine h b kv ?_ h2
  revert h1
  unfold PV.map?
  split <;> simp
  rintro rfl
  assumption
@[simp ↓] theorem y3y (T : TypeId) (zs : List PV) : xop P (.alloc T zs) ρ st K QP = Fresh st fun b => K (.ptr b 0) ((b, .arr T zs) :: st) := rfl
@[simp ↓] theorem y7v (T : TypeId) (x : MX) : xop P (.box T x) ρ st K QP = q5p (ρ x).cells fun cs => Fresh st fun b => K (.ptr b 0) ((b, .arr T cs) :: st) := by
 simp only [xop, mop]; split <;> simp_all [Fresh]
@[simp ↓] theorem y3z (k : Nat) (x y : MX) : xop P (.store k x y) ρ st K QP = q5p (ρ x).ptr? fun a => q5p (ρ y).cells fun ps => q5p (j1g (q5w st a.1)) fun r =>
  ps.length = k ∧ a.2 + k ≤ r.2.length ∧ K .any (k0a st a.1 (.arr r.1 (q5i r.2 a.2 ps))) := by
 simp only [xop, mop]
 split
 ·rename_i b off ps h1 h2
  simp only [h1, h2, j5e, q5r]
  split
  ·rename_i h3; simp [h3]
  ·rename_i h3
   cases h4 : q5w st b with
   | none => simp [j1g]
   | some o => cases o <;> simp_all [j1g]
 ·rename_i h1
  simp only [q5p, false_iff, eq_iff_iff]
  rintro ⟨⟨b, off⟩, h2, ps, h3, -⟩
  refine h1 b off ps ?_ h3
  revert h2
  unfold PV.ptr?
  split <;> simp
  intro e1 e2
  subst e1; subst e2
  assumption
@[simp ↓] theorem y59 (f : MX) (args : List MX) : xop P (.call f args) ρ st K QP = j2j P (ρ f) (args.map ρ) st fun e st' => y7q K QP e st' := rfl
@[simp ↓] theorem y30 (k : Nat) (zs : List PV) (x : MX) : xop P (.clear k zs x) ρ st K QP = j2k k zs (ρ x) st K := rfl
@[simp ↓] theorem j70 (x : MX) : xop P (.rangeMap x) ρ st K QP = j2l (ρ x) st K := rfl
@[simp ↓] theorem y6a (x : MX) : xop P (.next x) ρ st K QP = y7p (ρ x) st K := rfl
@[simp ↓] theorem y31 (x : MX) : xop P (.entry x) ρ st K QP = y3p (ρ x) st K := rfl
@[simp ↓] theorem y32 (x : MX) : xop P (.bytes x) ρ st K QP = q5p (ρ x).str? fun s => s.size ≤ 140737488355328 ∧ K (.list false (k19 s) s.size) st := by
 simp only [xop, mop]
 split <;> simp_all [PV.str?]
@[simp ↓] theorem y33 (x : MX) : xop P (.panic x) ρ st K QP = q5p (ρ x).iface? fun q => QP (.iface q.1 q.2) st := by
 simp only [xop, mop]
 split <;> simp_all [PV.iface?]
end
def z8s (P : Program) (l : List MInst) (s : PS) (K : PS → Prop) (QP : PV → q5d → Prop) (_ : Tok (l, K, QP) := ⟨⟩) : Prop := z5w P l s K QP
def xwp (P : Program) (c : MCode) (Q : q7l) (s : PS) (_ : Tok (c, Q) := ⟨⟩) : Prop := mwp P c Q s
def k4z (K : PS → Prop) (Q : q7l) (e : MExit) (s : PS) (_ : Tok (K, Q) := ⟨⟩) : Prop := z53 K Q e s
def z4t (id : Nat) (Q : q7l) (e : MExit) (s : PS) (_ : Tok Q := ⟨⟩) : Prop := z2g id Q e s
def j5t (P : Program) (c : MCode) (Q : q7l) (s : PS) (_ : Tok (c, Q) := ⟨⟩) : Prop := z2h View (mwp P c) Q s
def j71 (P : Program) (f : PV) (ps : List Nat) (a b : MCode) (Q : q7l) (s : PS) (_ : Tok (a, b, Q) := ⟨⟩) : Prop :=
 match f with
 | .func (.func f) fs cs => k2t P f ∧ ∀ key : LoopKey, key.Conv P ps a b → ∀ l, q6u s.st l →
   PCalls P f (fs ++ [.func (.yield l) [] []] ++ cs) ((l, .loop key s.env .ready none) :: s.st) (k31 l Q s.env)
 | _ => False
def z6p : Option PObj → Option (LoopKey × Env × LoopState × Option Code)
 | some (.loop key e state pend) => some (key, e, state, pend)
 | _ => none
@[simp] theorem k6u (key : LoopKey) (e : Env) (state : LoopState) (pend : Option Code) : z6p (some (.loop key e state pend)) = some (key, e, state, pend) := rfl
theorem z1n {o : Option PObj} (h : ∀ key e state pend, o = some (.loop key e state pend) → False) : z6p o = none := by
 unfold z6p
 split
 ·rename_i key e state pend; exact (h key e state pend rfl).elim
 ·rfl
def j5u (pend : Option Code) (Q : q7l) (s : PS) (_ : Tok Q := ⟨⟩) : Prop :=
 match pend with
 | none => Q .normal s
 | some .ret => Q .ret s
 | some (.exit id) => Q (.exit id) s
 | _ => False
@[simp ↓, simp] theorem y1x (Q : q7l) (s : PS) : j5u none Q s = Q .normal s := rfl
@[simp ↓, simp] theorem y34 (Q : q7l) (s : PS) : j5u (some .ret) Q s = Q .ret s := rfl
@[simp ↓, simp] theorem y1y (id : Nat) (Q : q7l) (s : PS) : j5u (some (.exit id)) Q s = Q (.exit id) s := rfl
def j5v (l : Nat) (Q : q7l) (e : Env) (en : PEnd) (st : q5d) (_ : Tok Q := ⟨⟩) : Prop := k31 l Q e en st
@[simp ↓, simp] theorem y35 (l : Nat) (Q : q7l) (e : Env) (p : PV) (st : q5d) : j5v l Q e (.ret p) st = q5p (z6p (q5w st l)) fun r => r.2.2.1 ≠ .busy ∧ j5u r.2.2.2 Q ⟨e, k20 l st⟩ := by
 simp only [j5v, k31]
 split
 ·rename_i h; simp only [h, k6u, q5r]
  congr 1
 ·rename_i h; rw [z1n h]; simp
@[simp ↓, simp] theorem j9l (l : Nat) (Q : q7l) (e : Env) (p : PV) (st : q5d) : j5v l Q e (.panic p) st = Q (.panic p) ⟨[], st⟩ := rfl
theorem z6q {P : Program} {f : FuncId} {fs cs : List PV} {ps : List Nat} {a b : MCode} {Q : q7l} {e : Env} {st : q5d} (hent : k2t P f)
  (h : ∀ key : LoopKey, key.Conv P ps a b → ∀ l, q6u st l → xcall P f (fs ++ [.func (.yield l) [] []] ++ cs) ((l, .loop key e .ready none) :: st) fun en s => j5v l Q e en s) : j71 P (.func (.func f) fs cs) ps a b Q ⟨e, st⟩ := ⟨hent, h⟩
@[simp] theorem y1z (e : Env) (t : Nat) (ts : List Nat) (p : PV) (ps : List PV) : k8z e (t :: ts) (p :: ps) = k8z (k0o e (some t) p) ts ps := rfl
@[simp] theorem y36 (e : Env) : k8z e [] [] = e := rfl
def z22 (l : Nat) (Q : PEnd → q5d → Prop) (ex : MExit) (s : PS) (_ : Tok Q := ⟨⟩) : Prop := k80 l Q ex s
def k40 (P : Program) (l : Nat) (b : MCode) (Q : PEnd → q5d → Prop) (ex : MExit) (s : PS) (_ : Tok (b, Q) := ⟨⟩) : Prop := z8m P l b Q ex s
section
variable (l id : Nat) (Q : PEnd → q5d → Prop) (e : Env) (st : q5d)
@[simp ↓] theorem j4u : z22 l Q .normal ⟨e, st⟩ = q5p (z6p (q5w st l)) fun r => Q (.ret (.bool true)) (k0a st l (.loop r.1 r.2.1 .ready none)) := by
 simp only [z22, k80]
 split
 ·rename_i h; simp only [h, k6u, q5r]
 ·rename_i h; rw [z1n h]; simp
@[simp ↓] theorem j5w (p : PV) (s : PS) : z22 l Q (.panic p) s = False := rfl
@[simp ↓] theorem j4v (P : Program) (b : MCode) : k40 P l b Q .normal ⟨e, st⟩ = q5p (z6p (q5w st l)) fun r => r.2.2.1 = .ready ∧ xwp P b (fun ex s => z22 l Q ex s) ⟨e, k0a st l (.loop r.1 r.2.1 .busy r.2.2.2)⟩ := by
 simp only [k40, z8m]
 split
 ·rename_i h; simp only [h, k6u, q5r, true_and]; rfl
 ·rename_i h
  simp only [q5p, eq_iff_iff, false_iff]
  rintro ⟨⟨key, e', state, pend⟩, h1, h2, -⟩
  simp only at h2
  subst h2
  unfold z6p at h1
  split at h1
  ·rename_i h3; cases h1; exact h _ _ _ h3
  ·cases h1
@[simp ↓] theorem j9m (P : Program) (b : MCode) (s : PS) : k40 P l b Q .ret s = False := rfl
@[simp ↓] theorem j72 (P : Program) (b : MCode) (s : PS) : k40 P l b Q (.exit id) s = False := rfl
@[simp ↓] theorem j5x (P : Program) (b : MCode) (p : PV) (s : PS) : k40 P l b Q (.panic p) s = False := rfl
end
theorem z6r {P : Program} (q5n : P.follows .mixedOrders = true) {l : Nat} {key : LoopKey} {params : List Nat} {ma mb : MCode} (hconv : key.Conv P params ma mb) {e : Env} {st : q5d} (hget : q5w st l = some (.loop key e .ready none))
  {args : List PV} (hlen : params.length = args.length) {Q : PEnd → q5d → Prop} (h : xwp P ma (fun ex s => k40 P l mb Q ex s) ⟨k8z e params args, st⟩) : PRound P l args st Q := z2x q5n hconv hget hlen h
def z8t (Q : q7l) (p : PV) (st : q5d) (_ : Tok Q := ⟨⟩) : Prop := Q (.panic p) ⟨[], st⟩
def j2m (rs : List MRes) (R E : PV → q5d → Prop) (e : MExit) (s : PS) (_ : Tok (R, E) := ⟨⟩) : Prop := k2b rs R E e s
def j4w (s : PS) (rs : List MRes) (K : List PV → Prop) (_ : Tok K := ⟨⟩) : Prop := y04 s rs K
section
variable (P : Program) (K : PS → Prop) (QP : PV → q5d → Prop) (Q : q7l) (s : PS) (e : Env) (st : q5d)
@[simp ↓] theorem y6b : z8s P [] s K QP = K s := rfl
@[simp ↓] theorem y37 (d : Option Nat) (op : MOp) (l : List MInst) : z8s P (⟨d, none, op⟩ :: l) ⟨e, st⟩ K QP = xop P op (q59 e) st (fun p st' => k0h (⟨k0o e d p, st'⟩ : PS) fun s => z8s P l s K QP) QP := rfl
theorem z95 {p : PV} (h : ∀ c, p = .val (.bool c) → False) : p.bool? = none := by
 unfold PV.bool?
 split
 ·rename_i c; exact (h c rfl).elim
 ·rfl
theorem k8d {p : PV} (h : ∀ c, p = .val (.bool c) → False) (h2 : ∀ vs, p = .val (.tuple vs) → False) : p.gd? = none := by
 unfold PV.gd?
 split
 ·rename_i c; exact (h c rfl).elim
 ·rename_i c; exact (h2 c rfl).elim
 ·rfl
@[simp ↓] theorem j73 (d : Option Nat) (t : Nat) (op : MOp) (l : List MInst) : z8s P (⟨d, some (t, true), op⟩ :: l) ⟨e, st⟩ K QP = q5p (q6g e t).gd? fun c =>
  onG c (k0h (z2f e t true) fun e => xop P op (q59 e) st (fun p st' => k0h (⟨k0o e d p, st'⟩ : PS) fun s => z8s P l s K QP) QP)
   (k0h (⟨k0o (z2f e t false) d .undef, st⟩ : PS) fun s => z8s P l s K QP) (k0h (⟨k0o e d .undef, st⟩ : PS) fun s => z8s P l s K QP) := by
 simp only [z8s, z5w]
 split
 ·rename_i c h; simp only [h, k8c, q5r, j5l, k32]; cases c <;> simp [xop]
 ·rename_i vs h
  have hg : (q6g e t).gd? = some .skip := by rw [h]; rfl
  rw [hg, q5r]
  rfl
 ·rename_i h h2; rw [k8d h h2]; simp
@[simp ↓] theorem j74 (d : Option Nat) (t : Nat) (op : MOp) (l : List MInst) : z8s P (⟨d, some (t, false), op⟩ :: l) ⟨e, st⟩ K QP = q5p (q6g e t).gd? fun c =>
  onG c (k0h (⟨k0o (z2f e t true) d .undef, st⟩ : PS) fun s => z8s P l s K QP)
   (k0h (z2f e t false) fun e => xop P op (q59 e) st (fun p st' => k0h (⟨k0o e d p, st'⟩ : PS) fun s => z8s P l s K QP) QP) (k0h (⟨k0o e d .undef, st⟩ : PS) fun s => z8s P l s K QP) := by
 simp only [z8s, z5w]
 split
 ·rename_i c h; simp only [h, k8c, q5r, j5l, k32]; cases c <;> simp [xop]
 ·rename_i vs h
  have hg : (q6g e t).gd? = some .skip := by rw [h]; rfl
  rw [hg, q5r]
  rfl
 ·rename_i h h2; rw [k8d h h2]; simp
@[simp ↓] theorem y6c : xwp P .skip Q s = Q .normal s := rfl
@[simp ↓] theorem y10 (l : List MInst) (ks : List Nat) : xwp P (.region l ks) Q s = z8s P l s (fun s' => k0h (⟨k0p ks s'.env, s'.st⟩ : PS) fun s' => Q .normal s') (fun p st' => z8t Q p st') := rfl
@[simp ↓] theorem y7w (a b : MCode) : xwp P (.seq a b) Q s = xwp P a (fun e s' => k4z (fun s' => xwp P b Q s') Q e s') s := rfl
@[simp ↓] theorem y6d (c : MX) (a b : MCode) : xwp P (.cond c a b) Q ⟨e, st⟩ = q5p (q59 e c).bool? fun t => onB t (xwp P a Q ⟨e, st⟩) (xwp P b Q ⟨e, st⟩) := by
 simp only [xwp, mwp]
 split
 ·rename_i t h; simp only [h, z92, q5r]; cases t <;> simp
 ·rename_i h; rw [z95 h]; simp
@[simp ↓] theorem y38 (id : Nat) (c : MCode) : xwp P (.block id c) Q s = xwp P c (fun e s' => z4t id Q e s') s := rfl
@[simp ↓] theorem y6e (c : MCode) : xwp P (.loop c) Q s = j5t P c Q s := rfl
@[simp ↓] theorem j5y (g : MX) (ps : List Nat) (a b : MCode) : xwp P (.rangeFunc g ps a b) Q ⟨e, st⟩ = j71 P (q59 e g) ps a b Q ⟨e, st⟩ := rfl
@[simp ↓] theorem y6f (id : Nat) : xwp P (.exit id) Q s = Q (.exit id) s := rfl
@[simp ↓] theorem y7x : xwp P .ret Q s = Q .ret s := rfl
@[simp ↓] theorem j75 : k4z K Q .normal s = K s := rfl
@[simp ↓] theorem y11 (id : Nat) : k4z K Q (.exit id) s = Q (.exit id) s := rfl
@[simp ↓] theorem y39 : k4z K Q .ret s = Q .ret s := rfl
@[simp ↓] theorem j9n (p : PV) : k4z K Q (.panic p) s = Q (.panic p) s := rfl
@[simp ↓] theorem j5z (id : Nat) : z4t id Q .normal s = Q .normal s := rfl
@[simp ↓] theorem j9o (id j : Nat) : z4t id Q (.exit j) s = if j = id then Q .normal s else Q (.exit j) s := rfl
@[simp ↓] theorem y12 (id : Nat) : z4t id Q .ret s = Q .ret s := rfl
@[simp ↓] theorem j76 (id : Nat) (p : PV) : z4t id Q (.panic p) s = Q (.panic p) s := rfl
@[simp ↓] theorem y4a (p : PV) (st' : q5d) : z8t Q p st' = Q (.panic p) ⟨[], st'⟩ := rfl
section
variable (rs : List MRes) (R E : PV → q5d → Prop)
@[simp ↓] theorem j9p : j2m rs R E .normal s = j4w s rs fun ps => R (k25 ps) s.st := rfl
@[simp ↓] theorem y6g : j2m rs R E .ret s = j4w s rs fun ps => R (k25 ps) s.st := rfl
@[simp ↓] theorem y13 (p : PV) : j2m rs R E (.panic p) s = E p s.st := rfl
@[simp ↓] theorem y4b (id : Nat) : j2m rs R E (.exit id) s = False := rfl
end
@[simp ↓] theorem y6h (K : List PV → Prop) : j4w s [] K = K [] := rfl
@[simp ↓] theorem y6i (K : List PV → Prop) (t : Nat) (rs : List MRes) : j4w ⟨e, st⟩ (.tmp t :: rs) K = j4w ⟨e, st⟩ rs fun ps => K (q6g e t :: ps) := rfl
@[simp ↓] theorem y4c (K : List PV → Prop) (t k : Nat) (agg : Bool) (rs : List MRes) : j4w ⟨e, st⟩ (.cell t k agg :: rs) K = q5p (k1t st (q6g e t)) fun r => k0w r.1 r.2 k agg fun p => j4w ⟨e, st⟩ rs fun ps => K (p :: ps) := by
 have : j4w ⟨e, st⟩ (.cell t k agg :: rs) K = q69 (.load k agg (.tmp t)) (q59 e) st fun p => j4w ⟨e, st⟩ rs fun ps => K (p :: ps) := rfl
 rw [this, j17]
 rfl
end
theorem j2n (op : BinOp) (p q : PV) (K : PV → Prop) : z0c op p q K ↔ ∃ r, z0c op p q (fun x => x = r) ∧ K r := by
 unfold z0c
 repeat' split
 all_goals first | (simp; done) | (constructor <;> grind)
theorem k7n (k b off n cap : Nat) (lo hi mx : Option Int) (K : PV → Prop) : q8t k b off n cap lo hi mx K ↔ ∃ r, q8t k b off n cap lo hi mx (fun x => x = r) ∧ K r := by
 unfold q8t
 cases lo with
 | none => simp only; constructor <;> grind
 | some l =>
  simp only
  constructor
  ·rintro ⟨h0, h1, h2, h3, h4, h5, h6, h7⟩
   by_cases hl : l = mx.getD cap
   ·exact ⟨_, ⟨h0, h1, h2, h3, h4, h5, fun _ => rfl, fun h => by omega⟩, h6 hl⟩
   ·exact ⟨_, ⟨h0, h1, h2, h3, h4, h5, fun h => absurd h hl, fun _ => rfl⟩, h7 (by omega)⟩
  ·rintro ⟨r, ⟨h0, h1, h2, h3, h4, h5, h6, h7⟩, h8⟩
   exact ⟨h0, h1, h2, h3, h4, h5, fun h => by rw [h6 h]; exact h8, fun h => by rw [h7 h]; exact h8⟩
theorem z23 (k : Nat) (t : Bool) (cs : List PV) (n : Nat) (p : PV) (lo hi mx : Option Int) (K : PV → Prop) : k24 k t cs n p lo hi mx K ↔ ∃ r, k24 k t cs n p lo hi mx (fun x => x = r) ∧ K r := by
 unfold k24
 split <;> first | (simp; done) | (constructor <;> grind)
theorem z6s (k : Nat) (p : PV) (lo hi mx : Option Int) (K : PV → Prop) : k2a k p lo hi mx K ↔ ∃ r, k2a k p lo hi mx (fun x => x = r) ∧ K r := by
 unfold k2a
 split
 ·constructor
  ·rintro ⟨h1, h2⟩; exact ⟨p, ⟨h1, rfl⟩, h2⟩
  ·rintro ⟨r, ⟨h1, rfl⟩, h2⟩; exact ⟨h1, h2⟩
 split
 ·exact z23 ..
 ·split
  ·exact k7n ..
  ·simp
theorem z0l (n k : Nat) (p : PV) (lo hi mx : Option Int) (K : PV → Prop) : q7p n k p lo hi mx K ↔ ∃ r, q7p n k p lo hi mx (fun x => x = r) ∧ K r := by
 unfold q7p
 split
 ·constructor <;> grind
 ·exact k7n ..
 ·simp
theorem z0m (s : ByteArray) (lo hi : Option Int) (K : PV → Prop) : q9d s lo hi K ↔ ∃ r, q9d s lo hi (fun x => x = r) ∧ K r := by
 unfold q9d
 split <;> first | (simp; done) | (constructor <;> grind)
theorem k5y (v : MVal) (ρ : MX → PV) (st : q5d) (K : PV → Prop) : q7k v ρ st K ↔ ∃ p, q7k v ρ st (fun q => q = p) ∧ K p := by
 cases v
 case bin op T x y => exact j2n op _ _ K
 case pick c a b =>
  simp only [q7k]
  split
  ·rename_i t _
   cases t <;> simp
  ·simp
 case slice k x lo hi mx =>
  simp only [q7k]
  split
  ·exact z6s ..
  ·simp
 case sliceArr n k x lo hi mx =>
  simp only [q7k]
  split
  ·exact z0l ..
  ·simp
 case sliceStr x lo hi =>
  simp only [q7k]
  split
  ·exact z0m ..
  ·simp
 all_goals simp only [q7k]
 all_goals (repeat' split)
 all_goals first | (simp; done) | (constructor <;> grind)
def k4b (P : Program) (Cl : q5d → Prop) (l : List (DFlag × MInst)) (s : PS) (K : PS → Prop) (QP : PV → q5d → Prop) (_ : Tok (Cl, l, K, QP) := ⟨⟩) : Prop := mdraw P Cl l s K QP
def k75 (P : Program) (Cl : q5d → Prop) (fl : DFlag) (op : MOp) (e : Env) (st : q5d) (K QP : PV → q5d → Prop) (_ : Tok (Cl, fl, op, K, QP) := ⟨⟩) : Prop := mdraw.one P Cl fl ⟨none, none, op⟩ ⟨e, st⟩ K QP
theorem Rets.xcall {P : Program} {g : FuncId} {ps : List PV} {st : q5d} {p : PV} (h : Rets P g ps st p) {Q : PEnd → q5d → Prop} (hk : Q (.ret p) st) : xcall P g ps st Q := h.calls hk
def j2o (P : Program) (Cl : q5d → Prop) (g : FuncId) (ps : List PV) (K : PV → Prop) (QP : PV → q5d → Prop) (_ : Tok (Cl, K, QP) := ⟨⟩) : Prop :=
 ∃ p, (∀ st, Cl st → PCalls P g ps st (fun en st' => st' = st ∧ (en = .ret p ∨ ∃ q, en = .panic q ∧ QP q st))) ∧ K p
def k0y (Cl : q5d → Prop) (k : Nat) (agg : Bool) (p : PV) (K : PV → Prop) (_ : Tok (Cl, K) := ⟨⟩) : Prop :=
 ∃ q, (∀ st, Cl st → q7k (.load k agg (.const p)) (q59 []) st (fun r => r = q)) ∧ K q
theorem z0n {Cl : q5d → Prop} {k : Nat} {agg : Bool} {cs : List PV} {off : Nat} {K : PV → Prop} (h : k0w cs off k agg K) : k0y Cl k agg (.iptr cs off) K := by
 have h' : q7k (.load k agg (.const (.iptr cs off))) (q59 []) [] K := h
 obtain ⟨q, h1, h2⟩ := (k5y _ _ _ _).1 h'
 exact ⟨q, fun _ _ => h1, h2⟩
theorem z24 {st0 : q5d} {M : List Nat} {k : Nat} {agg : Bool} {b off : Nat} {T : TypeId} {cs : List PV} {K : PV → Prop} (hb : b ∉ M) (hg : q5w st0 b = some (.arr T cs)) (h : k0w cs off k agg K) : k0y (Cls st0 M) k agg (.ptr b off) K := by
 have key : ∀ (st : q5d) (K' : PV → Prop), q5w st b = some (.arr T cs) → q7k (.load k agg (.const (.ptr b off))) (q59 []) st K' = k0w cs off k agg K' := by
  intro st K' hst
  simp only [q7k, q59, k1t, hst]
  rfl
 obtain ⟨q, h1, h2⟩ := (k5y _ _ _ _).1 ((key st0 K hg).symm ▸ h)
 exact ⟨q, fun st hst => by rw [key st _ (hst b hb _ hg)]; rwa [key st0 _ hg] at h1, h2⟩
@[simp] theorem j2p (c : Nat) (o : PObj) (st : q5d) (b : Nat) : q6u ((c, o) :: st) b = ((¬ c = b ∧ ¬ b = c) ∧ q6u st b) := propext ⟨fun h => h, fun h => h⟩
@[simp] theorem y6j (c : Nat) : q5w [] c = none := by rw [q5w]
@[simp] theorem y4d (b : Nat) (o : PObj) (st : q5d) (c : Nat) : q5w ((b, o) :: st) c = if b = c then some o else q5w st c := by rw [q5w]
theorem Cls.self (st : q5d) (M : List Nat) : Cls st M st := fun _ _ _ h => h
@[simp] theorem y6k (st : q5d) (M : List Nat) : Cls st M st = True := eq_true (Cls.self st M)
@[simp] theorem j2q {st0 st : q5d} {M : List Nat} {b : Nat} {o : PObj} (hn : q6u st b) (h : Cls st0 M st) : Cls st0 M ((b, o) :: st) := fun c hc x hx => by
 have := h c hc x hx
 simp only [q5w]
 rw [if_neg]
 ·exact this
 ·rintro rfl; rw [k3v hn] at this; cases this
@[simp] theorem z8u {st0 st : q5d} {M : List Nat} {b : Nat} {o : PObj} (h : Cls st0 M st) : Cls ((b, o) :: st0) M ((b, o) :: st) := fun c hc x hx => by
 simp only [q5w] at hx ⊢
 split
 ·rename_i e; rw [if_pos e] at hx; exact hx
 ·rename_i e; rw [if_neg e] at hx; exact h c hc x hx
@[simp] theorem y4e {st0 st : q5d} {M : List Nat} {b : Nat} {o o' : PObj} (hb : b ∈ M) (h : Cls st0 M st) : Cls ((b, o) :: st0) M ((b, o') :: st) := fun c hc x hx => by
 have hne : b ≠ c := by rintro rfl; exact hc hb
 simp only [q5w, if_neg hne] at hx ⊢
 exact h c hc x hx
@[simp] theorem j50 {st0 : q5d} {M : List Nat} {k : Nat} {agg : Bool} {b off : Nat} {K : PV → Prop} (hb : b ∉ M) : k0y (Cls st0 M) k agg (.val (.pointer (some ⟨b, off, none⟩))) K = q5p (j1g (q5w st0 b)) fun r => k0w r.2 off k agg K := by
 apply propext
 cases hg : q5w st0 b with
 | none =>
  simp only [j1g, q9k, iff_false]
  rintro ⟨q, h1, -⟩
  have := h1 st0 (Cls.self _ _)
  simp [q7k, q59, k1t, hg] at this
 | some o =>
  cases o with
  | arr T cs =>
   simp only [j5f, q5r]
   refine ⟨?_, fun h => z24 hb hg h⟩
   rintro ⟨q, h1, h2⟩
   have := h1 st0 (Cls.self _ _)
   have h3 : q7k (.load k agg (.const (.ptr b off))) (q59 []) st0 K := (k5y _ _ _ _).2 ⟨q, this, h2⟩
   simpa only [q7k, q59, k1t, hg, k0w] using h3
  | _ =>
   simp only [j1g, q9k, iff_false]
   rintro ⟨q, h1, -⟩
   have := h1 st0 (Cls.self _ _)
   simp [q7k, q59, k1t, hg] at this
@[simp] theorem j51 {st0 : q5d} {M : List Nat} {k : Nat} {agg : Bool} {cs : List PV} {off : Nat} {K : PV → Prop} : k0y (Cls st0 M) k agg (.iptr cs off) K = k0w cs off k agg K := by
 apply propext
 refine ⟨?_, fun h => z0n h⟩
 rintro ⟨q, h1, h2⟩
 exact (k5y (.load k agg (.const (.iptr cs off))) (q59 []) st0 K).2 ⟨q, h1 st0 (Cls.self _ _), h2⟩
section
variable (P : Program) (Cl : q5d → Prop) (K : PS → Prop) (QP : PV → q5d → Prop) (K1 : PV → q5d → Prop) (Q : q7l) (e : Env) (st : q5d)
@[simp ↓] theorem y4f (s : PS) : k4b P Cl [] s K QP = K s := rfl
@[simp ↓] theorem y14 (fl : DFlag) (d : Option Nat) (op : MOp) (l : List (DFlag × MInst)) : k4b P Cl ((fl, ⟨d, none, op⟩) :: l) ⟨e, st⟩ K QP =
  k75 P Cl fl op e st (fun p st' => k0h (⟨k0o e d p, st'⟩ : PS) fun s => k4b P Cl l s K QP) QP := rfl
@[simp ↓] theorem j52 (fl : DFlag) (d : Option Nat) (t : Nat) (op : MOp) (l : List (DFlag × MInst)) : k4b P Cl ((fl, ⟨d, some (t, true), op⟩) :: l) ⟨e, st⟩ K QP = q5p (q6g e t).gd? fun c =>
  onG c (k0h (z2f e t true) fun e => k75 P Cl fl op e st (fun p st' => k0h (⟨k0o e d p, st'⟩ : PS) fun s => k4b P Cl l s K QP) QP)
   (k0h (⟨k0o (z2f e t false) d .undef, st⟩ : PS) fun s => k4b P Cl l s K QP) (k0h (⟨k0o e d .undef, st⟩ : PS) fun s => k4b P Cl l s K QP) := by
 simp only [k4b, mdraw]
 split
 ·rename_i c h; simp only [h, k8c, q5r, j5l, k32]; cases c <;> simp <;> rfl
 ·rename_i vs h
  have hg : (q6g e t).gd? = some .skip := by rw [h]; rfl
  rw [hg, q5r]
  rfl
 ·rename_i h h2; rw [k8d h h2]; simp
@[simp ↓] theorem j53 (fl : DFlag) (d : Option Nat) (t : Nat) (op : MOp) (l : List (DFlag × MInst)) : k4b P Cl ((fl, ⟨d, some (t, false), op⟩) :: l) ⟨e, st⟩ K QP = q5p (q6g e t).gd? fun c =>
  onG c (k0h (⟨k0o (z2f e t true) d .undef, st⟩ : PS) fun s => k4b P Cl l s K QP)
   (k0h (z2f e t false) fun e => k75 P Cl fl op e st (fun p st' => k0h (⟨k0o e d p, st'⟩ : PS) fun s => k4b P Cl l s K QP) QP) (k0h (⟨k0o e d .undef, st⟩ : PS) fun s => k4b P Cl l s K QP) := by
 simp only [k4b, mdraw]
 split
 ·rename_i c h; simp only [h, k8c, q5r, j5l, k32]; cases c <;> simp <;> rfl
 ·rename_i vs h
  have hg : (q6g e t).gd? = some .skip := by rw [h]; rfl
  rw [hg, q5r]
  rfl
 ·rename_i h h2; rw [k8d h h2]; simp
@[simp ↓] theorem j4x (v : MVal) : k75 P Cl .early (.val v) e st K1 QP = q69 v (q59 e) st fun p => K1 p st := rfl
@[simp ↓] theorem y4g (op : MOp) : k75 P Cl .last op e st K1 QP = xop P op (q59 e) st K1 QP := rfl
@[simp ↓] theorem y4h (op : MOp) : k75 P Cl .hard op e st K1 QP = xop P op (q59 e) st (fun p st' => Cl st' ∧ K1 p st') QP := rfl
theorem q6b (v : MVal) (hv : q9z v = false) : k75 P Cl .late (.val v) e st K1 QP = q69 v (q59 e) [] fun p => K1 p st := by
 simp only [k75, mdraw.one, z52, hv, Bool.false_eq_true, if_false, q69]
 exact propext (k5y v (q59 e) [] fun p => K1 p st).symm
@[simp ↓] theorem j77 (x : MX) : k75 P Cl .late (.val (.mv x)) e st K1 QP = q69 (.mv x) (q59 e) [] fun p => K1 p st := q6b P Cl QP K1 e st _ rfl
@[simp ↓] theorem j4y (c a b : MX) : k75 P Cl .late (.val (.pick c a b)) e st K1 QP = q69 (.pick c a b) (q59 e) [] fun p => K1 p st := q6b P Cl QP K1 e st _ rfl
@[simp ↓] theorem z8v (x : MX) : k75 P Cl .late (.val (.nilCheck x)) e st K1 QP = q69 (.nilCheck x) (q59 e) [] fun p => K1 p st := q6b P Cl QP K1 e st _ rfl
@[simp ↓] theorem j54 (op : BinOp) (T : TypeId) (x y : MX) : k75 P Cl .late (.val (.bin op T x y)) e st K1 QP = q69 (.bin op T x y) (q59 e) [] fun p => K1 p st := q6b P Cl QP K1 e st _ rfl
@[simp ↓] theorem j2r (neg : Bool) (ks : List LK) (x y : MX) : k75 P Cl .late (.val (.eqAgg neg ks x y)) e st K1 QP = q69 (.eqAgg neg ks x y) (q59 e) [] fun p => K1 p st := q6b P Cl QP K1 e st _ rfl
@[simp ↓] theorem j78 (op : UnOp) (x : MX) : k75 P Cl .late (.val (.un op x)) e st K1 QP = q69 (.un op x) (q59 e) [] fun p => K1 p st := q6b P Cl QP K1 e st _ rfl
@[simp ↓] theorem j2s (k : IntKind) (x : MX) : k75 P Cl .late (.val (.toInt k x)) e st K1 QP = q69 (.toInt k x) (q59 e) [] fun p => K1 p st := q6b P Cl QP K1 e st _ rfl
@[simp ↓] theorem z6t (off : Nat) (x : MX) : k75 P Cl .late (.val (.fieldAddr off x)) e st K1 QP = q69 (.fieldAddr off x) (q59 e) [] fun p => K1 p st := q6b P Cl QP K1 e st _ rfl
@[simp ↓] theorem z6u (k : Nat) (x i : MX) : k75 P Cl .late (.val (.indexAddr k x i)) e st K1 QP = q69 (.indexAddr k x i) (q59 e) [] fun p => K1 p st := q6b P Cl QP K1 e st _ rfl
@[simp ↓] theorem z8w (n k : Nat) (x i : MX) : k75 P Cl .late (.val (.indexArr n k x i)) e st K1 QP = q69 (.indexArr n k x i) (q59 e) [] fun p => K1 p st := q6b P Cl QP K1 e st _ rfl
@[simp ↓] theorem j55 (x : MX) : k75 P Cl .late (.val (.len x)) e st K1 QP = q69 (.len x) (q59 e) [] fun p => K1 p st := q6b P Cl QP K1 e st _ rfl
@[simp ↓] theorem z96 (i : Nat) (x : MX) : k75 P Cl .late (.val (.extract i x)) e st K1 QP = q69 (.extract i x) (q59 e) [] fun p => K1 p st := q6b P Cl QP K1 e st _ rfl
@[simp ↓] theorem j1j (x : MX) : k75 P Cl .late (.val (.strlen x)) e st K1 QP = q69 (.strlen x) (q59 e) [] fun p => K1 p st := q6b P Cl QP K1 e st _ rfl
@[simp ↓] theorem z5x (T : TypeId) (len : Nat) (zs : List PV) (parts : List (Nat × Nat × MX)) : k75 P Cl .late (.val (.buildSlice T len zs parts)) e st K1 QP = q69 (.buildSlice T len zs parts) (q59 e) [] fun p => K1 p st := q6b P Cl QP K1 e st _ rfl
@[simp ↓] theorem j4z (k : Nat) (agg : Bool) (x : MX) : k75 P Cl .late (.val (.load k agg x)) e st K1 QP = k0y Cl k agg (q59 e x) fun p => K1 p st := by
 simp only [k75, mdraw.one, z52, q9z, if_true, k0y, q7k]
 rfl
@[simp ↓] theorem j40 (g : FuncId) (fs cs : List PV) (args : List MX) : k75 P Cl .late (.call (.const (.func (.func g) fs cs)) args) e st K1 QP = j2o P Cl g (fs ++ args.map (q59 e) ++ cs) (fun p => K1 p st) QP := rfl
@[simp ↓] theorem y6l (l : List (DFlag × MInst)) (ks : List Nat) (s : PS) : xwp P (.draw false l ks) Q s = k4b P (fun _ => True) l s (fun s' => k0h (⟨k0p ks s'.env, s'.st⟩ : PS) fun s' => Q .normal s') (fun p st' => z8t Q p st') := rfl
def DrawLate (P : Program) (l : List (DFlag × MInst)) (K : PS → Prop) (QP : PV → q5d → Prop) (s : PS) (_ : Tok (l, K, QP) := ⟨⟩) : Prop := ∃ Cl : q5d → Prop, Cl s.st ∧ mdraw P Cl l s K QP
theorem DrawLate.intro {P : Program} {l : List (DFlag × MInst)} {K : PS → Prop} {QP : PV → q5d → Prop} {e : Env} {st : q5d} (M : List Nat) (h : k4b P (Cls st M) l ⟨e, st⟩ K QP) : DrawLate P l K QP ⟨e, st⟩ := ⟨_, Cls.self st M, h⟩
theorem DrawLate.by {P : Program} {l : List (DFlag × MInst)} {K : PS → Prop} {QP : PV → q5d → Prop} {e : Env} {st : q5d} (Cl : q5d → Prop) (h0 : Cl st) (h : k4b P Cl l ⟨e, st⟩ K QP) : DrawLate P l K QP ⟨e, st⟩ := ⟨Cl, h0, h⟩
@[simp ↓] theorem j79 (l : List (DFlag × MInst)) (ks : List Nat) (s : PS) : xwp P (.draw true l ks) Q s = DrawLate P l (fun s' => k0h (⟨k0p ks s'.env, s'.st⟩ : PS) fun s' => Q .normal s') (fun p st' => z8t Q p st') s := rfl
end
theorem Has.walk {P : Program} (q5n : P.follows .mixedOrders = true) {g : FuncId} {m : MFunc} (h : Has P g m) {nt np : Nat} {rs : List MRes} {c : MCode} (hm : m = ⟨nt, np, rs, c⟩) {ps : List PV} {st : q5d} {Q : PEnd → q5d → Prop} (hlen : ps.length = np)
  {R E : PV → q5d → Prop} (hR : ∀ p st, R p st → RetView .ret p st Q) (hE : ∀ p st, E p st → RetView .panic p st Q)
  (hw : xwp P c (fun e s => j2m rs R E e s) ⟨q6y 0 ps, st⟩) : PCalls P g ps st Q := by
 subst hm
 exact h.calls q5n hlen hR hE hw
theorem Has.pure {P : Program} (q5n : P.follows .mixedOrders = true) {g : FuncId} {m : MFunc} (h : Has P g m) {nt np : Nat} {rs : List MRes} {c : MCode} (hm : m = ⟨nt, np, rs, c⟩) {ps : List PV} {st : q5d} {p : PV} (hlen : ps.length = np)
  (hw : xwp P c (fun e s => j2m rs (fun q st' => q = p ∧ Over st st') (fun _ _ => False) e s) ⟨q6y 0 ps, st⟩) : Rets P g ps st p := by
 subst hm
 exact h.rets q5n hlen hw
@[simp] theorem j9q (st : q5d) (cs : List PV) (off : Nat) : k1t st (.iptr cs off) = some (cs, off) := rfl
@[simp] theorem y15 (st : q5d) (b off : Nat) : k1t st (.val (.pointer (some ⟨b, off, none⟩))) = (j1g (q5w st b)).map fun r => (r.2, off) := by
 simp only [k1t]
 cases q5w st b with
 | none => rfl
 | some o => cases o <;> rfl
@[simp] theorem y16 (zs : List PV) : k0q zs [] = some zs := rfl
@[simp] theorem j9r (zs : List PV) (off k : Nat) (p : PV) (rest : List (Nat × Nat × PV)) :
  k0q zs ((off, k, p) :: rest) = j5m p.cells fun ps => if ps.length = k ∧ off + k ≤ zs.length then k0q (q5i zs off ps) rest else none := by
 rw [k0q]
 cases p.cells <;> rfl
section
variable (k : IntKind) (n : Int) (c : Bool) (s : ByteArray) (a : Option Addr) (l m : Nat) (r : Option Nat)
@[simp] theorem y4i : (PV.val (.int k n)).cells = some [.val (.int k n)] := rfl
@[simp] theorem y17 : (PV.val (.bool c)).cells = some [.val (.bool c)] := rfl
@[simp] theorem y4j : (PV.val (.string s)).cells = some [.val (.string s)] := rfl
@[simp] theorem y4k : (PV.val (.pointer a)).cells = some [.val (.pointer a)] := rfl
@[simp] theorem j9s : (PV.val (.slice a l m)).cells = some [.val (.slice a l m)] := rfl
@[simp] theorem y4l : (PV.val (.map r)).cells = some [.val (.map r)] := rfl
@[simp] theorem j41 : (PV.val .nilIface).cells = some [.val .nilIface] := rfl
@[simp] theorem y4m (cs : List PV) : (PV.agg cs).cells = some cs := rfl
@[simp] theorem y18 (t : Bool) (cs : List PV) (n : Nat) : (PV.list t cs n).cells = some [.list t cs n] := rfl
@[simp] theorem y19 (cs : List PV) (n : Nat) : (PV.iptr cs n).cells = some [.iptr cs n] := rfl
@[simp] theorem y2a (ks : List Value) (vs : List PV) : (PV.imap ks vs).cells = some [.imap ks vs] := rfl
@[simp] theorem y2b (f : Fn) (fs cs : List PV) : (PV.func f fs cs).cells = some [.func f fs cs] := rfl
@[simp] theorem j9t (T : TypeId) (p : PV) : (PV.iface T p).cells = some [.iface T p] := rfl
end
attribute [simp] q9z j9e q6y q59 q6g k0o j8p k0p z2f k25 q5i k0a
end Go.Pv

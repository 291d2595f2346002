/- All of the pure layer. -/
import Derived.Test.YtnooplpbpfiapaaGreatDoorLSf
import Derived.KernelRfl
namespace Go.Pv
def Has (P : Program) (g : FuncId) (m : MFunc) : Prop := ∃ fn, P.funcs[g]? = some fn ∧ (fn.name == "runtime.NumGoroutine") = false ∧ k81 P fn = some m
theorem Has.calls {P : Program} (q5n : P.follows .mixedOrders = true) {g : FuncId} {m : MFunc} (h : Has P g m) {ps : List PV} {st : q5e} {Q : PEnd → q5e → Prop} (hlen : ps.length = m.nparams)
  {R E : PV → q5e → Prop} (hR : ∀ p st, R p st → RetView .ret p st Q) (hE : ∀ p st, E p st → RetView .panic p st Q)
  (hw : mwp P m.body (k2l m.results R E) ⟨q63 0 ps, st⟩) : PCalls P g ps st Q := by
 obtain ⟨fn, h1, h2, h3⟩ := h
 exact z31 q5n h1 h2 h3 hlen hR hE hw
theorem Sees.refl (p : PV) (st : q5e) : Sees p st p st := ⟨fun I _ _ h1 h2 => ⟨I, I.le_refl, h1, h2⟩⟩
theorem Sees.trans {p q r : PV} {s t u : q5e} (h : Sees p s q t) (k : Sees q t r u) : Sees p s r u := ⟨fun I w v h1 h2 => by
 obtain ⟨I', a, b, c⟩ := h.out I w v h1 h2
 obtain ⟨I'', a', b', c'⟩ := k.out I' w v b c
 exact ⟨I'', Imm.le_trans a a', b', c'⟩⟩
def StLe (st' st : q5e) : Prop := ∀ b o, q5y st' b = some o → q5y st b = some o
theorem StLe.refl (st : q5e) : StLe st st := fun _ _ h => h
theorem StLe.trans {a b c : q5e} (h : StLe a b) (k : StLe b c) : StLe a c := fun x o hx => k x o (h x o hx)
theorem StLe.cons {st : q5e} {b : Nat} {o : PObj} (h : q5y st b = none) : StLe st ((b, o) :: st) := by
 intro c x hc
 simp only [q5y]
 split
 ·rename_i e; subst e; rw [h] at hc; cases hc
 ·exact hc
theorem StLe.fresh {st : q5e} {b : Nat} {o : PObj} (h : q6x st b) : StLe st ((b, o) :: st) := .cons (k35 h)
theorem k58 {n : Nat} : ∀ {st : q5e}, (∀ b o, q5y st b = some o → b < n) → k21 st n
 | [], _ => trivial
 | (b, o) :: st, h => by
  refine ⟨h b o (by simp [q5y]), k58 fun c x hc => ?_⟩
  by_cases hbc : b = c
  ·subst hbc; exact h b o (by simp [q5y])
  ·exact h c x (by simp [q5y, hbc, hc])
theorem SRep.le {I : Imm} {st st' : q5e} {w : World} (h : SRep I st w) (hle : StLe st' st) : SRep I st' w :=
 ⟨h.imm, fun b o hb => h.objs b o (hle b o hb), k58 fun b o hb => h.obj_lt (hle b o hb)⟩
theorem Sees.drop {p : PV} {st st' : q5e} (h : StLe st' st) : Sees p st p st' := ⟨fun I _ _ h1 h2 => ⟨I, I.le_refl, h1.le h, h2⟩⟩
theorem RetView.same {c : PV → PEnd} {p : PV} {st : q5e} {Q : PEnd → q5e → Prop} (h : Q (c p) st) : RetView c p st Q := ⟨p, st, .refl _ _, h⟩
theorem RetView.drop {c : PV → PEnd} {p : PV} {st st' : q5e} {Q : PEnd → q5e → Prop} (hle : StLe st' st) (h : Q (c p) st') : RetView c p st Q := ⟨p, st', .drop hle, h⟩
theorem RetView.fresh1 {c : PV → PEnd} {p : PV} {st : q5e} {b : Nat} {o : PObj} {Q : PEnd → q5e → Prop} (hf : q6x st b) (h : RetView c p st Q) : RetView c p ((b, o) :: st) Q := by
 obtain ⟨p', st', h1, h2⟩ := h
 exact ⟨p', st', (Sees.drop (.fresh hf)).trans h1, h2⟩
theorem View.trans {s t u : PS} (h : View s t) (k : View t u) : View s u := fun I tm w h1 h2 => by
 obtain ⟨I', a, b, c⟩ := h I tm w h1 h2
 obtain ⟨I'', a', b', c'⟩ := k I' tm w b c
 exact ⟨I'', Imm.le_trans a a', b', c'⟩
theorem z9o {e : Env} : ∀ {l : Env} {t : Nat}, (∀ q ∈ l, q6h e q.1 = q.2) → q6h l t = .any ∨ q6h l t = q6h e t
 | [], _, _ => .inl rfl
 | (u, p) :: l, t, h => by
  simp only [q6h]
  by_cases hut : u = t
  ·subst hut
   simp only [if_true]
   exact .inr (h (u, p) (by simp)).symm
  ·simp only [hut, if_false]
   exact z9o fun q hq => h q (by simp [hq])
theorem View.weak {e e' : Env} {st st' : q5e} (he : ∀ q ∈ e', q6h e q.1 = q.2) (hle : StLe st' st) : View ⟨e, st⟩ ⟨e', st'⟩ := fun I tm w h1 h2 =>
 ⟨I, I.le_refl, fun t => by
  rcases z9o (t := t) he with h | h
  ·simp only [h, vrep]
  ·simp only [h]; exact h1 t, h2.le hle⟩
def Over (st0 : q5e) : q5e → Prop
 | [] => st0 = []
 | (b, o) :: st => st0 = (b, o) :: st ∨ q6x st b ∧ Over st0 st
theorem Over.le {st0 : q5e} : ∀ {st : q5e}, Over st0 st → StLe st0 st
 | [], h => by simp only [Over] at h; subst h; exact .refl _
 | (b, o) :: st, h => by
  simp only [Over] at h
  rcases h with rfl | ⟨h1, h2⟩
  ·exact .refl _
  ·exact h2.le.trans (.fresh h1)
@[simp] theorem Over.self (st : q5e) : Over st st := by
 cases st with
 | nil => rfl
 | cons q st => exact .inl rfl
@[simp] theorem Over.cons {st : q5e} (b : Nat) (o : PObj) (st0 : q5e) : Over st0 ((b, o) :: st) ↔ st0 = (b, o) :: st ∨ q6x st b ∧ Over st0 st := .rfl
def Rets (P : Program) (g : FuncId) (ps : List PV) (st : q5e) (p : PV) : Prop := PCalls P g ps st fun e s => e = .ret p ∧ s = st
theorem Has.rets {P : Program} (q5n : P.follows .mixedOrders = true) {g : FuncId} {m : MFunc} (h : Has P g m) {ps : List PV} {st : q5e} {p : PV} (hlen : ps.length = m.nparams)
  (hw : mwp P m.body (k2l m.results (fun q st' => q = p ∧ Over st st') (fun _ _ => False)) ⟨q63 0 ps, st⟩) : Rets P g ps st p :=
 h.calls q5n hlen (fun _ _ ⟨h1, h2⟩ => .drop h2.le ⟨by rw [h1], rfl⟩) (fun _ _ h => h.elim) hw
theorem Rets.calls {P : Program} {g : FuncId} {ps : List PV} {st : q5e} {p : PV} (h : Rets P g ps st p) {Q : PEnd → q5e → Prop} (hq : Q (.ret p) st) : PCalls P g ps st Q :=
 PCalls.mono h fun e s ⟨h1, h2⟩ => by subst h1; subst h2; exact hq
@[congr] theorem j8f {P : Program} {g : FuncId} {ps ps' : List PV} {st st' : q5e} {Q : PEnd → q5e → Prop} (h1 : ps = ps') (h2 : st = st') : PCalls P g ps st Q = PCalls P g ps' st' Q := by
 subst h1; subst h2; rfl
@[congr] theorem j6c {V : PS → PS → Prop} {body : q7q → PS → Prop} {Q : q7q} {s s' : PS} (h : s = s') : z3m V body Q s = z3m V body Q s' := by subst h; rfl
@[congr] theorem j6d {c : PV → PEnd} {p p' : PV} {st st' : q5e} {Q : PEnd → q5e → Prop} (h : p = p') (h2 : st = st') : RetView c p st Q = RetView c p' st' Q := by subst h; subst h2; rfl
universe u
structure Tok {α : Sort u} (a : α) : Type where
def q5r {α : Type} (o : Option α) (K : α → Prop) (_ : Tok K := ⟨⟩) : Prop := ∃ a, o = some a ∧ K a
@[simp ↓, simp] theorem q5s {α : Type} (a : α) (K : α → Prop) : q5r (some a) K = K a := by simp [q5r]
@[simp] theorem q9t {α : Type} (K : α → Prop) : q5r none K = False := by simp [q5r]
def PV.bool? : PV → Option Bool
 | .val (.bool c) => some c
 | _ => none
@[simp] theorem z2j (c : Bool) : PV.bool? (.val (.bool c)) = some c := rfl
def PV.int? : PV → Option (IntKind × Int)
 | .val (.int k n) => some (k, n)
 | _ => none
@[simp] theorem z9p (k : IntKind) (n : Int) : PV.int? (.val (.int k n)) = some (k, n) := rfl
def PV.str? : PV → Option ByteArray
 | .val (.string s) => some s
 | _ => none
@[simp] theorem y60 (s : ByteArray) : PV.str? (.val (.string s)) = some s := rfl
def PV.agg? : PV → Option (List PV)
 | .agg cs => some cs
 | _ => none
@[simp] theorem y61 (cs : List PV) : PV.agg? (.agg cs) = some cs := rfl
def PV.tuple? : PV → Option (List PV)
 | .tuple cs => some cs
 | _ => none
@[simp] theorem j8g (cs : List PV) : PV.tuple? (.tuple cs) = some cs := rfl
def PV.func? : PV → Option (FuncId × List PV × List PV)
 | .func (.func g) fs cs => some (g, fs, cs)
 | _ => none
@[simp] theorem j05 (g : FuncId) (fs cs : List PV) : PV.func? (.func (.func g) fs cs) = some (g, fs, cs) := rfl
def PV.iface? : PV → Option (TypeId × PV)
 | .iface T p => some (T, p)
 | _ => none
@[simp] theorem j8h (T : TypeId) (p : PV) : PV.iface? (.iface T p) = some (T, p) := rfl
def PV.ptr? : PV → Option (Nat × Nat)
 | .val (.pointer (some ⟨b, off, none⟩)) => some (b, off)
 | _ => none
@[simp] theorem j6e (b off : Nat) : PV.ptr? (.val (.pointer (some ⟨b, off, none⟩))) = some (b, off) := rfl
def j2e : Option PObj → Option (TypeId × List PV)
 | some (.arr T cs) => some (T, cs)
 | _ => none
@[simp] theorem j6f (T : TypeId) (cs : List PV) : j2e (some (.arr T cs)) = some (T, cs) := rfl
def onB (c : Bool) (A B : Prop) (_ : Tok (A, B) := ⟨⟩) : Prop := (c = true → A) ∧ (c = false → B)
@[simp ↓, simp] theorem y62 (A B : Prop) : onB true A B = A := by simp [onB]
@[simp ↓, simp] theorem y36 (A B : Prop) : onB false A B = B := by simp [onB]
@[simp] theorem y2e (p : Prop) [Decidable p] (A B : Prop) : onB (decide p) A B = ((p → A) ∧ (¬ p → B)) := by simp [onB]
@[simp] theorem y8r (c : Bool) (A B : Prop) : onB (!c) A B = onB c B A := by cases c <;> simp
@[simp low] theorem onB_eq (c : Bool) (A B : Prop) : onB c A B = ((c = true → A) ∧ (c = false → B)) := rfl
theorem k59 (p : PV) : k70 p = p.int?.map (·.2) := by
 cases p <;> try rfl
 rename_i v; cases v <;> rfl
def q64 (op : MVal) (ρ : MX → PV) (st : q5e) (K : PV → Prop) (_ : Tok K := ⟨⟩) : Prop := q7n op ρ st K
def k4i (op : BinOp) (p q : PV) (K : PV → Prop) (_ : Tok K := ⟨⟩) : Prop := z1b op p q K
def k05 (cs : List PV) (off k : Nat) (agg : Bool) (K : PV → Prop) (_ : Tok K := ⟨⟩) : Prop :=
 if agg then ∃ ps, sub cs off k = some ps ∧ K (.agg ps) else ∃ p, cs[off]? = some p ∧ K p
@[simp] theorem j92 (cs : List PV) (off k : Nat) (K : PV → Prop) : k05 cs off k true K = q5r (sub cs off k) fun ps => K (.agg ps) := by simp [k05, q5r]
@[simp] theorem j8i (cs : List PV) (off k : Nat) (K : PV → Prop) : k05 cs off k false K = q5r (cs[off]?) K := by simp [k05, q5r]
theorem j8j (cs : List PV) (off k : Nat) : sub cs off k = if off + k ≤ cs.length then some ((cs.drop off).take k) else none := rfl
@[simp] theorem y8s (c : PV) (cs : List PV) (off k : Nat) : sub (c :: cs) off k = if off + k ≤ (c :: cs).length then some (((c :: cs).drop off).take k) else none := rfl
section
variable (ρ : MX → PV) (st : q5e) (K : PV → Prop)
@[simp ↓] theorem y8t (x : MX) : q64 (.mv x) ρ st K = K (ρ x) := rfl
@[simp ↓] theorem y37 (c a b : MX) : q64 (.pick c a b) ρ st K = q5r (ρ c).bool? fun t => onB t (K (ρ a)) (K (ρ b)) := by
 simp only [q64, q7n]; split <;> simp_all [PV.bool?]
@[simp ↓] theorem y2f (zs : List PV) (parts : List (Nat × Nat × MX)) : q64 (.build zs parts) ρ st K = q5r (k0z zs (parts.map fun q => (q.1, q.2.1, ρ q.2.2))) fun cs => K (.agg cs) := by
 simp only [q64, q7n]; split <;> simp_all
@[simp ↓] theorem j26 (T : TypeId) (len : Nat) (zs : List PV) (parts : List (Nat × Nat × MX)) : q64 (.buildSlice T len zs parts) ρ st K = q5r (k0z zs (parts.map fun q => (q.1, q.2.1, ρ q.2.2))) fun cs => K (.list true cs len) := by
 simp only [q64, q7n]; split <;> simp_all
@[simp ↓] theorem j27 (k : Nat) (agg : Bool) (x : MX) : q64 (.load k agg x) ρ st K = q5r (k10 st (ρ x)) fun r => k05 r.1 r.2 k agg K := by
 simp only [q64, q7n]; split <;> simp_all [k05]
def j28 (p : PV) (K : PV → Prop) (_ : Tok K := ⟨⟩) : Prop :=
 match p with
 | .iptr cs off => K (.iptr cs off)
 | .val (.pointer (some a)) => K (.val (.pointer (some a)))
 | .func (.func f) fs cs => K (.func (.func f) fs cs)
 | .func (.yield l) fs cs => K (.func (.yield l) fs cs)
 | _ => False
@[simp] theorem y2g (cs : List PV) (off : Nat) : j28 (.iptr cs off) K = K (.iptr cs off) := rfl
@[simp] theorem y38 (a : Addr) : j28 (.val (.pointer (some a))) K = K (.val (.pointer (some a))) := rfl
@[simp] theorem j93 (l : Nat) (fs cs : List PV) : j28 (.func (.yield l) fs cs) K = K (.func (.yield l) fs cs) := rfl
@[simp] theorem y2h (f : FuncId) (fs cs : List PV) : j28 (.func (.func f) fs cs) K = K (.func (.func f) fs cs) := rfl
@[simp ↓] theorem j6g (x : MX) : q64 (.nilCheck x) ρ st K = j28 (ρ x) K := rfl
@[simp ↓] theorem y63 (op : BinOp) (T : TypeId) (x y : MX) : q64 (.bin op T x y) ρ st K = k4i op (ρ x) (ρ y) K := rfl
section
variable (k k' : IntKind) (a b : Int) (s t : ByteArray)
@[simp] theorem j94 : k4i .add (.val (.int k a)) (.val (.int k' b)) K = (k = k' ∧ K (.val (.int k (k.wrap (a + b))))) := rfl
@[simp] theorem y8u : k4i .sub (.val (.int k a)) (.val (.int k' b)) K = (k = k' ∧ K (.val (.int k (k.wrap (a - b))))) := rfl
@[simp] theorem y8v : k4i .mul (.val (.int k a)) (.val (.int k' b)) K = (k = k' ∧ K (.val (.int k (k.wrap (a * b))))) := rfl
@[simp] theorem y8w : k4i .quo (.val (.int k a)) (.val (.int k' b)) K = (k = k' ∧ b ≠ 0 ∧ K (.val (.int k (k.wrap (a.tdiv b))))) := rfl
@[simp] theorem y8x : k4i .rem (.val (.int k a)) (.val (.int k' b)) K = (k = k' ∧ b ≠ 0 ∧ K (.val (.int k (a.tmod b)))) := rfl
@[simp] theorem j95 : k4i .shl (.val (.int k a)) (.val (.int k' b)) K = (0 ≤ b ∧ K (.val (.int k (k.wrap (a * 2 ^ min b.toNat k.bits))))) := rfl
@[simp] theorem j96 : k4i .shr (.val (.int k a)) (.val (.int k' b)) K = (0 ≤ b ∧ K (.val (.int k (a.fdiv (2 ^ min b.toNat k.bits))))) := rfl
@[simp] theorem j29 : k4i .and (.val (.int k a)) (.val (.int k' b)) K = (k = k' ∧ K (.val (.int k (k.wrap (BitVec.ofInt k.bits a &&& BitVec.ofInt k.bits b).toNat)))) := rfl
@[simp] theorem y39 : k4i .or (.val (.int k a)) (.val (.int k' b)) K = (k = k' ∧ K (.val (.int k (k.wrap (BitVec.ofInt k.bits a ||| BitVec.ofInt k.bits b).toNat)))) := rfl
@[simp] theorem j97 : k4i .xor (.val (.int k a)) (.val (.int k' b)) K = (k = k' ∧ K (.val (.int k (k.wrap (BitVec.ofInt k.bits a ^^^ BitVec.ofInt k.bits b).toNat)))) := rfl
@[simp] theorem y2i : k4i .andNot (.val (.int k a)) (.val (.int k' b)) K = (k = k' ∧ K (.val (.int k (k.wrap (BitVec.ofInt k.bits a &&& ~~~ BitVec.ofInt k.bits b).toNat)))) := rfl
@[simp] theorem y8y : k4i .eql (.val (.int k a)) (.val (.int k' b)) K = (k = k' ∧ K (.val (.bool (decide (a = b))))) := by
 have : (a == b) = decide (a = b) := rfl
 simp only [k4i, z1b, k5p, z3h, this]
@[simp] theorem y8z : k4i .neq (.val (.int k a)) (.val (.int k' b)) K = (k = k' ∧ K (.val (.bool (decide (a ≠ b))))) := by
 have : (a != b) = decide (a ≠ b) := by by_cases h : a = b <;> simp [h]
 simp only [k4i, z1b, k5p, z3h, this]
@[simp] theorem y80 : k4i .lss (.val (.int k a)) (.val (.int k' b)) K = (k = k' ∧ K (.val (.bool (decide (a < b))))) := rfl
@[simp] theorem y81 : k4i .leq (.val (.int k a)) (.val (.int k' b)) K = (k = k' ∧ K (.val (.bool (decide (a ≤ b))))) := rfl
@[simp] theorem y82 : k4i .gtr (.val (.int k a)) (.val (.int k' b)) K = (k = k' ∧ K (.val (.bool (decide (b < a))))) := rfl
@[simp] theorem y83 : k4i .geq (.val (.int k a)) (.val (.int k' b)) K = (k = k' ∧ K (.val (.bool (decide (b ≤ a))))) := rfl
@[simp] theorem y84 : k4i .add (.val (.string s)) (.val (.string t)) K = (s.size + t.size < 2 ^ 62 ∧ K (.val (.string (s ++ t)))) := rfl
theorem j06 : (s.toList == t.toList) = decide (s = t) := by
 by_cases h : s = t
 ·simp [h]
 ·have : s.toList ≠ t.toList := by
   intro e
   rw [ByteArray.toList_eq, ByteArray.toList_eq] at e
   exact h (ByteArray.ext (Array.ext' e))
  simp [h, this]
@[simp] theorem y64 : k4i .eql (.val (.string s)) (.val (.string t)) K = K (.val (.bool (decide (s = t)))) := by
 simp only [k4i, z1b, z67, j06]
@[simp] theorem y65 : k4i .lss (.val (.string s)) (.val (.string t)) K = K (.val (.bool (Op.bytesLess s.toList t.toList))) := rfl
end
@[simp ↓] theorem y2j (neg : Bool) (ks : List LK) (x y : MX) : q64 (.eqAgg neg ks x y) ρ st K = q5r (ρ x).agg? fun cs => q5r (ρ y).agg? fun ds => q5r (q6d ks cs ds) fun b => K (.bool (if neg then !b else b)) := by
 simp only [q64, q7n]; split <;> simp_all [q5r, PV.agg?]
 rename_i h
 intro x h1 y h2
 split at h1 <;> split at h2 <;> simp_all
@[simp ↓] theorem j98 (neg : Bool) (x y : MX) : q64 (.eqBool neg x y) ρ st K = q5r (ρ x).bool? fun a => q5r (ρ y).bool? fun b => K (.bool (if neg then !(a == b) else (a == b))) := by
 simp only [q64, q7n]
 split
 ·rename_i h1 h2; simp only [h1, h2, z2j, q5s]
 ·rename_i h
  simp only [q5r, eq_iff_iff, false_iff]
  rintro ⟨a, h1, b, h2, -⟩
  unfold PV.bool? at h1 h2
  split at h1
  ·split at h2
   ·rename_i h3 _ _ h4; exact h _ _ h3 h4
   ·cases h2
  ·cases h1
@[simp] theorem y2k (k k' : IntKind) (a b : Int) : q97 .int (.val (.int k a)) (.val (.int k' b)) = if k = k' then some (decide (a = b)) else none := rfl
@[simp] theorem j99 (a b : Bool) : q97 .bool (.val (.bool a)) (.val (.bool b)) = some (a == b) := rfl
@[simp] theorem y0a : q6d [] [] [] = some true := rfl
def y85 : Option Bool → Option Bool → Option Bool
 | some a, some b => some (a && b)
 | _, _ => none
@[simp] theorem y4a (a b : Bool) : y85 (some a) (some b) = some (a && b) := rfl
@[simp] theorem j8k (k : LK) (ks : List LK) (p q : PV) (ps qs : List PV) : q6d (k :: ks) (p :: ps) (q :: qs) = y85 (q97 k p q) (q6d ks ps qs) := by
 simp only [q6d]
 cases q97 k p q <;> cases q6d ks ps qs <;> rfl
@[simp ↓] theorem y66 (x : MX) : q64 (.un .neg x) ρ st K = q5r (ρ x).int? fun q => K (.val (.int q.1 (q.1.wrap (0 - q.2)))) := by
 simp only [q64, q7n]; cases h : ρ x <;> simp [PV.int?]
 rename_i v; cases v <;> simp
def y0b (p : PV) (K : PV → Prop) (_ : Tok K := ⟨⟩) : Prop :=
 match p with
 | .val (.int k n) => K (.val (.int k (k.wrap (BitVec.ofInt k.bits (if k.signed then -1 else k.max) ^^^ BitVec.ofInt k.bits n).toNat)))
 | _ => False
@[simp ↓] theorem y2l (x : MX) : q64 (.un .xor x) ρ st K = y0b (ρ x) K := by
 simp only [q64, q7n, y0b]
 split <;> simp_all
@[simp ↓] theorem y67 (x : MX) : q64 (.un .not x) ρ st K = q5r (ρ x).bool? fun b => K (.val (.bool !b)) := by
 simp only [q64, q7n]; cases h : ρ x <;> simp [PV.bool?]
 rename_i v; cases v <;> simp
@[simp ↓] theorem y2m (k : IntKind) (x : MX) : q64 (.toInt k x) ρ st K = q5r (ρ x).int? fun q => K (.val (.int k (k.wrap q.2))) := by
 simp only [q64, q7n]; cases h : ρ x <;> simp [PV.int?]
 rename_i v; cases v <;> simp
@[simp ↓] theorem j8l (T : TypeId) (x : MX) : q64 (.mkIface T x) ρ st K = K (.iface T (ρ x)) := rfl
@[simp ↓] theorem y0c (fn : Fn) (fs cs : List MX) : q64 (.mkFunc fn fs cs) ρ st K = K (.func fn (fs.map ρ) (cs.map ρ)) := rfl
def k45 (off : Nat) (p : PV) (K : PV → Prop) (_ : Tok K := ⟨⟩) : Prop :=
 match p with
 | .iptr cs k => K (.iptr cs (k + off))
 | .val (.pointer (some ⟨b, k, none⟩)) => K (.ptr b (k + off))
 | _ => False
@[simp] theorem j2f (off : Nat) (cs : List PV) (k : Nat) : k45 off (.iptr cs k) K = K (.iptr cs (k + off)) := rfl
@[simp] theorem j3a (off b k : Nat) : k45 off (.val (.pointer (some ⟨b, k, none⟩))) K = K (.ptr b (k + off)) := rfl
@[simp ↓] theorem j5t (off : Nat) (x : MX) : q64 (.fieldAddr off x) ρ st K = k45 off (ρ x) K := rfl
def q8h (k : Nat) (p : PV) (j : Int) (K : PV → Prop) (_ : Tok K := ⟨⟩) : Prop :=
 match p with
 | .list _ cs n => 0 ≤ j ∧ j < n ∧ j.toNat * k < cs.length ∧ K (.iptr cs (j.toNat * k))
 | .val (.slice (some ⟨b, off, none⟩) n _) => 0 ≤ j ∧ j < n ∧ K (.ptr b (off + j.toNat * k))
 | _ => False
@[simp] theorem j2g (k : Nat) (t : Bool) (cs : List PV) (n : Nat) (j : Int) : q8h k (.list t cs n) j K = (0 ≤ j ∧ j < n ∧ j.toNat * k < cs.length ∧ K (.iptr cs (j.toNat * k))) := rfl
@[simp] theorem j3b (k b off n c : Nat) (j : Int) : q8h k (.val (.slice (some ⟨b, off, none⟩) n c)) j K = (0 ≤ j ∧ j < n ∧ K (.ptr b (off + j.toNat * k))) := rfl
@[simp] theorem j3c (k : Nat) (j : Int) : q8h k (.val (.slice none 0 0)) j K = False := rfl
@[simp ↓] theorem j5u (k : Nat) (x i : MX) : q64 (.indexAddr k x i) ρ st K = q5r (ρ i).int? fun q => q8h k (ρ x) q.2 K := by
 simp only [q64, q7n]
 rw [k59]
 cases h : (ρ i).int? with
 | none => simp
 | some q =>
  simp only [Option.map_some, q5s]
  cases hx : ρ x with
  | val v =>
   cases v with
   | slice a n c =>
    cases a with
    | none =>
     cases n <;> cases c <;> simp [PV.asList, q8h]
    | some a => obtain ⟨b, off, t⟩ := a; cases t <;> simp [PV.asList, q8h]
   | _ => simp [PV.asList, q8h]
  | _ => simp [PV.asList, q8h]
def k68 (n k : Nat) (p : PV) (j : Int) (K : PV → Prop) (_ : Tok K := ⟨⟩) : Prop :=
 match p with
 | .iptr cs off => 0 ≤ j ∧ j < n ∧ K (.iptr cs (off + j.toNat * k))
 | .val (.pointer (some ⟨b, off, none⟩)) => 0 ≤ j ∧ j < n ∧ K (.ptr b (off + j.toNat * k))
 | _ => False
@[simp] theorem j3d (n k : Nat) (cs : List PV) (off : Nat) (j : Int) : k68 n k (.iptr cs off) j K = (0 ≤ j ∧ j < n ∧ K (.iptr cs (off + j.toNat * k))) := rfl
@[simp] theorem j5v (n k b off : Nat) (j : Int) : k68 n k (.val (.pointer (some ⟨b, off, none⟩))) j K = (0 ≤ j ∧ j < n ∧ K (.ptr b (off + j.toNat * k))) := rfl
@[simp ↓] theorem j6h (n k : Nat) (x i : MX) : q64 (.indexArr n k x i) ρ st K = q5r (ρ i).int? fun q => k68 n k (ρ x) q.2 K := by
 simp only [q64, q7n]
 rw [k59]
 cases h : (ρ i).int? with
 | none => simp
 | some q => simp only [Option.map_some, q5s]; rfl
@[simp ↓] theorem y2n (n k : Nat) (agg : Bool) (x i : MX) : q64 (.index n k agg x i) ρ st K = q5r (ρ i).int? fun q => q5r (ρ x).agg? fun cs => 0 ≤ q.2 ∧ q.2 < n ∧ k05 cs (q.2.toNat * k) k agg K := by
 simp only [q64, q7n]
 rw [k59]
 cases h : (ρ i).int? with
 | none => simp
 | some q => cases hx : ρ x <;> simp [PV.agg?, k05]
def PV.len? : PV → Option Nat
 | .list _ _ n => some n
 | .val (.slice _ n _) => some n
 | _ => none
@[simp] theorem y4b (t : Bool) (cs : List PV) (n : Nat) : PV.len? (.list t cs n) = some n := rfl
@[simp] theorem y68 (a : Option Addr) (n c : Nat) : PV.len? (.val (.slice a n c)) = some n := rfl
@[simp ↓] theorem y69 (x : MX) : q64 (.len x) ρ st K = q5r (ρ x).len? fun n => K (.int n) := by
 simp only [q64, q7n]
 cases hx : ρ x with
 | val v =>
  cases v with
  | slice a n c =>
   cases a with
   | none => cases n <;> cases c <;> simp [PV.asList]
   | some a => simp [PV.asList]
  | _ => simp [PV.asList, PV.len?]
 | _ => simp [PV.asList, PV.len?]
@[simp ↓] theorem y0d (x : MX) : q64 (.strlen x) ρ st K = q5r (ρ x).str? fun s => K (.int s.size) := by
 simp only [q64, q7n]
 cases hx : ρ x with
 | val v => cases v <;> simp [PV.str?]
 | _ => simp [PV.str?]
def PV.cap? : PV → Option Nat
 | .list true _ n => some n
 | .val (.slice _ _ c) => some c
 | _ => none
@[simp] theorem y4c (cs : List PV) (n : Nat) : PV.cap? (.list true cs n) = some n := rfl
@[simp] theorem y7a (a : Option Addr) (n c : Nat) : PV.cap? (.val (.slice a n c)) = some c := rfl
@[simp ↓] theorem y7b (x : MX) : q64 (.cap x) ρ st K = q5r (ρ x).cap? fun n => K (.int n) := by
 simp only [q64, q7n]
 cases hx : ρ x with
 | val v => cases v <;> simp [PV.cap?]
 | list t cs n => cases t <;> simp [PV.cap?]
 | _ => simp [PV.cap?]
@[simp ↓] theorem j8m (i : Nat) (x : MX) : q64 (.extract i x) ρ st K = q5r (ρ x).tuple? fun ps => q5r (ps[i]?) K := by
 simp only [q64, q7n]
 cases hx : ρ x <;> simp [PV.tuple?, q5r]
def z9q (isMax : Bool) (ps : List PV) (K : PV → Prop) (_ : Tok K := ⟨⟩) : Prop :=
 match ps with
 | [.val (.int k a), .val (.int _ b)] => K (.val (.int k (if isMax then (if b > a then b else a) else (if b < a then b else a))))
 | _ => False
@[simp] theorem j8n (m : Bool) (k k' : IntKind) (a b : Int) : z9q m [.val (.int k a), .val (.int k' b)] K = K (.val (.int k (if m then (if b > a then b else a) else (if b < a then b else a)))) := rfl
@[simp ↓] theorem y0e (m : Bool) (xs : List MX) : q64 (.minmax m xs) ρ st K = z9q m (xs.map ρ) K := rfl
def z37 (T : TypeId) (z : PV) (ok : Bool) (p : PV) (K : PV → Prop) (_ : Tok K := ⟨⟩) : Prop :=
 match p with
 | .iface U p => if U = T then (if ok then K (.tuple [p, .bool true]) else K p) else (ok = true ∧ K (.tuple [z, .bool false]))
 | .val .nilIface => ok = true ∧ K (.tuple [z, .bool false])
 | _ => False
@[simp] theorem j5w (T U : TypeId) (z : PV) (ok : Bool) (p : PV) : z37 T z ok (.iface U p) K = if U = T then (if ok then K (.tuple [p, .bool true]) else K p) else (ok = true ∧ K (.tuple [z, .bool false])) := rfl
@[simp] theorem j8o (T : TypeId) (z : PV) (ok : Bool) : z37 T z ok (.val .nilIface) K = (ok = true ∧ K (.tuple [z, .bool false])) := rfl
@[simp ↓] theorem y0f (T : TypeId) (z : PV) (ok : Bool) (x : MX) : q64 (.assert T z ok x) ρ st K = z37 T z ok (ρ x) K := rfl
@[simp] theorem y7c (ρ : MX → PV) : bnd ρ none = some none := rfl
@[simp] theorem y7d (ρ : MX → PV) (x : MX) : bnd ρ (some x) = (ρ x).int?.map fun q => some q.2 := by
 simp only [bnd, k59]
 cases (ρ x).int? <;> rfl
def k69 (s : ByteArray) (lo hi : Option Int) (K : PV → Prop) (_ : Tok K := ⟨⟩) : Prop := q9m s lo hi K
@[simp] theorem j6i (s : ByteArray) (l : Int) : k69 s (some l) none K = (0 ≤ l ∧ l ≤ s.size ∧ K (.str (s.extract l.toNat s.size))) := rfl
@[simp] theorem j6j (s : ByteArray) (h : Int) : k69 s none (some h) K = (0 ≤ h ∧ h ≤ s.size ∧ K (.str (s.extract 0 h.toNat))) := rfl
@[simp] theorem j3e (s : ByteArray) (l h : Int) : k69 s (some l) (some h) K = (0 ≤ l ∧ l ≤ h ∧ h ≤ s.size ∧ K (.str (s.extract l.toNat h.toNat))) := rfl
@[simp] theorem z2k (b off n cap : Nat) (lo hi mx : Option Int) : j2l (.val (.slice (some ⟨b, off, none⟩) n cap)) lo hi mx = false := rfl
def k06 (k : Nat) (p : PV) (lo hi mx : Option Int) (K : PV → Prop) (_ : Tok K := ⟨⟩) : Prop := k2k k p lo hi mx K
section
variable (k n b off cap : Nat) (t : Bool) (cs : List PV) (l h m : Int)
@[simp] theorem y4d : k06 k (.list t cs n) none none none K = K (.list t cs n) := rfl
@[simp] theorem y4e : k06 k (.list t cs n) (some l) none none K = (0 ≤ l ∧ l ≤ n ∧ cs.length ≤ n * k ∧ K (.list t (cs.drop (l.toNat * k)) (n - l.toNat))) := rfl
@[simp] theorem y4f : k06 k (.list t cs n) none (some h) none K = (0 ≤ h ∧ h ≤ n ∧ K (.list false (cs.take (h.toNat * k)) h.toNat)) := rfl
@[simp] theorem y4g : k06 k (.list t cs n) (some l) (some h) none K = (0 ≤ l ∧ l ≤ h ∧ h ≤ n ∧ K (.list false ((cs.take (h.toNat * k)).drop (l.toNat * k)) (h.toNat - l.toNat))) := rfl
@[simp] theorem y4h : k06 k (.list t cs n) none (some h) (some m) K = (0 ≤ h ∧ h ≤ m ∧ m ≤ n ∧ K (.list (decide (h = m)) (cs.take (h.toNat * k)) h.toNat)) := rfl
@[simp] theorem y4i : k06 k (.list t cs n) (some l) (some h) (some m) K = (0 ≤ l ∧ l ≤ h ∧ h ≤ m ∧ m ≤ n ∧ K (.list (decide (h = m)) ((cs.take (h.toNat * k)).drop (l.toNat * k)) (h.toNat - l.toNat))) := rfl
@[simp] theorem y4j : k06 k (.val (.slice none 0 0)) none none none K = K .nil := rfl
@[simp] theorem y4k : k06 k (.val (.slice none 0 0)) (some l) none none K = (0 ≤ l ∧ l ≤ ((0 : Nat) : Int) ∧ ([] : List PV).length ≤ 0 * k ∧ K (.list true (([] : List PV).drop (l.toNat * k)) (0 - l.toNat))) := rfl
@[simp] theorem y4l : k06 k (.val (.slice none 0 0)) none (some h) none K = (h = 0 ∧ K .nil) := rfl
@[simp] theorem y4m : k06 k (.val (.slice none 0 0)) none (some h) (some m) K = (0 ≤ h ∧ h ≤ m ∧ m ≤ ((0 : Nat) : Int) ∧ K (.list (decide (h = m)) (([] : List PV).take (h.toNat * k)) h.toNat)) := rfl
@[simp] theorem y4n : k06 k (.val (.slice (some ⟨b, off, none⟩) n cap)) (some l) none none K = (n ≤ cap ∧ 0 ≤ l ∧ l ≤ n ∧ (l = cap → K (.list true [] 0)) ∧ (l < cap → K (.own b (off + l.toNat * k) (n - l.toNat) (cap - l.toNat)))) := by
 simp only [k06, k2k, z2k, Bool.false_eq_true, if_false, PV.asList, q8y]
 simp
@[simp] theorem y4o : k06 k (.val (.slice (some ⟨b, off, none⟩) n cap)) none (some h) none K = (0 ≤ h ∧ h ≤ cap ∧ K (.own b off h.toNat cap)) := by
 simp only [k06, k2k, z2k, Bool.false_eq_true, if_false, PV.asList, q8y]
 simp
end
@[simp ↓] theorem y2o (k : Nat) (x : MX) (lo hi mx : Option MX) : q64 (.slice k x lo hi mx) ρ st K = q5r (bnd ρ lo) fun l => q5r (bnd ρ hi) fun h => q5r (bnd ρ mx) fun m => k06 k (ρ x) l h m K := by
 simp only [q64, q7n]
 split
 ·rename_i h1 h2 h3
  simp only [h1, h2, h3, q5s]
  rfl
 ·rename_i hn
  simp only [q5r, eq_iff_iff, false_iff]
  rintro ⟨l, h1, h, h2, m, h3, -⟩
  exact hn l h m h1 h2 h3
def q9e (n k : Nat) (p : PV) (lo hi mx : Option Int) (K : PV → Prop) (_ : Tok K := ⟨⟩) : Prop := q7t n k p lo hi mx K
section
variable (k n b off : Nat) (cs : List PV) (l h m : Int)
@[simp] theorem j8p : q9e n k (.val (.pointer (some ⟨b, off, none⟩))) none none none K = K (.own b off n n) := by
 simp only [q9e, q7t, q8y]
 simp
@[simp] theorem j8q : q9e n k (.val (.pointer (some ⟨b, off, none⟩))) (some l) none none K = (0 ≤ l ∧ l ≤ n ∧ (l = n → K (.list true [] 0)) ∧ (l < n → K (.own b (off + l.toNat * k) (n - l.toNat) (n - l.toNat)))) := by
 simp only [q9e, q7t, q8y]
 simp
@[simp] theorem j8r : q9e n k (.val (.pointer (some ⟨b, off, none⟩))) none (some h) none K = (0 ≤ h ∧ h ≤ n ∧ K (.own b off h.toNat n)) := by
 simp only [q9e, q7t, q8y]
 simp
end
@[simp ↓] theorem j6k (n k : Nat) (x : MX) (lo hi mx : Option MX) : q64 (.sliceArr n k x lo hi mx) ρ st K = q5r (bnd ρ lo) fun l => q5r (bnd ρ hi) fun h => q5r (bnd ρ mx) fun m => q9e n k (ρ x) l h m K := by
 simp only [q64, q7n]
 split
 ·rename_i h1 h2 h3
  simp only [h1, h2, h3, q5s]
  rfl
 ·rename_i hn
  simp only [q5r, eq_iff_iff, false_iff]
  rintro ⟨l, h1, h, h2, m, h3, -⟩
  exact hn l h m h1 h2 h3
@[simp ↓] theorem y2p (x : MX) : q64 (.strOf x) ρ st K = q5r (q7g 1 st (ρ x)) fun r => q5r (k0m r.1) fun bs => K (.str ⟨bs.toArray⟩) := by
 simp only [q64, q7n]
 split
 ·rename_i cs n h
  simp only [h, q5s]
  split
  ·rename_i bs hb; simp only [hb, q5s]
  ·rename_i hb; simp only [hb, q9t]
 ·rename_i h; simp only [h, q9t]
def j3f (r : Option (Option Nat)) (vs : List PV) (z : PV) (ok : Bool) (K : PV → Prop) (_ : Tok K := ⟨⟩) : Prop :=
 match r with
 | some (some j) => ∃ p, vs[j]? = some p ∧ K (if ok then .tuple [p, .bool true] else p)
 | some none => K (if ok then .tuple [z, .bool false] else z)
 | none => False
@[simp] theorem y86 (j : Nat) (vs : List PV) (z : PV) : j3f (some (some j)) vs z true K = q5r (vs[j]?) fun p => K (.tuple [p, .bool true]) := rfl
@[simp] theorem y87 (j : Nat) (vs : List PV) (z : PV) : j3f (some (some j)) vs z false K = q5r (vs[j]?) fun p => K p := rfl
@[simp] theorem y7e (vs : List PV) (z : PV) : j3f (some none) vs z true K = K (.tuple [z, .bool false]) := rfl
@[simp] theorem y7f (vs : List PV) (z : PV) : j3f (some none) vs z false K = K z := rfl
@[simp ↓] theorem y0g (kp : KP) (z : PV) (ok : Bool) (x i : MX) : q64 (.lookup kp z ok x i) ρ st K = q5r (z3i st (ρ x)) fun m => q5r (ρ i).key? fun kv => q8z kp kv = true ∧ j3f (k27 kp kv m.1) m.2 z ok K := by
 simp only [q64, q7n]
 split
 ·rename_i h1 h2
  simp only [h1, h2, q5s]
  rfl
 ·rename_i hn
  simp only [q5r, eq_iff_iff, false_iff]
  rintro ⟨⟨ks, vs⟩, h1, kv, h2, -⟩
  exact hn ks vs kv h1 h2
end
inductive Gd where
 | b (c : Bool)
 | skip
def PV.gd? : PV → Option Gd
 | .val (.bool c) => some (.b c)
 | .val (.tuple _) => some .skip
 | _ => none
@[simp] theorem k83 (c : Bool) : PV.gd? (.val (.bool c)) = some (.b c) := rfl
@[simp] theorem y4p : PV.gd? (.val (.tuple #[])) = some .skip := rfl
def onG (g : Gd) (A B C : Prop) (_ : Tok (A, B, C) := ⟨⟩) : Prop :=
 match g with
 | .b c => onB c A B
 | .skip => C
@[simp ↓, simp] theorem j6l (c : Bool) (A B C : Prop) : onG (.b c) A B C = onB c A B := rfl
@[simp ↓, simp] theorem y7g (A B C : Prop) : onG .skip A B C = C := rfl
def k0p {α : Type} (a : α) (K : α → Prop) (_ : Tok K := ⟨⟩) : Prop := K a
@[simp] theorem k4c {α : Type} (a : α) (K : α → Prop) : k0p a K = K a := rfl
def xop (P : Program) (op : MOp) (ρ : MX → PV) (st : q5e) (K QP : PV → q5e → Prop) (_ : Tok (K, QP) := ⟨⟩) : Prop := mop P op ρ st K QP
def Fresh (st : q5e) (K : Nat → Prop) (_ : Tok K := ⟨⟩) : Prop := ∀ b, q6x st b → K b
theorem Fresh.intro {st : q5e} {K : Nat → Prop} (h : ∀ b, q6x st b → K b) : Fresh st K := h
def j6m {α β : Type} (o : Option α) (f : α → Option β) (_ : Tok f := ⟨⟩) : Option β := o.bind f
@[simp ↓, simp] theorem y2q {α β : Type} (a : α) (f : α → Option β) : j6m (some a) f = f a := rfl
@[simp] theorem y2r {α β : Type} (f : α → Option β) : j6m none f = none := rfl
def y0h : MVal → Bool
 | .buildSlice .. => true
 | _ => false
def Lit (T : TypeId) (cs : List PV) (len : Nat) (st : q5e) (K : PV → q5e → Prop) (_ : Tok K := ⟨⟩) : Prop := K (.list true cs len) st ∨ ∀ b, q6x st b → K (.own b 0 len len) ((b, .arr T cs) :: st)
theorem Lit.imm {T : TypeId} {cs : List PV} {len : Nat} {st : q5e} {K : PV → q5e → Prop} (h : K (.list true cs len) st) : Lit T cs len st K := .inl h
theorem Lit.own {T : TypeId} {cs : List PV} {len : Nat} {st : q5e} {K : PV → q5e → Prop} (h : ∀ b, q6x st b → K (.own b 0 len len) ((b, .arr T cs) :: st)) : Lit T cs len st K := .inr h
def Grow (T : TypeId) (bytes k : Nat) (cs : List PV) (need : Nat) (st : q5e) (K : PV → q5e → Prop) (_ : Tok K := ⟨⟩) : Prop := j0n T bytes k cs need st K
theorem Grow.intro {T : TypeId} {bytes k : Nat} {cs : List PV} {need : Nat} {st : q5e} {K : PV → q5e → Prop} (h1 : need * bytes ≤ 140737488355328)
  (h2 : ∀ b cap, q6x st b → need ≤ cap → cap ≤ 9223372036854775807 → K (.own b 0 need cap) ((b, .arr T (cs ++ List.replicate ((cap - need) * k) .any)) :: st)) : Grow T bytes k cs need st K := ⟨h1, .inl h2⟩
def q6r (T : TypeId) (bytes k : Nat) (p : PV) (new : List PV) (m : Nat) (st : q5e) (K : PV → q5e → Prop) (_ : Tok K := ⟨⟩) : Prop := q9b T bytes k p new m st K
section
variable (T : TypeId) (bytes k : Nat) (new : List PV) (m : Nat) (st : q5e) (K : PV → q5e → Prop)
theorem k46 : q6r T bytes k (.val (.slice none 0 0)) new m st K = ((m = 0 → K .nil st) ∧ (¬ m = 0 → Grow T bytes k new m st K)) := by
 show (if m = 0 then K .nil st else Grow T bytes k new m st K) = _
 split <;> simp [*]
@[simp] theorem q5g (t : Bool) (cs : List PV) (n : Nat) : q6r T bytes k (.list t cs n) new m st K = ((m = 0 → K (.list t cs n) st) ∧ (¬ m = 0 → t = true ∧ cs.length = n * k ∧ Grow T bytes k (cs ++ new) (n + m) st K)) := by
 show (if m = 0 then K (.list t cs n) st else t = true ∧ cs.length = n * k ∧ Grow T bytes k (cs ++ new) (n + m) st K) = _
 split <;> simp [*]
end
theorem q83 {T : TypeId} {bytes k : Nat} {new : List PV} {m : Nat} {st : q5e} {K : PV → q5e → Prop} {b n cap : Nat} {row : List PV} (hb : q5y st b = some (.arr T row)) (hl : row.length = cap * k) (hn : n ≤ cap) (hc : cap ≤ 9223372036854775807)
  (h : Grow T bytes k (row.take (n * k) ++ new) (n + m) (k28 b st) K) : q6r T bytes k (.own b 0 n cap) new m st K := by
 show q9b _ _ _ _ _ _ _ _
 simp only [q9b, hb]
 exact ⟨trivial, by omega, hn, hc, .inl ⟨trivial, hl, h⟩⟩
theorem k3n {T : TypeId} {bytes k : Nat} {new : List PV} {m : Nat} {st : q5e} {K : PV → q5e → Prop} {b off n cap : Nat} {row : List PV} (hb : q5y st b = some (.arr T row)) (hl : off + cap * k ≤ row.length) (hn : n ≤ cap) (hc : cap ≤ 9223372036854775807)
  (h0 : (n + m) * bytes ≤ 140737488355328) (h1 : n + m ≤ cap → K (.own b off (n + m) cap) (k0k st b (.arr T (q5j row (off + n * k) new)))) (h2 : cap < n + m → Grow T bytes k ((row.drop off).take (n * k) ++ new) (n + m) st K) : q6r T bytes k (.own b off n cap) new m st K := by
 show q9b _ _ _ _ _ _ _ _
 simp only [q9b, hb]
 exact ⟨trivial, hl, hn, hc, .inr ⟨h0, h1, h2⟩⟩
def j3g (k : Nat) (p : PV) (new : List PV) (m : Nat) (st : q5e) (K : PV → q5e → Prop) (_ : Tok K := ⟨⟩) : Prop := j2n k p new m st K
@[simp] theorem y4q (k : Nat) (new : List PV) (m : Nat) (st : q5e) (K : PV → q5e → Prop) : j3g k (.val (.slice none 0 0)) new m st K = K (.int 0) st := rfl
@[simp] theorem y0i (k : Nat) (new : List PV) (m : Nat) (st : q5e) (K : PV → q5e → Prop) (t : Bool) (cs : List PV) : j3g k (.list t cs 0) new m st K = K (.int 0) st := rfl
@[simp] theorem y4r (k : Nat) (new : List PV) (m : Nat) (st : q5e) (K : PV → q5e → Prop) (b off n cap : Nat) : j3g k (.val (.slice (some ⟨b, off, none⟩) n cap)) new m st K =
  q5r (j2e (q5y st b)) fun r => off + min m n * k ≤ r.2.length ∧ K (.int (min m n : Nat)) (k0k st b (.arr r.1 (q5j r.2 off (new.take (min m n * k))))) := by
 simp only [j3g, j2n]
 cases h : q5y st b with
 | none => simp [j2e]
 | some o => cases o <;> simp [j2e]
@[simp] theorem j6n (k : Nat) (st : q5e) (t : Bool) (cs : List PV) (n : Nat) : q7g k st (.list t cs n) = if cs.length = n * k then some (cs, n) else none := rfl
@[simp] theorem j8s (k : Nat) (st : q5e) : q7g k st (.val (.slice none 0 0)) = some ([], 0) := rfl
@[simp] theorem j8t (k : Nat) (st : q5e) (b off n cap : Nat) : q7g k st (.val (.slice (some ⟨b, off, none⟩) n cap)) = j6m (j2e (q5y st b)) fun r => if off + n * k ≤ r.2.length then some ((r.2.drop off).take (n * k), n) else none := by
 simp only [q7g]
 cases h : q5y st b with
 | none => rfl
 | some o => cases o <;> rfl
@[simp] theorem j8u (st : q5e) (s : ByteArray) : q7g 1 st (.val (.string s)) = some (s.data.toList.map fun b => .val (.int .u8 b.toNat), s.size) := rfl
def j6o (neg : Bool) (nk : NK) (p : PV) (st : q5e) (K : PV → q5e → Prop) (_ : Tok K := ⟨⟩) : Prop := z5e neg nk p st K
section
variable (neg : Bool) (st : q5e) (K : PV → q5e → Prop)
@[simp] theorem y7h (n c : Nat) : j6o neg .slice (.val (.slice none n c)) st K = K (.bool !neg) st := rfl
@[simp] theorem y7i (a : Addr) (n c : Nat) : j6o neg .slice (.val (.slice (some a) n c)) st K = K (.bool neg) st := rfl
@[simp] theorem y4s (t : Bool) (cs : List PV) (n : Nat) : j6o neg .slice (.list t cs n) st K = ((cs = [] → K (.bool !neg) st) ∧ K (.bool neg) st) := rfl
@[simp] theorem y4t : j6o neg .iface (.val .nilIface) st K = K (.bool !neg) st := rfl
@[simp] theorem y2s (T : TypeId) (p : PV) : j6o neg .iface (.iface T p) st K = K (.bool neg) st := rfl
@[simp] theorem y4u : j6o neg .map (.val (.map none)) st K = K (.bool !neg) st := rfl
@[simp] theorem y7j (r : Nat) : j6o neg .map (.val (.map (some r))) st K = K (.bool neg) st := rfl
@[simp] theorem y4v (ks : List Value) (vs : List PV) : j6o neg .map (.imap ks vs) st K = K (.bool neg) st := rfl
end
def PV.map? : PV → Option Nat
 | .val (.map (some b)) => some b
 | _ => none
@[simp] theorem j6p (b : Nat) : PV.map? (.val (.map (some b))) = some b := rfl
def map? : Option PObj → Option (List Value × List PV)
 | some (.map ks vs) => some (ks, vs)
 | _ => none
@[simp] theorem j3h (ks : List Value) (vs : List PV) : map? (some (.map ks vs)) = some (ks, vs) := rfl
@[simp] theorem y4w (st : q5e) (b : Nat) : z3i st (.val (.map (some b))) = map? (q5y st b) := by
 simp only [z3i]
 cases h : q5y st b with
 | none => rfl
 | some o => cases o <;> rfl
@[simp] theorem y4x (st : q5e) : z3i st (.val (.map none)) = some ([], []) := rfl
@[simp] theorem y2t (st : q5e) (ks : List Value) (vs : List PV) : z3i st (.imap ks vs) = some (ks, vs) := rfl
@[simp] theorem y7k (v : Value) : PV.key? (.val v) = some v := rfl
@[simp] theorem y7l (cs : List PV) : PV.key? (.agg cs) = (PV.vals? cs).map fun vs => .agg vs.toArray := rfl
@[simp] theorem y4y : PV.vals? [] = some [] := rfl
@[simp] theorem y2u (v : Value) (ps : List PV) : PV.vals? (.val v :: ps) = (PV.vals? ps).map (v :: ·) := rfl
@[simp] theorem y4z (lk : List LK) (v : Value) : q8z (false, lk) v = (lk.length == 1) := rfl
@[simp] theorem y40 (lk : List LK) (cs : Array Value) : q8z (true, lk) (.agg cs) = (cs.size == lk.length) := rfl
@[simp] theorem y7m (kp : KP) (k : Value) : k27 kp k [] = some none := rfl
def j6q (r : Option Bool) (rest : Option (Option Nat)) : Option (Option Nat) :=
 match r with
 | some true => some (some 0)
 | some false => rest.map (·.map (· + 1))
 | none => none
@[simp] theorem y88 (rest : Option (Option Nat)) : j6q (some true) rest = some (some 0) := rfl
@[simp] theorem y89 (rest : Option (Option Nat)) : j6q (some false) rest = rest.map (·.map (· + 1)) := rfl
@[simp] theorem j3i (kp : KP) (k k' : Value) (ks : List Value) : k27 kp k (k' :: ks) = j6q (q6d kp.2 (q6k kp.1 k) (q6k kp.1 k')) (k27 kp k ks) := by
 simp only [k27, j6q]
 split <;> rename_i h <;> simp only [h]
@[simp] theorem y2v (v : Value) : q6k false v = [.val v] := by cases v <;> rfl
@[simp] theorem y2w (cs : Array Value) : q6k true (.agg cs) = cs.toList.map .val := rfl
def y41 (b : Nat) (kv : Value) (p : PV) (ks : List Value) (vs : List PV) (r : Option (Option Nat)) (st : q5e) (K : PV → q5e → Prop) (_ : Tok K := ⟨⟩) : Prop :=
 match r with
 | some (some j) => K .any (k0k st b (.map (ks.set j kv) (vs.set j p)))
 | some none => K .any (k0k st b (.map (ks ++ [kv]) (vs ++ [p])))
 | none => False
@[simp] theorem xput_s (b : Nat) (kv : Value) (p : PV) (ks : List Value) (vs : List PV) (j : Nat) (st : q5e) (K : PV → q5e → Prop) : y41 b kv p ks vs (some (some j)) st K = K .any (k0k st b (.map (ks.set j kv) (vs.set j p))) := rfl
@[simp] theorem xput_n (b : Nat) (kv : Value) (p : PV) (ks : List Value) (vs : List PV) (st : q5e) (K : PV → q5e → Prop) : y41 b kv p ks vs (some none) st K = K .any (k0k st b (.map (ks ++ [kv]) (vs ++ [p]))) := rfl
def xdel (b : Nat) (ks : List Value) (vs : List PV) (r : Option (Option Nat)) (st : q5e) (K : PV → q5e → Prop) (_ : Tok K := ⟨⟩) : Prop :=
 match r with
 | some (some j) => K .any (k0k st b (.map (ks.eraseIdx j) (vs.eraseIdx j)))
 | some none => K .any st
 | none => False
@[simp] theorem xdel_s (b : Nat) (ks : List Value) (vs : List PV) (j : Nat) (st : q5e) (K : PV → q5e → Prop) : xdel b ks vs (some (some j)) st K = K .any (k0k st b (.map (ks.eraseIdx j) (vs.eraseIdx j))) := rfl
@[simp] theorem xdel_n (b : Nat) (ks : List Value) (vs : List PV) (st : q5e) (K : PV → q5e → Prop) : xdel b ks vs (some none) st K = K .any st := rfl
def xcall (P : Program) (g : FuncId) (ps : List PV) (st : q5e) (Q : PEnd → q5e → Prop) (_ : Tok Q := ⟨⟩) : Prop := PCalls P g ps st Q
def j8v (P : Program) (l : Nat) (ps : List PV) (st : q5e) (Q : PEnd → q5e → Prop) (_ : Tok Q := ⟨⟩) : Prop := PRound P l ps st Q
def j3j (P : Program) (f : PV) (ps : List PV) (st : q5e) (Q : PEnd → q5e → Prop) (_ : Tok Q := ⟨⟩) : Prop := z9c P f ps st Q
@[simp ↓, simp] theorem y0j (P : Program) (g : FuncId) (fs cs ps : List PV) (st : q5e) (Q : PEnd → q5e → Prop) : j3j P (.func (.func g) fs cs) ps st Q = xcall P g (fs ++ ps ++ cs) st Q := rfl
@[simp ↓, simp] theorem j8w (P : Program) (l : Nat) (ps : List PV) (st : q5e) (Q : PEnd → q5e → Prop) : j3j P (.func (.yield l) [] []) ps st Q = j8v P l ps st Q := rfl
def j3k (k : Nat) (zs : List PV) (p : PV) (st : q5e) (K : PV → q5e → Prop) (_ : Tok K := ⟨⟩) : Prop := z9d k zs p st K
@[simp] theorem y2x (k : Nat) (zs : List PV) (st : q5e) (K : PV → q5e → Prop) : j3k k zs (.val (.slice none 0 0)) st K = K .any st := rfl
@[simp] theorem j8x (k : Nat) (zs : List PV) (st : q5e) (K : PV → q5e → Prop) (t : Bool) (cs : List PV) : j3k k zs (.list t cs 0) st K = K .any st := rfl
def j3l (p : PV) (st : q5e) (K : PV → q5e → Prop) (_ : Tok K := ⟨⟩) : Prop := z9e p st K
def y9a (p : PV) (st : q5e) (K : PV → q5e → Prop) (_ : Tok K := ⟨⟩) : Prop := j56 p st K
def y42 (p : PV) (st : q5e) (K : PV → q5e → Prop) (_ : Tok K := ⟨⟩) : Prop := z9f p st K
def y9b (K QP : PV → q5e → Prop) (e : PEnd) (st : q5e) (_ : Tok (K, QP) := ⟨⟩) : Prop := q9n K QP e st
section
variable (P : Program) (ρ : MX → PV) (st : q5e) (K QP : PV → q5e → Prop)
@[simp] theorem q7r (p : PV) : y9b K QP (.ret p) st = K p st := rfl
@[simp] theorem y2y (p : PV) : y9b K QP (.panic p) st = QP p st := rfl
theorem q6y (v : MVal) (h : y0h v = false) : xop P (.val v) ρ st K QP = q64 v ρ st fun p => K p st := by
 have : j9s v ρ st K = False := by
  unfold j9s
  split
  ·simp [y0h] at h
  ·rfl
 simp only [xop, mop, this, or_false]
 rfl
@[simp ↓] theorem mop_mv (x : MX) : xop P (.val (.mv x)) ρ st K QP = q64 (.mv x) ρ st fun p => K p st := q6y P ρ st K QP _ rfl
@[simp ↓] theorem y7n (c a b : MX) : xop P (.val (.pick c a b)) ρ st K QP = q64 (.pick c a b) ρ st fun p => K p st := q6y P ρ st K QP _ rfl
@[simp ↓] theorem y43 (zs : List PV) (parts : List (Nat × Nat × MX)) : xop P (.val (.build zs parts)) ρ st K QP = q64 (.build zs parts) ρ st fun p => K p st := q6y P ρ st K QP _ rfl
@[simp ↓] theorem y7o (k : Nat) (agg : Bool) (x : MX) : xop P (.val (.load k agg x)) ρ st K QP = q64 (.load k agg x) ρ st fun p => K p st := q6y P ρ st K QP _ rfl
@[simp ↓] theorem j8y (x : MX) : xop P (.val (.nilCheck x)) ρ st K QP = q64 (.nilCheck x) ρ st fun p => K p st := q6y P ρ st K QP _ rfl
@[simp ↓] theorem y9c (op : BinOp) (T : TypeId) (x y : MX) : xop P (.val (.bin op T x y)) ρ st K QP = q64 (.bin op T x y) ρ st fun p => K p st := q6y P ρ st K QP _ rfl
@[simp ↓] theorem y44 (neg : Bool) (ks : List LK) (x y : MX) : xop P (.val (.eqAgg neg ks x y)) ρ st K QP = q64 (.eqAgg neg ks x y) ρ st fun p => K p st := q6y P ρ st K QP _ rfl
@[simp ↓] theorem y2z (neg : Bool) (x y : MX) : xop P (.val (.eqBool neg x y)) ρ st K QP = q64 (.eqBool neg x y) ρ st fun p => K p st := q6y P ρ st K QP _ rfl
@[simp ↓] theorem mop_un (op : UnOp) (x : MX) : xop P (.val (.un op x)) ρ st K QP = q64 (.un op x) ρ st fun p => K p st := q6y P ρ st K QP _ rfl
@[simp ↓] theorem y45 (k : IntKind) (x : MX) : xop P (.val (.toInt k x)) ρ st K QP = q64 (.toInt k x) ρ st fun p => K p st := q6y P ρ st K QP _ rfl
@[simp ↓] theorem y0k (T : TypeId) (x : MX) : xop P (.val (.mkIface T x)) ρ st K QP = q64 (.mkIface T x) ρ st fun p => K p st := q6y P ρ st K QP _ rfl
@[simp ↓] theorem y20 (fn : Fn) (first captured : List MX) : xop P (.val (.mkFunc fn first captured)) ρ st K QP = q64 (.mkFunc fn first captured) ρ st fun p => K p st := q6y P ρ st K QP _ rfl
@[simp ↓] theorem j6r (off : Nat) (x : MX) : xop P (.val (.fieldAddr off x)) ρ st K QP = q64 (.fieldAddr off x) ρ st fun p => K p st := q6y P ρ st K QP _ rfl
@[simp ↓] theorem j6s (k : Nat) (x i : MX) : xop P (.val (.indexAddr k x i)) ρ st K QP = q64 (.indexAddr k x i) ρ st fun p => K p st := q6y P ρ st K QP _ rfl
@[simp ↓] theorem j8z (n k : Nat) (x i : MX) : xop P (.val (.indexArr n k x i)) ρ st K QP = q64 (.indexArr n k x i) ρ st fun p => K p st := q6y P ρ st K QP _ rfl
@[simp ↓] theorem y46 (n k : Nat) (agg : Bool) (x i : MX) : xop P (.val (.index n k agg x i)) ρ st K QP = q64 (.index n k agg x i) ρ st fun p => K p st := q6y P ρ st K QP _ rfl
@[simp ↓] theorem y9d (x : MX) : xop P (.val (.len x)) ρ st K QP = q64 (.len x) ρ st fun p => K p st := q6y P ρ st K QP _ rfl
@[simp ↓] theorem y21 (x : MX) : xop P (.val (.maplen x)) ρ st K QP = q64 (.maplen x) ρ st fun p => K p st := q6y P ρ st K QP _ rfl
@[simp ↓] theorem y9e (x : MX) : xop P (.val (.cap x)) ρ st K QP = q64 (.cap x) ρ st fun p => K p st := q6y P ρ st K QP _ rfl
@[simp ↓] theorem y22 (lk : Bool × List LK) (z : PV) (ok : Bool) (x i : MX) : xop P (.val (.lookup lk z ok x i)) ρ st K QP = q64 (.lookup lk z ok x i) ρ st fun p => K p st := q6y P ρ st K QP _ rfl
@[simp ↓] theorem y47 (k : Nat) (x : MX) (lo hi mx : Option MX) : xop P (.val (.slice k x lo hi mx)) ρ st K QP = q64 (.slice k x lo hi mx) ρ st fun p => K p st := q6y P ρ st K QP _ rfl
@[simp ↓] theorem j80 (n k : Nat) (x : MX) (lo hi mx : Option MX) : xop P (.val (.sliceArr n k x lo hi mx)) ρ st K QP = q64 (.sliceArr n k x lo hi mx) ρ st fun p => K p st := q6y P ρ st K QP _ rfl
@[simp ↓] theorem y48 (x : MX) : xop P (.val (.strOf x)) ρ st K QP = q64 (.strOf x) ρ st fun p => K p st := q6y P ρ st K QP _ rfl
@[simp ↓] theorem y0l (i : Nat) (x : MX) : xop P (.val (.extract i x)) ρ st K QP = q64 (.extract i x) ρ st fun p => K p st := q6y P ρ st K QP _ rfl
@[simp ↓] theorem y23 (isMax : Bool) (xs : List MX) : xop P (.val (.minmax isMax xs)) ρ st K QP = q64 (.minmax isMax xs) ρ st fun p => K p st := q6y P ρ st K QP _ rfl
@[simp ↓] theorem y24 (T : TypeId) (z : PV) (ok : Bool) (x : MX) : xop P (.val (.assert T z ok x)) ρ st K QP = q64 (.assert T z ok x) ρ st fun p => K p st := q6y P ρ st K QP _ rfl
@[simp ↓] theorem y9f (T : TypeId) (len : Nat) (zs : List PV) (parts : List (Nat × Nat × MX)) : xop P (.val (.buildSlice T len zs parts)) ρ st K QP =
  q5r (k0z zs (parts.map fun q => (q.1, q.2.1, ρ q.2.2))) fun cs => Lit T cs len st K := by
 simp only [xop, mop, q7n, j9s, Lit]
 split <;> simp_all
@[simp ↓] theorem y25 (T : TypeId) (bytes k : Nat) (x y : MX) : xop P (.append T bytes k x y) ρ st K QP = q5r (q7g k st (ρ y)) fun r => q6r T bytes k (ρ x) r.1 r.2 st K := by
 simp only [xop, mop]
 split
 ·rename_i h; simp only [h, q5s]; rfl
 ·rename_i h; simp only [h, q9t]
@[simp ↓] theorem y0m (T : TypeId) (bytes k : Nat) (zs : List PV) (x n : MX) : xop P (.appendZ T bytes k zs x n) ρ st K QP = q5r (ρ n).int? fun q => 0 ≤ q.2 ∧ q.2 ≤ 9223372036854775807 ∧ q6r T bytes k (ρ x) (List.replicate q.2.toNat zs).flatten q.2.toNat st K := by
 simp only [xop, mop]
 split
 ·rename_i h; simp only [h, z9p, q5s]; rfl
 ·rename_i h
  simp only [q5r, eq_iff_iff, false_iff]
  rintro ⟨⟨k, m⟩, h1, -⟩
  unfold PV.int? at h1
  split at h1
  ·rename_i h2; exact h _ _ h2
  ·cases h1
@[simp ↓] theorem y0n (T : TypeId) (bytes k : Nat) (zs : List PV) (l c : MX) : xop P (.mkSlice T bytes k zs l c) ρ st K QP = q5r (ρ l).int? fun a => q5r (ρ c).int? fun b => 0 ≤ a.2 ∧ a.2 ≤ b.2 ∧ b.2 * bytes ≤ 281474976710656 ∧ b.2 ≤ 9223372036854775807 ∧
  Fresh st fun d => K (.own d 0 a.2.toNat b.2.toNat) ((d, .arr T (List.replicate b.2.toNat zs).flatten) :: st) := by
 simp only [xop, mop]
 split
 ·rename_i h1 h2; simp only [h1, h2, z9p, q5s]; rfl
 ·rename_i h
  simp only [q5r, eq_iff_iff, false_iff]
  rintro ⟨⟨k, m⟩, h1, ⟨k', m'⟩, h2, -⟩
  unfold PV.int? at h1 h2
  split at h1
  ·split at h2
   ·rename_i h3 _ _ _ h4; exact h _ _ _ _ h3 h4
   ·cases h2
  ·cases h1
@[simp ↓] theorem y7p (k : Nat) (x y : MX) : xop P (.copy k x y) ρ st K QP = q5r (q7g k st (ρ y)) fun r => j3g k (ρ x) r.1 r.2 st K := by
 simp only [xop, mop]
 split
 ·rename_i h; simp only [h, q5s]; rfl
 ·rename_i h; simp only [h, q9t]
@[simp ↓] theorem y49 (neg : Bool) (nk : NK) (x : MX) : xop P (.eqNil neg nk x) ρ st K QP = j6o neg nk (ρ x) st K := rfl
@[simp ↓] theorem y5a : xop P .mkMap ρ st K QP = Fresh st fun b => K (.val (.map (some b))) ((b, .map [] []) :: st) := rfl
@[simp ↓] theorem y26 (kp : KP) (m k v : MX) : xop P (.mapSet kp m k v) ρ st K QP = q5r (ρ m).map? fun b => q5r (ρ k).key? fun kv => q5r (map? (q5y st b)) fun r => q8z kp kv = true ∧ y41 b kv (ρ v) r.1 r.2 (k27 kp kv r.1) st K := by
 simp only [xop, mop]
 split
 ·rename_i b kv h1 h2
  simp only [h1, h2, j6p, q5s]
  split
  ·rename_i h3; simp only [h3, j3h, q5s]; rfl
  ·rename_i h3
   cases h4 : q5y st b with
   | none => simp [map?]
   | some o => cases o <;> simp_all [map?]
 ·rename_i h
  simp only [q5r, eq_iff_iff, false_iff]
  rintro ⟨b, h1, kv, h2, -⟩
  refine h b kv ?_ h2
  revert h1
  unfold PV.map?
  split <;> simp
  rintro rfl
  assumption
@[simp ↓] theorem y5b (T : TypeId) (zs : List PV) : xop P (.alloc T zs) ρ st K QP = Fresh st fun b => K (.ptr b 0) ((b, .arr T zs) :: st) := rfl
@[simp ↓] theorem y9g (T : TypeId) (x : MX) : xop P (.box T x) ρ st K QP = q5r (ρ x).cells fun cs => Fresh st fun b => K (.ptr b 0) ((b, .arr T cs) :: st) := by
 simp only [xop, mop]; split <;> simp_all [Fresh]
@[simp ↓] theorem y5c (k : Nat) (x y : MX) : xop P (.store k x y) ρ st K QP = q5r (ρ x).ptr? fun a => q5r (ρ y).cells fun ps => q5r (j2e (q5y st a.1)) fun r =>
  ps.length = k ∧ a.2 + k ≤ r.2.length ∧ K .any (k0k st a.1 (.arr r.1 (q5j r.2 a.2 ps))) := by
 simp only [xop, mop]
 split
 ·rename_i b off ps h1 h2
  simp only [h1, h2, j6e, q5s]
  split
  ·rename_i h3; simp [h3]
  ·rename_i h3
   cases h4 : q5y st b with
   | none => simp [j2e]
   | some o => cases o <;> simp_all [j2e]
 ·rename_i h1
  simp only [q5r, false_iff, eq_iff_iff]
  rintro ⟨⟨b, off⟩, h2, ps, h3, -⟩
  refine h1 b off ps ?_ h3
  revert h2
  unfold PV.ptr?
  split <;> simp
  intro e1 e2
  subst e1; subst e2
  assumption
@[simp ↓] theorem y7q (f : MX) (args : List MX) : xop P (.call f args) ρ st K QP = j3j P (ρ f) (args.map ρ) st fun e st' => y9b K QP e st' := rfl
@[simp ↓] theorem y5d (k : Nat) (zs : List PV) (x : MX) : xop P (.clear k zs x) ρ st K QP = j3k k zs (ρ x) st K := rfl
@[simp ↓] theorem j81 (x : MX) : xop P (.rangeMap x) ρ st K QP = j3l (ρ x) st K := rfl
@[simp ↓] theorem y7r (x : MX) : xop P (.next x) ρ st K QP = y9a (ρ x) st K := rfl
@[simp ↓] theorem y5e (x : MX) : xop P (.entry x) ρ st K QP = y42 (ρ x) st K := rfl
@[simp ↓] theorem y5f (x : MX) : xop P (.bytes x) ρ st K QP = q5r (ρ x).str? fun s => s.size ≤ 140737488355328 ∧ K (.list false (k2j s) s.size) st := by
 simp only [xop, mop]
 split <;> simp_all [PV.str?]
@[simp ↓] theorem y5g (x : MX) : xop P (.panic x) ρ st K QP = q5r (ρ x).iface? fun q => QP (.iface q.1 q.2) st := by
 simp only [xop, mop]
 split <;> simp_all [PV.iface?]
end
def z9r (P : Program) (l : List MInst) (s : PS) (K : PS → Prop) (QP : PV → q5e → Prop) (_ : Tok (l, K, QP) := ⟨⟩) : Prop := z62 P l s K QP
def xwp (P : Program) (c : MCode) (Q : q7q) (s : PS) (_ : Tok (c, Q) := ⟨⟩) : Prop := mwp P c Q s
def k47 (K : PS → Prop) (Q : q7q) (e : MExit) (s : PS) (_ : Tok (K, Q) := ⟨⟩) : Prop := z7a K Q e s
def z5z (id : Nat) (Q : q7q) (e : MExit) (s : PS) (_ : Tok Q := ⟨⟩) : Prop := z3l id Q e s
def j6t (P : Program) (c : MCode) (Q : q7q) (s : PS) (_ : Tok (c, Q) := ⟨⟩) : Prop := z3m View (mwp P c) Q s
def j82 (P : Program) (f : PV) (ps : List Nat) (a b : MCode) (Q : q7q) (s : PS) (_ : Tok (a, b, Q) := ⟨⟩) : Prop :=
 match f with
 | .func (.func f) fs cs => k22 P f ∧ ∀ key : LoopKey, key.Conv P ps a b → ∀ l, q6x s.st l →
   PCalls P f (fs ++ [.func (.yield l) [] []] ++ cs) ((l, .loop key s.env .ready none) :: s.st) (k4b l Q s.env)
 | _ => False
def z7w : Option PObj → Option (LoopKey × Env × LoopState × Option Code)
 | some (.loop key e state pend) => some (key, e, state, pend)
 | _ => none
@[simp] theorem k7a (key : LoopKey) (e : Env) (state : LoopState) (pend : Option Code) : z7w (some (.loop key e state pend)) = some (key, e, state, pend) := rfl
theorem z2l {o : Option PObj} (h : ∀ key e state pend, o = some (.loop key e state pend) → False) : z7w o = none := by
 unfold z7w
 split
 ·rename_i key e state pend; exact (h key e state pend rfl).elim
 ·rfl
def j6u (pend : Option Code) (Q : q7q) (s : PS) (_ : Tok Q := ⟨⟩) : Prop :=
 match pend with
 | none => Q .normal s
 | some .ret => Q .ret s
 | some (.exit id) => Q (.exit id) s
 | _ => False
@[simp ↓, simp] theorem y27 (Q : q7q) (s : PS) : j6u none Q s = Q .normal s := rfl
@[simp ↓, simp] theorem y5h (Q : q7q) (s : PS) : j6u (some .ret) Q s = Q .ret s := rfl
@[simp ↓, simp] theorem y28 (id : Nat) (Q : q7q) (s : PS) : j6u (some (.exit id)) Q s = Q (.exit id) s := rfl
def j6v (l : Nat) (Q : q7q) (e : Env) (en : PEnd) (st : q5e) (_ : Tok Q := ⟨⟩) : Prop := k4b l Q e en st
@[simp ↓, simp] theorem y5i (l : Nat) (Q : q7q) (e : Env) (p : PV) (st : q5e) : j6v l Q e (.ret p) st = q5r (z7w (q5y st l)) fun r => r.2.2.1 ≠ .busy ∧ j6u r.2.2.2 Q ⟨e, k28 l st⟩ := by
 simp only [j6v, k4b]
 split
 ·rename_i h; simp only [h, k7a, q5s]
  congr 1
 ·rename_i h; rw [z2l h]; simp
@[simp ↓, simp] theorem y0o (l : Nat) (Q : q7q) (e : Env) (p : PV) (st : q5e) : j6v l Q e (.panic p) st = Q (.panic p) ⟨[], st⟩ := rfl
theorem z7x {P : Program} {f : FuncId} {fs cs : List PV} {ps : List Nat} {a b : MCode} {Q : q7q} {e : Env} {st : q5e} (hent : k22 P f)
  (h : ∀ key : LoopKey, key.Conv P ps a b → ∀ l, q6x st l → xcall P f (fs ++ [.func (.yield l) [] []] ++ cs) ((l, .loop key e .ready none) :: st) fun en s => j6v l Q e en s) : j82 P (.func (.func f) fs cs) ps a b Q ⟨e, st⟩ := ⟨hent, h⟩
@[simp] theorem y29 (e : Env) (t : Nat) (ts : List Nat) (p : PV) (ps : List PV) : k9r e (t :: ts) (p :: ps) = k9r (k0x e (some t) p) ts ps := rfl
@[simp] theorem y5j (e : Env) : k9r e [] [] = e := rfl
def z38 (l : Nat) (Q : PEnd → q5e → Prop) (ex : MExit) (s : PS) (_ : Tok Q := ⟨⟩) : Prop := k9s l Q ex s
def k48 (P : Program) (l : Nat) (b : MCode) (Q : PEnd → q5e → Prop) (ex : MExit) (s : PS) (_ : Tok (b, Q) := ⟨⟩) : Prop := z9l P l b Q ex s
section
variable (l id : Nat) (Q : PEnd → q5e → Prop) (e : Env) (st : q5e)
@[simp ↓] theorem j5x : z38 l Q .normal ⟨e, st⟩ = q5r (z7w (q5y st l)) fun r => Q (.ret (.bool true)) (k0k st l (.loop r.1 r.2.1 .ready none)) := by
 simp only [z38, k9s]
 split
 ·rename_i h; simp only [h, k7a, q5s]
 ·rename_i h; rw [z2l h]; simp
@[simp ↓] theorem j6w (p : PV) (s : PS) : z38 l Q (.panic p) s = False := rfl
@[simp ↓] theorem j5y (P : Program) (b : MCode) : k48 P l b Q .normal ⟨e, st⟩ = q5r (z7w (q5y st l)) fun r => r.2.2.1 = .ready ∧ xwp P b (fun ex s => z38 l Q ex s) ⟨e, k0k st l (.loop r.1 r.2.1 .busy r.2.2.2)⟩ := by
 simp only [k48, z9l]
 split
 ·rename_i h; simp only [h, k7a, q5s, true_and]; rfl
 ·rename_i h
  simp only [q5r, eq_iff_iff, false_iff]
  rintro ⟨⟨key, e', state, pend⟩, h1, h2, -⟩
  simp only at h2
  subst h2
  unfold z7w at h1
  split at h1
  ·rename_i h3; cases h1; exact h _ _ _ h3
  ·cases h1
@[simp ↓] theorem y0p (P : Program) (b : MCode) (s : PS) : k48 P l b Q .ret s = False := rfl
@[simp ↓] theorem j83 (P : Program) (b : MCode) (s : PS) : k48 P l b Q (.exit id) s = False := rfl
@[simp ↓] theorem j6x (P : Program) (b : MCode) (p : PV) (s : PS) : k48 P l b Q (.panic p) s = False := rfl
end
theorem z7y {P : Program} (q5n : P.follows .mixedOrders = true) {l : Nat} {key : LoopKey} {params : List Nat} {ma mb : MCode} (hconv : key.Conv P params ma mb) {e : Env} {st : q5e} (hget : q5y st l = some (.loop key e .ready none))
  {args : List PV} (hlen : params.length = args.length) {Q : PEnd → q5e → Prop} (h : xwp P ma (fun ex s => k48 P l mb Q ex s) ⟨k9r e params args, st⟩) : PRound P l args st Q := z33 q5n hconv hget hlen h
def z9s (Q : q7q) (p : PV) (st : q5e) (_ : Tok Q := ⟨⟩) : Prop := Q (.panic p) ⟨[], st⟩
def j3m (rs : List MRes) (R E : PV → q5e → Prop) (e : MExit) (s : PS) (_ : Tok (R, E) := ⟨⟩) : Prop := k2l rs R E e s
def j5z (s : PS) (rs : List MRes) (K : List PV → Prop) (_ : Tok K := ⟨⟩) : Prop := y2d s rs K
section
variable (P : Program) (K : PS → Prop) (QP : PV → q5e → Prop) (Q : q7q) (s : PS) (e : Env) (st : q5e)
@[simp ↓] theorem y7s : z9r P [] s K QP = K s := rfl
@[simp ↓] theorem y5k (d : Option Nat) (op : MOp) (l : List MInst) : z9r P (⟨d, none, op⟩ :: l) ⟨e, st⟩ K QP = xop P op (q6a e) st (fun p st' => k0p (⟨k0x e d p, st'⟩ : PS) fun s => z9r P l s K QP) QP := rfl
theorem j07 {p : PV} (h : ∀ c, p = .val (.bool c) → False) : p.bool? = none := by
 unfold PV.bool?
 split
 ·rename_i c; exact (h c rfl).elim
 ·rfl
theorem k84 {p : PV} (h : ∀ c, p = .val (.bool c) → False) (h2 : ∀ vs, p = .val (.tuple vs) → False) : p.gd? = none := by
 unfold PV.gd?
 split
 ·rename_i c; exact (h c rfl).elim
 ·rename_i c; exact (h2 c rfl).elim
 ·rfl
@[simp ↓] theorem j84 (d : Option Nat) (t : Nat) (op : MOp) (l : List MInst) : z9r P (⟨d, some (t, true), op⟩ :: l) ⟨e, st⟩ K QP = q5r (q6h e t).gd? fun c =>
  onG c (k0p (z3k e t true) fun e => xop P op (q6a e) st (fun p st' => k0p (⟨k0x e d p, st'⟩ : PS) fun s => z9r P l s K QP) QP)
   (k0p (⟨k0x (z3k e t false) d .undef, st⟩ : PS) fun s => z9r P l s K QP) (k0p (⟨k0x e d .undef, st⟩ : PS) fun s => z9r P l s K QP) := by
 simp only [z9r, z62]
 split
 ·rename_i c h; simp only [h, k83, q5s, j6l, k4c]; cases c <;> simp [xop]
 ·rename_i vs h
  have hg : (q6h e t).gd? = some .skip := by rw [h]; rfl
  rw [hg, q5s]
  rfl
 ·rename_i h h2; rw [k84 h h2]; simp
@[simp ↓] theorem j85 (d : Option Nat) (t : Nat) (op : MOp) (l : List MInst) : z9r P (⟨d, some (t, false), op⟩ :: l) ⟨e, st⟩ K QP = q5r (q6h e t).gd? fun c =>
  onG c (k0p (⟨k0x (z3k e t true) d .undef, st⟩ : PS) fun s => z9r P l s K QP)
   (k0p (z3k e t false) fun e => xop P op (q6a e) st (fun p st' => k0p (⟨k0x e d p, st'⟩ : PS) fun s => z9r P l s K QP) QP) (k0p (⟨k0x e d .undef, st⟩ : PS) fun s => z9r P l s K QP) := by
 simp only [z9r, z62]
 split
 ·rename_i c h; simp only [h, k83, q5s, j6l, k4c]; cases c <;> simp [xop]
 ·rename_i vs h
  have hg : (q6h e t).gd? = some .skip := by rw [h]; rfl
  rw [hg, q5s]
  rfl
 ·rename_i h h2; rw [k84 h h2]; simp
@[simp ↓] theorem y7t : xwp P .skip Q s = Q .normal s := rfl
@[simp ↓] theorem y3a (l : List MInst) (ks : List Nat) : xwp P (.region l ks) Q s = z9r P l s (fun s' => k0p (⟨k0y ks s'.env, s'.st⟩ : PS) fun s' => Q .normal s') (fun p st' => z9s Q p st') := rfl
@[simp ↓] theorem y9h (a b : MCode) : xwp P (.seq a b) Q s = xwp P a (fun e s' => k47 (fun s' => xwp P b Q s') Q e s') s := rfl
@[simp ↓] theorem y7u (c : MX) (a b : MCode) : xwp P (.cond c a b) Q ⟨e, st⟩ = q5r (q6a e c).bool? fun t => onB t (xwp P a Q ⟨e, st⟩) (xwp P b Q ⟨e, st⟩) := by
 simp only [xwp, mwp]
 split
 ·rename_i t h; simp only [h, z2j, q5s]; cases t <;> simp
 ·rename_i h; rw [j07 h]; simp
@[simp ↓] theorem y5l (id : Nat) (c : MCode) : xwp P (.block id c) Q s = xwp P c (fun e s' => z5z id Q e s') s := rfl
@[simp ↓] theorem y7v (c : MCode) : xwp P (.loop c) Q s = j6t P c Q s := rfl
@[simp ↓] theorem j6y (g : MX) (ps : List Nat) (a b : MCode) : xwp P (.rangeFunc g ps a b) Q ⟨e, st⟩ = j82 P (q6a e g) ps a b Q ⟨e, st⟩ := rfl
@[simp ↓] theorem y7w (id : Nat) : xwp P (.exit id) Q s = Q (.exit id) s := rfl
@[simp ↓] theorem y9i : xwp P .ret Q s = Q .ret s := rfl
@[simp ↓] theorem j86 : k47 K Q .normal s = K s := rfl
@[simp ↓] theorem y3b (id : Nat) : k47 K Q (.exit id) s = Q (.exit id) s := rfl
@[simp ↓] theorem y5m : k47 K Q .ret s = Q .ret s := rfl
@[simp ↓] theorem y0q (p : PV) : k47 K Q (.panic p) s = Q (.panic p) s := rfl
@[simp ↓] theorem j6z (id : Nat) : z5z id Q .normal s = Q .normal s := rfl
@[simp ↓] theorem y0r (id j : Nat) : z5z id Q (.exit j) s = if j = id then Q .normal s else Q (.exit j) s := rfl
@[simp ↓] theorem y3c (id : Nat) : z5z id Q .ret s = Q .ret s := rfl
@[simp ↓] theorem j87 (id : Nat) (p : PV) : z5z id Q (.panic p) s = Q (.panic p) s := rfl
@[simp ↓] theorem y5n (p : PV) (st' : q5e) : z9s Q p st' = Q (.panic p) ⟨[], st'⟩ := rfl
section
variable (rs : List MRes) (R E : PV → q5e → Prop)
@[simp ↓] theorem y0s : j3m rs R E .normal s = j5z s rs fun ps => R (k3c ps) s.st := rfl
@[simp ↓] theorem y7x : j3m rs R E .ret s = j5z s rs fun ps => R (k3c ps) s.st := rfl
@[simp ↓] theorem y3d (p : PV) : j3m rs R E (.panic p) s = E p s.st := rfl
@[simp ↓] theorem y5o (id : Nat) : j3m rs R E (.exit id) s = False := rfl
end
@[simp ↓] theorem y7y (K : List PV → Prop) : j5z s [] K = K [] := rfl
@[simp ↓] theorem y7z (K : List PV → Prop) (t : Nat) (rs : List MRes) : j5z ⟨e, st⟩ (.tmp t :: rs) K = j5z ⟨e, st⟩ rs fun ps => K (q6h e t :: ps) := rfl
@[simp ↓] theorem y5p (K : List PV → Prop) (t k : Nat) (agg : Bool) (rs : List MRes) : j5z ⟨e, st⟩ (.cell t k agg :: rs) K = q5r (k10 st (q6h e t)) fun r => k05 r.1 r.2 k agg fun p => j5z ⟨e, st⟩ rs fun ps => K (p :: ps) := by
 have : j5z ⟨e, st⟩ (.cell t k agg :: rs) K = q64 (.load k agg (.tmp t)) (q6a e) st fun p => j5z ⟨e, st⟩ rs fun ps => K (p :: ps) := rfl
 rw [this, j27]
 rfl
end
theorem j3n (op : BinOp) (p q : PV) (K : PV → Prop) : z1b op p q K ↔ ∃ r, z1b op p q (fun x => x = r) ∧ K r := by
 unfold z1b
 repeat' split
 all_goals first | (simp; done) | (constructor <;> grind)
theorem k8b (k b off n cap : Nat) (lo hi mx : Option Int) (K : PV → Prop) : q8y k b off n cap lo hi mx K ↔ ∃ r, q8y k b off n cap lo hi mx (fun x => x = r) ∧ K r := by
 unfold q8y
 cases lo with
 | none => simp only; constructor <;> grind
 | some l =>
  simp only
  constructor
  ·rintro ⟨h0, h1, h2, h3, h4, h5, h6, h7⟩
   by_cases hl : l = mx.getD cap
   ·exact ⟨_, ⟨h0, h1, h2, h3, h4, h5, fun _ => rfl, fun h => by omega⟩, h6 hl⟩
   ·exact ⟨_, ⟨h0, h1, h2, h3, h4, h5, fun h => absurd h hl, fun _ => rfl⟩, h7 (by omega)⟩
  ·rintro ⟨r, ⟨h0, h1, h2, h3, h4, h5, h6, h7⟩, h8⟩
   exact ⟨h0, h1, h2, h3, h4, h5, fun h => by rw [h6 h]; exact h8, fun h => by rw [h7 h]; exact h8⟩
theorem z39 (k : Nat) (t : Bool) (cs : List PV) (n : Nat) (p : PV) (lo hi mx : Option Int) (K : PV → Prop) : k3b k t cs n p lo hi mx K ↔ ∃ r, k3b k t cs n p lo hi mx (fun x => x = r) ∧ K r := by
 unfold k3b
 split <;> first | (simp; done) | (constructor <;> grind)
theorem z7z (k : Nat) (p : PV) (lo hi mx : Option Int) (K : PV → Prop) : k2k k p lo hi mx K ↔ ∃ r, k2k k p lo hi mx (fun x => x = r) ∧ K r := by
 unfold k2k
 split
 ·constructor
  ·rintro ⟨h1, h2⟩; exact ⟨p, ⟨h1, rfl⟩, h2⟩
  ·rintro ⟨r, ⟨h1, rfl⟩, h2⟩; exact ⟨h1, h2⟩
 split
 ·exact z39 ..
 ·split
  ·exact k8b ..
  ·simp
theorem z1k (n k : Nat) (p : PV) (lo hi mx : Option Int) (K : PV → Prop) : q7t n k p lo hi mx K ↔ ∃ r, q7t n k p lo hi mx (fun x => x = r) ∧ K r := by
 unfold q7t
 split
 ·constructor <;> grind
 ·exact k8b ..
 ·simp
theorem z1l (s : ByteArray) (lo hi : Option Int) (K : PV → Prop) : q9m s lo hi K ↔ ∃ r, q9m s lo hi (fun x => x = r) ∧ K r := by
 unfold q9m
 split <;> first | (simp; done) | (constructor <;> grind)
theorem k6a (v : MVal) (ρ : MX → PV) (st : q5e) (K : PV → Prop) : q7n v ρ st K ↔ ∃ p, q7n v ρ st (fun q => q = p) ∧ K p := by
 cases v
 case bin op T x y => exact j3n op _ _ K
 case pick c a b =>
  simp only [q7n]
  split
  ·rename_i t _
   cases t <;> simp
  ·simp
 case slice k x lo hi mx =>
  simp only [q7n]
  split
  ·exact z7z ..
  ·simp
 case sliceArr n k x lo hi mx =>
  simp only [q7n]
  split
  ·exact z1k ..
  ·simp
 case sliceStr x lo hi =>
  simp only [q7n]
  split
  ·exact z1l ..
  ·simp
 all_goals simp only [q7n]
 all_goals (repeat' split)
 all_goals first | (simp; done) | (constructor <;> grind)
def k4j (P : Program) (Cl : q5e → Prop) (l : List (DFlag × MInst)) (s : PS) (K : PS → Prop) (QP : PV → q5e → Prop) (_ : Tok (Cl, l, K, QP) := ⟨⟩) : Prop := mdraw P Cl l s K QP
def k7b (P : Program) (Cl : q5e → Prop) (fl : DFlag) (op : MOp) (e : Env) (st : q5e) (K QP : PV → q5e → Prop) (_ : Tok (Cl, fl, op, K, QP) := ⟨⟩) : Prop := mdraw.one P Cl fl ⟨none, none, op⟩ ⟨e, st⟩ K QP
theorem Rets.xcall {P : Program} {g : FuncId} {ps : List PV} {st : q5e} {p : PV} (h : Rets P g ps st p) {Q : PEnd → q5e → Prop} (hk : Q (.ret p) st) : xcall P g ps st Q := h.calls hk
def j3o (P : Program) (Cl : q5e → Prop) (g : FuncId) (ps : List PV) (K : PV → Prop) (QP : PV → q5e → Prop) (_ : Tok (Cl, K, QP) := ⟨⟩) : Prop :=
 ∃ p, (∀ st, Cl st → PCalls P g ps st (fun en st' => st' = st ∧ (en = .ret p ∨ ∃ q, en = .panic q ∧ QP q st))) ∧ K p
def k07 (Cl : q5e → Prop) (k : Nat) (agg : Bool) (p : PV) (K : PV → Prop) (_ : Tok (Cl, K) := ⟨⟩) : Prop :=
 ∃ q, (∀ st, Cl st → q7n (.load k agg (.const p)) (q6a []) st (fun r => r = q)) ∧ K q
theorem z1m {Cl : q5e → Prop} {k : Nat} {agg : Bool} {cs : List PV} {off : Nat} {K : PV → Prop} (h : k05 cs off k agg K) : k07 Cl k agg (.iptr cs off) K := by
 have h' : q7n (.load k agg (.const (.iptr cs off))) (q6a []) [] K := h
 obtain ⟨q, h1, h2⟩ := (k6a _ _ _ _).1 h'
 exact ⟨q, fun _ _ => h1, h2⟩
theorem z4a {st0 : q5e} {M : List Nat} {k : Nat} {agg : Bool} {b off : Nat} {T : TypeId} {cs : List PV} {K : PV → Prop} (hb : b ∉ M) (hg : q5y st0 b = some (.arr T cs)) (h : k05 cs off k agg K) : k07 (Cls st0 M) k agg (.ptr b off) K := by
 have key : ∀ (st : q5e) (K' : PV → Prop), q5y st b = some (.arr T cs) → q7n (.load k agg (.const (.ptr b off))) (q6a []) st K' = k05 cs off k agg K' := by
  intro st K' hst
  simp only [q7n, q6a, k10, hst]
  rfl
 obtain ⟨q, h1, h2⟩ := (k6a _ _ _ _).1 ((key st0 K hg).symm ▸ h)
 exact ⟨q, fun st hst => by rw [key st _ (hst b hb _ hg)]; rwa [key st0 _ hg] at h1, h2⟩
@[simp] theorem j3p (c : Nat) (o : PObj) (st : q5e) (b : Nat) : q6x ((c, o) :: st) b = ((¬ c = b ∧ ¬ b = c) ∧ q6x st b) := propext ⟨fun h => h, fun h => h⟩
@[simp] theorem y70 (c : Nat) : q5y [] c = none := by rw [q5y]
@[simp] theorem y5q (b : Nat) (o : PObj) (st : q5e) (c : Nat) : q5y ((b, o) :: st) c = if b = c then some o else q5y st c := by rw [q5y]
theorem Cls.self (st : q5e) (M : List Nat) : Cls st M st := fun _ _ _ h => h
@[simp] theorem y71 (st : q5e) (M : List Nat) : Cls st M st = True := eq_true (Cls.self st M)
@[simp] theorem j3q {st0 st : q5e} {M : List Nat} {b : Nat} {o : PObj} (hn : q6x st b) (h : Cls st0 M st) : Cls st0 M ((b, o) :: st) := fun c hc x hx => by
 have := h c hc x hx
 simp only [q5y]
 rw [if_neg]
 ·exact this
 ·rintro rfl; rw [k35 hn] at this; cases this
@[simp] theorem z9t {st0 st : q5e} {M : List Nat} {b : Nat} {o : PObj} (h : Cls st0 M st) : Cls ((b, o) :: st0) M ((b, o) :: st) := fun c hc x hx => by
 simp only [q5y] at hx ⊢
 split
 ·rename_i e; rw [if_pos e] at hx; exact hx
 ·rename_i e; rw [if_neg e] at hx; exact h c hc x hx
@[simp] theorem y5r {st0 st : q5e} {M : List Nat} {b : Nat} {o o' : PObj} (hb : b ∈ M) (h : Cls st0 M st) : Cls ((b, o) :: st0) M ((b, o') :: st) := fun c hc x hx => by
 have hne : b ≠ c := by rintro rfl; exact hc hb
 simp only [q5y, if_neg hne] at hx ⊢
 exact h c hc x hx
@[simp] theorem j60 {st0 : q5e} {M : List Nat} {k : Nat} {agg : Bool} {b off : Nat} {K : PV → Prop} (hb : b ∉ M) : k07 (Cls st0 M) k agg (.val (.pointer (some ⟨b, off, none⟩))) K = q5r (j2e (q5y st0 b)) fun r => k05 r.2 off k agg K := by
 apply propext
 cases hg : q5y st0 b with
 | none =>
  simp only [j2e, q9t, iff_false]
  rintro ⟨q, h1, -⟩
  have := h1 st0 (Cls.self _ _)
  simp [q7n, q6a, k10, hg] at this
 | some o =>
  cases o with
  | arr T cs =>
   simp only [j6f, q5s]
   refine ⟨?_, fun h => z4a hb hg h⟩
   rintro ⟨q, h1, h2⟩
   have := h1 st0 (Cls.self _ _)
   have h3 : q7n (.load k agg (.const (.ptr b off))) (q6a []) st0 K := (k6a _ _ _ _).2 ⟨q, this, h2⟩
   simpa only [q7n, q6a, k10, hg, k05] using h3
  | _ =>
   simp only [j2e, q9t, iff_false]
   rintro ⟨q, h1, -⟩
   have := h1 st0 (Cls.self _ _)
   simp [q7n, q6a, k10, hg] at this
@[simp] theorem j61 {st0 : q5e} {M : List Nat} {k : Nat} {agg : Bool} {cs : List PV} {off : Nat} {K : PV → Prop} : k07 (Cls st0 M) k agg (.iptr cs off) K = k05 cs off k agg K := by
 apply propext
 refine ⟨?_, fun h => z1m h⟩
 rintro ⟨q, h1, h2⟩
 exact (k6a (.load k agg (.const (.iptr cs off))) (q6a []) st0 K).2 ⟨q, h1 st0 (Cls.self _ _), h2⟩
section
variable (P : Program) (Cl : q5e → Prop) (K : PS → Prop) (QP : PV → q5e → Prop) (K1 : PV → q5e → Prop) (Q : q7q) (e : Env) (st : q5e)
@[simp ↓] theorem y5s (s : PS) : k4j P Cl [] s K QP = K s := rfl
@[simp ↓] theorem y3e (fl : DFlag) (d : Option Nat) (op : MOp) (l : List (DFlag × MInst)) : k4j P Cl ((fl, ⟨d, none, op⟩) :: l) ⟨e, st⟩ K QP =
  k7b P Cl fl op e st (fun p st' => k0p (⟨k0x e d p, st'⟩ : PS) fun s => k4j P Cl l s K QP) QP := rfl
@[simp ↓] theorem j62 (fl : DFlag) (d : Option Nat) (t : Nat) (op : MOp) (l : List (DFlag × MInst)) : k4j P Cl ((fl, ⟨d, some (t, true), op⟩) :: l) ⟨e, st⟩ K QP = q5r (q6h e t).gd? fun c =>
  onG c (k0p (z3k e t true) fun e => k7b P Cl fl op e st (fun p st' => k0p (⟨k0x e d p, st'⟩ : PS) fun s => k4j P Cl l s K QP) QP)
   (k0p (⟨k0x (z3k e t false) d .undef, st⟩ : PS) fun s => k4j P Cl l s K QP) (k0p (⟨k0x e d .undef, st⟩ : PS) fun s => k4j P Cl l s K QP) := by
 simp only [k4j, mdraw]
 split
 ·rename_i c h; simp only [h, k83, q5s, j6l, k4c]; cases c <;> simp <;> rfl
 ·rename_i vs h
  have hg : (q6h e t).gd? = some .skip := by rw [h]; rfl
  rw [hg, q5s]
  rfl
 ·rename_i h h2; rw [k84 h h2]; simp
@[simp ↓] theorem j63 (fl : DFlag) (d : Option Nat) (t : Nat) (op : MOp) (l : List (DFlag × MInst)) : k4j P Cl ((fl, ⟨d, some (t, false), op⟩) :: l) ⟨e, st⟩ K QP = q5r (q6h e t).gd? fun c =>
  onG c (k0p (⟨k0x (z3k e t true) d .undef, st⟩ : PS) fun s => k4j P Cl l s K QP)
   (k0p (z3k e t false) fun e => k7b P Cl fl op e st (fun p st' => k0p (⟨k0x e d p, st'⟩ : PS) fun s => k4j P Cl l s K QP) QP) (k0p (⟨k0x e d .undef, st⟩ : PS) fun s => k4j P Cl l s K QP) := by
 simp only [k4j, mdraw]
 split
 ·rename_i c h; simp only [h, k83, q5s, j6l, k4c]; cases c <;> simp <;> rfl
 ·rename_i vs h
  have hg : (q6h e t).gd? = some .skip := by rw [h]; rfl
  rw [hg, q5s]
  rfl
 ·rename_i h h2; rw [k84 h h2]; simp
@[simp ↓] theorem j50 (v : MVal) : k7b P Cl .early (.val v) e st K1 QP = q64 v (q6a e) st fun p => K1 p st := rfl
@[simp ↓] theorem y5t (op : MOp) : k7b P Cl .last op e st K1 QP = xop P op (q6a e) st K1 QP := rfl
@[simp ↓] theorem y5u (op : MOp) : k7b P Cl .hard op e st K1 QP = xop P op (q6a e) st (fun p st' => Cl st' ∧ K1 p st') QP := rfl
theorem q52 (v : MVal) (hv : q98 v = false) : k7b P Cl .late (.val v) e st K1 QP = q64 v (q6a e) [] fun p => K1 p st := by
 simp only [k7b, mdraw.one, z69, hv, Bool.false_eq_true, if_false, q64]
 exact propext (k6a v (q6a e) [] fun p => K1 p st).symm
@[simp ↓] theorem j88 (x : MX) : k7b P Cl .late (.val (.mv x)) e st K1 QP = q64 (.mv x) (q6a e) [] fun p => K1 p st := q52 P Cl QP K1 e st _ rfl
@[simp ↓] theorem j51 (c a b : MX) : k7b P Cl .late (.val (.pick c a b)) e st K1 QP = q64 (.pick c a b) (q6a e) [] fun p => K1 p st := q52 P Cl QP K1 e st _ rfl
@[simp ↓] theorem z9u (x : MX) : k7b P Cl .late (.val (.nilCheck x)) e st K1 QP = q64 (.nilCheck x) (q6a e) [] fun p => K1 p st := q52 P Cl QP K1 e st _ rfl
@[simp ↓] theorem j64 (op : BinOp) (T : TypeId) (x y : MX) : k7b P Cl .late (.val (.bin op T x y)) e st K1 QP = q64 (.bin op T x y) (q6a e) [] fun p => K1 p st := q52 P Cl QP K1 e st _ rfl
@[simp ↓] theorem j3r (neg : Bool) (ks : List LK) (x y : MX) : k7b P Cl .late (.val (.eqAgg neg ks x y)) e st K1 QP = q64 (.eqAgg neg ks x y) (q6a e) [] fun p => K1 p st := q52 P Cl QP K1 e st _ rfl
@[simp ↓] theorem j2h (neg : Bool) (x y : MX) : k7b P Cl .late (.val (.eqBool neg x y)) e st K1 QP = q64 (.eqBool neg x y) (q6a e) [] fun p => K1 p st := q52 P Cl QP K1 e st _ rfl
@[simp ↓] theorem j89 (op : UnOp) (x : MX) : k7b P Cl .late (.val (.un op x)) e st K1 QP = q64 (.un op x) (q6a e) [] fun p => K1 p st := q52 P Cl QP K1 e st _ rfl
@[simp ↓] theorem j3s (k : IntKind) (x : MX) : k7b P Cl .late (.val (.toInt k x)) e st K1 QP = q64 (.toInt k x) (q6a e) [] fun p => K1 p st := q52 P Cl QP K1 e st _ rfl
@[simp ↓] theorem z70 (off : Nat) (x : MX) : k7b P Cl .late (.val (.fieldAddr off x)) e st K1 QP = q64 (.fieldAddr off x) (q6a e) [] fun p => K1 p st := q52 P Cl QP K1 e st _ rfl
@[simp ↓] theorem z71 (k : Nat) (x i : MX) : k7b P Cl .late (.val (.indexAddr k x i)) e st K1 QP = q64 (.indexAddr k x i) (q6a e) [] fun p => K1 p st := q52 P Cl QP K1 e st _ rfl
@[simp ↓] theorem z9v (n k : Nat) (x i : MX) : k7b P Cl .late (.val (.indexArr n k x i)) e st K1 QP = q64 (.indexArr n k x i) (q6a e) [] fun p => K1 p st := q52 P Cl QP K1 e st _ rfl
@[simp ↓] theorem j65 (x : MX) : k7b P Cl .late (.val (.len x)) e st K1 QP = q64 (.len x) (q6a e) [] fun p => K1 p st := q52 P Cl QP K1 e st _ rfl
@[simp ↓] theorem j3t (k : Nat) (x : MX) (lo hi mx : Option MX) : k7b P Cl .late (.val (.slice k x lo hi mx)) e st K1 QP = q64 (.slice k x lo hi mx) (q6a e) [] fun p => K1 p st := q52 P Cl QP K1 e st _ rfl
@[simp ↓] theorem j08 (i : Nat) (x : MX) : k7b P Cl .late (.val (.extract i x)) e st K1 QP = q64 (.extract i x) (q6a e) [] fun p => K1 p st := q52 P Cl QP K1 e st _ rfl
@[simp ↓] theorem j2i (x : MX) : k7b P Cl .late (.val (.strlen x)) e st K1 QP = q64 (.strlen x) (q6a e) [] fun p => K1 p st := q52 P Cl QP K1 e st _ rfl
@[simp ↓] theorem z63 (T : TypeId) (len : Nat) (zs : List PV) (parts : List (Nat × Nat × MX)) : k7b P Cl .late (.val (.buildSlice T len zs parts)) e st K1 QP = q64 (.buildSlice T len zs parts) (q6a e) [] fun p => K1 p st := q52 P Cl QP K1 e st _ rfl
@[simp ↓] theorem j52 (k : Nat) (agg : Bool) (x : MX) : k7b P Cl .late (.val (.load k agg x)) e st K1 QP = k07 Cl k agg (q6a e x) fun p => K1 p st := by
 simp only [k7b, mdraw.one, z69, q98, if_true, k07, q7n]
 rfl
@[simp ↓] theorem j53 (g : FuncId) (fs cs : List PV) (args : List MX) : k7b P Cl .late (.call (.const (.func (.func g) fs cs)) args) e st K1 QP = j3o P Cl g (fs ++ args.map (q6a e) ++ cs) (fun p => K1 p st) QP := rfl
@[simp ↓] theorem y72 (l : List (DFlag × MInst)) (ks : List Nat) (s : PS) : xwp P (.draw false l ks) Q s = k4j P (fun _ => True) l s (fun s' => k0p (⟨k0y ks s'.env, s'.st⟩ : PS) fun s' => Q .normal s') (fun p st' => z9s Q p st') := rfl
def DrawLate (P : Program) (l : List (DFlag × MInst)) (K : PS → Prop) (QP : PV → q5e → Prop) (s : PS) (_ : Tok (l, K, QP) := ⟨⟩) : Prop := ∃ Cl : q5e → Prop, Cl s.st ∧ mdraw P Cl l s K QP
theorem DrawLate.intro {P : Program} {l : List (DFlag × MInst)} {K : PS → Prop} {QP : PV → q5e → Prop} {e : Env} {st : q5e} (M : List Nat) (h : k4j P (Cls st M) l ⟨e, st⟩ K QP) : DrawLate P l K QP ⟨e, st⟩ := ⟨_, Cls.self st M, h⟩
theorem DrawLate.by {P : Program} {l : List (DFlag × MInst)} {K : PS → Prop} {QP : PV → q5e → Prop} {e : Env} {st : q5e} (Cl : q5e → Prop) (h0 : Cl st) (h : k4j P Cl l ⟨e, st⟩ K QP) : DrawLate P l K QP ⟨e, st⟩ := ⟨Cl, h0, h⟩
@[simp ↓] theorem j9a (l : List (DFlag × MInst)) (ks : List Nat) (s : PS) : xwp P (.draw true l ks) Q s = DrawLate P l (fun s' => k0p (⟨k0y ks s'.env, s'.st⟩ : PS) fun s' => Q .normal s') (fun p st' => z9s Q p st') s := rfl
end
theorem Has.walk {P : Program} (q5n : P.follows .mixedOrders = true) {g : FuncId} {m : MFunc} (h : Has P g m) {nt np : Nat} {rs : List MRes} {c : MCode} (hm : m = ⟨nt, np, rs, c⟩) {ps : List PV} {st : q5e} {Q : PEnd → q5e → Prop} (hlen : ps.length = np)
  {R E : PV → q5e → Prop} (hR : ∀ p st, R p st → RetView .ret p st Q) (hE : ∀ p st, E p st → RetView .panic p st Q)
  (hw : xwp P c (fun e s => j3m rs R E e s) ⟨q63 0 ps, st⟩) : PCalls P g ps st Q := by
 subst hm
 exact h.calls q5n hlen hR hE hw
theorem Has.pure {P : Program} (q5n : P.follows .mixedOrders = true) {g : FuncId} {m : MFunc} (h : Has P g m) {nt np : Nat} {rs : List MRes} {c : MCode} (hm : m = ⟨nt, np, rs, c⟩) {ps : List PV} {st : q5e} {p : PV} (hlen : ps.length = np)
  (hw : xwp P c (fun e s => j3m rs (fun q st' => q = p ∧ Over st st') (fun _ _ => False) e s) ⟨q63 0 ps, st⟩) : Rets P g ps st p := by
 subst hm
 exact h.rets q5n hlen hw
@[simp] theorem y0t (st : q5e) (cs : List PV) (off : Nat) : k10 st (.iptr cs off) = some (cs, off) := rfl
@[simp] theorem y3f (st : q5e) (b off : Nat) : k10 st (.val (.pointer (some ⟨b, off, none⟩))) = (j2e (q5y st b)).map fun r => (r.2, off) := by
 simp only [k10]
 cases q5y st b with
 | none => rfl
 | some o => cases o <;> rfl
@[simp] theorem y3g (zs : List PV) : k0z zs [] = some zs := rfl
@[simp] theorem y0u (zs : List PV) (off k : Nat) (p : PV) (rest : List (Nat × Nat × PV)) :
  k0z zs ((off, k, p) :: rest) = j6m p.cells fun ps => if ps.length = k ∧ off + k ≤ zs.length then k0z (q5j zs off ps) rest else none := by
 rw [k0z]
 cases p.cells <;> rfl
section
variable (k : IntKind) (n : Int) (c : Bool) (s : ByteArray) (a : Option Addr) (l m : Nat) (r : Option Nat)
@[simp] theorem y5v : (PV.val (.int k n)).cells = some [.val (.int k n)] := rfl
@[simp] theorem y3h : (PV.val (.bool c)).cells = some [.val (.bool c)] := rfl
@[simp] theorem y5w : (PV.val (.string s)).cells = some [.val (.string s)] := rfl
@[simp] theorem y5x : (PV.val (.pointer a)).cells = some [.val (.pointer a)] := rfl
@[simp] theorem y0v : (PV.val (.slice a l m)).cells = some [.val (.slice a l m)] := rfl
@[simp] theorem y5y : (PV.val (.map r)).cells = some [.val (.map r)] := rfl
@[simp] theorem j54 : (PV.val .nilIface).cells = some [.val .nilIface] := rfl
@[simp] theorem y5z (cs : List PV) : (PV.agg cs).cells = some cs := rfl
@[simp] theorem y3i (t : Bool) (cs : List PV) (n : Nat) : (PV.list t cs n).cells = some [.list t cs n] := rfl
@[simp] theorem y3j (cs : List PV) (n : Nat) : (PV.iptr cs n).cells = some [.iptr cs n] := rfl
@[simp] theorem y3k (ks : List Value) (vs : List PV) : (PV.imap ks vs).cells = some [.imap ks vs] := rfl
@[simp] theorem y3l (f : Fn) (fs cs : List PV) : (PV.func f fs cs).cells = some [.func f fs cs] := rfl
@[simp] theorem y0w (T : TypeId) (p : PV) : (PV.iface T p).cells = some [.iface T p] := rfl
end
attribute [simp] q98 y0h q63 q6a q6h k0x j9r k0y z3k k3c q5j k0k
end Go.Pv

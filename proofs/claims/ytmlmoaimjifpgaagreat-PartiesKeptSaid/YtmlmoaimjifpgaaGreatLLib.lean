/- All of the pure layer. -/
import Derived.Test.YtmlmoaimjifpgaaGreatLSf
import Derived.KernelRfl
namespace Go.Pv
def Has (P : Program) (g : FuncId) (m : MFunc) : Prop := ∃ fn, P.funcs[g]? = some fn ∧ (fn.name == "runtime.NumGoroutine") = false ∧ k7j P fn = some m
theorem Has.calls {P : Program} (q5d : P.follows .mixedOrders = true) {g : FuncId} {m : MFunc} (h : Has P g m) {ps : List PV} {st : q43} {Q : PEnd → q43 → Prop} (hlen : ps.length = m.nparams)
  {R E : PV → q43 → Prop} (hR : ∀ p st, R p st → RetView .ret p st Q) (hE : ∀ p st, E p st → RetView .panic p st Q)
  (hw : mwp P m.body (k07 m.results R E) ⟨q6m 0 ps, st⟩) : PCalls P g ps st Q := by
 obtain ⟨fn, h1, h2, h3⟩ := h
 exact z18 q5d h1 h2 h3 hlen hR hE hw
theorem Sees.refl (p : PV) (st : q43) : Sees p st p st := ⟨fun I _ _ h1 h2 => ⟨I, I.le_refl, h1, h2⟩⟩
theorem Sees.trans {p q r : PV} {s t u : q43} (h : Sees p s q t) (k : Sees q t r u) : Sees p s r u := ⟨fun I w v h1 h2 => by
 obtain ⟨I', a, b, c⟩ := h.out I w v h1 h2
 obtain ⟨I'', a', b', c'⟩ := k.out I' w v b c
 exact ⟨I'', Imm.le_trans a a', b', c'⟩⟩
def StLe (st' st : q43) : Prop := ∀ b o, q5p st' b = some o → q5p st b = some o
theorem StLe.refl (st : q43) : StLe st st := fun _ _ h => h
theorem StLe.trans {a b c : q43} (h : StLe a b) (k : StLe b c) : StLe a c := fun x o hx => k x o (h x o hx)
theorem StLe.cons {st : q43} {b : Nat} {o : PObj} (h : q5p st b = none) : StLe st ((b, o) :: st) := by
 intro c x hc
 simp only [q5p]
 split
 ·rename_i e; subst e; rw [h] at hc; cases hc
 ·exact hc
theorem StLe.fresh {st : q43} {b : Nat} {o : PObj} (h : q5s st b) : StLe st ((b, o) :: st) := .cons (k03 h)
theorem k42 {n : Nat} : ∀ {st : q43}, (∀ b o, q5p st b = some o → b < n) → k0i st n
 | [], _ => trivial
 | (b, o) :: st, h => by
  refine ⟨h b o (by simp [q5p]), k42 fun c x hc => ?_⟩
  by_cases hbc : b = c
  ·subst hbc; exact h b o (by simp [q5p])
  ·exact h c x (by simp [q5p, hbc, hc])
theorem SRep.le {I : Imm} {st st' : q43} {w : World} (h : SRep I st w) (hle : StLe st' st) : SRep I st' w :=
 ⟨h.imm, fun b o hb => h.objs b o (hle b o hb), k42 fun b o hb => h.obj_lt (hle b o hb)⟩
theorem Sees.drop {p : PV} {st st' : q43} (h : StLe st' st) : Sees p st p st' := ⟨fun I _ _ h1 h2 => ⟨I, I.le_refl, h1.le h, h2⟩⟩
theorem RetView.same {c : PV → PEnd} {p : PV} {st : q43} {Q : PEnd → q43 → Prop} (h : Q (c p) st) : RetView c p st Q := ⟨p, st, .refl _ _, h⟩
theorem RetView.drop {c : PV → PEnd} {p : PV} {st st' : q43} {Q : PEnd → q43 → Prop} (hle : StLe st' st) (h : Q (c p) st') : RetView c p st Q := ⟨p, st', .drop hle, h⟩
theorem RetView.fresh1 {c : PV → PEnd} {p : PV} {st : q43} {b : Nat} {o : PObj} {Q : PEnd → q43 → Prop} (hf : q5s st b) (h : RetView c p st Q) : RetView c p ((b, o) :: st) Q := by
 obtain ⟨p', st', h1, h2⟩ := h
 exact ⟨p', st', (Sees.drop (.fresh hf)).trans h1, h2⟩
theorem z89 {e : Env} : ∀ {l : Env} {t : Nat}, (∀ q ∈ l, q50 e q.1 = q.2) → q50 l t = .any ∨ q50 l t = q50 e t
 | [], _, _ => .inl rfl
 | (u, p) :: l, t, h => by
  simp only [q50]
  by_cases hut : u = t
  ·subst hut
   simp only [if_true]
   exact .inr (h (u, p) (by simp)).symm
  ·simp only [hut, if_false]
   exact z89 fun q hq => h q (by simp [hq])
theorem View.weak {e e' : Env} {st st' : q43} (he : ∀ q ∈ e', q50 e q.1 = q.2) (hle : StLe st' st) : View ⟨e, st⟩ ⟨e', st'⟩ := fun I tm w h1 h2 =>
 ⟨I, I.le_refl, fun t => by
  rcases z89 (t := t) he with h | h
  ·simp only [h, vrep]
  ·simp only [h]; exact h1 t, h2.le hle⟩
def Over (st0 : q43) : q43 → Prop
 | [] => st0 = []
 | (b, o) :: st => st0 = (b, o) :: st ∨ q5s st b ∧ Over st0 st
theorem Over.le {st0 : q43} : ∀ {st : q43}, Over st0 st → StLe st0 st
 | [], h => by simp only [Over] at h; subst h; exact .refl _
 | (b, o) :: st, h => by
  simp only [Over] at h
  rcases h with rfl | ⟨h1, h2⟩
  ·exact .refl _
  ·exact h2.le.trans (.fresh h1)
@[simp] theorem Over.self (st : q43) : Over st st := by
 cases st with
 | nil => rfl
 | cons q st => exact .inl rfl
@[simp] theorem Over.cons {st : q43} (b : Nat) (o : PObj) (st0 : q43) : Over st0 ((b, o) :: st) ↔ st0 = (b, o) :: st ∨ q5s st b ∧ Over st0 st := .rfl
def Rets (P : Program) (g : FuncId) (ps : List PV) (st : q43) (p : PV) : Prop := PCalls P g ps st fun e s => e = .ret p ∧ s = st
theorem Has.rets {P : Program} (q5d : P.follows .mixedOrders = true) {g : FuncId} {m : MFunc} (h : Has P g m) {ps : List PV} {st : q43} {p : PV} (hlen : ps.length = m.nparams)
  (hw : mwp P m.body (k07 m.results (fun q st' => q = p ∧ Over st st') (fun _ _ => False)) ⟨q6m 0 ps, st⟩) : Rets P g ps st p :=
 h.calls q5d hlen (fun _ _ ⟨h1, h2⟩ => .drop h2.le ⟨by rw [h1], rfl⟩) (fun _ _ h => h.elim) hw
theorem Rets.calls {P : Program} {g : FuncId} {ps : List PV} {st : q43} {p : PV} (h : Rets P g ps st p) {Q : PEnd → q43 → Prop} (hq : Q (.ret p) st) : PCalls P g ps st Q :=
 PCalls.mono h fun e s ⟨h1, h2⟩ => by subst h1; subst h2; exact hq
@[congr] theorem j75 {P : Program} {g : FuncId} {ps ps' : List PV} {st st' : q43} {Q : PEnd → q43 → Prop} (h1 : ps = ps') (h2 : st = st') : PCalls P g ps st Q = PCalls P g ps' st' Q := by
 subst h1; subst h2; rfl
@[congr] theorem j51 {V : PS → PS → Prop} {body : q6w → PS → Prop} {Q : q6w} {s s' : PS} (h : s = s') : z1t V body Q s = z1t V body Q s' := by subst h; rfl
@[congr] theorem j52 {c : PV → PEnd} {p p' : PV} {st st' : q43} {Q : PEnd → q43 → Prop} (h : p = p') (h2 : st = st') : RetView c p st Q = RetView c p' st' Q := by subst h; subst h2; rfl
universe u
structure Tok {α : Sort u} (a : α) : Type where
def q5f {α : Type} (o : Option α) (K : α → Prop) (_ : Tok K := ⟨⟩) : Prop := ∃ a, o = some a ∧ K a
@[simp ↓, simp] theorem q5g {α : Type} (a : α) (K : α → Prop) : q5f (some a) K = K a := by simp [q5f]
@[simp] theorem q8n {α : Type} (K : α → Prop) : q5f none K = False := by simp [q5f]
def PV.bool? : PV → Option Bool
 | .val (.bool c) => some c
 | _ => none
@[simp] theorem j0u (c : Bool) : PV.bool? (.val (.bool c)) = some c := rfl
def PV.int? : PV → Option (IntKind × Int)
 | .val (.int k n) => some (k, n)
 | _ => none
@[simp] theorem z9a (k : IntKind) (n : Int) : PV.int? (.val (.int k n)) = some (k, n) := rfl
def PV.str? : PV → Option ByteArray
 | .val (.string s) => some s
 | _ => none
@[simp] theorem y6k (s : ByteArray) : PV.str? (.val (.string s)) = some s := rfl
def PV.agg? : PV → Option (List PV)
 | .agg cs => some cs
 | _ => none
@[simp] theorem y6l (cs : List PV) : PV.agg? (.agg cs) = some cs := rfl
def PV.tuple? : PV → Option (List PV)
 | .tuple cs => some cs
 | _ => none
@[simp] theorem j76 (cs : List PV) : PV.tuple? (.tuple cs) = some cs := rfl
def PV.func? : PV → Option (FuncId × List PV × List PV)
 | .func (.func g) fs cs => some (g, fs, cs)
 | _ => none
@[simp] theorem j0v (g : FuncId) (fs cs : List PV) : PV.func? (.func (.func g) fs cs) = some (g, fs, cs) := rfl
def PV.iface? : PV → Option (TypeId × PV)
 | .iface T p => some (T, p)
 | _ => none
@[simp] theorem j77 (T : TypeId) (p : PV) : PV.iface? (.iface T p) = some (T, p) := rfl
def PV.ptr? : PV → Option (Nat × Nat)
 | .val (.pointer (some ⟨b, off, none⟩)) => some (b, off)
 | _ => none
@[simp] theorem j53 (b off : Nat) : PV.ptr? (.val (.pointer (some ⟨b, off, none⟩))) = some (b, off) := rfl
def z69 : Option PObj → Option (TypeId × List PV)
 | some (.arr T cs) => some (T, cs)
 | _ => none
@[simp] theorem j54 (T : TypeId) (cs : List PV) : z69 (some (.arr T cs)) = some (T, cs) := rfl
def onB (c : Bool) (A B : Prop) (_ : Tok (A, B) := ⟨⟩) : Prop := (c = true → A) ∧ (c = false → B)
@[simp ↓, simp] theorem y6m (A B : Prop) : onB true A B = A := by simp [onB]
@[simp ↓, simp] theorem y3h (A B : Prop) : onB false A B = B := by simp [onB]
@[simp] theorem y1r (p : Prop) [Decidable p] (A B : Prop) : onB (decide p) A B = ((p → A) ∧ (¬ p → B)) := by simp [onB]
@[simp] theorem y8l (c : Bool) (A B : Prop) : onB (!c) A B = onB c B A := by cases c <;> simp
@[simp low] theorem onB_eq (c : Bool) (A B : Prop) : onB c A B = ((c = true → A) ∧ (c = false → B)) := rfl
theorem k43 (p : PV) : k6q p = p.int?.map (·.2) := by
 cases p <;> try rfl
 rename_i v; cases v <;> rfl
def q6k (op : MVal) (ρ : MX → PV) (st : q43) (K : PV → Prop) (_ : Tok K := ⟨⟩) : Prop := q6u op ρ st K
def k61 (op : BinOp) (p q : PV) (K : PV → Prop) (_ : Tok K := ⟨⟩) : Prop := k7w op p q K
def q9r (cs : List PV) (off k : Nat) (agg : Bool) (K : PV → Prop) (_ : Tok K := ⟨⟩) : Prop :=
 if agg then ∃ ps, sub cs off k = some ps ∧ K (.agg ps) else ∃ p, cs[off]? = some p ∧ K p
@[simp] theorem j9s (cs : List PV) (off k : Nat) (K : PV → Prop) : q9r cs off k true K = q5f (sub cs off k) fun ps => K (.agg ps) := by simp [q9r, q5f]
@[simp] theorem j78 (cs : List PV) (off k : Nat) (K : PV → Prop) : q9r cs off k false K = q5f (cs[off]?) K := by simp [q9r, q5f]
theorem z9b (cs : List PV) (off k : Nat) : sub cs off k = if off + k ≤ cs.length then some ((cs.drop off).take k) else none := rfl
@[simp] theorem y8m (c : PV) (cs : List PV) (off k : Nat) : sub (c :: cs) off k = if off + k ≤ (c :: cs).length then some (((c :: cs).drop off).take k) else none := rfl
section
variable (ρ : MX → PV) (st : q43) (K : PV → Prop)
@[simp ↓] theorem y8n (x : MX) : q6k (.mv x) ρ st K = K (ρ x) := rfl
@[simp ↓] theorem y3i (c a b : MX) : q6k (.pick c a b) ρ st K = q5f (ρ c).bool? fun t => onB t (K (ρ a)) (K (ρ b)) := by
 simp only [q6k, q6u]; split <;> simp_all [PV.bool?]
@[simp ↓] theorem y1s (zs : List PV) (parts : List (Nat × Nat × MX)) : q6k (.build zs parts) ρ st K = q5f (q9j zs (parts.map fun q => (q.1, q.2.1, ρ q.2.2))) fun cs => K (.agg cs) := by
 simp only [q6k, q6u]; split <;> simp_all
@[simp ↓] theorem j2r (T : TypeId) (len : Nat) (zs : List PV) (parts : List (Nat × Nat × MX)) : q6k (.buildSlice T len zs parts) ρ st K = q5f (q9j zs (parts.map fun q => (q.1, q.2.1, ρ q.2.2))) fun cs => K (.list true cs len) := by
 simp only [q6k, q6u]; split <;> simp_all
@[simp ↓] theorem j2s (k : Nat) (agg : Bool) (x : MX) : q6k (.load k agg x) ρ st K = q5f (k1v st (ρ x)) fun r => q9r r.1 r.2 k agg K := by
 simp only [q6k, q6u]; split <;> simp_all [q9r]
def j2t (p : PV) (K : PV → Prop) (_ : Tok K := ⟨⟩) : Prop :=
 match p with
 | .iptr cs off => K (.iptr cs off)
 | .val (.pointer (some a)) => K (.val (.pointer (some a)))
 | .func (.func f) fs cs => K (.func (.func f) fs cs)
 | .func (.yield l) fs cs => K (.func (.yield l) fs cs)
 | _ => False
@[simp] theorem y1t (cs : List PV) (off : Nat) : j2t (.iptr cs off) K = K (.iptr cs off) := rfl
@[simp] theorem y3j (a : Addr) : j2t (.val (.pointer (some a))) K = K (.val (.pointer (some a))) := rfl
@[simp] theorem j9t (l : Nat) (fs cs : List PV) : j2t (.func (.yield l) fs cs) K = K (.func (.yield l) fs cs) := rfl
@[simp] theorem y1u (f : FuncId) (fs cs : List PV) : j2t (.func (.func f) fs cs) K = K (.func (.func f) fs cs) := rfl
@[simp ↓] theorem j55 (x : MX) : q6k (.nilCheck x) ρ st K = j2t (ρ x) K := rfl
@[simp ↓] theorem y6n (op : BinOp) (T : TypeId) (x y : MX) : q6k (.bin op T x y) ρ st K = k61 op (ρ x) (ρ y) K := rfl
section
variable (k k' : IntKind) (a b : Int) (s t : ByteArray)
@[simp] theorem y8o : k61 .add (.val (.int k a)) (.val (.int k' b)) K = (k = k' ∧ K (.val (.int k (k.wrap (a + b))))) := rfl
@[simp] theorem y8p : k61 .sub (.val (.int k a)) (.val (.int k' b)) K = (k = k' ∧ K (.val (.int k (k.wrap (a - b))))) := rfl
@[simp] theorem y8q : k61 .mul (.val (.int k a)) (.val (.int k' b)) K = (k = k' ∧ K (.val (.int k (k.wrap (a * b))))) := rfl
@[simp] theorem y8r : k61 .quo (.val (.int k a)) (.val (.int k' b)) K = (k = k' ∧ b ≠ 0 ∧ K (.val (.int k (k.wrap (a.tdiv b))))) := rfl
@[simp] theorem y8s : k61 .rem (.val (.int k a)) (.val (.int k' b)) K = (k = k' ∧ b ≠ 0 ∧ K (.val (.int k (a.tmod b)))) := rfl
@[simp] theorem y8t : k61 .shl (.val (.int k a)) (.val (.int k' b)) K = (0 ≤ b ∧ K (.val (.int k (k.wrap (a * 2 ^ min b.toNat k.bits))))) := rfl
@[simp] theorem y8u : k61 .shr (.val (.int k a)) (.val (.int k' b)) K = (0 ≤ b ∧ K (.val (.int k (a.fdiv (2 ^ min b.toNat k.bits))))) := rfl
@[simp] theorem y8v : k61 .and (.val (.int k a)) (.val (.int k' b)) K = (k = k' ∧ K (.val (.int k (k.wrap (BitVec.ofInt k.bits a &&& BitVec.ofInt k.bits b).toNat)))) := rfl
@[simp] theorem bin_or : k61 .or (.val (.int k a)) (.val (.int k' b)) K = (k = k' ∧ K (.val (.int k (k.wrap (BitVec.ofInt k.bits a ||| BitVec.ofInt k.bits b).toNat)))) := rfl
@[simp] theorem y8w : k61 .xor (.val (.int k a)) (.val (.int k' b)) K = (k = k' ∧ K (.val (.int k (k.wrap (BitVec.ofInt k.bits a ^^^ BitVec.ofInt k.bits b).toNat)))) := rfl
@[simp] theorem y1v : k61 .andNot (.val (.int k a)) (.val (.int k' b)) K = (k = k' ∧ K (.val (.int k (k.wrap (BitVec.ofInt k.bits a &&& ~~~ BitVec.ofInt k.bits b).toNat)))) := rfl
@[simp] theorem y8x : k61 .eql (.val (.int k a)) (.val (.int k' b)) K = (k = k' ∧ K (.val (.bool (decide (a = b))))) := by
 have : (a == b) = decide (a = b) := rfl
 simp only [k61, k7w, k4j, z1n, this]
@[simp] theorem y8y : k61 .neq (.val (.int k a)) (.val (.int k' b)) K = (k = k' ∧ K (.val (.bool (decide (a ≠ b))))) := by
 have : (a != b) = decide (a ≠ b) := by by_cases h : a = b <;> simp [h]
 simp only [k61, k7w, k4j, z1n, this]
@[simp] theorem y8z : k61 .lss (.val (.int k a)) (.val (.int k' b)) K = (k = k' ∧ K (.val (.bool (decide (a < b))))) := rfl
@[simp] theorem y80 : k61 .leq (.val (.int k a)) (.val (.int k' b)) K = (k = k' ∧ K (.val (.bool (decide (a ≤ b))))) := rfl
@[simp] theorem y81 : k61 .gtr (.val (.int k a)) (.val (.int k' b)) K = (k = k' ∧ K (.val (.bool (decide (b < a))))) := rfl
@[simp] theorem y82 : k61 .geq (.val (.int k a)) (.val (.int k' b)) K = (k = k' ∧ K (.val (.bool (decide (b ≤ a))))) := rfl
@[simp] theorem y83 : k61 .add (.val (.string s)) (.val (.string t)) K = (s.size + t.size < 2 ^ 62 ∧ K (.val (.string (s ++ t)))) := rfl
theorem z0x : (s.toList == t.toList) = decide (s = t) := by
 by_cases h : s = t
 ·simp [h]
 ·have : s.toList ≠ t.toList := by
   intro e
   rw [ByteArray.toList_eq, ByteArray.toList_eq] at e
   exact h (ByteArray.ext (Array.ext' e))
  simp [h, this]
@[simp] theorem y6o : k61 .eql (.val (.string s)) (.val (.string t)) K = K (.val (.bool (decide (s = t)))) := by
 simp only [k61, k7w, z1o, z0x]
@[simp] theorem y6p : k61 .neq (.val (.string s)) (.val (.string t)) K = K (.val (.bool (!decide (s = t)))) := by
 simp only [k61, k7w, z1o, z0x]
@[simp] theorem y6q : k61 .lss (.val (.string s)) (.val (.string t)) K = K (.val (.bool (Op.bytesLess s.toList t.toList))) := rfl
end
@[simp ↓] theorem y1w (neg : Bool) (ks : List LK) (x y : MX) : q6k (.eqAgg neg ks x y) ρ st K = q5f (ρ x).agg? fun cs => q5f (ρ y).agg? fun ds => q5f (q5z ks cs ds) fun b => K (.bool (if neg then !b else b)) := by
 simp only [q6k, q6u]; split <;> simp_all [q5f, PV.agg?]
 rename_i h
 intro x h1 y h2
 split at h1 <;> split at h2 <;> simp_all
@[simp] theorem y1x (k k' : IntKind) (a b : Int) : k0k .int (.val (.int k a)) (.val (.int k' b)) = if k = k' then some (decide (a = b)) else none := rfl
@[simp] theorem j9u (a b : Bool) : k0k .bool (.val (.bool a)) (.val (.bool b)) = some (a == b) := rfl
@[simp] theorem j9v : q5z [] [] [] = some true := rfl
def y6r : Option Bool → Option Bool → Option Bool
 | some a, some b => some (a && b)
 | _, _ => none
@[simp] theorem y3k (a b : Bool) : y6r (some a) (some b) = some (a && b) := rfl
@[simp] theorem z4e (k : LK) (ks : List LK) (p q : PV) (ps qs : List PV) : q5z (k :: ks) (p :: ps) (q :: qs) = y6r (k0k k p q) (q5z ks ps qs) := by
 simp only [q5z]
 cases k0k k p q <;> cases q5z ks ps qs <;> rfl
@[simp ↓] theorem y6s (x : MX) : q6k (.un .neg x) ρ st K = q5f (ρ x).int? fun q => K (.val (.int q.1 (q.1.wrap (0 - q.2)))) := by
 simp only [q6k, q6u]; cases h : ρ x <;> simp [PV.int?]
 rename_i v; cases v <;> simp
@[simp ↓] theorem y6t (x : MX) : q6k (.un .not x) ρ st K = q5f (ρ x).bool? fun b => K (.val (.bool !b)) := by
 simp only [q6k, q6u]; cases h : ρ x <;> simp [PV.bool?]
 rename_i v; cases v <;> simp
@[simp ↓] theorem y1y (k : IntKind) (x : MX) : q6k (.toInt k x) ρ st K = q5f (ρ x).int? fun q => K (.val (.int k (k.wrap q.2))) := by
 simp only [q6k, q6u]; cases h : ρ x <;> simp [PV.int?]
 rename_i v; cases v <;> simp
@[simp ↓] theorem j79 (T : TypeId) (x : MX) : q6k (.mkIface T x) ρ st K = K (.iface T (ρ x)) := rfl
@[simp ↓] theorem j9w (fn : Fn) (fs cs : List MX) : q6k (.mkFunc fn fs cs) ρ st K = K (.func fn (fs.map ρ) (cs.map ρ)) := rfl
def k33 (off : Nat) (p : PV) (K : PV → Prop) (_ : Tok K := ⟨⟩) : Prop :=
 match p with
 | .iptr cs k => K (.iptr cs (k + off))
 | .val (.pointer (some ⟨b, k, none⟩)) => K (.ptr b (k + off))
 | _ => False
@[simp] theorem j11 (off : Nat) (cs : List PV) (k : Nat) : k33 off (.iptr cs k) K = K (.iptr cs (k + off)) := rfl
@[simp] theorem j2u (off b k : Nat) : k33 off (.val (.pointer (some ⟨b, k, none⟩))) K = K (.ptr b (k + off)) := rfl
@[simp ↓] theorem j5k (off : Nat) (x : MX) : q6k (.fieldAddr off x) ρ st K = k33 off (ρ x) K := rfl
@[simp ↓] theorem y1z (off k : Nat) (agg : Bool) (x : MX) : q6k (.field off k agg x) ρ st K = q5f (ρ x).agg? fun cs => q9r cs off k agg K := by
 simp only [q6k, q6u]; cases h : ρ x <;> simp [PV.agg?, q9r]
def q7d (k : Nat) (p : PV) (j : Int) (K : PV → Prop) (_ : Tok K := ⟨⟩) : Prop :=
 match p with
 | .list _ cs n => 0 ≤ j ∧ j < n ∧ j.toNat * k < cs.length ∧ K (.iptr cs (j.toNat * k))
 | .val (.slice (some ⟨b, off, none⟩) n _) => 0 ≤ j ∧ j < n ∧ K (.ptr b (off + j.toNat * k))
 | _ => False
@[simp] theorem j12 (k : Nat) (t : Bool) (cs : List PV) (n : Nat) (j : Int) : q7d k (.list t cs n) j K = (0 ≤ j ∧ j < n ∧ j.toNat * k < cs.length ∧ K (.iptr cs (j.toNat * k))) := rfl
@[simp] theorem j2v (k b off n c : Nat) (j : Int) : q7d k (.val (.slice (some ⟨b, off, none⟩) n c)) j K = (0 ≤ j ∧ j < n ∧ K (.ptr b (off + j.toNat * k))) := rfl
@[simp] theorem j2w (k : Nat) (j : Int) : q7d k (.val (.slice none 0 0)) j K = False := rfl
@[simp ↓] theorem j5l (k : Nat) (x i : MX) : q6k (.indexAddr k x i) ρ st K = q5f (ρ i).int? fun q => q7d k (ρ x) q.2 K := by
 simp only [q6k, q6u]
 rw [k43]
 cases h : (ρ i).int? with
 | none => simp
 | some q =>
  simp only [Option.map_some, q5g]
  cases hx : ρ x with
  | val v =>
   cases v with
   | slice a n c =>
    cases a with
    | none =>
     cases n <;> cases c <;> simp [PV.asList, q7d]
    | some a => obtain ⟨b, off, t⟩ := a; cases t <;> simp [PV.asList, q7d]
   | _ => simp [PV.asList, q7d]
  | _ => simp [PV.asList, q7d]
def k5z (n k : Nat) (p : PV) (j : Int) (K : PV → Prop) (_ : Tok K := ⟨⟩) : Prop :=
 match p with
 | .iptr cs off => 0 ≤ j ∧ j < n ∧ K (.iptr cs (off + j.toNat * k))
 | .val (.pointer (some ⟨b, off, none⟩)) => 0 ≤ j ∧ j < n ∧ K (.ptr b (off + j.toNat * k))
 | _ => False
@[simp] theorem j2x (n k : Nat) (cs : List PV) (off : Nat) (j : Int) : k5z n k (.iptr cs off) j K = (0 ≤ j ∧ j < n ∧ K (.iptr cs (off + j.toNat * k))) := rfl
@[simp] theorem j5m (n k b off : Nat) (j : Int) : k5z n k (.val (.pointer (some ⟨b, off, none⟩))) j K = (0 ≤ j ∧ j < n ∧ K (.ptr b (off + j.toNat * k))) := rfl
@[simp ↓] theorem j56 (n k : Nat) (x i : MX) : q6k (.indexArr n k x i) ρ st K = q5f (ρ i).int? fun q => k5z n k (ρ x) q.2 K := by
 simp only [q6k, q6u]
 rw [k43]
 cases h : (ρ i).int? with
 | none => simp
 | some q => simp only [Option.map_some, q5g]; rfl
@[simp ↓] theorem j57 (x i : MX) : q6k (.indexStr x i) ρ st K = q5f (ρ i).int? fun q => q5f (ρ x).str? fun s => 0 ≤ q.2 ∧ q5f (s[q.2.toNat]?) fun c => K (.val (.int .u8 c.toNat)) := by
 simp only [q6k, q6u]
 rw [k43]
 cases h : (ρ i).int? with
 | none => simp
 | some q =>
  cases hx : ρ x with
  | val v => cases v <;> simp [PV.str?, q5f]
  | _ => simp [PV.str?]
def PV.len? : PV → Option Nat
 | .list _ _ n => some n
 | .val (.slice _ n _) => some n
 | _ => none
@[simp] theorem y3l (t : Bool) (cs : List PV) (n : Nat) : PV.len? (.list t cs n) = some n := rfl
@[simp] theorem y6u (a : Option Addr) (n c : Nat) : PV.len? (.val (.slice a n c)) = some n := rfl
@[simp ↓] theorem y6v (x : MX) : q6k (.len x) ρ st K = q5f (ρ x).len? fun n => K (.int n) := by
 simp only [q6k, q6u]
 cases hx : ρ x with
 | val v =>
  cases v with
  | slice a n c =>
   cases a with
   | none => cases n <;> cases c <;> simp [PV.asList]
   | some a => simp [PV.asList]
  | _ => simp [PV.asList, PV.len?]
 | _ => simp [PV.asList, PV.len?]
def PV.cap? : PV → Option Nat
 | .list true _ n => some n
 | .val (.slice _ _ c) => some c
 | _ => none
@[simp] theorem y3m (cs : List PV) (n : Nat) : PV.cap? (.list true cs n) = some n := rfl
@[simp] theorem y6w (a : Option Addr) (n c : Nat) : PV.cap? (.val (.slice a n c)) = some c := rfl
@[simp ↓] theorem y6x (x : MX) : q6k (.cap x) ρ st K = q5f (ρ x).cap? fun n => K (.int n) := by
 simp only [q6k, q6u]
 cases hx : ρ x with
 | val v => cases v <;> simp [PV.cap?]
 | list t cs n => cases t <;> simp [PV.cap?]
 | _ => simp [PV.cap?]
@[simp ↓] theorem j8a (i : Nat) (x : MX) : q6k (.extract i x) ρ st K = q5f (ρ x).tuple? fun ps => q5f (ps[i]?) K := by
 simp only [q6k, q6u]
 cases hx : ρ x <;> simp [PV.tuple?, q5f]
def z9c (isMax : Bool) (ps : List PV) (K : PV → Prop) (_ : Tok K := ⟨⟩) : Prop :=
 match ps with
 | [.val (.int k a), .val (.int _ b)] => K (.val (.int k (if isMax then (if b > a then b else a) else (if b < a then b else a))))
 | _ => False
@[simp] theorem j8b (m : Bool) (k k' : IntKind) (a b : Int) : z9c m [.val (.int k a), .val (.int k' b)] K = K (.val (.int k (if m then (if b > a then b else a) else (if b < a then b else a)))) := rfl
@[simp ↓] theorem j9x (m : Bool) (xs : List MX) : q6k (.minmax m xs) ρ st K = z9c m (xs.map ρ) K := rfl
def z2d (T : TypeId) (z : PV) (ok : Bool) (p : PV) (K : PV → Prop) (_ : Tok K := ⟨⟩) : Prop :=
 match p with
 | .iface U p => if U = T then (if ok then K (.tuple [p, .bool true]) else K p) else (ok = true ∧ K (.tuple [z, .bool false]))
 | .val .nilIface => ok = true ∧ K (.tuple [z, .bool false])
 | _ => False
@[simp] theorem j5n (T U : TypeId) (z : PV) (ok : Bool) (p : PV) : z2d T z ok (.iface U p) K = if U = T then (if ok then K (.tuple [p, .bool true]) else K p) else (ok = true ∧ K (.tuple [z, .bool false])) := rfl
@[simp] theorem j8c (T : TypeId) (z : PV) (ok : Bool) : z2d T z ok (.val .nilIface) K = (ok = true ∧ K (.tuple [z, .bool false])) := rfl
@[simp ↓] theorem j9y (T : TypeId) (z : PV) (ok : Bool) (x : MX) : q6k (.assert T z ok x) ρ st K = z2d T z ok (ρ x) K := rfl
@[simp] theorem y6y (ρ : MX → PV) : bnd ρ none = some none := rfl
@[simp] theorem y6z (ρ : MX → PV) (x : MX) : bnd ρ (some x) = (ρ x).int?.map fun q => some q.2 := by
 simp only [bnd, k43]
 cases (ρ x).int? <;> rfl
def k50 (s : ByteArray) (lo hi : Option Int) (K : PV → Prop) (_ : Tok K := ⟨⟩) : Prop := q8g s lo hi K
@[simp] theorem j58 (s : ByteArray) (l : Int) : k50 s (some l) none K = (0 ≤ l ∧ l ≤ s.size ∧ K (.str (s.extract l.toNat s.size))) := rfl
@[simp] theorem j59 (s : ByteArray) (h : Int) : k50 s none (some h) K = (0 ≤ h ∧ h ≤ s.size ∧ K (.str (s.extract 0 h.toNat))) := rfl
@[simp] theorem j2y (s : ByteArray) (l h : Int) : k50 s (some l) (some h) K = (0 ≤ l ∧ l ≤ h ∧ h ≤ s.size ∧ K (.str (s.extract l.toNat h.toNat))) := rfl
@[simp] theorem z0y (b off n cap : Nat) (lo hi mx : Option Int) : j17 (.val (.slice (some ⟨b, off, none⟩) n cap)) lo hi mx = false := rfl
def q9s (k : Nat) (p : PV) (lo hi mx : Option Int) (K : PV → Prop) (_ : Tok K := ⟨⟩) : Prop := k06 k p lo hi mx K
section
variable (k n b off cap : Nat) (t : Bool) (cs : List PV) (l h m : Int)
@[simp] theorem y3n : q9s k (.list t cs n) none none none K = K (.list t cs n) := rfl
@[simp] theorem y3o : q9s k (.list t cs n) (some l) none none K = (0 ≤ l ∧ l ≤ n ∧ cs.length ≤ n * k ∧ K (.list t (cs.drop (l.toNat * k)) (n - l.toNat))) := rfl
@[simp] theorem y3p : q9s k (.list t cs n) none (some h) none K = (0 ≤ h ∧ h ≤ n ∧ K (.list false (cs.take (h.toNat * k)) h.toNat)) := rfl
@[simp] theorem y3q : q9s k (.list t cs n) (some l) (some h) none K = (0 ≤ l ∧ l ≤ h ∧ h ≤ n ∧ K (.list false ((cs.take (h.toNat * k)).drop (l.toNat * k)) (h.toNat - l.toNat))) := rfl
@[simp] theorem y3r : q9s k (.list t cs n) none (some h) (some m) K = (0 ≤ h ∧ h ≤ m ∧ m ≤ n ∧ K (.list (decide (h = m)) (cs.take (h.toNat * k)) h.toNat)) := rfl
@[simp] theorem y3s : q9s k (.list t cs n) (some l) (some h) (some m) K = (0 ≤ l ∧ l ≤ h ∧ h ≤ m ∧ m ≤ n ∧ K (.list (decide (h = m)) ((cs.take (h.toNat * k)).drop (l.toNat * k)) (h.toNat - l.toNat))) := rfl
@[simp] theorem y3t : q9s k (.val (.slice none 0 0)) none none none K = K .nil := rfl
@[simp] theorem y3u : q9s k (.val (.slice none 0 0)) (some l) none none K = (0 ≤ l ∧ l ≤ ((0 : Nat) : Int) ∧ ([] : List PV).length ≤ 0 * k ∧ K (.list true (([] : List PV).drop (l.toNat * k)) (0 - l.toNat))) := rfl
@[simp] theorem y3v : q9s k (.val (.slice none 0 0)) none (some h) none K = (h = 0 ∧ K .nil) := rfl
@[simp] theorem y3w : q9s k (.val (.slice none 0 0)) none (some h) (some m) K = (0 ≤ h ∧ h ≤ m ∧ m ≤ ((0 : Nat) : Int) ∧ K (.list (decide (h = m)) (([] : List PV).take (h.toNat * k)) h.toNat)) := rfl
@[simp] theorem y3x : q9s k (.val (.slice (some ⟨b, off, none⟩) n cap)) (some l) none none K = (n ≤ cap ∧ 0 ≤ l ∧ l ≤ n ∧ (l = cap → K (.list true [] 0)) ∧ (l < cap → K (.own b (off + l.toNat * k) (n - l.toNat) (cap - l.toNat)))) := by
 simp only [q9s, k06, z0y, Bool.false_eq_true, if_false, PV.asList, q87]
 simp
@[simp] theorem y3y : q9s k (.val (.slice (some ⟨b, off, none⟩) n cap)) none (some h) none K = (0 ≤ h ∧ h ≤ cap ∧ K (.own b off h.toNat cap)) := by
 simp only [q9s, k06, z0y, Bool.false_eq_true, if_false, PV.asList, q87]
 simp
end
@[simp ↓] theorem y10 (k : Nat) (x : MX) (lo hi mx : Option MX) : q6k (.slice k x lo hi mx) ρ st K = q5f (bnd ρ lo) fun l => q5f (bnd ρ hi) fun h => q5f (bnd ρ mx) fun m => q9s k (ρ x) l h m K := by
 simp only [q6k, q6u]
 split
 ·rename_i h1 h2 h3
  simp only [h1, h2, h3, q5g]
  rfl
 ·rename_i hn
  simp only [q5f, eq_iff_iff, false_iff]
  rintro ⟨l, h1, h, h2, m, h3, -⟩
  exact hn l h m h1 h2 h3
def k8f (n k : Nat) (p : PV) (lo hi mx : Option Int) (K : PV → Prop) (_ : Tok K := ⟨⟩) : Prop := q72 n k p lo hi mx K
section
variable (k n b off : Nat) (cs : List PV) (l h m : Int)
@[simp] theorem j8d : k8f n k (.val (.pointer (some ⟨b, off, none⟩))) none none none K = K (.own b off n n) := by
 simp only [k8f, q72, q87]
 simp
end
@[simp ↓] theorem j6a (n k : Nat) (x : MX) (lo hi mx : Option MX) : q6k (.sliceArr n k x lo hi mx) ρ st K = q5f (bnd ρ lo) fun l => q5f (bnd ρ hi) fun h => q5f (bnd ρ mx) fun m => k8f n k (ρ x) l h m K := by
 simp only [q6k, q6u]
 split
 ·rename_i h1 h2 h3
  simp only [h1, h2, h3, q5g]
  rfl
 ·rename_i hn
  simp only [q5f, eq_iff_iff, false_iff]
  rintro ⟨l, h1, h, h2, m, h3, -⟩
  exact hn l h m h1 h2 h3
@[simp ↓] theorem y11 (x : MX) : q6k (.strOf x) ρ st K = q5f (q6a 1 st (ρ x)) fun r => q5f (q8r r.1) fun bs => K (.str ⟨bs.toArray⟩) := by
 simp only [q6k, q6u]
 split
 ·rename_i cs n h
  simp only [h, q5g]
  split
  ·rename_i bs hb; simp only [hb, q5g]
  ·rename_i hb; simp only [hb, q8n]
 ·rename_i h; simp only [h, q8n]
def k9y (r : Option (Option Nat)) (vs : List PV) (z : PV) (ok : Bool) (K : PV → Prop) (_ : Tok K := ⟨⟩) : Prop :=
 match r with
 | some (some j) => ∃ p, vs[j]? = some p ∧ K (if ok then .tuple [p, .bool true] else p)
 | some none => K (if ok then .tuple [z, .bool false] else z)
 | none => False
@[simp] theorem xlook_t (j : Nat) (vs : List PV) (z : PV) : k9y (some (some j)) vs z true K = q5f (vs[j]?) fun p => K (.tuple [p, .bool true]) := rfl
@[simp] theorem y84 (j : Nat) (vs : List PV) (z : PV) : k9y (some (some j)) vs z false K = q5f (vs[j]?) fun p => K p := rfl
@[simp] theorem y60 (vs : List PV) (z : PV) : k9y (some none) vs z true K = K (.tuple [z, .bool false]) := rfl
@[simp] theorem y61 (vs : List PV) (z : PV) : k9y (some none) vs z false K = K z := rfl
@[simp ↓] theorem j9z (kp : KP) (z : PV) (ok : Bool) (x i : MX) : q6k (.lookup kp z ok x i) ρ st K = q5f (z1p st (ρ x)) fun m => q5f (ρ i).key? fun kv => q7t kp kv = true ∧ k9y (k1w kp kv m.1) m.2 z ok K := by
 simp only [q6k, q6u]
 split
 ·rename_i h1 h2
  simp only [h1, h2, q5g]
  rfl
 ·rename_i hn
  simp only [q5f, eq_iff_iff, false_iff]
  rintro ⟨⟨ks, vs⟩, h1, kv, h2, -⟩
  exact hn ks vs kv h1 h2
end
inductive Gd where
 | b (c : Bool)
 | skip
def PV.gd? : PV → Option Gd
 | .val (.bool c) => some (.b c)
 | .val (.tuple _) => some .skip
 | _ => none
@[simp] theorem k7l (c : Bool) : PV.gd? (.val (.bool c)) = some (.b c) := rfl
@[simp] theorem y3z : PV.gd? (.val (.tuple #[])) = some .skip := rfl
def onG (g : Gd) (A B C : Prop) (_ : Tok (A, B, C) := ⟨⟩) : Prop :=
 match g with
 | .b c => onB c A B
 | .skip => C
@[simp ↓, simp] theorem j6b (c : Bool) (A B C : Prop) : onG (.b c) A B C = onB c A B := rfl
@[simp ↓, simp] theorem y62 (A B C : Prop) : onG .skip A B C = C := rfl
def q9a {α : Type} (a : α) (K : α → Prop) (_ : Tok K := ⟨⟩) : Prop := K a
@[simp] theorem k44 {α : Type} (a : α) (K : α → Prop) : q9a a K = K a := rfl
def xop (P : Program) (op : MOp) (ρ : MX → PV) (st : q43) (K QP : PV → q43 → Prop) (_ : Tok (K, QP) := ⟨⟩) : Prop := mop P op ρ st K QP
def Fresh (st : q43) (K : Nat → Prop) (_ : Tok K := ⟨⟩) : Prop := ∀ b, q5s st b → K b
theorem Fresh.intro {st : q43} {K : Nat → Prop} (h : ∀ b, q5s st b → K b) : Fresh st K := h
def j6c {α β : Type} (o : Option α) (f : α → Option β) (_ : Tok f := ⟨⟩) : Option β := o.bind f
@[simp ↓, simp] theorem y12 {α β : Type} (a : α) (f : α → Option β) : j6c (some a) f = f a := rfl
@[simp] theorem y13 {α β : Type} (f : α → Option β) : j6c none f = none := rfl
def j90 : MVal → Bool
 | .buildSlice .. => true
 | _ => false
def Lit (T : TypeId) (cs : List PV) (len : Nat) (st : q43) (K : PV → q43 → Prop) (_ : Tok K := ⟨⟩) : Prop := K (.list true cs len) st ∨ ∀ b, q5s st b → K (.own b 0 len len) ((b, .arr T cs) :: st)
theorem Lit.imm {T : TypeId} {cs : List PV} {len : Nat} {st : q43} {K : PV → q43 → Prop} (h : K (.list true cs len) st) : Lit T cs len st K := .inl h
def Grow (T : TypeId) (bytes k : Nat) (cs : List PV) (need : Nat) (st : q43) (K : PV → q43 → Prop) (_ : Tok K := ⟨⟩) : Prop := j0c T bytes k cs need st K
theorem Grow.intro {T : TypeId} {bytes k : Nat} {cs : List PV} {need : Nat} {st : q43} {K : PV → q43 → Prop} (h1 : need * bytes ≤ 140737488355328)
  (h2 : ∀ b cap, q5s st b → need ≤ cap → cap ≤ 9223372036854775807 → K (.own b 0 need cap) ((b, .arr T (cs ++ List.replicate ((cap - need) * k) .any)) :: st)) : Grow T bytes k cs need st K := ⟨h1, .inl h2⟩
def q6o (T : TypeId) (bytes k : Nat) (p : PV) (new : List PV) (m : Nat) (st : q43) (K : PV → q43 → Prop) (_ : Tok K := ⟨⟩) : Prop := q84 T bytes k p new m st K
section
variable (T : TypeId) (bytes k : Nat) (new : List PV) (m : Nat) (st : q43) (K : PV → q43 → Prop)
theorem k34 : q6o T bytes k (.val (.slice none 0 0)) new m st K = ((m = 0 → K .nil st) ∧ (¬ m = 0 → Grow T bytes k new m st K)) := by
 show (if m = 0 then K .nil st else Grow T bytes k new m st K) = _
 split <;> simp [*]
@[simp] theorem q45 (t : Bool) (cs : List PV) (n : Nat) : q6o T bytes k (.list t cs n) new m st K = ((m = 0 → K (.list t cs n) st) ∧ (¬ m = 0 → t = true ∧ cs.length = n * k ∧ Grow T bytes k (cs ++ new) (n + m) st K)) := by
 show (if m = 0 then K (.list t cs n) st else t = true ∧ cs.length = n * k ∧ Grow T bytes k (cs ++ new) (n + m) st K) = _
 split <;> simp [*]
end
theorem k1e {T : TypeId} {bytes k : Nat} {new : List PV} {m : Nat} {st : q43} {K : PV → q43 → Prop} {b n cap : Nat} {row : List PV} (hb : q5p st b = some (.arr T row)) (hl : row.length = cap * k) (hn : n ≤ cap) (hc : cap ≤ 9223372036854775807)
  (h : Grow T bytes k (row.take (n * k) ++ new) (n + m) (k1x b st) K) : q6o T bytes k (.own b 0 n cap) new m st K := by
 show q84 _ _ _ _ _ _ _ _
 simp only [q84, hb]
 exact ⟨trivial, by omega, hn, hc, .inl ⟨trivial, hl, h⟩⟩
theorem z4f {T : TypeId} {bytes k : Nat} {new : List PV} {m : Nat} {st : q43} {K : PV → q43 → Prop} {b off n cap : Nat} {row : List PV} (hb : q5p st b = some (.arr T row)) (hl : off + cap * k ≤ row.length) (hn : n ≤ cap) (hc : cap ≤ 9223372036854775807)
  (h0 : (n + m) * bytes ≤ 140737488355328) (h1 : n + m ≤ cap → K (.own b off (n + m) cap) (q71 st b (.arr T (q47 row (off + n * k) new)))) (h2 : cap < n + m → Grow T bytes k ((row.drop off).take (n * k) ++ new) (n + m) st K) : q6o T bytes k (.own b off n cap) new m st K := by
 show q84 _ _ _ _ _ _ _ _
 simp only [q84, hb]
 exact ⟨trivial, hl, hn, hc, .inr ⟨h0, h1, h2⟩⟩
def j2z (k : Nat) (p : PV) (new : List PV) (m : Nat) (st : q43) (K : PV → q43 → Prop) (_ : Tok K := ⟨⟩) : Prop := j19 k p new m st K
@[simp] theorem y30 (k : Nat) (new : List PV) (m : Nat) (st : q43) (K : PV → q43 → Prop) : j2z k (.val (.slice none 0 0)) new m st K = K (.int 0) st := rfl
@[simp] theorem j91 (k : Nat) (new : List PV) (m : Nat) (st : q43) (K : PV → q43 → Prop) (t : Bool) (cs : List PV) : j2z k (.list t cs 0) new m st K = K (.int 0) st := rfl
@[simp] theorem y31 (k : Nat) (new : List PV) (m : Nat) (st : q43) (K : PV → q43 → Prop) (b off n cap : Nat) : j2z k (.val (.slice (some ⟨b, off, none⟩) n cap)) new m st K =
  q5f (z69 (q5p st b)) fun r => off + min m n * k ≤ r.2.length ∧ K (.int (min m n : Nat)) (q71 st b (.arr r.1 (q47 r.2 off (new.take (min m n * k))))) := by
 simp only [j2z, j19]
 cases h : q5p st b with
 | none => simp [z69]
 | some o => cases o <;> simp [z69]
@[simp] theorem j6d (k : Nat) (st : q43) (t : Bool) (cs : List PV) (n : Nat) : q6a k st (.list t cs n) = if cs.length = n * k then some (cs, n) else none := rfl
@[simp] theorem j8e (k : Nat) (st : q43) : q6a k st (.val (.slice none 0 0)) = some ([], 0) := rfl
@[simp] theorem j8f (k : Nat) (st : q43) (b off n cap : Nat) : q6a k st (.val (.slice (some ⟨b, off, none⟩) n cap)) = j6c (z69 (q5p st b)) fun r => if off + n * k ≤ r.2.length then some ((r.2.drop off).take (n * k), n) else none := by
 simp only [q6a]
 cases h : q5p st b with
 | none => rfl
 | some o => cases o <;> rfl
@[simp] theorem j8g (st : q43) (s : ByteArray) : q6a 1 st (.val (.string s)) = some (s.data.toList.map fun b => .val (.int .u8 b.toNat), s.size) := rfl
def j6e (neg : Bool) (nk : NK) (p : PV) (st : q43) (K : PV → q43 → Prop) (_ : Tok K := ⟨⟩) : Prop := z3n neg nk p st K
section
variable (neg : Bool) (st : q43) (K : PV → q43 → Prop)
@[simp] theorem y63 (n c : Nat) : j6e neg .slice (.val (.slice none n c)) st K = K (.bool !neg) st := rfl
@[simp] theorem y64 (a : Addr) (n c : Nat) : j6e neg .slice (.val (.slice (some a) n c)) st K = K (.bool neg) st := rfl
@[simp] theorem y32 (t : Bool) (cs : List PV) (n : Nat) : j6e neg .slice (.list t cs n) st K = ((cs = [] → K (.bool !neg) st) ∧ K (.bool neg) st) := rfl
@[simp] theorem y33 : j6e neg .iface (.val .nilIface) st K = K (.bool !neg) st := rfl
@[simp] theorem y14 (T : TypeId) (p : PV) : j6e neg .iface (.iface T p) st K = K (.bool neg) st := rfl
@[simp] theorem y34 : j6e neg .map (.val (.map none)) st K = K (.bool !neg) st := rfl
@[simp] theorem y65 (r : Nat) : j6e neg .map (.val (.map (some r))) st K = K (.bool neg) st := rfl
@[simp] theorem y35 (ks : List Value) (vs : List PV) : j6e neg .map (.imap ks vs) st K = K (.bool neg) st := rfl
end
def PV.map? : PV → Option Nat
 | .val (.map (some b)) => some b
 | _ => none
@[simp] theorem j6f (b : Nat) : PV.map? (.val (.map (some b))) = some b := rfl
def map? : Option PObj → Option (List Value × List PV)
 | some (.map ks vs) => some (ks, vs)
 | _ => none
@[simp] theorem j20 (ks : List Value) (vs : List PV) : map? (some (.map ks vs)) = some (ks, vs) := rfl
@[simp] theorem y36 (st : q43) (b : Nat) : z1p st (.val (.map (some b))) = map? (q5p st b) := by
 simp only [z1p]
 cases h : q5p st b with
 | none => rfl
 | some o => cases o <;> rfl
@[simp] theorem y37 (st : q43) : z1p st (.val (.map none)) = some ([], []) := rfl
@[simp] theorem y15 (st : q43) (ks : List Value) (vs : List PV) : z1p st (.imap ks vs) = some (ks, vs) := rfl
@[simp] theorem y66 (v : Value) : PV.key? (.val v) = some v := rfl
@[simp] theorem y67 (cs : List PV) : PV.key? (.agg cs) = (PV.vals? cs).map fun vs => .agg vs.toArray := rfl
@[simp] theorem y38 : PV.vals? [] = some [] := rfl
@[simp] theorem y16 (v : Value) (ps : List PV) : PV.vals? (.val v :: ps) = (PV.vals? ps).map (v :: ·) := rfl
@[simp] theorem y39 (lk : List LK) (v : Value) : q7t (false, lk) v = (lk.length == 1) := rfl
@[simp] theorem y4a (lk : List LK) (cs : Array Value) : q7t (true, lk) (.agg cs) = (cs.size == lk.length) := rfl
@[simp] theorem y68 (kp : KP) (k : Value) : k1w kp k [] = some none := rfl
def j21 (r : Option Bool) (rest : Option (Option Nat)) : Option (Option Nat) :=
 match r with
 | some true => some (some 0)
 | some false => rest.map (·.map (· + 1))
 | none => none
@[simp] theorem y85 (rest : Option (Option Nat)) : j21 (some true) rest = some (some 0) := rfl
@[simp] theorem y86 (rest : Option (Option Nat)) : j21 (some false) rest = rest.map (·.map (· + 1)) := rfl
@[simp] theorem j22 (kp : KP) (k k' : Value) (ks : List Value) : k1w kp k (k' :: ks) = j21 (q5z kp.2 (q52 kp.1 k) (q52 kp.1 k')) (k1w kp k ks) := by
 simp only [k1w, j21]
 split <;> rename_i h <;> simp only [h]
@[simp] theorem y17 (v : Value) : q52 false v = [.val v] := by cases v <;> rfl
@[simp] theorem y18 (cs : Array Value) : q52 true (.agg cs) = cs.toList.map .val := rfl
def y4b (b : Nat) (kv : Value) (p : PV) (ks : List Value) (vs : List PV) (r : Option (Option Nat)) (st : q43) (K : PV → q43 → Prop) (_ : Tok K := ⟨⟩) : Prop :=
 match r with
 | some (some j) => K .any (q71 st b (.map (ks.set j kv) (vs.set j p)))
 | some none => K .any (q71 st b (.map (ks ++ [kv]) (vs ++ [p])))
 | none => False
@[simp] theorem xput_s (b : Nat) (kv : Value) (p : PV) (ks : List Value) (vs : List PV) (j : Nat) (st : q43) (K : PV → q43 → Prop) : y4b b kv p ks vs (some (some j)) st K = K .any (q71 st b (.map (ks.set j kv) (vs.set j p))) := rfl
@[simp] theorem xput_n (b : Nat) (kv : Value) (p : PV) (ks : List Value) (vs : List PV) (st : q43) (K : PV → q43 → Prop) : y4b b kv p ks vs (some none) st K = K .any (q71 st b (.map (ks ++ [kv]) (vs ++ [p]))) := rfl
def xdel (b : Nat) (ks : List Value) (vs : List PV) (r : Option (Option Nat)) (st : q43) (K : PV → q43 → Prop) (_ : Tok K := ⟨⟩) : Prop :=
 match r with
 | some (some j) => K .any (q71 st b (.map (ks.eraseIdx j) (vs.eraseIdx j)))
 | some none => K .any st
 | none => False
@[simp] theorem xdel_s (b : Nat) (ks : List Value) (vs : List PV) (j : Nat) (st : q43) (K : PV → q43 → Prop) : xdel b ks vs (some (some j)) st K = K .any (q71 st b (.map (ks.eraseIdx j) (vs.eraseIdx j))) := rfl
@[simp] theorem xdel_n (b : Nat) (ks : List Value) (vs : List PV) (st : q43) (K : PV → q43 → Prop) : xdel b ks vs (some none) st K = K .any st := rfl
def xcall (P : Program) (g : FuncId) (ps : List PV) (st : q43) (Q : PEnd → q43 → Prop) (_ : Tok Q := ⟨⟩) : Prop := PCalls P g ps st Q
def j8h (P : Program) (l : Nat) (ps : List PV) (st : q43) (Q : PEnd → q43 → Prop) (_ : Tok Q := ⟨⟩) : Prop := PRound P l ps st Q
def j23 (P : Program) (f : PV) (ps : List PV) (st : q43) (Q : PEnd → q43 → Prop) (_ : Tok Q := ⟨⟩) : Prop := z8z P f ps st Q
@[simp ↓, simp] theorem j92 (P : Program) (g : FuncId) (fs cs ps : List PV) (st : q43) (Q : PEnd → q43 → Prop) : j23 P (.func (.func g) fs cs) ps st Q = xcall P g (fs ++ ps ++ cs) st Q := rfl
@[simp ↓, simp] theorem j8i (P : Program) (l : Nat) (ps : List PV) (st : q43) (Q : PEnd → q43 → Prop) : j23 P (.func (.yield l) [] []) ps st Q = j8h P l ps st Q := rfl
def z4g (k : Nat) (zs : List PV) (p : PV) (st : q43) (K : PV → q43 → Prop) (_ : Tok K := ⟨⟩) : Prop := z3o k zs p st K
@[simp] theorem y19 (k : Nat) (zs : List PV) (st : q43) (K : PV → q43 → Prop) : z4g k zs (.val (.slice none 0 0)) st K = K .any st := rfl
@[simp] theorem j8j (k : Nat) (zs : List PV) (st : q43) (K : PV → q43 → Prop) (t : Bool) (cs : List PV) : z4g k zs (.list t cs 0) st K = K .any st := rfl
@[simp] theorem y2a (k : Nat) (zs : List PV) (st : q43) (K : PV → q43 → Prop) (b off n cap : Nat) : z4g k zs (.val (.slice (some ⟨b, off, none⟩) n cap)) st K =
  q5f (z69 (q5p st b)) fun r => off + n * k ≤ r.2.length ∧ K .any (q71 st b (.arr r.1 (q47 r.2 off (List.replicate n zs).flatten))) := by
 simp only [z4g, z3o]
 cases h : q5p st b with
 | none => simp [z69]
 | some o => cases o <;> simp [z69]
def j24 (p : PV) (st : q43) (K : PV → q43 → Prop) (_ : Tok K := ⟨⟩) : Prop := z80 p st K
def y87 (p : PV) (st : q43) (K : PV → q43 → Prop) (_ : Tok K := ⟨⟩) : Prop := j5x p st K
def y4c (p : PV) (st : q43) (K : PV → q43 → Prop) (_ : Tok K := ⟨⟩) : Prop := z81 p st K
def y88 (K QP : PV → q43 → Prop) (e : PEnd) (st : q43) (_ : Tok (K, QP) := ⟨⟩) : Prop := q8h K QP e st
section
variable (P : Program) (ρ : MX → PV) (st : q43) (K QP : PV → q43 → Prop)
@[simp] theorem q5l (p : PV) : y88 K QP (.ret p) st = K p st := rfl
@[simp] theorem y2b (p : PV) : y88 K QP (.panic p) st = QP p st := rfl
theorem q6d (v : MVal) (h : j90 v = false) : xop P (.val v) ρ st K QP = q6k v ρ st fun p => K p st := by
 have : j9j v ρ st K = False := by
  unfold j9j
  split
  ·simp [j90] at h
  ·rfl
 simp only [xop, mop, this, or_false]
 rfl
@[simp ↓] theorem mop_mv (x : MX) : xop P (.val (.mv x)) ρ st K QP = q6k (.mv x) ρ st fun p => K p st := q6d P ρ st K QP _ rfl
@[simp ↓] theorem y69 (c a b : MX) : xop P (.val (.pick c a b)) ρ st K QP = q6k (.pick c a b) ρ st fun p => K p st := q6d P ρ st K QP _ rfl
@[simp ↓] theorem y4d (zs : List PV) (parts : List (Nat × Nat × MX)) : xop P (.val (.build zs parts)) ρ st K QP = q6k (.build zs parts) ρ st fun p => K p st := q6d P ρ st K QP _ rfl
@[simp ↓] theorem y7a (k : Nat) (agg : Bool) (x : MX) : xop P (.val (.load k agg x)) ρ st K QP = q6k (.load k agg x) ρ st fun p => K p st := q6d P ρ st K QP _ rfl
@[simp ↓] theorem j8k (x : MX) : xop P (.val (.nilCheck x)) ρ st K QP = q6k (.nilCheck x) ρ st fun p => K p st := q6d P ρ st K QP _ rfl
@[simp ↓] theorem y89 (op : BinOp) (T : TypeId) (x y : MX) : xop P (.val (.bin op T x y)) ρ st K QP = q6k (.bin op T x y) ρ st fun p => K p st := q6d P ρ st K QP _ rfl
@[simp ↓] theorem y4e (neg : Bool) (ks : List LK) (x y : MX) : xop P (.val (.eqAgg neg ks x y)) ρ st K QP = q6k (.eqAgg neg ks x y) ρ st fun p => K p st := q6d P ρ st K QP _ rfl
@[simp ↓] theorem mop_un (op : UnOp) (x : MX) : xop P (.val (.un op x)) ρ st K QP = q6k (.un op x) ρ st fun p => K p st := q6d P ρ st K QP _ rfl
@[simp ↓] theorem y4f (k : IntKind) (x : MX) : xop P (.val (.toInt k x)) ρ st K QP = q6k (.toInt k x) ρ st fun p => K p st := q6d P ρ st K QP _ rfl
@[simp ↓] theorem j93 (T : TypeId) (x : MX) : xop P (.val (.mkIface T x)) ρ st K QP = q6k (.mkIface T x) ρ st fun p => K p st := q6d P ρ st K QP _ rfl
@[simp ↓] theorem y2c (fn : Fn) (first captured : List MX) : xop P (.val (.mkFunc fn first captured)) ρ st K QP = q6k (.mkFunc fn first captured) ρ st fun p => K p st := q6d P ρ st K QP _ rfl
@[simp ↓] theorem j6g (off : Nat) (x : MX) : xop P (.val (.fieldAddr off x)) ρ st K QP = q6k (.fieldAddr off x) ρ st fun p => K p st := q6d P ρ st K QP _ rfl
@[simp ↓] theorem j6h (k : Nat) (x i : MX) : xop P (.val (.indexAddr k x i)) ρ st K QP = q6k (.indexAddr k x i) ρ st fun p => K p st := q6d P ρ st K QP _ rfl
@[simp ↓] theorem j8l (n k : Nat) (x i : MX) : xop P (.val (.indexArr n k x i)) ρ st K QP = q6k (.indexArr n k x i) ρ st fun p => K p st := q6d P ρ st K QP _ rfl
@[simp ↓] theorem j8m (x i : MX) : xop P (.val (.indexStr x i)) ρ st K QP = q6k (.indexStr x i) ρ st fun p => K p st := q6d P ρ st K QP _ rfl
@[simp ↓] theorem y9a (x : MX) : xop P (.val (.len x)) ρ st K QP = q6k (.len x) ρ st fun p => K p st := q6d P ρ st K QP _ rfl
@[simp ↓] theorem y2d (x : MX) : xop P (.val (.maplen x)) ρ st K QP = q6k (.maplen x) ρ st fun p => K p st := q6d P ρ st K QP _ rfl
@[simp ↓] theorem y9b (x : MX) : xop P (.val (.cap x)) ρ st K QP = q6k (.cap x) ρ st fun p => K p st := q6d P ρ st K QP _ rfl
@[simp ↓] theorem y2e (lk : Bool × List LK) (z : PV) (ok : Bool) (x i : MX) : xop P (.val (.lookup lk z ok x i)) ρ st K QP = q6k (.lookup lk z ok x i) ρ st fun p => K p st := q6d P ρ st K QP _ rfl
@[simp ↓] theorem y4g (k : Nat) (x : MX) (lo hi mx : Option MX) : xop P (.val (.slice k x lo hi mx)) ρ st K QP = q6k (.slice k x lo hi mx) ρ st fun p => K p st := q6d P ρ st K QP _ rfl
@[simp ↓] theorem y4h (x : MX) : xop P (.val (.strOf x)) ρ st K QP = q6k (.strOf x) ρ st fun p => K p st := q6d P ρ st K QP _ rfl
@[simp ↓] theorem j94 (i : Nat) (x : MX) : xop P (.val (.extract i x)) ρ st K QP = q6k (.extract i x) ρ st fun p => K p st := q6d P ρ st K QP _ rfl
@[simp ↓] theorem y2f (isMax : Bool) (xs : List MX) : xop P (.val (.minmax isMax xs)) ρ st K QP = q6k (.minmax isMax xs) ρ st fun p => K p st := q6d P ρ st K QP _ rfl
@[simp ↓] theorem y2g (T : TypeId) (z : PV) (ok : Bool) (x : MX) : xop P (.val (.assert T z ok x)) ρ st K QP = q6k (.assert T z ok x) ρ st fun p => K p st := q6d P ρ st K QP _ rfl
@[simp ↓] theorem y9c (T : TypeId) (len : Nat) (zs : List PV) (parts : List (Nat × Nat × MX)) : xop P (.val (.buildSlice T len zs parts)) ρ st K QP =
  q5f (q9j zs (parts.map fun q => (q.1, q.2.1, ρ q.2.2))) fun cs => Lit T cs len st K := by
 simp only [xop, mop, q6u, j9j, Lit]
 split <;> simp_all
@[simp ↓] theorem y2h (T : TypeId) (bytes k : Nat) (x y : MX) : xop P (.append T bytes k x y) ρ st K QP = q5f (q6a k st (ρ y)) fun r => q6o T bytes k (ρ x) r.1 r.2 st K := by
 simp only [xop, mop]
 split
 ·rename_i h; simp only [h, q5g]; rfl
 ·rename_i h; simp only [h, q8n]
@[simp ↓] theorem j95 (T : TypeId) (bytes k : Nat) (zs : List PV) (x n : MX) : xop P (.appendZ T bytes k zs x n) ρ st K QP = q5f (ρ n).int? fun q => 0 ≤ q.2 ∧ q.2 ≤ 9223372036854775807 ∧ q6o T bytes k (ρ x) (List.replicate q.2.toNat zs).flatten q.2.toNat st K := by
 simp only [xop, mop]
 split
 ·rename_i h; simp only [h, z9a, q5g]; rfl
 ·rename_i h
  simp only [q5f, eq_iff_iff, false_iff]
  rintro ⟨⟨k, m⟩, h1, -⟩
  unfold PV.int? at h1
  split at h1
  ·rename_i h2; exact h _ _ h2
  ·cases h1
@[simp ↓] theorem j96 (T : TypeId) (bytes k : Nat) (zs : List PV) (l c : MX) : xop P (.mkSlice T bytes k zs l c) ρ st K QP = q5f (ρ l).int? fun a => q5f (ρ c).int? fun b => 0 ≤ a.2 ∧ a.2 ≤ b.2 ∧ b.2 * bytes ≤ 281474976710656 ∧ b.2 ≤ 9223372036854775807 ∧
  Fresh st fun d => K (.own d 0 a.2.toNat b.2.toNat) ((d, .arr T (List.replicate b.2.toNat zs).flatten) :: st) := by
 simp only [xop, mop]
 split
 ·rename_i h1 h2; simp only [h1, h2, z9a, q5g]; rfl
 ·rename_i h
  simp only [q5f, eq_iff_iff, false_iff]
  rintro ⟨⟨k, m⟩, h1, ⟨k', m'⟩, h2, -⟩
  unfold PV.int? at h1 h2
  split at h1
  ·split at h2
   ·rename_i h3 _ _ _ h4; exact h _ _ _ _ h3 h4
   ·cases h2
  ·cases h1
@[simp ↓] theorem y7b (k : Nat) (x y : MX) : xop P (.copy k x y) ρ st K QP = q5f (q6a k st (ρ y)) fun r => j2z k (ρ x) r.1 r.2 st K := by
 simp only [xop, mop]
 split
 ·rename_i h; simp only [h, q5g]; rfl
 ·rename_i h; simp only [h, q8n]
@[simp ↓] theorem y4i (neg : Bool) (nk : NK) (x : MX) : xop P (.eqNil neg nk x) ρ st K QP = j6e neg nk (ρ x) st K := rfl
@[simp ↓] theorem y4j : xop P .mkMap ρ st K QP = Fresh st fun b => K (.val (.map (some b))) ((b, .map [] []) :: st) := rfl
@[simp ↓] theorem y2i (kp : KP) (m k v : MX) : xop P (.mapSet kp m k v) ρ st K QP = q5f (ρ m).map? fun b => q5f (ρ k).key? fun kv => q5f (map? (q5p st b)) fun r => q7t kp kv = true ∧ y4b b kv (ρ v) r.1 r.2 (k1w kp kv r.1) st K := by
 simp only [xop, mop]
 split
 ·rename_i b kv h1 h2
  simp only [h1, h2, j6f, q5g]
  split
  ·rename_i h3; simp only [h3, j20, q5g]; rfl
  ·rename_i h3
   cases h4 : q5p st b with
   | none => simp [map?]
   | some o => cases o <;> simp_all [map?]
 ·rename_i h
  simp only [q5f, eq_iff_iff, false_iff]
  rintro ⟨b, h1, kv, h2, -⟩
  refine h b kv ?_ h2
  revert h1
  unfold PV.map?
  split <;> simp
  rintro rfl
  assumption
@[simp ↓] theorem y4k (T : TypeId) (zs : List PV) : xop P (.alloc T zs) ρ st K QP = Fresh st fun b => K (.ptr b 0) ((b, .arr T zs) :: st) := rfl
@[simp ↓] theorem y9d (T : TypeId) (x : MX) : xop P (.box T x) ρ st K QP = q5f (ρ x).cells fun cs => Fresh st fun b => K (.ptr b 0) ((b, .arr T cs) :: st) := by
 simp only [xop, mop]; split <;> simp_all [Fresh]
@[simp ↓] theorem y4l (k : Nat) (x y : MX) : xop P (.store k x y) ρ st K QP = q5f (ρ x).ptr? fun a => q5f (ρ y).cells fun ps => q5f (z69 (q5p st a.1)) fun r =>
  ps.length = k ∧ a.2 + k ≤ r.2.length ∧ K .any (q71 st a.1 (.arr r.1 (q47 r.2 a.2 ps))) := by
 simp only [xop, mop]
 split
 ·rename_i b off ps h1 h2
  simp only [h1, h2, j53, q5g]
  split
  ·rename_i h3; simp [h3]
  ·rename_i h3
   cases h4 : q5p st b with
   | none => simp [z69]
   | some o => cases o <;> simp_all [z69]
 ·rename_i h1
  simp only [q5f, false_iff, eq_iff_iff]
  rintro ⟨⟨b, off⟩, h2, ps, h3, -⟩
  refine h1 b off ps ?_ h3
  revert h2
  unfold PV.ptr?
  split <;> simp
  intro e1 e2
  subst e1; subst e2
  assumption
@[simp ↓] theorem y7c (f : MX) (args : List MX) : xop P (.call f args) ρ st K QP = j23 P (ρ f) (args.map ρ) st fun e st' => y88 K QP e st' := rfl
@[simp ↓] theorem y4m (k : Nat) (zs : List PV) (x : MX) : xop P (.clear k zs x) ρ st K QP = z4g k zs (ρ x) st K := rfl
@[simp ↓] theorem j8n (x : MX) : xop P (.rangeMap x) ρ st K QP = j24 (ρ x) st K := rfl
@[simp ↓] theorem y7d (x : MX) : xop P (.next x) ρ st K QP = y87 (ρ x) st K := rfl
@[simp ↓] theorem y4n (x : MX) : xop P (.entry x) ρ st K QP = y4c (ρ x) st K := rfl
@[simp ↓] theorem y4o (x : MX) : xop P (.bytes x) ρ st K QP = q5f (ρ x).str? fun s => s.size ≤ 140737488355328 ∧ K (.list false (k05 s) s.size) st := by
 simp only [xop, mop]
 split <;> simp_all [PV.str?]
@[simp ↓] theorem y4p (x : MX) : xop P (.panic x) ρ st K QP = q5f (ρ x).iface? fun q => QP (.iface q.1 q.2) st := by
 simp only [xop, mop]
 split <;> simp_all [PV.iface?]
end
def z6i (P : Program) (l : List MInst) (s : PS) (K : PS → Prop) (QP : PV → q43 → Prop) (_ : Tok (l, K, QP) := ⟨⟩) : Prop := z3p P l s K QP
def xwp (P : Program) (c : MCode) (Q : q6w) (s : PS) (_ : Tok (c, Q) := ⟨⟩) : Prop := mwp P c Q s
def k9z (K : PS → Prop) (Q : q6w) (e : MExit) (s : PS) (_ : Tok (K, Q) := ⟨⟩) : Prop := j0d K Q e s
def z4h (id : Nat) (Q : q6w) (e : MExit) (s : PS) (_ : Tok Q := ⟨⟩) : Prop := z1s id Q e s
def j97 (P : Program) (c : MCode) (Q : q6w) (s : PS) (_ : Tok (c, Q) := ⟨⟩) : Prop := z1t View (mwp P c) Q s
def j8o (P : Program) (f : PV) (ps : List Nat) (a b : MCode) (Q : q6w) (s : PS) (_ : Tok (a, b, Q) := ⟨⟩) : Prop :=
 match f with
 | .func (.func f) fs cs => q9k P f ∧ ∀ key : LoopKey, key.Conv P ps a b → ∀ l, q5s s.st l →
   PCalls P f (fs ++ [.func (.yield l) [] []] ++ cs) ((l, .loop key s.env .ready none) :: s.st) (k3b l Q s.env)
 | _ => False
def z7a : Option PObj → Option (LoopKey × Env × LoopState × Option Code)
 | some (.loop key e state pend) => some (key, e, state, pend)
 | _ => none
@[simp] theorem k51 (key : LoopKey) (e : Env) (state : LoopState) (pend : Option Code) : z7a (some (.loop key e state pend)) = some (key, e, state, pend) := rfl
theorem z0z {o : Option PObj} (h : ∀ key e state pend, o = some (.loop key e state pend) → False) : z7a o = none := by
 unfold z7a
 split
 ·rename_i key e state pend; exact (h key e state pend rfl).elim
 ·rfl
def j6i (pend : Option Code) (Q : q6w) (s : PS) (_ : Tok Q := ⟨⟩) : Prop :=
 match pend with
 | none => Q .normal s
 | some .ret => Q .ret s
 | some (.exit id) => Q (.exit id) s
 | _ => False
@[simp ↓, simp] theorem y2j (Q : q6w) (s : PS) : j6i none Q s = Q .normal s := rfl
@[simp ↓, simp] theorem y4q (Q : q6w) (s : PS) : j6i (some .ret) Q s = Q .ret s := rfl
@[simp ↓, simp] theorem y2k (id : Nat) (Q : q6w) (s : PS) : j6i (some (.exit id)) Q s = Q (.exit id) s := rfl
def j6j (l : Nat) (Q : q6w) (e : Env) (en : PEnd) (st : q43) (_ : Tok Q := ⟨⟩) : Prop := k3b l Q e en st
@[simp ↓, simp] theorem y4r (l : Nat) (Q : q6w) (e : Env) (p : PV) (st : q43) : j6j l Q e (.ret p) st = q5f (z7a (q5p st l)) fun r => r.2.2.1 ≠ .busy ∧ j6i r.2.2.2 Q ⟨e, k1x l st⟩ := by
 simp only [j6j, k3b]
 split
 ·rename_i h; simp only [h, k51, q5g]
  congr 1
 ·rename_i h; rw [z0z h]; simp
@[simp ↓, simp] theorem j98 (l : Nat) (Q : q6w) (e : Env) (p : PV) (st : q43) : j6j l Q e (.panic p) st = Q (.panic p) ⟨[], st⟩ := rfl
theorem z7b {P : Program} {f : FuncId} {fs cs : List PV} {ps : List Nat} {a b : MCode} {Q : q6w} {e : Env} {st : q43} (hent : q9k P f)
  (h : ∀ key : LoopKey, key.Conv P ps a b → ∀ l, q5s st l → xcall P f (fs ++ [.func (.yield l) [] []] ++ cs) ((l, .loop key e .ready none) :: st) fun en s => j6j l Q e en s) : j8o P (.func (.func f) fs cs) ps a b Q ⟨e, st⟩ := ⟨hent, h⟩
@[simp] theorem y2l (e : Env) (t : Nat) (ts : List Nat) (p : PV) (ps : List PV) : k76 e (t :: ts) (p :: ps) = k76 (q9x e (some t) p) ts ps := rfl
@[simp] theorem y4s (e : Env) : k76 e [] [] = e := rfl
def z2e (l : Nat) (Q : PEnd → q43 → Prop) (ex : MExit) (s : PS) (_ : Tok Q := ⟨⟩) : Prop := k77 l Q ex s
def k35 (P : Program) (l : Nat) (b : MCode) (Q : PEnd → q43 → Prop) (ex : MExit) (s : PS) (_ : Tok (b, Q) := ⟨⟩) : Prop := z87 P l b Q ex s
section
variable (l id : Nat) (Q : PEnd → q43 → Prop) (e : Env) (st : q43)
@[simp ↓] theorem j5o : z2e l Q .normal ⟨e, st⟩ = q5f (z7a (q5p st l)) fun r => Q (.ret (.bool true)) (q71 st l (.loop r.1 r.2.1 .ready none)) := by
 simp only [z2e, k77]
 split
 ·rename_i h; simp only [h, k51, q5g]
 ·rename_i h; rw [z0z h]; simp
@[simp ↓] theorem j6k (p : PV) (s : PS) : z2e l Q (.panic p) s = False := rfl
@[simp ↓] theorem j5p (P : Program) (b : MCode) : k35 P l b Q .normal ⟨e, st⟩ = q5f (z7a (q5p st l)) fun r => r.2.2.1 = .ready ∧ xwp P b (fun ex s => z2e l Q ex s) ⟨e, q71 st l (.loop r.1 r.2.1 .busy r.2.2.2)⟩ := by
 simp only [k35, z87]
 split
 ·rename_i h; simp only [h, k51, q5g, true_and]; rfl
 ·rename_i h
  simp only [q5f, eq_iff_iff, false_iff]
  rintro ⟨⟨key, e', state, pend⟩, h1, h2, -⟩
  simp only at h2
  subst h2
  unfold z7a at h1
  split at h1
  ·rename_i h3; cases h1; exact h _ _ _ h3
  ·cases h1
@[simp ↓] theorem j99 (P : Program) (b : MCode) (s : PS) : k35 P l b Q .ret s = False := rfl
@[simp ↓] theorem j8p (P : Program) (b : MCode) (s : PS) : k35 P l b Q (.exit id) s = False := rfl
@[simp ↓] theorem j6l (P : Program) (b : MCode) (p : PV) (s : PS) : k35 P l b Q (.panic p) s = False := rfl
end
theorem z7c {P : Program} (q5d : P.follows .mixedOrders = true) {l : Nat} {key : LoopKey} {params : List Nat} {ma mb : MCode} (hconv : key.Conv P params ma mb) {e : Env} {st : q43} (hget : q5p st l = some (.loop key e .ready none))
  {args : List PV} (hlen : params.length = args.length) {Q : PEnd → q43 → Prop} (h : xwp P ma (fun ex s => k35 P l mb Q ex s) ⟨k76 e params args, st⟩) : PRound P l args st Q := z19 q5d hconv hget hlen h
def z4i (Q : q6w) (p : PV) (st : q43) (_ : Tok Q := ⟨⟩) : Prop := Q (.panic p) ⟨[], st⟩
def j5q (rs : List MRes) (R E : PV → q43 → Prop) (e : MExit) (s : PS) (_ : Tok (R, E) := ⟨⟩) : Prop := k07 rs R E e s
def j5r (s : PS) (rs : List MRes) (K : List PV → Prop) (_ : Tok K := ⟨⟩) : Prop := y1q s rs K
section
variable (P : Program) (K : PS → Prop) (QP : PV → q43 → Prop) (Q : q6w) (s : PS) (e : Env) (st : q43)
@[simp ↓] theorem y7e : z6i P [] s K QP = K s := rfl
@[simp ↓] theorem y4t (d : Option Nat) (op : MOp) (l : List MInst) : z6i P (⟨d, none, op⟩ :: l) ⟨e, st⟩ K QP = xop P op (q5u e) st (fun p st' => q9a (⟨q9x e d p, st'⟩ : PS) fun s => z6i P l s K QP) QP := rfl
theorem j0w {p : PV} (h : ∀ c, p = .val (.bool c) → False) : p.bool? = none := by
 unfold PV.bool?
 split
 ·rename_i c; exact (h c rfl).elim
 ·rfl
theorem k7m {p : PV} (h : ∀ c, p = .val (.bool c) → False) (h2 : ∀ vs, p = .val (.tuple vs) → False) : p.gd? = none := by
 unfold PV.gd?
 split
 ·rename_i c; exact (h c rfl).elim
 ·rename_i c; exact (h2 c rfl).elim
 ·rfl
@[simp ↓] theorem j8q (d : Option Nat) (t : Nat) (op : MOp) (l : List MInst) : z6i P (⟨d, some (t, true), op⟩ :: l) ⟨e, st⟩ K QP = q5f (q50 e t).gd? fun c =>
  onG c (q9a (z1r e t true) fun e => xop P op (q5u e) st (fun p st' => q9a (⟨q9x e d p, st'⟩ : PS) fun s => z6i P l s K QP) QP)
   (q9a (⟨q9x (z1r e t false) d .undef, st⟩ : PS) fun s => z6i P l s K QP) (q9a (⟨q9x e d .undef, st⟩ : PS) fun s => z6i P l s K QP) := by
 simp only [z6i, z3p]
 split
 ·rename_i c h; simp only [h, k7l, q5g, j6b, k44]; cases c <;> simp [xop]
 ·rename_i vs h
  have hg : (q50 e t).gd? = some .skip := by rw [h]; rfl
  rw [hg, q5g]
  rfl
 ·rename_i h h2; rw [k7m h h2]; simp
@[simp ↓] theorem j8r (d : Option Nat) (t : Nat) (op : MOp) (l : List MInst) : z6i P (⟨d, some (t, false), op⟩ :: l) ⟨e, st⟩ K QP = q5f (q50 e t).gd? fun c =>
  onG c (q9a (⟨q9x (z1r e t true) d .undef, st⟩ : PS) fun s => z6i P l s K QP)
   (q9a (z1r e t false) fun e => xop P op (q5u e) st (fun p st' => q9a (⟨q9x e d p, st'⟩ : PS) fun s => z6i P l s K QP) QP) (q9a (⟨q9x e d .undef, st⟩ : PS) fun s => z6i P l s K QP) := by
 simp only [z6i, z3p]
 split
 ·rename_i c h; simp only [h, k7l, q5g, j6b, k44]; cases c <;> simp [xop]
 ·rename_i vs h
  have hg : (q50 e t).gd? = some .skip := by rw [h]; rfl
  rw [hg, q5g]
  rfl
 ·rename_i h h2; rw [k7m h h2]; simp
@[simp ↓] theorem y7f : xwp P .skip Q s = Q .normal s := rfl
@[simp ↓] theorem y2m (l : List MInst) (ks : List Nat) : xwp P (.region l ks) Q s = z6i P l s (fun s' => q9a (⟨q76 ks s'.env, s'.st⟩ : PS) fun s' => Q .normal s') (fun p st' => z4i Q p st') := rfl
@[simp ↓] theorem y9e (a b : MCode) : xwp P (.seq a b) Q s = xwp P a (fun e s' => k9z (fun s' => xwp P b Q s') Q e s') s := rfl
@[simp ↓] theorem y7g (c : MX) (a b : MCode) : xwp P (.cond c a b) Q ⟨e, st⟩ = q5f (q5u e c).bool? fun t => onB t (xwp P a Q ⟨e, st⟩) (xwp P b Q ⟨e, st⟩) := by
 simp only [xwp, mwp]
 split
 ·rename_i t h; simp only [h, j0u, q5g]; cases t <;> simp
 ·rename_i h; rw [j0w h]; simp
@[simp ↓] theorem y4u (id : Nat) (c : MCode) : xwp P (.block id c) Q s = xwp P c (fun e s' => z4h id Q e s') s := rfl
@[simp ↓] theorem y7h (c : MCode) : xwp P (.loop c) Q s = j97 P c Q s := rfl
@[simp ↓] theorem j6m (g : MX) (ps : List Nat) (a b : MCode) : xwp P (.rangeFunc g ps a b) Q ⟨e, st⟩ = j8o P (q5u e g) ps a b Q ⟨e, st⟩ := rfl
@[simp ↓] theorem y7i (id : Nat) : xwp P (.exit id) Q s = Q (.exit id) s := rfl
@[simp ↓] theorem y9f : xwp P .ret Q s = Q .ret s := rfl
@[simp ↓] theorem j8s : k9z K Q .normal s = K s := rfl
@[simp ↓] theorem y2n (id : Nat) : k9z K Q (.exit id) s = Q (.exit id) s := rfl
@[simp ↓] theorem y4v : k9z K Q .ret s = Q .ret s := rfl
@[simp ↓] theorem y0a (p : PV) : k9z K Q (.panic p) s = Q (.panic p) s := rfl
@[simp ↓] theorem j6n (id : Nat) : z4h id Q .normal s = Q .normal s := rfl
@[simp ↓] theorem y0b (id j : Nat) : z4h id Q (.exit j) s = if j = id then Q .normal s else Q (.exit j) s := rfl
@[simp ↓] theorem y2o (id : Nat) : z4h id Q .ret s = Q .ret s := rfl
@[simp ↓] theorem j8t (id : Nat) (p : PV) : z4h id Q (.panic p) s = Q (.panic p) s := rfl
@[simp ↓] theorem y4w (p : PV) (st' : q43) : z4i Q p st' = Q (.panic p) ⟨[], st'⟩ := rfl
section
variable (rs : List MRes) (R E : PV → q43 → Prop)
@[simp ↓] theorem y0c : j5q rs R E .normal s = j5r s rs fun ps => R (k2e ps) s.st := rfl
@[simp ↓] theorem y7j : j5q rs R E .ret s = j5r s rs fun ps => R (k2e ps) s.st := rfl
@[simp ↓] theorem y2p (p : PV) : j5q rs R E (.panic p) s = E p s.st := rfl
@[simp ↓] theorem y4x (id : Nat) : j5q rs R E (.exit id) s = False := rfl
end
@[simp ↓] theorem y7k (K : List PV → Prop) : j5r s [] K = K [] := rfl
@[simp ↓] theorem y7l (K : List PV → Prop) (t : Nat) (rs : List MRes) : j5r ⟨e, st⟩ (.tmp t :: rs) K = j5r ⟨e, st⟩ rs fun ps => K (q50 e t :: ps) := rfl
@[simp ↓] theorem y4y (K : List PV → Prop) (t k : Nat) (agg : Bool) (rs : List MRes) : j5r ⟨e, st⟩ (.cell t k agg :: rs) K = q5f (k1v st (q50 e t)) fun r => q9r r.1 r.2 k agg fun p => j5r ⟨e, st⟩ rs fun ps => K (p :: ps) := by
 have : j5r ⟨e, st⟩ (.cell t k agg :: rs) K = q6k (.load k agg (.tmp t)) (q5u e) st fun p => j5r ⟨e, st⟩ rs fun ps => K (p :: ps) := rfl
 rw [this, j2s]
 rfl
end
theorem j25 (op : BinOp) (p q : PV) (K : PV → Prop) : k7w op p q K ↔ ∃ r, k7w op p q (fun x => x = r) ∧ K r := by
 unfold k7w
 repeat' split
 all_goals first | (simp; done) | (constructor <;> grind)
theorem k62 (k b off n cap : Nat) (lo hi mx : Option Int) (K : PV → Prop) : q87 k b off n cap lo hi mx K ↔ ∃ r, q87 k b off n cap lo hi mx (fun x => x = r) ∧ K r := by
 unfold q87
 cases lo with
 | none => simp only; constructor <;> grind
 | some l =>
  simp only
  constructor
  ·rintro ⟨h0, h1, h2, h3, h4, h5, h6, h7⟩
   by_cases hl : l = mx.getD cap
   ·exact ⟨_, ⟨h0, h1, h2, h3, h4, h5, fun _ => rfl, fun h => by omega⟩, h6 hl⟩
   ·exact ⟨_, ⟨h0, h1, h2, h3, h4, h5, fun h => absurd h hl, fun _ => rfl⟩, h7 (by omega)⟩
  ·rintro ⟨r, ⟨h0, h1, h2, h3, h4, h5, h6, h7⟩, h8⟩
   exact ⟨h0, h1, h2, h3, h4, h5, fun h => by rw [h6 h]; exact h8, fun h => by rw [h7 h]; exact h8⟩
theorem z2f (k : Nat) (t : Bool) (cs : List PV) (n : Nat) (p : PV) (lo hi mx : Option Int) (K : PV → Prop) : k2d k t cs n p lo hi mx K ↔ ∃ r, k2d k t cs n p lo hi mx (fun x => x = r) ∧ K r := by
 unfold k2d
 split <;> first | (simp; done) | (constructor <;> grind)
theorem z7d (k : Nat) (p : PV) (lo hi mx : Option Int) (K : PV → Prop) : k06 k p lo hi mx K ↔ ∃ r, k06 k p lo hi mx (fun x => x = r) ∧ K r := by
 unfold k06
 split
 ·constructor
  ·rintro ⟨h1, h2⟩; exact ⟨p, ⟨h1, rfl⟩, h2⟩
  ·rintro ⟨r, ⟨h1, rfl⟩, h2⟩; exact ⟨h1, h2⟩
 split
 ·exact z2f ..
 ·split
  ·exact k62 ..
  ·simp
theorem k90 (n k : Nat) (p : PV) (lo hi mx : Option Int) (K : PV → Prop) : q72 n k p lo hi mx K ↔ ∃ r, q72 n k p lo hi mx (fun x => x = r) ∧ K r := by
 unfold q72
 split
 ·constructor <;> grind
 ·exact k62 ..
 ·simp
theorem k91 (s : ByteArray) (lo hi : Option Int) (K : PV → Prop) : q8g s lo hi K ↔ ∃ r, q8g s lo hi (fun x => x = r) ∧ K r := by
 unfold q8g
 split <;> first | (simp; done) | (constructor <;> grind)
theorem k45 (v : MVal) (ρ : MX → PV) (st : q43) (K : PV → Prop) : q6u v ρ st K ↔ ∃ p, q6u v ρ st (fun q => q = p) ∧ K p := by
 cases v
 case bin op T x y => exact j25 op _ _ K
 case pick c a b =>
  simp only [q6u]
  split
  ·rename_i t _
   cases t <;> simp
  ·simp
 case slice k x lo hi mx =>
  simp only [q6u]
  split
  ·exact z7d ..
  ·simp
 case sliceArr n k x lo hi mx =>
  simp only [q6u]
  split
  ·exact k90 ..
  ·simp
 case sliceStr x lo hi =>
  simp only [q6u]
  split
  ·exact k91 ..
  ·simp
 all_goals simp only [q6u]
 all_goals (repeat' split)
 all_goals first | (simp; done) | (constructor <;> grind)
def q9y (P : Program) (Cl : q43 → Prop) (l : List (DFlag × MInst)) (s : PS) (K : PS → Prop) (QP : PV → q43 → Prop) (_ : Tok (Cl, l, K, QP) := ⟨⟩) : Prop := mdraw P Cl l s K QP
def k46 (P : Program) (Cl : q43 → Prop) (fl : DFlag) (op : MOp) (e : Env) (st : q43) (K QP : PV → q43 → Prop) (_ : Tok (Cl, fl, op, K, QP) := ⟨⟩) : Prop := mdraw.one P Cl fl ⟨none, none, op⟩ ⟨e, st⟩ K QP
theorem Rets.xcall {P : Program} {g : FuncId} {ps : List PV} {st : q43} {p : PV} (h : Rets P g ps st p) {Q : PEnd → q43 → Prop} (hk : Q (.ret p) st) : xcall P g ps st Q := h.calls hk
def z4j (P : Program) (Cl : q43 → Prop) (g : FuncId) (ps : List PV) (K : PV → Prop) (QP : PV → q43 → Prop) (_ : Tok (Cl, K, QP) := ⟨⟩) : Prop :=
 ∃ p, (∀ st, Cl st → PCalls P g ps st (fun en st' => st' = st ∧ (en = .ret p ∨ ∃ q, en = .panic q ∧ QP q st))) ∧ K p
theorem q5w {P : Program} {Cl : q43 → Prop} {g : FuncId} {ps : List PV} {p : PV} (h : ∀ st, Rets P g ps st p) {K : PV → Prop} {QP : PV → q43 → Prop} (hk : K p) : z4j P Cl g ps K QP :=
 ⟨p, fun st _ => PCalls.mono (h st) fun _ _ ⟨h1, h2⟩ => ⟨h2, .inl h1⟩, hk⟩
def k0t (Cl : q43 → Prop) (k : Nat) (agg : Bool) (p : PV) (K : PV → Prop) (_ : Tok (Cl, K) := ⟨⟩) : Prop :=
 ∃ q, (∀ st, Cl st → q6u (.load k agg (.const p)) (q5u []) st (fun r => r = q)) ∧ K q
theorem k92 {Cl : q43 → Prop} {k : Nat} {agg : Bool} {cs : List PV} {off : Nat} {K : PV → Prop} (h : q9r cs off k agg K) : k0t Cl k agg (.iptr cs off) K := by
 have h' : q6u (.load k agg (.const (.iptr cs off))) (q5u []) [] K := h
 obtain ⟨q, h1, h2⟩ := (k45 _ _ _ _).1 h'
 exact ⟨q, fun _ _ => h1, h2⟩
theorem z2g {st0 : q43} {M : List Nat} {k : Nat} {agg : Bool} {b off : Nat} {T : TypeId} {cs : List PV} {K : PV → Prop} (hb : b ∉ M) (hg : q5p st0 b = some (.arr T cs)) (h : q9r cs off k agg K) : k0t (Cls st0 M) k agg (.ptr b off) K := by
 have key : ∀ (st : q43) (K' : PV → Prop), q5p st b = some (.arr T cs) → q6u (.load k agg (.const (.ptr b off))) (q5u []) st K' = q9r cs off k agg K' := by
  intro st K' hst
  simp only [q6u, q5u, k1v, hst]
  rfl
 obtain ⟨q, h1, h2⟩ := (k45 _ _ _ _).1 ((key st0 K hg).symm ▸ h)
 exact ⟨q, fun st hst => by rw [key st _ (hst b hb _ hg)]; rwa [key st0 _ hg] at h1, h2⟩
@[simp] theorem y7m (b : Nat) : q5s [] b = True := propext ⟨fun _ => trivial, fun _ => trivial⟩
@[simp] theorem q61 (c : Nat) (o : PObj) (st : q43) (b : Nat) : q5s ((c, o) :: st) b = ((¬ c = b ∧ ¬ b = c) ∧ q5s st b) := propext ⟨fun h => h, fun h => h⟩
@[simp] theorem y7n (c : Nat) : q5p [] c = none := by rw [q5p]
@[simp] theorem y4z (b : Nat) (o : PObj) (st : q43) (c : Nat) : q5p ((b, o) :: st) c = if b = c then some o else q5p st c := by rw [q5p]
theorem Cls.self (st : q43) (M : List Nat) : Cls st M st := fun _ _ _ h => h
@[simp] theorem y7o (st : q43) (M : List Nat) : Cls st M st = True := eq_true (Cls.self st M)
@[simp] theorem q57 {st0 st : q43} {M : List Nat} {b : Nat} {o : PObj} (hn : q5s st b) (h : Cls st0 M st) : Cls st0 M ((b, o) :: st) := fun c hc x hx => by
 have := h c hc x hx
 simp only [q5p]
 rw [if_neg]
 ·exact this
 ·rintro rfl; rw [k03 hn] at this; cases this
@[simp] theorem z9d {st0 st : q43} {M : List Nat} {b : Nat} {o : PObj} (h : Cls st0 M st) : Cls ((b, o) :: st0) M ((b, o) :: st) := fun c hc x hx => by
 simp only [q5p] at hx ⊢
 split
 ·rename_i e; rw [if_pos e] at hx; exact hx
 ·rename_i e; rw [if_neg e] at hx; exact h c hc x hx
@[simp] theorem Cls_in {st0 st : q43} {M : List Nat} {b : Nat} {o o' : PObj} (hb : b ∈ M) (h : Cls st0 M st) : Cls ((b, o) :: st0) M ((b, o') :: st) := fun c hc x hx => by
 have hne : b ≠ c := by rintro rfl; exact hc hb
 simp only [q5p, if_neg hne] at hx ⊢
 exact h c hc x hx
@[simp] theorem j6o {st0 : q43} {M : List Nat} {k : Nat} {agg : Bool} {b off : Nat} {K : PV → Prop} (hb : b ∉ M) : k0t (Cls st0 M) k agg (.val (.pointer (some ⟨b, off, none⟩))) K = q5f (z69 (q5p st0 b)) fun r => q9r r.2 off k agg K := by
 apply propext
 cases hg : q5p st0 b with
 | none =>
  simp only [z69, q8n, iff_false]
  rintro ⟨q, h1, -⟩
  have := h1 st0 (Cls.self _ _)
  simp [q6u, q5u, k1v, hg] at this
 | some o =>
  cases o with
  | arr T cs =>
   simp only [j54, q5g]
   refine ⟨?_, fun h => z2g hb hg h⟩
   rintro ⟨q, h1, h2⟩
   have := h1 st0 (Cls.self _ _)
   have h3 : q6u (.load k agg (.const (.ptr b off))) (q5u []) st0 K := (k45 _ _ _ _).2 ⟨q, this, h2⟩
   simpa only [q6u, q5u, k1v, hg, q9r] using h3
  | _ =>
   simp only [z69, q8n, iff_false]
   rintro ⟨q, h1, -⟩
   have := h1 st0 (Cls.self _ _)
   simp [q6u, q5u, k1v, hg] at this
@[simp] theorem j6p {st0 : q43} {M : List Nat} {k : Nat} {agg : Bool} {cs : List PV} {off : Nat} {K : PV → Prop} : k0t (Cls st0 M) k agg (.iptr cs off) K = q9r cs off k agg K := by
 apply propext
 refine ⟨?_, fun h => k92 h⟩
 rintro ⟨q, h1, h2⟩
 exact (k45 (.load k agg (.const (.iptr cs off))) (q5u []) st0 K).2 ⟨q, h1 st0 (Cls.self _ _), h2⟩
section
variable (P : Program) (Cl : q43 → Prop) (K : PS → Prop) (QP : PV → q43 → Prop) (K1 : PV → q43 → Prop) (Q : q6w) (e : Env) (st : q43)
@[simp ↓] theorem y40 (s : PS) : q9y P Cl [] s K QP = K s := rfl
@[simp ↓] theorem y2q (fl : DFlag) (d : Option Nat) (op : MOp) (l : List (DFlag × MInst)) : q9y P Cl ((fl, ⟨d, none, op⟩) :: l) ⟨e, st⟩ K QP =
  k46 P Cl fl op e st (fun p st' => q9a (⟨q9x e d p, st'⟩ : PS) fun s => q9y P Cl l s K QP) QP := rfl
@[simp ↓] theorem j6q (fl : DFlag) (d : Option Nat) (t : Nat) (op : MOp) (l : List (DFlag × MInst)) : q9y P Cl ((fl, ⟨d, some (t, true), op⟩) :: l) ⟨e, st⟩ K QP = q5f (q50 e t).gd? fun c =>
  onG c (q9a (z1r e t true) fun e => k46 P Cl fl op e st (fun p st' => q9a (⟨q9x e d p, st'⟩ : PS) fun s => q9y P Cl l s K QP) QP)
   (q9a (⟨q9x (z1r e t false) d .undef, st⟩ : PS) fun s => q9y P Cl l s K QP) (q9a (⟨q9x e d .undef, st⟩ : PS) fun s => q9y P Cl l s K QP) := by
 simp only [q9y, mdraw]
 split
 ·rename_i c h; simp only [h, k7l, q5g, j6b, k44]; cases c <;> simp <;> rfl
 ·rename_i vs h
  have hg : (q50 e t).gd? = some .skip := by rw [h]; rfl
  rw [hg, q5g]
  rfl
 ·rename_i h h2; rw [k7m h h2]; simp
@[simp ↓] theorem j6r (fl : DFlag) (d : Option Nat) (t : Nat) (op : MOp) (l : List (DFlag × MInst)) : q9y P Cl ((fl, ⟨d, some (t, false), op⟩) :: l) ⟨e, st⟩ K QP = q5f (q50 e t).gd? fun c =>
  onG c (q9a (⟨q9x (z1r e t true) d .undef, st⟩ : PS) fun s => q9y P Cl l s K QP)
   (q9a (z1r e t false) fun e => k46 P Cl fl op e st (fun p st' => q9a (⟨q9x e d p, st'⟩ : PS) fun s => q9y P Cl l s K QP) QP) (q9a (⟨q9x e d .undef, st⟩ : PS) fun s => q9y P Cl l s K QP) := by
 simp only [q9y, mdraw]
 split
 ·rename_i c h; simp only [h, k7l, q5g, j6b, k44]; cases c <;> simp <;> rfl
 ·rename_i vs h
  have hg : (q50 e t).gd? = some .skip := by rw [h]; rfl
  rw [hg, q5g]
  rfl
 ·rename_i h h2; rw [k7m h h2]; simp
@[simp ↓] theorem j5s (v : MVal) : k46 P Cl .early (.val v) e st K1 QP = q6k v (q5u e) st fun p => K1 p st := rfl
@[simp ↓] theorem y41 (op : MOp) : k46 P Cl .last op e st K1 QP = xop P op (q5u e) st K1 QP := rfl
@[simp ↓] theorem y42 (op : MOp) : k46 P Cl .hard op e st K1 QP = xop P op (q5u e) st (fun p st' => Cl st' ∧ K1 p st') QP := rfl
theorem q5o (v : MVal) (hv : q8y v = false) : k46 P Cl .late (.val v) e st K1 QP = q6k v (q5u e) [] fun p => K1 p st := by
 simp only [k46, mdraw.one, z6m, hv, Bool.false_eq_true, if_false, q6k]
 exact propext (k45 v (q5u e) [] fun p => K1 p st).symm
@[simp ↓] theorem j8u (x : MX) : k46 P Cl .late (.val (.mv x)) e st K1 QP = q6k (.mv x) (q5u e) [] fun p => K1 p st := q5o P Cl QP K1 e st _ rfl
@[simp ↓] theorem j5t (c a b : MX) : k46 P Cl .late (.val (.pick c a b)) e st K1 QP = q6k (.pick c a b) (q5u e) [] fun p => K1 p st := q5o P Cl QP K1 e st _ rfl
@[simp ↓] theorem j26 (zs : List PV) (parts : List (Nat × Nat × MX)) : k46 P Cl .late (.val (.build zs parts)) e st K1 QP = q6k (.build zs parts) (q5u e) [] fun p => K1 p st := q5o P Cl QP K1 e st _ rfl
@[simp ↓] theorem z9e (x : MX) : k46 P Cl .late (.val (.nilCheck x)) e st K1 QP = q6k (.nilCheck x) (q5u e) [] fun p => K1 p st := q5o P Cl QP K1 e st _ rfl
@[simp ↓] theorem j6s (op : BinOp) (T : TypeId) (x y : MX) : k46 P Cl .late (.val (.bin op T x y)) e st K1 QP = q6k (.bin op T x y) (q5u e) [] fun p => K1 p st := q5o P Cl QP K1 e st _ rfl
@[simp ↓] theorem j27 (neg : Bool) (ks : List LK) (x y : MX) : k46 P Cl .late (.val (.eqAgg neg ks x y)) e st K1 QP = q6k (.eqAgg neg ks x y) (q5u e) [] fun p => K1 p st := q5o P Cl QP K1 e st _ rfl
@[simp ↓] theorem j8v (op : UnOp) (x : MX) : k46 P Cl .late (.val (.un op x)) e st K1 QP = q6k (.un op x) (q5u e) [] fun p => K1 p st := q5o P Cl QP K1 e st _ rfl
@[simp ↓] theorem j28 (k : IntKind) (x : MX) : k46 P Cl .late (.val (.toInt k x)) e st K1 QP = q6k (.toInt k x) (q5u e) [] fun p => K1 p st := q5o P Cl QP K1 e st _ rfl
@[simp ↓] theorem z7e (off : Nat) (x : MX) : k46 P Cl .late (.val (.fieldAddr off x)) e st K1 QP = q6k (.fieldAddr off x) (q5u e) [] fun p => K1 p st := q5o P Cl QP K1 e st _ rfl
@[simp ↓] theorem j29 (off k : Nat) (agg : Bool) (x : MX) : k46 P Cl .late (.val (.field off k agg x)) e st K1 QP = q6k (.field off k agg x) (q5u e) [] fun p => K1 p st := q5o P Cl QP K1 e st _ rfl
@[simp ↓] theorem z7f (k : Nat) (x i : MX) : k46 P Cl .late (.val (.indexAddr k x i)) e st K1 QP = q6k (.indexAddr k x i) (q5u e) [] fun p => K1 p st := q5o P Cl QP K1 e st _ rfl
@[simp ↓] theorem z9f (n k : Nat) (x i : MX) : k46 P Cl .late (.val (.indexArr n k x i)) e st K1 QP = q6k (.indexArr n k x i) (q5u e) [] fun p => K1 p st := q5o P Cl QP K1 e st _ rfl
@[simp ↓] theorem j6t (x : MX) : k46 P Cl .late (.val (.len x)) e st K1 QP = q6k (.len x) (q5u e) [] fun p => K1 p st := q5o P Cl QP K1 e st _ rfl
@[simp ↓] theorem j3a (k : Nat) (x : MX) (lo hi mx : Option MX) : k46 P Cl .late (.val (.slice k x lo hi mx)) e st K1 QP = q6k (.slice k x lo hi mx) (q5u e) [] fun p => K1 p st := q5o P Cl QP K1 e st _ rfl
@[simp ↓] theorem j0x (i : Nat) (x : MX) : k46 P Cl .late (.val (.extract i x)) e st K1 QP = q6k (.extract i x) (q5u e) [] fun p => K1 p st := q5o P Cl QP K1 e st _ rfl
@[simp ↓] theorem j13 (T : TypeId) (z : PV) (ok : Bool) (x : MX) : k46 P Cl .late (.val (.assert T z ok x)) e st K1 QP = q6k (.assert T z ok x) (q5u e) [] fun p => K1 p st := q5o P Cl QP K1 e st _ rfl
@[simp ↓] theorem z6j (T : TypeId) (len : Nat) (zs : List PV) (parts : List (Nat × Nat × MX)) : k46 P Cl .late (.val (.buildSlice T len zs parts)) e st K1 QP = q6k (.buildSlice T len zs parts) (q5u e) [] fun p => K1 p st := q5o P Cl QP K1 e st _ rfl
@[simp ↓] theorem j5u (k : Nat) (agg : Bool) (x : MX) : k46 P Cl .late (.val (.load k agg x)) e st K1 QP = k0t Cl k agg (q5u e x) fun p => K1 p st := by
 simp only [k46, mdraw.one, z6m, q8y, if_true, k0t, q6u]
 rfl
@[simp ↓] theorem j5v (g : FuncId) (fs cs : List PV) (args : List MX) : k46 P Cl .late (.call (.const (.func (.func g) fs cs)) args) e st K1 QP = z4j P Cl g (fs ++ args.map (q5u e) ++ cs) (fun p => K1 p st) QP := rfl
@[simp ↓] theorem y7p (l : List (DFlag × MInst)) (ks : List Nat) (s : PS) : xwp P (.draw false l ks) Q s = q9y P (fun _ => True) l s (fun s' => q9a (⟨q76 ks s'.env, s'.st⟩ : PS) fun s' => Q .normal s') (fun p st' => z4i Q p st') := rfl
def DrawLate (P : Program) (l : List (DFlag × MInst)) (K : PS → Prop) (QP : PV → q43 → Prop) (s : PS) (_ : Tok (l, K, QP) := ⟨⟩) : Prop := ∃ Cl : q43 → Prop, Cl s.st ∧ mdraw P Cl l s K QP
theorem DrawLate.intro {P : Program} {l : List (DFlag × MInst)} {K : PS → Prop} {QP : PV → q43 → Prop} {e : Env} {st : q43} (M : List Nat) (h : q9y P (Cls st M) l ⟨e, st⟩ K QP) : DrawLate P l K QP ⟨e, st⟩ := ⟨_, Cls.self st M, h⟩
theorem DrawLate.by {P : Program} {l : List (DFlag × MInst)} {K : PS → Prop} {QP : PV → q43 → Prop} {e : Env} {st : q43} (Cl : q43 → Prop) (h0 : Cl st) (h : q9y P Cl l ⟨e, st⟩ K QP) : DrawLate P l K QP ⟨e, st⟩ := ⟨Cl, h0, h⟩
@[simp ↓] theorem j8w (l : List (DFlag × MInst)) (ks : List Nat) (s : PS) : xwp P (.draw true l ks) Q s = DrawLate P l (fun s' => q9a (⟨q76 ks s'.env, s'.st⟩ : PS) fun s' => Q .normal s') (fun p st' => z4i Q p st') s := rfl
def DrawFork (P : Program) (l a b : List (DFlag × MInst)) (K : PS → Prop) (QP : PV → q43 → Prop) (s : PS) (_ : Tok (l, a, b, K, QP) := ⟨⟩) : Prop := ∃ Cl : q43 → Prop, Cl s.st ∧ mdraw P Cl l s (fun s1 => mdraw P Cl a s1 K QP ∧ mdraw P Cl b s1 K QP) QP
theorem DrawFork.by {P : Program} {l a b : List (DFlag × MInst)} {K : PS → Prop} {QP : PV → q43 → Prop} {e : Env} {st : q43} (Cl : q43 → Prop) (h0 : Cl st) (h : q9y P Cl l ⟨e, st⟩ (fun s1 => q9y P Cl a s1 K QP ∧ q9y P Cl b s1 K QP) QP) : DrawFork P l a b K QP ⟨e, st⟩ := ⟨Cl, h0, h⟩
theorem DrawFork.intro {P : Program} {l a b : List (DFlag × MInst)} {K : PS → Prop} {QP : PV → q43 → Prop} {e : Env} {st : q43} (M : List Nat) (h : q9y P (Cls st M) l ⟨e, st⟩ (fun s1 => q9y P (Cls st M) a s1 K QP ∧ q9y P (Cls st M) b s1 K QP) QP) : DrawFork P l a b K QP ⟨e, st⟩ := ⟨_, Cls.self st M, h⟩
@[simp ↓] theorem y43 (l a b : List (DFlag × MInst)) (ks : List Nat) (s : PS) : xwp P (.draw2 l a b ks) Q s = DrawFork P l a b (fun s' => q9a (⟨q76 ks s'.env, s'.st⟩ : PS) fun s' => Q .normal s') (fun p st' => z4i Q p st') s := rfl
end
theorem Has.walk {P : Program} (q5d : P.follows .mixedOrders = true) {g : FuncId} {m : MFunc} (h : Has P g m) {nt np : Nat} {rs : List MRes} {c : MCode} (hm : m = ⟨nt, np, rs, c⟩) {ps : List PV} {st : q43} {Q : PEnd → q43 → Prop} (hlen : ps.length = np)
  {R E : PV → q43 → Prop} (hR : ∀ p st, R p st → RetView .ret p st Q) (hE : ∀ p st, E p st → RetView .panic p st Q)
  (hw : xwp P c (fun e s => j5q rs R E e s) ⟨q6m 0 ps, st⟩) : PCalls P g ps st Q := by
 subst hm
 exact h.calls q5d hlen hR hE hw
theorem Has.pure {P : Program} (q5d : P.follows .mixedOrders = true) {g : FuncId} {m : MFunc} (h : Has P g m) {nt np : Nat} {rs : List MRes} {c : MCode} (hm : m = ⟨nt, np, rs, c⟩) {ps : List PV} {st : q43} {p : PV} (hlen : ps.length = np)
  (hw : xwp P c (fun e s => j5q rs (fun q st' => q = p ∧ Over st st') (fun _ _ => False) e s) ⟨q6m 0 ps, st⟩) : Rets P g ps st p := by
 subst hm
 exact h.rets q5d hlen hw
@[simp] theorem y0d (st : q43) (cs : List PV) (off : Nat) : k1v st (.iptr cs off) = some (cs, off) := rfl
@[simp] theorem y2r (st : q43) (b off : Nat) : k1v st (.val (.pointer (some ⟨b, off, none⟩))) = (z69 (q5p st b)).map fun r => (r.2, off) := by
 simp only [k1v]
 cases q5p st b with
 | none => rfl
 | some o => cases o <;> rfl
@[simp] theorem y2s (zs : List PV) : q9j zs [] = some zs := rfl
@[simp] theorem y0e (zs : List PV) (off k : Nat) (p : PV) (rest : List (Nat × Nat × PV)) :
  q9j zs ((off, k, p) :: rest) = j6c p.cells fun ps => if ps.length = k ∧ off + k ≤ zs.length then q9j (q47 zs off ps) rest else none := by
 rw [q9j]
 cases p.cells <;> rfl
section
variable (k : IntKind) (n : Int) (c : Bool) (s : ByteArray) (a : Option Addr) (l m : Nat) (r : Option Nat)
@[simp] theorem y44 : (PV.val (.int k n)).cells = some [.val (.int k n)] := rfl
@[simp] theorem y2t : (PV.val (.bool c)).cells = some [.val (.bool c)] := rfl
@[simp] theorem y45 : (PV.val (.string s)).cells = some [.val (.string s)] := rfl
@[simp] theorem y46 : (PV.val (.pointer a)).cells = some [.val (.pointer a)] := rfl
@[simp] theorem y0f : (PV.val (.slice a l m)).cells = some [.val (.slice a l m)] := rfl
@[simp] theorem y47 : (PV.val (.map r)).cells = some [.val (.map r)] := rfl
@[simp] theorem j5w : (PV.val .nilIface).cells = some [.val .nilIface] := rfl
@[simp] theorem y48 (cs : List PV) : (PV.agg cs).cells = some cs := rfl
@[simp] theorem y2u (t : Bool) (cs : List PV) (n : Nat) : (PV.list t cs n).cells = some [.list t cs n] := rfl
@[simp] theorem y2v (cs : List PV) (n : Nat) : (PV.iptr cs n).cells = some [.iptr cs n] := rfl
@[simp] theorem y2w (ks : List Value) (vs : List PV) : (PV.imap ks vs).cells = some [.imap ks vs] := rfl
@[simp] theorem y2x (f : Fn) (fs cs : List PV) : (PV.func f fs cs).cells = some [.func f fs cs] := rfl
@[simp] theorem y0g (T : TypeId) (p : PV) : (PV.iface T p).cells = some [.iface T p] := rfl
end
attribute [simp] q8y j90 q6m q5u q50 q9x j9i q76 z1r k2e q47 q71
end Go.Pv

/- All of the pure layer. -/
import Derived.Test.YtnooplpbpfiapaaGreatDoorLSf
import Derived.KernelRfl
namespace Go.Pv
def Has (P : Program) (g : FuncId) (m : MFunc) : Prop := ∃ fn, P.funcs[g]? = some fn ∧ (fn.name == "runtime.NumGoroutine") = false ∧ k57 P fn = some m
theorem Has.calls {P : Program} (q4m : P.follows .mixedOrders = true) {g : FuncId} {m : MFunc} (h : Has P g m) {ps : List PV} {st : q37} {Q : PEnd → q37 → Prop} (hlen : ps.length = m.nparams)
  {R E : PV → q37 → Prop} (hR : ∀ p st, R p st → RetView .ret p st Q) (hE : ∀ p st, E p st → RetView .panic p st Q)
  (hw : mwp P m.body (k0d m.results R E) ⟨q5g 0 ps, st⟩) : PCalls P g ps st Q := by
 obtain ⟨fn, h1, h2, h3⟩ := h
 exact z0s q4m h1 h2 h3 hlen hR hE hw
theorem Sees.refl (p : PV) (st : q37) : Sees p st p st := ⟨fun I _ _ h1 h2 => ⟨I, I.le_refl, h1, h2⟩⟩
theorem Sees.trans {p q r : PV} {s t u : q37} (h : Sees p s q t) (k : Sees q t r u) : Sees p s r u := ⟨fun I w v h1 h2 => by
 obtain ⟨I', a, b, c⟩ := h.out I w v h1 h2
 obtain ⟨I'', a', b', c'⟩ := k.out I' w v b c
 exact ⟨I'', Imm.le_trans a a', b', c'⟩⟩
def StLe (st' st : q37) : Prop := ∀ b o, q4n st' b = some o → q4n st b = some o
theorem StLe.refl (st : q37) : StLe st st := fun _ _ h => h
theorem StLe.trans {a b c : q37} (h : StLe a b) (k : StLe b c) : StLe a c := fun x o hx => k x o (h x o hx)
theorem StLe.cons {st : q37} {b : Nat} {o : PObj} (h : q4n st b = none) : StLe st ((b, o) :: st) := by
 intro c x hc
 simp only [q4n]
 split
 ·rename_i e; subst e; rw [h] at hc; cases hc
 ·exact hc
theorem StLe.fresh {st : q37} {b : Nat} {o : PObj} (h : q5p st b) : StLe st ((b, o) :: st) := .cons (k1s h)
theorem k3o {n : Nat} : ∀ {st : q37}, (∀ b o, q4n st b = some o → b < n) → k0s st n
 | [], _ => trivial
 | (b, o) :: st, h => by
  refine ⟨h b o (by simp [q4n]), k3o fun c x hc => ?_⟩
  by_cases hbc : b = c
  ·subst hbc; exact h b o (by simp [q4n])
  ·exact h c x (by simp [q4n, hbc, hc])
theorem SRep.le {I : Imm} {st st' : q37} {w : World} (h : SRep I st w) (hle : StLe st' st) : SRep I st' w :=
 ⟨h.imm, fun b o hb => h.objs b o (hle b o hb), k3o fun b o hb => h.obj_lt (hle b o hb)⟩
theorem Sees.drop {p : PV} {st st' : q37} (h : StLe st' st) : Sees p st p st' := ⟨fun I _ _ h1 h2 => ⟨I, I.le_refl, h1.le h, h2⟩⟩
theorem RetView.same {c : PV → PEnd} {p : PV} {st : q37} {Q : PEnd → q37 → Prop} (h : Q (c p) st) : RetView c p st Q := ⟨p, st, .refl _ _, h⟩
theorem RetView.drop {c : PV → PEnd} {p : PV} {st st' : q37} {Q : PEnd → q37 → Prop} (hle : StLe st' st) (h : Q (c p) st') : RetView c p st Q := ⟨p, st', .drop hle, h⟩
theorem RetView.fresh1 {c : PV → PEnd} {p : PV} {st : q37} {b : Nat} {o : PObj} {Q : PEnd → q37 → Prop} (hf : q5p st b) (h : RetView c p st Q) : RetView c p ((b, o) :: st) Q := by
 obtain ⟨p', st', h1, h2⟩ := h
 exact ⟨p', st', (Sees.drop (.fresh hf)).trans h1, h2⟩
theorem View.trans {s t u : PS} (h : View s t) (k : View t u) : View s u := fun I tm w h1 h2 => by
 obtain ⟨I', a, b, c⟩ := h I tm w h1 h2
 obtain ⟨I'', a', b', c'⟩ := k I' tm w b c
 exact ⟨I'', Imm.le_trans a a', b', c'⟩
theorem z6d {e : Env} : ∀ {l : Env} {t : Nat}, (∀ q ∈ l, q42 e q.1 = q.2) → q42 l t = .any ∨ q42 l t = q42 e t
 | [], _, _ => .inl rfl
 | (u, p) :: l, t, h => by
  simp only [q42]
  by_cases hut : u = t
  ·subst hut
   simp only [if_true]
   exact .inr (h (u, p) (by simp)).symm
  ·simp only [hut, if_false]
   exact z6d fun q hq => h q (by simp [hq])
theorem View.weak {e e' : Env} {st st' : q37} (he : ∀ q ∈ e', q42 e q.1 = q.2) (hle : StLe st' st) : View ⟨e, st⟩ ⟨e', st'⟩ := fun I tm w h1 h2 =>
 ⟨I, I.le_refl, fun t => by
  rcases z6d (t := t) he with h | h
  ·simp only [h, vrep]
  ·simp only [h]; exact h1 t, h2.le hle⟩
def Over (st0 : q37) : q37 → Prop
 | [] => st0 = []
 | (b, o) :: st => st0 = (b, o) :: st ∨ q5p st b ∧ Over st0 st
theorem Over.le {st0 : q37} : ∀ {st : q37}, Over st0 st → StLe st0 st
 | [], h => by simp only [Over] at h; subst h; exact .refl _
 | (b, o) :: st, h => by
  simp only [Over] at h
  rcases h with rfl | ⟨h1, h2⟩
  ·exact .refl _
  ·exact h2.le.trans (.fresh h1)
@[simp] theorem Over.self (st : q37) : Over st st := by
 cases st with
 | nil => rfl
 | cons q st => exact .inl rfl
@[simp] theorem Over.cons {st : q37} (b : Nat) (o : PObj) (st0 : q37) : Over st0 ((b, o) :: st) ↔ st0 = (b, o) :: st ∨ q5p st b ∧ Over st0 st := .rfl
def Rets (P : Program) (g : FuncId) (ps : List PV) (st : q37) (p : PV) : Prop := PCalls P g ps st fun e s => e = .ret p ∧ s = st
theorem Has.rets {P : Program} (q4m : P.follows .mixedOrders = true) {g : FuncId} {m : MFunc} (h : Has P g m) {ps : List PV} {st : q37} {p : PV} (hlen : ps.length = m.nparams)
  (hw : mwp P m.body (k0d m.results (fun q st' => q = p ∧ Over st st') (fun _ _ => False)) ⟨q5g 0 ps, st⟩) : Rets P g ps st p :=
 h.calls q4m hlen (fun _ _ ⟨h1, h2⟩ => .drop h2.le ⟨by rw [h1], rfl⟩) (fun _ _ h => h.elim) hw
theorem Rets.calls {P : Program} {g : FuncId} {ps : List PV} {st : q37} {p : PV} (h : Rets P g ps st p) {Q : PEnd → q37 → Prop} (hq : Q (.ret p) st) : PCalls P g ps st Q :=
 PCalls.mono h fun e s ⟨h1, h2⟩ => by subst h1; subst h2; exact hq
@[congr] theorem j5c {P : Program} {g : FuncId} {ps ps' : List PV} {st st' : q37} {Q : PEnd → q37 → Prop} (h1 : ps = ps') (h2 : st = st') : PCalls P g ps st Q = PCalls P g ps' st' Q := by
 subst h1; subst h2; rfl
@[congr] theorem j24 {V : PS → PS → Prop} {body : q5z → PS → Prop} {Q : q5z} {s s' : PS} (h : s = s') : z0d V body Q s = z0d V body Q s' := by subst h; rfl
@[congr] theorem j25 {c : PV → PEnd} {p p' : PV} {st st' : q37} {Q : PEnd → q37 → Prop} (h : p = p') (h2 : st = st') : RetView c p st Q = RetView c p' st' Q := by subst h; subst h2; rfl
universe u
structure Tok {α : Sort u} (a : α) : Type where
def q4g {α : Type} (o : Option α) (K : α → Prop) (_ : Tok K := ⟨⟩) : Prop := ∃ a, o = some a ∧ K a
@[simp ↓, simp] theorem q4i {α : Type} (a : α) (K : α → Prop) : q4g (some a) K = K a := by simp [q4g]
@[simp] theorem q73 {α : Type} (K : α → Prop) : q4g none K = False := by simp [q4g]
def PV.bool? : PV → Option Bool
 | .val (.bool c) => some c
 | _ => none
@[simp] theorem z7s (c : Bool) : PV.bool? (.val (.bool c)) = some c := rfl
def PV.int? : PV → Option (IntKind × Int)
 | .val (.int k n) => some (k, n)
 | _ => none
@[simp] theorem z6e (k : IntKind) (n : Int) : PV.int? (.val (.int k n)) = some (k, n) := rfl
def PV.str? : PV → Option ByteArray
 | .val (.string s) => some s
 | _ => none
@[simp] theorem y3t (s : ByteArray) : PV.str? (.val (.string s)) = some s := rfl
def PV.agg? : PV → Option (List PV)
 | .agg cs => some cs
 | _ => none
@[simp] theorem y3u (cs : List PV) : PV.agg? (.agg cs) = some cs := rfl
def PV.tuple? : PV → Option (List PV)
 | .tuple cs => some cs
 | _ => none
@[simp] theorem j5d (cs : List PV) : PV.tuple? (.tuple cs) = some cs := rfl
def PV.func? : PV → Option (FuncId × List PV × List PV)
 | .func (.func g) fs cs => some (g, fs, cs)
 | _ => none
@[simp] theorem z7t (g : FuncId) (fs cs : List PV) : PV.func? (.func (.func g) fs cs) = some (g, fs, cs) := rfl
def PV.iface? : PV → Option (TypeId × PV)
 | .iface T p => some (T, p)
 | _ => none
@[simp] theorem j5e (T : TypeId) (p : PV) : PV.iface? (.iface T p) = some (T, p) := rfl
def PV.ptr? : PV → Option (Nat × Nat)
 | .val (.pointer (some ⟨b, off, none⟩)) => some (b, off)
 | _ => none
@[simp] theorem j26 (b off : Nat) : PV.ptr? (.val (.pointer (some ⟨b, off, none⟩))) = some (b, off) := rfl
def z9a : Option PObj → Option (TypeId × List PV)
 | some (.arr T cs) => some (T, cs)
 | _ => none
@[simp] theorem j27 (T : TypeId) (cs : List PV) : z9a (some (.arr T cs)) = some (T, cs) := rfl
def onB (c : Bool) (A B : Prop) (_ : Tok (A, B) := ⟨⟩) : Prop := (c = true → A) ∧ (c = false → B)
@[simp ↓, simp] theorem y3v (A B : Prop) : onB true A B = A := by simp [onB]
@[simp ↓, simp] theorem y0w (A B : Prop) : onB false A B = B := by simp [onB]
@[simp] theorem j9b (p : Prop) [Decidable p] (A B : Prop) : onB (decide p) A B = ((p → A) ∧ (¬ p → B)) := by simp [onB]
@[simp] theorem y5k (c : Bool) (A B : Prop) : onB (!c) A B = onB c B A := by cases c <;> simp
@[simp low] theorem onB_eq (c : Bool) (A B : Prop) : onB c A B = ((c = true → A) ∧ (c = false → B)) := rfl
theorem k3p (p : PV) : k49 p = p.int?.map (·.2) := by
 cases p <;> try rfl
 rename_i v; cases v <;> rfl
def q5o (op : MVal) (ρ : MX → PV) (st : q37) (K : PV → Prop) (_ : Tok K := ⟨⟩) : Prop := q5y op ρ st K
def k16 (op : BinOp) (p q : PV) (K : PV → Prop) (_ : Tok K := ⟨⟩) : Prop := k8b op p q K
def q81 (cs : List PV) (off k : Nat) (agg : Bool) (K : PV → Prop) (_ : Tok K := ⟨⟩) : Prop :=
 if agg then ∃ ps, sub cs off k = some ps ∧ K (.agg ps) else ∃ p, cs[off]? = some p ∧ K p
@[simp] theorem j6v (cs : List PV) (off k : Nat) (K : PV → Prop) : q81 cs off k true K = q4g (sub cs off k) fun ps => K (.agg ps) := by simp [q81, q4g]
@[simp] theorem j5f (cs : List PV) (off k : Nat) (K : PV → Prop) : q81 cs off k false K = q4g (cs[off]?) K := by simp [q81, q4g]
theorem j5g (cs : List PV) (off k : Nat) : sub cs off k = if off + k ≤ cs.length then some ((cs.drop off).take k) else none := rfl
@[simp] theorem y5l (c : PV) (cs : List PV) (off k : Nat) : sub (c :: cs) off k = if off + k ≤ (c :: cs).length then some (((c :: cs).drop off).take k) else none := rfl
section
variable (ρ : MX → PV) (st : q37) (K : PV → Prop)
@[simp ↓] theorem y5m (x : MX) : q5o (.mv x) ρ st K = K (ρ x) := rfl
@[simp ↓] theorem y0x (c a b : MX) : q5o (.pick c a b) ρ st K = q4g (ρ c).bool? fun t => onB t (K (ρ a)) (K (ρ b)) := by
 simp only [q5o, q5y]; split <;> simp_all [PV.bool?]
@[simp ↓] theorem j9c (zs : List PV) (parts : List (Nat × Nat × MX)) : q5o (.build zs parts) ρ st K = q4g (q8v zs (parts.map fun q => (q.1, q.2.1, ρ q.2.2))) fun cs => K (.agg cs) := by
 simp only [q5o, q5y]; split <;> simp_all
@[simp ↓] theorem z91 (T : TypeId) (len : Nat) (zs : List PV) (parts : List (Nat × Nat × MX)) : q5o (.buildSlice T len zs parts) ρ st K = q4g (q8v zs (parts.map fun q => (q.1, q.2.1, ρ q.2.2))) fun cs => K (.list true cs len) := by
 simp only [q5o, q5y]; split <;> simp_all
@[simp ↓] theorem z92 (k : Nat) (agg : Bool) (x : MX) : q5o (.load k agg x) ρ st K = q4g (q9w st (ρ x)) fun r => q81 r.1 r.2 k agg K := by
 simp only [q5o, q5y]; split <;> simp_all [q81]
def z93 (p : PV) (K : PV → Prop) (_ : Tok K := ⟨⟩) : Prop :=
 match p with
 | .iptr cs off => K (.iptr cs off)
 | .val (.pointer (some a)) => K (.val (.pointer (some a)))
 | .func (.func f) fs cs => K (.func (.func f) fs cs)
 | .func (.yield l) fs cs => K (.func (.yield l) fs cs)
 | _ => False
@[simp] theorem j9d (cs : List PV) (off : Nat) : z93 (.iptr cs off) K = K (.iptr cs off) := rfl
@[simp] theorem y0y (a : Addr) : z93 (.val (.pointer (some a))) K = K (.val (.pointer (some a))) := rfl
@[simp] theorem j6w (l : Nat) (fs cs : List PV) : z93 (.func (.yield l) fs cs) K = K (.func (.yield l) fs cs) := rfl
@[simp] theorem j9e (f : FuncId) (fs cs : List PV) : z93 (.func (.func f) fs cs) K = K (.func (.func f) fs cs) := rfl
@[simp ↓] theorem j28 (x : MX) : q5o (.nilCheck x) ρ st K = z93 (ρ x) K := rfl
@[simp ↓] theorem y3w (op : BinOp) (T : TypeId) (x y : MX) : q5o (.bin op T x y) ρ st K = k16 op (ρ x) (ρ y) K := rfl
section
variable (k k' : IntKind) (a b : Int) (s t : ByteArray)
@[simp] theorem j6x : k16 .add (.val (.int k a)) (.val (.int k' b)) K = (k = k' ∧ K (.val (.int k (k.wrap (a + b))))) := rfl
@[simp] theorem y5n : k16 .sub (.val (.int k a)) (.val (.int k' b)) K = (k = k' ∧ K (.val (.int k (k.wrap (a - b))))) := rfl
@[simp] theorem y5o : k16 .mul (.val (.int k a)) (.val (.int k' b)) K = (k = k' ∧ K (.val (.int k (k.wrap (a * b))))) := rfl
@[simp] theorem y5p : k16 .quo (.val (.int k a)) (.val (.int k' b)) K = (k = k' ∧ b ≠ 0 ∧ K (.val (.int k (k.wrap (a.tdiv b))))) := rfl
@[simp] theorem y5q : k16 .rem (.val (.int k a)) (.val (.int k' b)) K = (k = k' ∧ b ≠ 0 ∧ K (.val (.int k (a.tmod b)))) := rfl
@[simp] theorem j6y : k16 .shl (.val (.int k a)) (.val (.int k' b)) K = (0 ≤ b ∧ K (.val (.int k (k.wrap (a * 2 ^ min b.toNat k.bits))))) := rfl
@[simp] theorem j6z : k16 .shr (.val (.int k a)) (.val (.int k' b)) K = (0 ≤ b ∧ K (.val (.int k (a.fdiv (2 ^ min b.toNat k.bits))))) := rfl
@[simp] theorem z94 : k16 .and (.val (.int k a)) (.val (.int k' b)) K = (k = k' ∧ K (.val (.int k (k.wrap (BitVec.ofInt k.bits a &&& BitVec.ofInt k.bits b).toNat)))) := rfl
@[simp] theorem y0z : k16 .or (.val (.int k a)) (.val (.int k' b)) K = (k = k' ∧ K (.val (.int k (k.wrap (BitVec.ofInt k.bits a ||| BitVec.ofInt k.bits b).toNat)))) := rfl
@[simp] theorem j60 : k16 .xor (.val (.int k a)) (.val (.int k' b)) K = (k = k' ∧ K (.val (.int k (k.wrap (BitVec.ofInt k.bits a ^^^ BitVec.ofInt k.bits b).toNat)))) := rfl
@[simp] theorem j9f : k16 .andNot (.val (.int k a)) (.val (.int k' b)) K = (k = k' ∧ K (.val (.int k (k.wrap (BitVec.ofInt k.bits a &&& ~~~ BitVec.ofInt k.bits b).toNat)))) := rfl
@[simp] theorem y5r : k16 .eql (.val (.int k a)) (.val (.int k' b)) K = (k = k' ∧ K (.val (.bool (decide (a = b))))) := by
 have : (a == b) = decide (a = b) := rfl
 simp only [k16, k8b, k25, k98, this]
@[simp] theorem y5s : k16 .neq (.val (.int k a)) (.val (.int k' b)) K = (k = k' ∧ K (.val (.bool (decide (a ≠ b))))) := by
 have : (a != b) = decide (a ≠ b) := by by_cases h : a = b <;> simp [h]
 simp only [k16, k8b, k25, k98, this]
@[simp] theorem y5t : k16 .lss (.val (.int k a)) (.val (.int k' b)) K = (k = k' ∧ K (.val (.bool (decide (a < b))))) := rfl
@[simp] theorem y5u : k16 .leq (.val (.int k a)) (.val (.int k' b)) K = (k = k' ∧ K (.val (.bool (decide (a ≤ b))))) := rfl
@[simp] theorem y5v : k16 .gtr (.val (.int k a)) (.val (.int k' b)) K = (k = k' ∧ K (.val (.bool (decide (b < a))))) := rfl
@[simp] theorem y5w : k16 .geq (.val (.int k a)) (.val (.int k' b)) K = (k = k' ∧ K (.val (.bool (decide (b ≤ a))))) := rfl
@[simp] theorem y5x : k16 .add (.val (.string s)) (.val (.string t)) K = (s.size + t.size < 2 ^ 62 ∧ K (.val (.string (s ++ t)))) := rfl
theorem z7u : (s.toList == t.toList) = decide (s = t) := by
 by_cases h : s = t
 ·simp [h]
 ·have : s.toList ≠ t.toList := by
   intro e
   rw [ByteArray.toList_eq, ByteArray.toList_eq] at e
   exact h (ByteArray.ext (Array.ext' e))
  simp [h, this]
@[simp] theorem y3x : k16 .eql (.val (.string s)) (.val (.string t)) K = K (.val (.bool (decide (s = t)))) := by
 simp only [k16, k8b, z3m, z7u]
@[simp] theorem y3y : k16 .lss (.val (.string s)) (.val (.string t)) K = K (.val (.bool (Op.bytesLess s.toList t.toList))) := rfl
end
@[simp ↓] theorem j9g (neg : Bool) (ks : List LK) (x y : MX) : q5o (.eqAgg neg ks x y) ρ st K = q4g (ρ x).agg? fun cs => q4g (ρ y).agg? fun ds => q4g (q41 ks cs ds) fun b => K (.bool (if neg then !b else b)) := by
 simp only [q5o, q5y]; split <;> simp_all [q4g, PV.agg?]
 rename_i h
 intro x h1 y h2
 split at h1 <;> split at h2 <;> simp_all
@[simp] theorem j9h (k k' : IntKind) (a b : Int) : q8c .int (.val (.int k a)) (.val (.int k' b)) = if k = k' then some (decide (a = b)) else none := rfl
@[simp] theorem j61 (a b : Bool) : q8c .bool (.val (.bool a)) (.val (.bool b)) = some (a == b) := rfl
@[simp] theorem j62 : q41 [] [] [] = some true := rfl
def y5y : Option Bool → Option Bool → Option Bool
 | some a, some b => some (a && b)
 | _, _ => none
@[simp] theorem y00 (a b : Bool) : y5y (some a) (some b) = some (a && b) := rfl
@[simp] theorem j5h (k : LK) (ks : List LK) (p q : PV) (ps qs : List PV) : q41 (k :: ks) (p :: ps) (q :: qs) = y5y (q8c k p q) (q41 ks ps qs) := by
 simp only [q41]
 cases q8c k p q <;> cases q41 ks ps qs <;> rfl
@[simp ↓] theorem y3z (x : MX) : q5o (.un .neg x) ρ st K = q4g (ρ x).int? fun q => K (.val (.int q.1 (q.1.wrap (0 - q.2)))) := by
 simp only [q5o, q5y]; cases h : ρ x <;> simp [PV.int?]
 rename_i v; cases v <;> simp
@[simp ↓] theorem y30 (x : MX) : q5o (.un .not x) ρ st K = q4g (ρ x).bool? fun b => K (.val (.bool !b)) := by
 simp only [q5o, q5y]; cases h : ρ x <;> simp [PV.bool?]
 rename_i v; cases v <;> simp
@[simp ↓] theorem j9i (k : IntKind) (x : MX) : q5o (.toInt k x) ρ st K = q4g (ρ x).int? fun q => K (.val (.int k (k.wrap q.2))) := by
 simp only [q5o, q5y]; cases h : ρ x <;> simp [PV.int?]
 rename_i v; cases v <;> simp
@[simp ↓] theorem j5i (T : TypeId) (x : MX) : q5o (.mkIface T x) ρ st K = K (.iface T (ρ x)) := rfl
@[simp ↓] theorem j63 (fn : Fn) (fs cs : List MX) : q5o (.mkFunc fn fs cs) ρ st K = K (.func fn (fs.map ρ) (cs.map ρ)) := rfl
def k2p (off : Nat) (p : PV) (K : PV → Prop) (_ : Tok K := ⟨⟩) : Prop :=
 match p with
 | .iptr cs k => K (.iptr cs (k + off))
 | .val (.pointer (some ⟨b, k, none⟩)) => K (.ptr b (k + off))
 | _ => False
@[simp] theorem z9b (off : Nat) (cs : List PV) (k : Nat) : k2p off (.iptr cs k) K = K (.iptr cs (k + off)) := rfl
@[simp] theorem z95 (off b k : Nat) : k2p off (.val (.pointer (some ⟨b, k, none⟩))) K = K (.ptr b (k + off)) := rfl
@[simp ↓] theorem j2n (off : Nat) (x : MX) : q5o (.fieldAddr off x) ρ st K = k2p off (ρ x) K := rfl
def q6l (k : Nat) (p : PV) (j : Int) (K : PV → Prop) (_ : Tok K := ⟨⟩) : Prop :=
 match p with
 | .list _ cs n => 0 ≤ j ∧ j < n ∧ j.toNat * k < cs.length ∧ K (.iptr cs (j.toNat * k))
 | .val (.slice (some ⟨b, off, none⟩) n _) => 0 ≤ j ∧ j < n ∧ K (.ptr b (off + j.toNat * k))
 | _ => False
@[simp] theorem z9c (k : Nat) (t : Bool) (cs : List PV) (n : Nat) (j : Int) : q6l k (.list t cs n) j K = (0 ≤ j ∧ j < n ∧ j.toNat * k < cs.length ∧ K (.iptr cs (j.toNat * k))) := rfl
@[simp] theorem z96 (k b off n c : Nat) (j : Int) : q6l k (.val (.slice (some ⟨b, off, none⟩) n c)) j K = (0 ≤ j ∧ j < n ∧ K (.ptr b (off + j.toNat * k))) := rfl
@[simp] theorem z97 (k : Nat) (j : Int) : q6l k (.val (.slice none 0 0)) j K = False := rfl
@[simp ↓] theorem j2o (k : Nat) (x i : MX) : q5o (.indexAddr k x i) ρ st K = q4g (ρ i).int? fun q => q6l k (ρ x) q.2 K := by
 simp only [q5o, q5y]
 rw [k3p]
 cases h : (ρ i).int? with
 | none => simp
 | some q =>
  simp only [Option.map_some, q4i]
  cases hx : ρ x with
  | val v =>
   cases v with
   | slice a n c =>
    cases a with
    | none =>
     cases n <;> cases c <;> simp [PV.asList, q6l]
    | some a => obtain ⟨b, off, t⟩ := a; cases t <;> simp [PV.asList, q6l]
   | _ => simp [PV.asList, q6l]
  | _ => simp [PV.asList, q6l]
def k4m (n k : Nat) (p : PV) (j : Int) (K : PV → Prop) (_ : Tok K := ⟨⟩) : Prop :=
 match p with
 | .iptr cs off => 0 ≤ j ∧ j < n ∧ K (.iptr cs (off + j.toNat * k))
 | .val (.pointer (some ⟨b, off, none⟩)) => 0 ≤ j ∧ j < n ∧ K (.ptr b (off + j.toNat * k))
 | _ => False
@[simp] theorem z98 (n k : Nat) (cs : List PV) (off : Nat) (j : Int) : k4m n k (.iptr cs off) j K = (0 ≤ j ∧ j < n ∧ K (.iptr cs (off + j.toNat * k))) := rfl
@[simp] theorem j2p (n k b off : Nat) (j : Int) : k4m n k (.val (.pointer (some ⟨b, off, none⟩))) j K = (0 ≤ j ∧ j < n ∧ K (.ptr b (off + j.toNat * k))) := rfl
@[simp ↓] theorem j29 (n k : Nat) (x i : MX) : q5o (.indexArr n k x i) ρ st K = q4g (ρ i).int? fun q => k4m n k (ρ x) q.2 K := by
 simp only [q5o, q5y]
 rw [k3p]
 cases h : (ρ i).int? with
 | none => simp
 | some q => simp only [Option.map_some, q4i]; rfl
@[simp ↓] theorem j9j (n k : Nat) (agg : Bool) (x i : MX) : q5o (.index n k agg x i) ρ st K = q4g (ρ i).int? fun q => q4g (ρ x).agg? fun cs => 0 ≤ q.2 ∧ q.2 < n ∧ q81 cs (q.2.toNat * k) k agg K := by
 simp only [q5o, q5y]
 rw [k3p]
 cases h : (ρ i).int? with
 | none => simp
 | some q => cases hx : ρ x <;> simp [PV.agg?, q81]
def PV.len? : PV → Option Nat
 | .list _ _ n => some n
 | .val (.slice _ n _) => some n
 | _ => none
@[simp] theorem y01 (t : Bool) (cs : List PV) (n : Nat) : PV.len? (.list t cs n) = some n := rfl
@[simp] theorem y31 (a : Option Addr) (n c : Nat) : PV.len? (.val (.slice a n c)) = some n := rfl
@[simp ↓] theorem y32 (x : MX) : q5o (.len x) ρ st K = q4g (ρ x).len? fun n => K (.int n) := by
 simp only [q5o, q5y]
 cases hx : ρ x with
 | val v =>
  cases v with
  | slice a n c =>
   cases a with
   | none => cases n <;> cases c <;> simp [PV.asList]
   | some a => simp [PV.asList]
  | _ => simp [PV.asList, PV.len?]
 | _ => simp [PV.asList, PV.len?]
@[simp ↓] theorem j64 (x : MX) : q5o (.strlen x) ρ st K = q4g (ρ x).str? fun s => K (.int s.size) := by
 simp only [q5o, q5y]
 cases hx : ρ x with
 | val v => cases v <;> simp [PV.str?]
 | _ => simp [PV.str?]
def PV.cap? : PV → Option Nat
 | .list true _ n => some n
 | .val (.slice _ _ c) => some c
 | _ => none
@[simp] theorem y02 (cs : List PV) (n : Nat) : PV.cap? (.list true cs n) = some n := rfl
@[simp] theorem y33 (a : Option Addr) (n c : Nat) : PV.cap? (.val (.slice a n c)) = some c := rfl
@[simp ↓] theorem y34 (x : MX) : q5o (.cap x) ρ st K = q4g (ρ x).cap? fun n => K (.int n) := by
 simp only [q5o, q5y]
 cases hx : ρ x with
 | val v => cases v <;> simp [PV.cap?]
 | list t cs n => cases t <;> simp [PV.cap?]
 | _ => simp [PV.cap?]
@[simp ↓] theorem j5j (i : Nat) (x : MX) : q5o (.extract i x) ρ st K = q4g (ρ x).tuple? fun ps => q4g (ps[i]?) K := by
 simp only [q5o, q5y]
 cases hx : ρ x <;> simp [PV.tuple?, q4g]
def z6f (isMax : Bool) (ps : List PV) (K : PV → Prop) (_ : Tok K := ⟨⟩) : Prop :=
 match ps with
 | [.val (.int k a), .val (.int _ b)] => K (.val (.int k (if isMax then (if b > a then b else a) else (if b < a then b else a))))
 | _ => False
@[simp] theorem j5k (m : Bool) (k k' : IntKind) (a b : Int) : z6f m [.val (.int k a), .val (.int k' b)] K = K (.val (.int k (if m then (if b > a then b else a) else (if b < a then b else a)))) := rfl
@[simp ↓] theorem j65 (m : Bool) (xs : List MX) : q5o (.minmax m xs) ρ st K = z6f m (xs.map ρ) K := rfl
def z0x (T : TypeId) (z : PV) (ok : Bool) (p : PV) (K : PV → Prop) (_ : Tok K := ⟨⟩) : Prop :=
 match p with
 | .iface U p => if U = T then (if ok then K (.tuple [p, .bool true]) else K p) else (ok = true ∧ K (.tuple [z, .bool false]))
 | .val .nilIface => ok = true ∧ K (.tuple [z, .bool false])
 | _ => False
@[simp] theorem j2q (T U : TypeId) (z : PV) (ok : Bool) (p : PV) : z0x T z ok (.iface U p) K = if U = T then (if ok then K (.tuple [p, .bool true]) else K p) else (ok = true ∧ K (.tuple [z, .bool false])) := rfl
@[simp] theorem j5l (T : TypeId) (z : PV) (ok : Bool) : z0x T z ok (.val .nilIface) K = (ok = true ∧ K (.tuple [z, .bool false])) := rfl
@[simp ↓] theorem j66 (T : TypeId) (z : PV) (ok : Bool) (x : MX) : q5o (.assert T z ok x) ρ st K = z0x T z ok (ρ x) K := rfl
@[simp] theorem y35 (ρ : MX → PV) : bnd ρ none = some none := rfl
@[simp] theorem y36 (ρ : MX → PV) (x : MX) : bnd ρ (some x) = (ρ x).int?.map fun q => some q.2 := by
 simp only [bnd, k3p]
 cases (ρ x).int? <;> rfl
def k4n (s : ByteArray) (lo hi : Option Int) (K : PV → Prop) (_ : Tok K := ⟨⟩) : Prop := q7w s lo hi K
@[simp] theorem j3a (s : ByteArray) (l : Int) : k4n s (some l) none K = (0 ≤ l ∧ l ≤ s.size ∧ K (.str (s.extract l.toNat s.size))) := rfl
@[simp] theorem j3b (s : ByteArray) (h : Int) : k4n s none (some h) K = (0 ≤ h ∧ h ≤ s.size ∧ K (.str (s.extract 0 h.toNat))) := rfl
@[simp] theorem z99 (s : ByteArray) (l h : Int) : k4n s (some l) (some h) K = (0 ≤ l ∧ l ≤ h ∧ h ≤ s.size ∧ K (.str (s.extract l.toNat h.toNat))) := rfl
@[simp] theorem k9h (b off n cap : Nat) (lo hi mx : Option Int) : z9g (.val (.slice (some ⟨b, off, none⟩) n cap)) lo hi mx = false := rfl
def q82 (k : Nat) (p : PV) (lo hi mx : Option Int) (K : PV → Prop) (_ : Tok K := ⟨⟩) : Prop := k0c k p lo hi mx K
section
variable (k n b off cap : Nat) (t : Bool) (cs : List PV) (l h m : Int)
@[simp] theorem y03 : q82 k (.list t cs n) none none none K = K (.list t cs n) := rfl
@[simp] theorem y04 : q82 k (.list t cs n) (some l) none none K = (0 ≤ l ∧ l ≤ n ∧ cs.length ≤ n * k ∧ K (.list t (cs.drop (l.toNat * k)) (n - l.toNat))) := rfl
@[simp] theorem y05 : q82 k (.list t cs n) none (some h) none K = (0 ≤ h ∧ h ≤ n ∧ K (.list false (cs.take (h.toNat * k)) h.toNat)) := rfl
@[simp] theorem y06 : q82 k (.list t cs n) (some l) (some h) none K = (0 ≤ l ∧ l ≤ h ∧ h ≤ n ∧ K (.list false ((cs.take (h.toNat * k)).drop (l.toNat * k)) (h.toNat - l.toNat))) := rfl
@[simp] theorem y07 : q82 k (.list t cs n) none (some h) (some m) K = (0 ≤ h ∧ h ≤ m ∧ m ≤ n ∧ K (.list (decide (h = m)) (cs.take (h.toNat * k)) h.toNat)) := rfl
@[simp] theorem y08 : q82 k (.list t cs n) (some l) (some h) (some m) K = (0 ≤ l ∧ l ≤ h ∧ h ≤ m ∧ m ≤ n ∧ K (.list (decide (h = m)) ((cs.take (h.toNat * k)).drop (l.toNat * k)) (h.toNat - l.toNat))) := rfl
@[simp] theorem y09 : q82 k (.val (.slice none 0 0)) none none none K = K .nil := rfl
@[simp] theorem y1a : q82 k (.val (.slice none 0 0)) (some l) none none K = (0 ≤ l ∧ l ≤ ((0 : Nat) : Int) ∧ ([] : List PV).length ≤ 0 * k ∧ K (.list true (([] : List PV).drop (l.toNat * k)) (0 - l.toNat))) := rfl
@[simp] theorem y1b : q82 k (.val (.slice none 0 0)) none (some h) none K = (h = 0 ∧ K .nil) := rfl
@[simp] theorem y1c : q82 k (.val (.slice none 0 0)) none (some h) (some m) K = (0 ≤ h ∧ h ≤ m ∧ m ≤ ((0 : Nat) : Int) ∧ K (.list (decide (h = m)) (([] : List PV).take (h.toNat * k)) h.toNat)) := rfl
@[simp] theorem y1d : q82 k (.val (.slice (some ⟨b, off, none⟩) n cap)) (some l) none none K = (n ≤ cap ∧ 0 ≤ l ∧ l ≤ n ∧ (l = cap → K (.list true [] 0)) ∧ (l < cap → K (.own b (off + l.toNat * k) (n - l.toNat) (cap - l.toNat)))) := by
 simp only [q82, k0c, k9h, Bool.false_eq_true, if_false, PV.asList, q63]
 simp
@[simp] theorem y1e : q82 k (.val (.slice (some ⟨b, off, none⟩) n cap)) none (some h) none K = (0 ≤ h ∧ h ≤ cap ∧ K (.own b off h.toNat cap)) := by
 simp only [q82, k0c, k9h, Bool.false_eq_true, if_false, PV.asList, q63]
 simp
end
@[simp ↓] theorem j9k (k : Nat) (x : MX) (lo hi mx : Option MX) : q5o (.slice k x lo hi mx) ρ st K = q4g (bnd ρ lo) fun l => q4g (bnd ρ hi) fun h => q4g (bnd ρ mx) fun m => q82 k (ρ x) l h m K := by
 simp only [q5o, q5y]
 split
 ·rename_i h1 h2 h3
  simp only [h1, h2, h3, q4i]
  rfl
 ·rename_i hn
  simp only [q4g, eq_iff_iff, false_iff]
  rintro ⟨l, h1, h, h2, m, h3, -⟩
  exact hn l h m h1 h2 h3
def q7m (n k : Nat) (p : PV) (lo hi mx : Option Int) (K : PV → Prop) (_ : Tok K := ⟨⟩) : Prop := q51 n k p lo hi mx K
section
variable (k n b off : Nat) (cs : List PV) (l h m : Int)
@[simp] theorem j5m : q7m n k (.val (.pointer (some ⟨b, off, none⟩))) none none none K = K (.own b off n n) := by
 simp only [q7m, q51, q63]
 simp
@[simp] theorem j5n : q7m n k (.val (.pointer (some ⟨b, off, none⟩))) (some l) none none K = (0 ≤ l ∧ l ≤ n ∧ (l = n → K (.list true [] 0)) ∧ (l < n → K (.own b (off + l.toNat * k) (n - l.toNat) (n - l.toNat)))) := by
 simp only [q7m, q51, q63]
 simp
@[simp] theorem j5o : q7m n k (.val (.pointer (some ⟨b, off, none⟩))) none (some h) none K = (0 ≤ h ∧ h ≤ n ∧ K (.own b off h.toNat n)) := by
 simp only [q7m, q51, q63]
 simp
end
@[simp ↓] theorem j3c (n k : Nat) (x : MX) (lo hi mx : Option MX) : q5o (.sliceArr n k x lo hi mx) ρ st K = q4g (bnd ρ lo) fun l => q4g (bnd ρ hi) fun h => q4g (bnd ρ mx) fun m => q7m n k (ρ x) l h m K := by
 simp only [q5o, q5y]
 split
 ·rename_i h1 h2 h3
  simp only [h1, h2, h3, q4i]
  rfl
 ·rename_i hn
  simp only [q4g, eq_iff_iff, false_iff]
  rintro ⟨l, h1, h, h2, m, h3, -⟩
  exact hn l h m h1 h2 h3
@[simp ↓] theorem j9l (x : MX) : q5o (.strOf x) ρ st K = q4g (q5n 1 st (ρ x)) fun r => q4g (q8m r.1) fun bs => K (.str ⟨bs.toArray⟩) := by
 simp only [q5o, q5y]
 split
 ·rename_i cs n h
  simp only [h, q4i]
  split
  ·rename_i bs hb; simp only [hb, q4i]
  ·rename_i hb; simp only [hb, q73]
 ·rename_i h; simp only [h, q73]
def j0a (r : Option (Option Nat)) (vs : List PV) (z : PV) (ok : Bool) (K : PV → Prop) (_ : Tok K := ⟨⟩) : Prop :=
 match r with
 | some (some j) => ∃ p, vs[j]? = some p ∧ K (if ok then .tuple [p, .bool true] else p)
 | some none => K (if ok then .tuple [z, .bool false] else z)
 | none => False
@[simp] theorem y5z (j : Nat) (vs : List PV) (z : PV) : j0a (some (some j)) vs z true K = q4g (vs[j]?) fun p => K (.tuple [p, .bool true]) := rfl
@[simp] theorem y50 (j : Nat) (vs : List PV) (z : PV) : j0a (some (some j)) vs z false K = q4g (vs[j]?) fun p => K p := rfl
@[simp] theorem y37 (vs : List PV) (z : PV) : j0a (some none) vs z true K = K (.tuple [z, .bool false]) := rfl
@[simp] theorem y38 (vs : List PV) (z : PV) : j0a (some none) vs z false K = K z := rfl
@[simp ↓] theorem j67 (kp : KP) (z : PV) (ok : Bool) (x i : MX) : q5o (.lookup kp z ok x i) ρ st K = q4g (k99 st (ρ x)) fun m => q4g (ρ i).key? fun kv => q65 kp kv = true ∧ j0a (k0x kp kv m.1) m.2 z ok K := by
 simp only [q5o, q5y]
 split
 ·rename_i h1 h2
  simp only [h1, h2, q4i]
  rfl
 ·rename_i hn
  simp only [q4g, eq_iff_iff, false_iff]
  rintro ⟨⟨ks, vs⟩, h1, kv, h2, -⟩
  exact hn ks vs kv h1 h2
end
inductive Gd where
 | b (c : Bool)
 | skip
def PV.gd? : PV → Option Gd
 | .val (.bool c) => some (.b c)
 | .val (.tuple _) => some .skip
 | _ => none
@[simp] theorem k59 (c : Bool) : PV.gd? (.val (.bool c)) = some (.b c) := rfl
@[simp] theorem y1f : PV.gd? (.val (.tuple #[])) = some .skip := rfl
def onG (g : Gd) (A B C : Prop) (_ : Tok (A, B, C) := ⟨⟩) : Prop :=
 match g with
 | .b c => onB c A B
 | .skip => C
@[simp ↓, simp] theorem j3d (c : Bool) (A B C : Prop) : onG (.b c) A B C = onB c A B := rfl
@[simp ↓, simp] theorem y39 (A B C : Prop) : onG .skip A B C = C := rfl
def q8p {α : Type} (a : α) (K : α → Prop) (_ : Tok K := ⟨⟩) : Prop := K a
@[simp] theorem k10 {α : Type} (a : α) (K : α → Prop) : q8p a K = K a := rfl
def xop (P : Program) (op : MOp) (ρ : MX → PV) (st : q37) (K QP : PV → q37 → Prop) (_ : Tok (K, QP) := ⟨⟩) : Prop := mop P op ρ st K QP
def Fresh (st : q37) (K : Nat → Prop) (_ : Tok K := ⟨⟩) : Prop := ∀ b, q5p st b → K b
theorem Fresh.intro {st : q37} {K : Nat → Prop} (h : ∀ b, q5p st b → K b) : Fresh st K := h
def j3e {α β : Type} (o : Option α) (f : α → Option β) (_ : Tok f := ⟨⟩) : Option β := o.bind f
@[simp ↓, simp] theorem j9m {α β : Type} (a : α) (f : α → Option β) : j3e (some a) f = f a := rfl
@[simp] theorem j9n {α β : Type} (f : α → Option β) : j3e none f = none := rfl
def j68 : MVal → Bool
 | .buildSlice .. => true
 | _ => false
def Lit (T : TypeId) (cs : List PV) (len : Nat) (st : q37) (K : PV → q37 → Prop) (_ : Tok K := ⟨⟩) : Prop := K (.list true cs len) st ∨ ∀ b, q5p st b → K (.own b 0 len len) ((b, .arr T cs) :: st)
theorem Lit.imm {T : TypeId} {cs : List PV} {len : Nat} {st : q37} {K : PV → q37 → Prop} (h : K (.list true cs len) st) : Lit T cs len st K := .inl h
def Grow (T : TypeId) (bytes k : Nat) (cs : List PV) (need : Nat) (st : q37) (K : PV → q37 → Prop) (_ : Tok K := ⟨⟩) : Prop := z7a T bytes k cs need st K
theorem Grow.intro {T : TypeId} {bytes k : Nat} {cs : List PV} {need : Nat} {st : q37} {K : PV → q37 → Prop} (h1 : need * bytes ≤ 140737488355328)
  (h2 : ∀ b cap, q5p st b → need ≤ cap → cap ≤ 9223372036854775807 → K (.own b 0 need cap) ((b, .arr T (cs ++ List.replicate ((cap - need) * k) .any)) :: st)) : Grow T bytes k cs need st K := ⟨h1, .inl h2⟩
def q69 (T : TypeId) (bytes k : Nat) (p : PV) (new : List PV) (m : Nat) (st : q37) (K : PV → q37 → Prop) (_ : Tok K := ⟨⟩) : Prop := q8h T bytes k p new m st K
section
variable (T : TypeId) (bytes k : Nat) (new : List PV) (m : Nat) (st : q37) (K : PV → q37 → Prop)
theorem k62 : q69 T bytes k (.val (.slice none 0 0)) new m st K = ((m = 0 → K .nil st) ∧ (¬ m = 0 → Grow T bytes k new m st K)) := by
 show (if m = 0 then K .nil st else Grow T bytes k new m st K) = _
 split <;> simp [*]
@[simp] theorem q39 (t : Bool) (cs : List PV) (n : Nat) : q69 T bytes k (.list t cs n) new m st K = ((m = 0 → K (.list t cs n) st) ∧ (¬ m = 0 → t = true ∧ cs.length = n * k ∧ Grow T bytes k (cs ++ new) (n + m) st K)) := by
 show (if m = 0 then K (.list t cs n) st else t = true ∧ cs.length = n * k ∧ Grow T bytes k (cs ++ new) (n + m) st K) = _
 split <;> simp [*]
end
theorem q7a {T : TypeId} {bytes k : Nat} {new : List PV} {m : Nat} {st : q37} {K : PV → q37 → Prop} {b n cap : Nat} {row : List PV} (hb : q4n st b = some (.arr T row)) (hl : row.length = cap * k) (hn : n ≤ cap) (hc : cap ≤ 9223372036854775807)
  (h : Grow T bytes k (row.take (n * k) ++ new) (n + m) (k15 b st) K) : q69 T bytes k (.own b 0 n cap) new m st K := by
 show q8h _ _ _ _ _ _ _ _
 simp only [q8h, hb]
 exact ⟨trivial, by omega, hn, hc, .inl ⟨trivial, hl, h⟩⟩
theorem k1c {T : TypeId} {bytes k : Nat} {new : List PV} {m : Nat} {st : q37} {K : PV → q37 → Prop} {b off n cap : Nat} {row : List PV} (hb : q4n st b = some (.arr T row)) (hl : off + cap * k ≤ row.length) (hn : n ≤ cap) (hc : cap ≤ 9223372036854775807)
  (h0 : (n + m) * bytes ≤ 140737488355328) (h1 : n + m ≤ cap → K (.own b off (n + m) cap) (q8i st b (.arr T (q4a row (off + n * k) new)))) (h2 : cap < n + m → Grow T bytes k ((row.drop off).take (n * k) ++ new) (n + m) st K) : q69 T bytes k (.own b off n cap) new m st K := by
 show q8h _ _ _ _ _ _ _ _
 simp only [q8h, hb]
 exact ⟨trivial, hl, hn, hc, .inr ⟨h0, h1, h2⟩⟩
def j0b (k : Nat) (p : PV) (new : List PV) (m : Nat) (st : q37) (K : PV → q37 → Prop) (_ : Tok K := ⟨⟩) : Prop := z9i k p new m st K
@[simp] theorem y1g (k : Nat) (new : List PV) (m : Nat) (st : q37) (K : PV → q37 → Prop) : j0b k (.val (.slice none 0 0)) new m st K = K (.int 0) st := rfl
@[simp] theorem j69 (k : Nat) (new : List PV) (m : Nat) (st : q37) (K : PV → q37 → Prop) (t : Bool) (cs : List PV) : j0b k (.list t cs 0) new m st K = K (.int 0) st := rfl
@[simp] theorem y1h (k : Nat) (new : List PV) (m : Nat) (st : q37) (K : PV → q37 → Prop) (b off n cap : Nat) : j0b k (.val (.slice (some ⟨b, off, none⟩) n cap)) new m st K =
  q4g (z9a (q4n st b)) fun r => off + min m n * k ≤ r.2.length ∧ K (.int (min m n : Nat)) (q8i st b (.arr r.1 (q4a r.2 off (new.take (min m n * k))))) := by
 simp only [j0b, z9i]
 cases h : q4n st b with
 | none => simp [z9a]
 | some o => cases o <;> simp [z9a]
@[simp] theorem j3f (k : Nat) (st : q37) (t : Bool) (cs : List PV) (n : Nat) : q5n k st (.list t cs n) = if cs.length = n * k then some (cs, n) else none := rfl
@[simp] theorem j5p (k : Nat) (st : q37) : q5n k st (.val (.slice none 0 0)) = some ([], 0) := rfl
@[simp] theorem j5q (k : Nat) (st : q37) (b off n cap : Nat) : q5n k st (.val (.slice (some ⟨b, off, none⟩) n cap)) = j3e (z9a (q4n st b)) fun r => if off + n * k ≤ r.2.length then some ((r.2.drop off).take (n * k), n) else none := by
 simp only [q5n]
 cases h : q4n st b with
 | none => rfl
 | some o => cases o <;> rfl
@[simp] theorem j5r (st : q37) (s : ByteArray) : q5n 1 st (.val (.string s)) = some (s.data.toList.map fun b => .val (.int .u8 b.toNat), s.size) := rfl
def j3g (neg : Bool) (nk : NK) (p : PV) (st : q37) (K : PV → q37 → Prop) (_ : Tok K := ⟨⟩) : Prop := z12 neg nk p st K
section
variable (neg : Bool) (st : q37) (K : PV → q37 → Prop)
@[simp] theorem y4a (n c : Nat) : j3g neg .slice (.val (.slice none n c)) st K = K (.bool !neg) st := rfl
@[simp] theorem y4b (a : Addr) (n c : Nat) : j3g neg .slice (.val (.slice (some a) n c)) st K = K (.bool neg) st := rfl
@[simp] theorem y1i (t : Bool) (cs : List PV) (n : Nat) : j3g neg .slice (.list t cs n) st K = ((cs = [] → K (.bool !neg) st) ∧ K (.bool neg) st) := rfl
@[simp] theorem y1j : j3g neg .iface (.val .nilIface) st K = K (.bool !neg) st := rfl
@[simp] theorem j9o (T : TypeId) (p : PV) : j3g neg .iface (.iface T p) st K = K (.bool neg) st := rfl
@[simp] theorem y1k : j3g neg .map (.val (.map none)) st K = K (.bool !neg) st := rfl
@[simp] theorem y4c (r : Nat) : j3g neg .map (.val (.map (some r))) st K = K (.bool neg) st := rfl
@[simp] theorem y1l (ks : List Value) (vs : List PV) : j3g neg .map (.imap ks vs) st K = K (.bool neg) st := rfl
end
def PV.map? : PV → Option Nat
 | .val (.map (some b)) => some b
 | _ => none
@[simp] theorem j3h (b : Nat) : PV.map? (.val (.map (some b))) = some b := rfl
def map? : Option PObj → Option (List Value × List PV)
 | some (.map ks vs) => some (ks, vs)
 | _ => none
@[simp] theorem j0c (ks : List Value) (vs : List PV) : map? (some (.map ks vs)) = some (ks, vs) := rfl
@[simp] theorem y1m (st : q37) (b : Nat) : k99 st (.val (.map (some b))) = map? (q4n st b) := by
 simp only [k99]
 cases h : q4n st b with
 | none => rfl
 | some o => cases o <;> rfl
@[simp] theorem y1n (st : q37) : k99 st (.val (.map none)) = some ([], []) := rfl
@[simp] theorem j9p (st : q37) (ks : List Value) (vs : List PV) : k99 st (.imap ks vs) = some (ks, vs) := rfl
@[simp] theorem y4d (v : Value) : PV.key? (.val v) = some v := rfl
@[simp] theorem y4e (cs : List PV) : PV.key? (.agg cs) = (PV.vals? cs).map fun vs => .agg vs.toArray := rfl
@[simp] theorem y1o : PV.vals? [] = some [] := rfl
@[simp] theorem j9q (v : Value) (ps : List PV) : PV.vals? (.val v :: ps) = (PV.vals? ps).map (v :: ·) := rfl
@[simp] theorem y1p (lk : List LK) (v : Value) : q65 (false, lk) v = (lk.length == 1) := rfl
@[simp] theorem y1q (lk : List LK) (cs : Array Value) : q65 (true, lk) (.agg cs) = (cs.size == lk.length) := rfl
@[simp] theorem y4f (kp : KP) (k : Value) : k0x kp k [] = some none := rfl
def j3i (r : Option Bool) (rest : Option (Option Nat)) : Option (Option Nat) :=
 match r with
 | some true => some (some 0)
 | some false => rest.map (·.map (· + 1))
 | none => none
@[simp] theorem y51 (rest : Option (Option Nat)) : j3i (some true) rest = some (some 0) := rfl
@[simp] theorem y52 (rest : Option (Option Nat)) : j3i (some false) rest = rest.map (·.map (· + 1)) := rfl
@[simp] theorem j0d (kp : KP) (k k' : Value) (ks : List Value) : k0x kp k (k' :: ks) = j3i (q41 kp.2 (q44 kp.1 k) (q44 kp.1 k')) (k0x kp k ks) := by
 simp only [k0x, j3i]
 split <;> rename_i h <;> simp only [h]
@[simp] theorem j9r (v : Value) : q44 false v = [.val v] := by cases v <;> rfl
@[simp] theorem j9s (cs : Array Value) : q44 true (.agg cs) = cs.toList.map .val := rfl
def y1r (b : Nat) (kv : Value) (p : PV) (ks : List Value) (vs : List PV) (r : Option (Option Nat)) (st : q37) (K : PV → q37 → Prop) (_ : Tok K := ⟨⟩) : Prop :=
 match r with
 | some (some j) => K .any (q8i st b (.map (ks.set j kv) (vs.set j p)))
 | some none => K .any (q8i st b (.map (ks ++ [kv]) (vs ++ [p])))
 | none => False
@[simp] theorem xput_s (b : Nat) (kv : Value) (p : PV) (ks : List Value) (vs : List PV) (j : Nat) (st : q37) (K : PV → q37 → Prop) : y1r b kv p ks vs (some (some j)) st K = K .any (q8i st b (.map (ks.set j kv) (vs.set j p))) := rfl
@[simp] theorem xput_n (b : Nat) (kv : Value) (p : PV) (ks : List Value) (vs : List PV) (st : q37) (K : PV → q37 → Prop) : y1r b kv p ks vs (some none) st K = K .any (q8i st b (.map (ks ++ [kv]) (vs ++ [p]))) := rfl
def xdel (b : Nat) (ks : List Value) (vs : List PV) (r : Option (Option Nat)) (st : q37) (K : PV → q37 → Prop) (_ : Tok K := ⟨⟩) : Prop :=
 match r with
 | some (some j) => K .any (q8i st b (.map (ks.eraseIdx j) (vs.eraseIdx j)))
 | some none => K .any st
 | none => False
@[simp] theorem xdel_s (b : Nat) (ks : List Value) (vs : List PV) (j : Nat) (st : q37) (K : PV → q37 → Prop) : xdel b ks vs (some (some j)) st K = K .any (q8i st b (.map (ks.eraseIdx j) (vs.eraseIdx j))) := rfl
@[simp] theorem xdel_n (b : Nat) (ks : List Value) (vs : List PV) (st : q37) (K : PV → q37 → Prop) : xdel b ks vs (some none) st K = K .any st := rfl
def xcall (P : Program) (g : FuncId) (ps : List PV) (st : q37) (Q : PEnd → q37 → Prop) (_ : Tok Q := ⟨⟩) : Prop := PCalls P g ps st Q
def j5s (P : Program) (l : Nat) (ps : List PV) (st : q37) (Q : PEnd → q37 → Prop) (_ : Tok Q := ⟨⟩) : Prop := PRound P l ps st Q
def j0e (P : Program) (f : PV) (ps : List PV) (st : q37) (Q : PEnd → q37 → Prop) (_ : Tok Q := ⟨⟩) : Prop := z51 P f ps st Q
@[simp ↓, simp] theorem j7a (P : Program) (g : FuncId) (fs cs ps : List PV) (st : q37) (Q : PEnd → q37 → Prop) : j0e P (.func (.func g) fs cs) ps st Q = xcall P g (fs ++ ps ++ cs) st Q := rfl
@[simp ↓, simp] theorem j5t (P : Program) (l : Nat) (ps : List PV) (st : q37) (Q : PEnd → q37 → Prop) : j0e P (.func (.yield l) [] []) ps st Q = j5s P l ps st Q := rfl
def j0f (k : Nat) (zs : List PV) (p : PV) (st : q37) (K : PV → q37 → Prop) (_ : Tok K := ⟨⟩) : Prop := z52 k zs p st K
@[simp] theorem j9t (k : Nat) (zs : List PV) (st : q37) (K : PV → q37 → Prop) : j0f k zs (.val (.slice none 0 0)) st K = K .any st := rfl
@[simp] theorem j5u (k : Nat) (zs : List PV) (st : q37) (K : PV → q37 → Prop) (t : Bool) (cs : List PV) : j0f k zs (.list t cs 0) st K = K .any st := rfl
def j0g (p : PV) (st : q37) (K : PV → q37 → Prop) (_ : Tok K := ⟨⟩) : Prop := z53 p st K
def y53 (p : PV) (st : q37) (K : PV → q37 → Prop) (_ : Tok K := ⟨⟩) : Prop := nextK p st K
def y1s (p : PV) (st : q37) (K : PV → q37 → Prop) (_ : Tok K := ⟨⟩) : Prop := z54 p st K
def y54 (K QP : PV → q37 → Prop) (e : PEnd) (st : q37) (_ : Tok (K, QP) := ⟨⟩) : Prop := q7x K QP e st
section
variable (P : Program) (ρ : MX → PV) (st : q37) (K QP : PV → q37 → Prop)
@[simp] theorem q6t (p : PV) : y54 K QP (.ret p) st = K p st := rfl
@[simp] theorem j9u (p : PV) : y54 K QP (.panic p) st = QP p st := rfl
theorem q5h (v : MVal) (h : j68 v = false) : xop P (.val v) ρ st K QP = q5o v ρ st fun p => K p st := by
 have : j6l v ρ st K = False := by
  unfold j6l
  split
  ·simp [j68] at h
  ·rfl
 simp only [xop, mop, this, or_false]
 rfl
@[simp ↓] theorem mop_mv (x : MX) : xop P (.val (.mv x)) ρ st K QP = q5o (.mv x) ρ st fun p => K p st := q5h P ρ st K QP _ rfl
@[simp ↓] theorem y4g (c a b : MX) : xop P (.val (.pick c a b)) ρ st K QP = q5o (.pick c a b) ρ st fun p => K p st := q5h P ρ st K QP _ rfl
@[simp ↓] theorem y1t (zs : List PV) (parts : List (Nat × Nat × MX)) : xop P (.val (.build zs parts)) ρ st K QP = q5o (.build zs parts) ρ st fun p => K p st := q5h P ρ st K QP _ rfl
@[simp ↓] theorem y4h (k : Nat) (agg : Bool) (x : MX) : xop P (.val (.load k agg x)) ρ st K QP = q5o (.load k agg x) ρ st fun p => K p st := q5h P ρ st K QP _ rfl
@[simp ↓] theorem j5v (x : MX) : xop P (.val (.nilCheck x)) ρ st K QP = q5o (.nilCheck x) ρ st fun p => K p st := q5h P ρ st K QP _ rfl
@[simp ↓] theorem y55 (op : BinOp) (T : TypeId) (x y : MX) : xop P (.val (.bin op T x y)) ρ st K QP = q5o (.bin op T x y) ρ st fun p => K p st := q5h P ρ st K QP _ rfl
@[simp ↓] theorem y1u (neg : Bool) (ks : List LK) (x y : MX) : xop P (.val (.eqAgg neg ks x y)) ρ st K QP = q5o (.eqAgg neg ks x y) ρ st fun p => K p st := q5h P ρ st K QP _ rfl
@[simp ↓] theorem mop_un (op : UnOp) (x : MX) : xop P (.val (.un op x)) ρ st K QP = q5o (.un op x) ρ st fun p => K p st := q5h P ρ st K QP _ rfl
@[simp ↓] theorem y1v (k : IntKind) (x : MX) : xop P (.val (.toInt k x)) ρ st K QP = q5o (.toInt k x) ρ st fun p => K p st := q5h P ρ st K QP _ rfl
@[simp ↓] theorem j7b (T : TypeId) (x : MX) : xop P (.val (.mkIface T x)) ρ st K QP = q5o (.mkIface T x) ρ st fun p => K p st := q5h P ρ st K QP _ rfl
@[simp ↓] theorem j9v (fn : Fn) (first captured : List MX) : xop P (.val (.mkFunc fn first captured)) ρ st K QP = q5o (.mkFunc fn first captured) ρ st fun p => K p st := q5h P ρ st K QP _ rfl
@[simp ↓] theorem j3j (off : Nat) (x : MX) : xop P (.val (.fieldAddr off x)) ρ st K QP = q5o (.fieldAddr off x) ρ st fun p => K p st := q5h P ρ st K QP _ rfl
@[simp ↓] theorem j3k (k : Nat) (x i : MX) : xop P (.val (.indexAddr k x i)) ρ st K QP = q5o (.indexAddr k x i) ρ st fun p => K p st := q5h P ρ st K QP _ rfl
@[simp ↓] theorem j5w (n k : Nat) (x i : MX) : xop P (.val (.indexArr n k x i)) ρ st K QP = q5o (.indexArr n k x i) ρ st fun p => K p st := q5h P ρ st K QP _ rfl
@[simp ↓] theorem y1w (n k : Nat) (agg : Bool) (x i : MX) : xop P (.val (.index n k agg x i)) ρ st K QP = q5o (.index n k agg x i) ρ st fun p => K p st := q5h P ρ st K QP _ rfl
@[simp ↓] theorem y56 (x : MX) : xop P (.val (.len x)) ρ st K QP = q5o (.len x) ρ st fun p => K p st := q5h P ρ st K QP _ rfl
@[simp ↓] theorem j9w (x : MX) : xop P (.val (.maplen x)) ρ st K QP = q5o (.maplen x) ρ st fun p => K p st := q5h P ρ st K QP _ rfl
@[simp ↓] theorem y57 (x : MX) : xop P (.val (.cap x)) ρ st K QP = q5o (.cap x) ρ st fun p => K p st := q5h P ρ st K QP _ rfl
@[simp ↓] theorem j9x (lk : Bool × List LK) (z : PV) (ok : Bool) (x i : MX) : xop P (.val (.lookup lk z ok x i)) ρ st K QP = q5o (.lookup lk z ok x i) ρ st fun p => K p st := q5h P ρ st K QP _ rfl
@[simp ↓] theorem y1x (k : Nat) (x : MX) (lo hi mx : Option MX) : xop P (.val (.slice k x lo hi mx)) ρ st K QP = q5o (.slice k x lo hi mx) ρ st fun p => K p st := q5h P ρ st K QP _ rfl
@[simp ↓] theorem j5x (n k : Nat) (x : MX) (lo hi mx : Option MX) : xop P (.val (.sliceArr n k x lo hi mx)) ρ st K QP = q5o (.sliceArr n k x lo hi mx) ρ st fun p => K p st := q5h P ρ st K QP _ rfl
@[simp ↓] theorem j7c (i : Nat) (x : MX) : xop P (.val (.extract i x)) ρ st K QP = q5o (.extract i x) ρ st fun p => K p st := q5h P ρ st K QP _ rfl
@[simp ↓] theorem j9y (isMax : Bool) (xs : List MX) : xop P (.val (.minmax isMax xs)) ρ st K QP = q5o (.minmax isMax xs) ρ st fun p => K p st := q5h P ρ st K QP _ rfl
@[simp ↓] theorem j9z (T : TypeId) (z : PV) (ok : Bool) (x : MX) : xop P (.val (.assert T z ok x)) ρ st K QP = q5o (.assert T z ok x) ρ st fun p => K p st := q5h P ρ st K QP _ rfl
@[simp ↓] theorem y58 (T : TypeId) (len : Nat) (zs : List PV) (parts : List (Nat × Nat × MX)) : xop P (.val (.buildSlice T len zs parts)) ρ st K QP =
  q4g (q8v zs (parts.map fun q => (q.1, q.2.1, ρ q.2.2))) fun cs => Lit T cs len st K := by
 simp only [xop, mop, q5y, j6l, Lit]
 split <;> simp_all
@[simp ↓] theorem j90 (T : TypeId) (bytes k : Nat) (x y : MX) : xop P (.append T bytes k x y) ρ st K QP = q4g (q5n k st (ρ y)) fun r => q69 T bytes k (ρ x) r.1 r.2 st K := by
 simp only [xop, mop]
 split
 ·rename_i h; simp only [h, q4i]; rfl
 ·rename_i h; simp only [h, q73]
@[simp ↓] theorem j7d (T : TypeId) (bytes k : Nat) (zs : List PV) (x n : MX) : xop P (.appendZ T bytes k zs x n) ρ st K QP = q4g (ρ n).int? fun q => 0 ≤ q.2 ∧ q.2 ≤ 9223372036854775807 ∧ q69 T bytes k (ρ x) (List.replicate q.2.toNat zs).flatten q.2.toNat st K := by
 simp only [xop, mop]
 split
 ·rename_i h; simp only [h, z6e, q4i]; rfl
 ·rename_i h
  simp only [q4g, eq_iff_iff, false_iff]
  rintro ⟨⟨k, m⟩, h1, -⟩
  unfold PV.int? at h1
  split at h1
  ·rename_i h2; exact h _ _ h2
  ·cases h1
@[simp ↓] theorem j7e (T : TypeId) (bytes k : Nat) (zs : List PV) (l c : MX) : xop P (.mkSlice T bytes k zs l c) ρ st K QP = q4g (ρ l).int? fun a => q4g (ρ c).int? fun b => 0 ≤ a.2 ∧ a.2 ≤ b.2 ∧ b.2 * bytes ≤ 281474976710656 ∧ b.2 ≤ 9223372036854775807 ∧
  Fresh st fun d => K (.own d 0 a.2.toNat b.2.toNat) ((d, .arr T (List.replicate b.2.toNat zs).flatten) :: st) := by
 simp only [xop, mop]
 split
 ·rename_i h1 h2; simp only [h1, h2, z6e, q4i]; rfl
 ·rename_i h
  simp only [q4g, eq_iff_iff, false_iff]
  rintro ⟨⟨k, m⟩, h1, ⟨k', m'⟩, h2, -⟩
  unfold PV.int? at h1 h2
  split at h1
  ·split at h2
   ·rename_i h3 _ _ _ h4; exact h _ _ _ _ h3 h4
   ·cases h2
  ·cases h1
@[simp ↓] theorem y4i (k : Nat) (x y : MX) : xop P (.copy k x y) ρ st K QP = q4g (q5n k st (ρ y)) fun r => j0b k (ρ x) r.1 r.2 st K := by
 simp only [xop, mop]
 split
 ·rename_i h; simp only [h, q4i]; rfl
 ·rename_i h; simp only [h, q73]
@[simp ↓] theorem y1y (neg : Bool) (nk : NK) (x : MX) : xop P (.eqNil neg nk x) ρ st K QP = j3g neg nk (ρ x) st K := rfl
@[simp ↓] theorem y1z : xop P .mkMap ρ st K QP = Fresh st fun b => K (.val (.map (some b))) ((b, .map [] []) :: st) := rfl
@[simp ↓] theorem j91 (kp : KP) (m k v : MX) : xop P (.mapSet kp m k v) ρ st K QP = q4g (ρ m).map? fun b => q4g (ρ k).key? fun kv => q4g (map? (q4n st b)) fun r => q65 kp kv = true ∧ y1r b kv (ρ v) r.1 r.2 (k0x kp kv r.1) st K := by
 simp only [xop, mop]
 split
 ·rename_i b kv h1 h2
  simp only [h1, h2, j3h, q4i]
  split
  ·rename_i h3; simp only [h3, j0c, q4i]; rfl
  ·rename_i h3
   cases h4 : q4n st b with
   | none => simp [map?]
   | some o => cases o <;> simp_all [map?]
 ·rename_i h
  simp only [q4g, eq_iff_iff, false_iff]
  rintro ⟨b, h1, kv, h2, -⟩
  refine h b kv ?_ h2
  revert h1
  unfold PV.map?
  split <;> simp
  rintro rfl
  assumption
@[simp ↓] theorem y10 (T : TypeId) (zs : List PV) : xop P (.alloc T zs) ρ st K QP = Fresh st fun b => K (.ptr b 0) ((b, .arr T zs) :: st) := rfl
@[simp ↓] theorem y59 (T : TypeId) (x : MX) : xop P (.box T x) ρ st K QP = q4g (ρ x).cells fun cs => Fresh st fun b => K (.ptr b 0) ((b, .arr T cs) :: st) := by
 simp only [xop, mop]; split <;> simp_all [Fresh]
@[simp ↓] theorem y11 (k : Nat) (x y : MX) : xop P (.store k x y) ρ st K QP = q4g (ρ x).ptr? fun a => q4g (ρ y).cells fun ps => q4g (z9a (q4n st a.1)) fun r =>
  ps.length = k ∧ a.2 + k ≤ r.2.length ∧ K .any (q8i st a.1 (.arr r.1 (q4a r.2 a.2 ps))) := by
 simp only [xop, mop]
 split
 ·rename_i b off ps h1 h2
  simp only [h1, h2, j26, q4i]
  split
  ·rename_i h3; simp [h3]
  ·rename_i h3
   cases h4 : q4n st b with
   | none => simp [z9a]
   | some o => cases o <;> simp_all [z9a]
 ·rename_i h1
  simp only [q4g, false_iff, eq_iff_iff]
  rintro ⟨⟨b, off⟩, h2, ps, h3, -⟩
  refine h1 b off ps ?_ h3
  revert h2
  unfold PV.ptr?
  split <;> simp
  intro e1 e2
  subst e1; subst e2
  assumption
@[simp ↓] theorem y4j (f : MX) (args : List MX) : xop P (.call f args) ρ st K QP = j0e P (ρ f) (args.map ρ) st fun e st' => y54 K QP e st' := rfl
@[simp ↓] theorem y12 (k : Nat) (zs : List PV) (x : MX) : xop P (.clear k zs x) ρ st K QP = j0f k zs (ρ x) st K := rfl
@[simp ↓] theorem j5y (x : MX) : xop P (.rangeMap x) ρ st K QP = j0g (ρ x) st K := rfl
@[simp ↓] theorem y4k (x : MX) : xop P (.next x) ρ st K QP = y53 (ρ x) st K := rfl
@[simp ↓] theorem y13 (x : MX) : xop P (.entry x) ρ st K QP = y1s (ρ x) st K := rfl
@[simp ↓] theorem y14 (x : MX) : xop P (.bytes x) ρ st K QP = q4g (ρ x).str? fun s => s.size ≤ 140737488355328 ∧ K (.list false (k1t s) s.size) st := by
 simp only [xop, mop]
 split <;> simp_all [PV.str?]
@[simp ↓] theorem y15 (x : MX) : xop P (.panic x) ρ st K QP = q4g (ρ x).iface? fun q => QP (.iface q.1 q.2) st := by
 simp only [xop, mop]
 split <;> simp_all [PV.iface?]
end
def z6g (P : Program) (l : List MInst) (s : PS) (K : PS → Prop) (QP : PV → q37 → Prop) (_ : Tok (l, K, QP) := ⟨⟩) : Prop := z3i P l s K QP
def xwp (P : Program) (c : MCode) (Q : q5z) (s : PS) (_ : Tok (c, Q) := ⟨⟩) : Prop := mwp P c Q s
def k2q (K : PS → Prop) (Q : q5z) (e : MExit) (s : PS) (_ : Tok (K, Q) := ⟨⟩) : Prop := z3p K Q e s
def z2n (id : Nat) (Q : q5z) (e : MExit) (s : PS) (_ : Tok Q := ⟨⟩) : Prop := z0c id Q e s
def j3l (P : Program) (c : MCode) (Q : q5z) (s : PS) (_ : Tok (c, Q) := ⟨⟩) : Prop := z0d View (mwp P c) Q s
def j5z (P : Program) (f : PV) (ps : List Nat) (a b : MCode) (Q : q5z) (s : PS) (_ : Tok (a, b, Q) := ⟨⟩) : Prop :=
 match f with
 | .func (.func f) fs cs => k0t P f ∧ ∀ key : LoopKey, key.Conv P ps a b → ∀ l, q5p s.st l →
   PCalls P f (fs ++ [.func (.yield l) [] []] ++ cs) ((l, .loop key s.env .ready none) :: s.st) (k1z l Q s.env)
 | _ => False
def z4c : Option PObj → Option (LoopKey × Env × LoopState × Option Code)
 | some (.loop key e state pend) => some (key, e, state, pend)
 | _ => none
@[simp] theorem k4o (key : LoopKey) (e : Env) (state : LoopState) (pend : Option Code) : z4c (some (.loop key e state pend)) = some (key, e, state, pend) := rfl
theorem k9i {o : Option PObj} (h : ∀ key e state pend, o = some (.loop key e state pend) → False) : z4c o = none := by
 unfold z4c
 split
 ·rename_i key e state pend; exact (h key e state pend rfl).elim
 ·rfl
def j3m (pend : Option Code) (Q : q5z) (s : PS) (_ : Tok Q := ⟨⟩) : Prop :=
 match pend with
 | none => Q .normal s
 | some .ret => Q .ret s
 | some (.exit id) => Q (.exit id) s
 | _ => False
@[simp ↓, simp] theorem j92 (Q : q5z) (s : PS) : j3m none Q s = Q .normal s := rfl
@[simp ↓, simp] theorem y16 (Q : q5z) (s : PS) : j3m (some .ret) Q s = Q .ret s := rfl
@[simp ↓, simp] theorem j93 (id : Nat) (Q : q5z) (s : PS) : j3m (some (.exit id)) Q s = Q (.exit id) s := rfl
def j3n (l : Nat) (Q : q5z) (e : Env) (en : PEnd) (st : q37) (_ : Tok Q := ⟨⟩) : Prop := k1z l Q e en st
@[simp ↓, simp] theorem y17 (l : Nat) (Q : q5z) (e : Env) (p : PV) (st : q37) : j3n l Q e (.ret p) st = q4g (z4c (q4n st l)) fun r => r.2.2.1 ≠ .busy ∧ j3m r.2.2.2 Q ⟨e, k15 l st⟩ := by
 simp only [j3n, k1z]
 split
 ·rename_i h; simp only [h, k4o, q4i]
  congr 1
 ·rename_i h; rw [k9i h]; simp
@[simp ↓, simp] theorem j7f (l : Nat) (Q : q5z) (e : Env) (p : PV) (st : q37) : j3n l Q e (.panic p) st = Q (.panic p) ⟨[], st⟩ := rfl
theorem z4d {P : Program} {f : FuncId} {fs cs : List PV} {ps : List Nat} {a b : MCode} {Q : q5z} {e : Env} {st : q37} (hent : k0t P f)
  (h : ∀ key : LoopKey, key.Conv P ps a b → ∀ l, q5p st l → xcall P f (fs ++ [.func (.yield l) [] []] ++ cs) ((l, .loop key e .ready none) :: st) fun en s => j3n l Q e en s) : j5z P (.func (.func f) fs cs) ps a b Q ⟨e, st⟩ := ⟨hent, h⟩
@[simp] theorem j94 (e : Env) (t : Nat) (ts : List Nat) (p : PV) (ps : List PV) : k6t e (t :: ts) (p :: ps) = k6t (q8t e (some t) p) ts ps := rfl
@[simp] theorem y18 (e : Env) : k6t e [] [] = e := rfl
def z0y (l : Nat) (Q : PEnd → q37 → Prop) (ex : MExit) (s : PS) (_ : Tok Q := ⟨⟩) : Prop := k6u l Q ex s
def k2r (P : Program) (l : Nat) (b : MCode) (Q : PEnd → q37 → Prop) (ex : MExit) (s : PS) (_ : Tok (b, Q) := ⟨⟩) : Prop := z6a P l b Q ex s
section
variable (l id : Nat) (Q : PEnd → q37 → Prop) (e : Env) (st : q37)
@[simp ↓] theorem j2r : z0y l Q .normal ⟨e, st⟩ = q4g (z4c (q4n st l)) fun r => Q (.ret (.bool true)) (q8i st l (.loop r.1 r.2.1 .ready none)) := by
 simp only [z0y, k6u]
 split
 ·rename_i h; simp only [h, k4o, q4i]
 ·rename_i h; rw [k9i h]; simp
@[simp ↓] theorem j3o (p : PV) (s : PS) : z0y l Q (.panic p) s = False := rfl
@[simp ↓] theorem j2s (P : Program) (b : MCode) : k2r P l b Q .normal ⟨e, st⟩ = q4g (z4c (q4n st l)) fun r => r.2.2.1 = .ready ∧ xwp P b (fun ex s => z0y l Q ex s) ⟨e, q8i st l (.loop r.1 r.2.1 .busy r.2.2.2)⟩ := by
 simp only [k2r, z6a]
 split
 ·rename_i h; simp only [h, k4o, q4i, true_and]; rfl
 ·rename_i h
  simp only [q4g, eq_iff_iff, false_iff]
  rintro ⟨⟨key, e', state, pend⟩, h1, h2, -⟩
  simp only at h2
  subst h2
  unfold z4c at h1
  split at h1
  ·rename_i h3; cases h1; exact h _ _ _ h3
  ·cases h1
@[simp ↓] theorem j7g (P : Program) (b : MCode) (s : PS) : k2r P l b Q .ret s = False := rfl
@[simp ↓] theorem j50 (P : Program) (b : MCode) (s : PS) : k2r P l b Q (.exit id) s = False := rfl
@[simp ↓] theorem j3p (P : Program) (b : MCode) (p : PV) (s : PS) : k2r P l b Q (.panic p) s = False := rfl
end
theorem z4e {P : Program} (q4m : P.follows .mixedOrders = true) {l : Nat} {key : LoopKey} {params : List Nat} {ma mb : MCode} (hconv : key.Conv P params ma mb) {e : Env} {st : q37} (hget : q4n st l = some (.loop key e .ready none))
  {args : List PV} (hlen : params.length = args.length) {Q : PEnd → q37 → Prop} (h : xwp P ma (fun ex s => k2r P l mb Q ex s) ⟨k6t e params args, st⟩) : PRound P l args st Q := z0t q4m hconv hget hlen h
def z6h (Q : q5z) (p : PV) (st : q37) (_ : Tok Q := ⟨⟩) : Prop := Q (.panic p) ⟨[], st⟩
def j0h (rs : List MRes) (R E : PV → q37 → Prop) (e : MExit) (s : PS) (_ : Tok (R, E) := ⟨⟩) : Prop := k0d rs R E e s
def j2t (s : PS) (rs : List MRes) (K : List PV → Prop) (_ : Tok K := ⟨⟩) : Prop := j9a s rs K
section
variable (P : Program) (K : PS → Prop) (QP : PV → q37 → Prop) (Q : q5z) (s : PS) (e : Env) (st : q37)
@[simp ↓] theorem y4l : z6g P [] s K QP = K s := rfl
@[simp ↓] theorem y19 (d : Option Nat) (op : MOp) (l : List MInst) : z6g P (⟨d, none, op⟩ :: l) ⟨e, st⟩ K QP = xop P op (q4x e) st (fun p st' => q8p (⟨q8t e d p, st'⟩ : PS) fun s => z6g P l s K QP) QP := rfl
theorem z7v {p : PV} (h : ∀ c, p = .val (.bool c) → False) : p.bool? = none := by
 unfold PV.bool?
 split
 ·rename_i c; exact (h c rfl).elim
 ·rfl
theorem k6a {p : PV} (h : ∀ c, p = .val (.bool c) → False) (h2 : ∀ vs, p = .val (.tuple vs) → False) : p.gd? = none := by
 unfold PV.gd?
 split
 ·rename_i c; exact (h c rfl).elim
 ·rename_i c; exact (h2 c rfl).elim
 ·rfl
@[simp ↓] theorem j51 (d : Option Nat) (t : Nat) (op : MOp) (l : List MInst) : z6g P (⟨d, some (t, true), op⟩ :: l) ⟨e, st⟩ K QP = q4g (q42 e t).gd? fun c =>
  onG c (q8p (z0b e t true) fun e => xop P op (q4x e) st (fun p st' => q8p (⟨q8t e d p, st'⟩ : PS) fun s => z6g P l s K QP) QP)
   (q8p (⟨q8t (z0b e t false) d .undef, st⟩ : PS) fun s => z6g P l s K QP) (q8p (⟨q8t e d .undef, st⟩ : PS) fun s => z6g P l s K QP) := by
 simp only [z6g, z3i]
 split
 ·rename_i c h; simp only [h, k59, q4i, j3d, k10]; cases c <;> simp [xop]
 ·rename_i vs h
  have hg : (q42 e t).gd? = some .skip := by rw [h]; rfl
  rw [hg, q4i]
  rfl
 ·rename_i h h2; rw [k6a h h2]; simp
@[simp ↓] theorem j52 (d : Option Nat) (t : Nat) (op : MOp) (l : List MInst) : z6g P (⟨d, some (t, false), op⟩ :: l) ⟨e, st⟩ K QP = q4g (q42 e t).gd? fun c =>
  onG c (q8p (⟨q8t (z0b e t true) d .undef, st⟩ : PS) fun s => z6g P l s K QP)
   (q8p (z0b e t false) fun e => xop P op (q4x e) st (fun p st' => q8p (⟨q8t e d p, st'⟩ : PS) fun s => z6g P l s K QP) QP) (q8p (⟨q8t e d .undef, st⟩ : PS) fun s => z6g P l s K QP) := by
 simp only [z6g, z3i]
 split
 ·rename_i c h; simp only [h, k59, q4i, j3d, k10]; cases c <;> simp [xop]
 ·rename_i vs h
  have hg : (q42 e t).gd? = some .skip := by rw [h]; rfl
  rw [hg, q4i]
  rfl
 ·rename_i h h2; rw [k6a h h2]; simp
@[simp ↓] theorem y4m : xwp P .skip Q s = Q .normal s := rfl
@[simp ↓] theorem j95 (l : List MInst) (ks : List Nat) : xwp P (.region l ks) Q s = z6g P l s (fun s' => q8p (⟨q8u ks s'.env, s'.st⟩ : PS) fun s' => Q .normal s') (fun p st' => z6h Q p st') := rfl
@[simp ↓] theorem y6a (a b : MCode) : xwp P (.seq a b) Q s = xwp P a (fun e s' => k2q (fun s' => xwp P b Q s') Q e s') s := rfl
@[simp ↓] theorem y4n (c : MX) (a b : MCode) : xwp P (.cond c a b) Q ⟨e, st⟩ = q4g (q4x e c).bool? fun t => onB t (xwp P a Q ⟨e, st⟩) (xwp P b Q ⟨e, st⟩) := by
 simp only [xwp, mwp]
 split
 ·rename_i t h; simp only [h, z7s, q4i]; cases t <;> simp
 ·rename_i h; rw [z7v h]; simp
@[simp ↓] theorem y2a (id : Nat) (c : MCode) : xwp P (.block id c) Q s = xwp P c (fun e s' => z2n id Q e s') s := rfl
@[simp ↓] theorem y4o (c : MCode) : xwp P (.loop c) Q s = j3l P c Q s := rfl
@[simp ↓] theorem j3q (g : MX) (ps : List Nat) (a b : MCode) : xwp P (.rangeFunc g ps a b) Q ⟨e, st⟩ = j5z P (q4x e g) ps a b Q ⟨e, st⟩ := rfl
@[simp ↓] theorem y4p (id : Nat) : xwp P (.exit id) Q s = Q (.exit id) s := rfl
@[simp ↓] theorem y6b : xwp P .ret Q s = Q .ret s := rfl
@[simp ↓] theorem j53 : k2q K Q .normal s = K s := rfl
@[simp ↓] theorem j96 (id : Nat) : k2q K Q (.exit id) s = Q (.exit id) s := rfl
@[simp ↓] theorem y2b : k2q K Q .ret s = Q .ret s := rfl
@[simp ↓] theorem j7h (p : PV) : k2q K Q (.panic p) s = Q (.panic p) s := rfl
@[simp ↓] theorem j3r (id : Nat) : z2n id Q .normal s = Q .normal s := rfl
@[simp ↓] theorem j7i (id j : Nat) : z2n id Q (.exit j) s = if j = id then Q .normal s else Q (.exit j) s := rfl
@[simp ↓] theorem j97 (id : Nat) : z2n id Q .ret s = Q .ret s := rfl
@[simp ↓] theorem j54 (id : Nat) (p : PV) : z2n id Q (.panic p) s = Q (.panic p) s := rfl
@[simp ↓] theorem y2c (p : PV) (st' : q37) : z6h Q p st' = Q (.panic p) ⟨[], st'⟩ := rfl
section
variable (rs : List MRes) (R E : PV → q37 → Prop)
@[simp ↓] theorem j7j : j0h rs R E .normal s = j2t s rs fun ps => R (k01 ps) s.st := rfl
@[simp ↓] theorem y4q : j0h rs R E .ret s = j2t s rs fun ps => R (k01 ps) s.st := rfl
@[simp ↓] theorem j98 (p : PV) : j0h rs R E (.panic p) s = E p s.st := rfl
@[simp ↓] theorem y2d (id : Nat) : j0h rs R E (.exit id) s = False := rfl
end
@[simp ↓] theorem y4r (K : List PV → Prop) : j2t s [] K = K [] := rfl
@[simp ↓] theorem y4s (K : List PV → Prop) (t : Nat) (rs : List MRes) : j2t ⟨e, st⟩ (.tmp t :: rs) K = j2t ⟨e, st⟩ rs fun ps => K (q42 e t :: ps) := rfl
@[simp ↓] theorem y2e (K : List PV → Prop) (t k : Nat) (agg : Bool) (rs : List MRes) : j2t ⟨e, st⟩ (.cell t k agg :: rs) K = q4g (q9w st (q42 e t)) fun r => q81 r.1 r.2 k agg fun p => j2t ⟨e, st⟩ rs fun ps => K (p :: ps) := by
 have : j2t ⟨e, st⟩ (.cell t k agg :: rs) K = q5o (.load k agg (.tmp t)) (q4x e) st fun p => j2t ⟨e, st⟩ rs fun ps => K (p :: ps) := rfl
 rw [this, z92]
 rfl
end
theorem j0i (op : BinOp) (p q : PV) (K : PV → Prop) : k8b op p q K ↔ ∃ r, k8b op p q (fun x => x = r) ∧ K r := by
 unfold k8b
 repeat' split
 all_goals first | (simp; done) | (constructor <;> grind)
theorem k5k (k b off n cap : Nat) (lo hi mx : Option Int) (K : PV → Prop) : q63 k b off n cap lo hi mx K ↔ ∃ r, q63 k b off n cap lo hi mx (fun x => x = r) ∧ K r := by
 unfold q63
 cases lo with
 | none => simp only; constructor <;> grind
 | some l =>
  simp only
  constructor
  ·rintro ⟨h0, h1, h2, h3, h4, h5, h6, h7⟩
   by_cases hl : l = mx.getD cap
   ·exact ⟨_, ⟨h0, h1, h2, h3, h4, h5, fun _ => rfl, fun h => by omega⟩, h6 hl⟩
   ·exact ⟨_, ⟨h0, h1, h2, h3, h4, h5, fun h => absurd h hl, fun _ => rfl⟩, h7 (by omega)⟩
  ·rintro ⟨r, ⟨h0, h1, h2, h3, h4, h5, h6, h7⟩, h8⟩
   exact ⟨h0, h1, h2, h3, h4, h5, fun h => by rw [h6 h]; exact h8, fun h => by rw [h7 h]; exact h8⟩
theorem z0z (k : Nat) (t : Bool) (cs : List PV) (n : Nat) (p : PV) (lo hi mx : Option Int) (K : PV → Prop) : k00 k t cs n p lo hi mx K ↔ ∃ r, k00 k t cs n p lo hi mx (fun x => x = r) ∧ K r := by
 unfold k00
 split <;> first | (simp; done) | (constructor <;> grind)
theorem z4f (k : Nat) (p : PV) (lo hi mx : Option Int) (K : PV → Prop) : k0c k p lo hi mx K ↔ ∃ r, k0c k p lo hi mx (fun x => x = r) ∧ K r := by
 unfold k0c
 split
 ·constructor
  ·rintro ⟨h1, h2⟩; exact ⟨p, ⟨h1, rfl⟩, h2⟩
  ·rintro ⟨r, ⟨h1, rfl⟩, h2⟩; exact ⟨h1, h2⟩
 split
 ·exact z0z ..
 ·split
  ·exact k5k ..
  ·simp
theorem k8k (n k : Nat) (p : PV) (lo hi mx : Option Int) (K : PV → Prop) : q51 n k p lo hi mx K ↔ ∃ r, q51 n k p lo hi mx (fun x => x = r) ∧ K r := by
 unfold q51
 split
 ·constructor <;> grind
 ·exact k5k ..
 ·simp
theorem k8l (s : ByteArray) (lo hi : Option Int) (K : PV → Prop) : q7w s lo hi K ↔ ∃ r, q7w s lo hi (fun x => x = r) ∧ K r := by
 unfold q7w
 split <;> first | (simp; done) | (constructor <;> grind)
theorem k3q (v : MVal) (ρ : MX → PV) (st : q37) (K : PV → Prop) : q5y v ρ st K ↔ ∃ p, q5y v ρ st (fun q => q = p) ∧ K p := by
 cases v
 case bin op T x y => exact j0i op _ _ K
 case pick c a b =>
  simp only [q5y]
  split
  ·rename_i t _
   cases t <;> simp
  ·simp
 case slice k x lo hi mx =>
  simp only [q5y]
  split
  ·exact z4f ..
  ·simp
 case sliceArr n k x lo hi mx =>
  simp only [q5y]
  split
  ·exact k8k ..
  ·simp
 case sliceStr x lo hi =>
  simp only [q5y]
  split
  ·exact k8l ..
  ·simp
 all_goals simp only [q5y]
 all_goals (repeat' split)
 all_goals first | (simp; done) | (constructor <;> grind)
def k17 (P : Program) (Cl : q37 → Prop) (l : List (DFlag × MInst)) (s : PS) (K : PS → Prop) (QP : PV → q37 → Prop) (_ : Tok (Cl, l, K, QP) := ⟨⟩) : Prop := mdraw P Cl l s K QP
def k5l (P : Program) (Cl : q37 → Prop) (fl : DFlag) (op : MOp) (e : Env) (st : q37) (K QP : PV → q37 → Prop) (_ : Tok (Cl, fl, op, K, QP) := ⟨⟩) : Prop := mdraw.one P Cl fl ⟨none, none, op⟩ ⟨e, st⟩ K QP
theorem Rets.xcall {P : Program} {g : FuncId} {ps : List PV} {st : q37} {p : PV} (h : Rets P g ps st p) {Q : PEnd → q37 → Prop} (hk : Q (.ret p) st) : xcall P g ps st Q := h.calls hk
def k63 (P : Program) (Cl : q37 → Prop) (g : FuncId) (ps : List PV) (K : PV → Prop) (QP : PV → q37 → Prop) (_ : Tok (Cl, K, QP) := ⟨⟩) : Prop :=
 ∃ p, (∀ st, Cl st → PCalls P g ps st (fun en st' => st' = st ∧ (en = .ret p ∨ ∃ q, en = .panic q ∧ QP q st))) ∧ K p
theorem k5m {P : Program} {Cl : q37 → Prop} {g : FuncId} {ps : List PV} {p : PV} (h : ∀ st, Rets P g ps st p) {K : PV → Prop} {QP : PV → q37 → Prop} (hk : K p) : k63 P Cl g ps K QP :=
 ⟨p, fun st _ => PCalls.mono (h st) fun _ _ ⟨h1, h2⟩ => ⟨h2, .inl h1⟩, hk⟩
def q83 (Cl : q37 → Prop) (k : Nat) (agg : Bool) (p : PV) (K : PV → Prop) (_ : Tok (Cl, K) := ⟨⟩) : Prop :=
 ∃ q, (∀ st, Cl st → q5y (.load k agg (.const p)) (q4x []) st (fun r => r = q)) ∧ K q
theorem k8m {Cl : q37 → Prop} {k : Nat} {agg : Bool} {cs : List PV} {off : Nat} {K : PV → Prop} (h : q81 cs off k agg K) : q83 Cl k agg (.iptr cs off) K := by
 have h' : q5y (.load k agg (.const (.iptr cs off))) (q4x []) [] K := h
 obtain ⟨q, h1, h2⟩ := (k3q _ _ _ _).1 h'
 exact ⟨q, fun _ _ => h1, h2⟩
theorem z00 {st0 : q37} {M : List Nat} {k : Nat} {agg : Bool} {b off : Nat} {T : TypeId} {cs : List PV} {K : PV → Prop} (hb : b ∉ M) (hg : q4n st0 b = some (.arr T cs)) (h : q81 cs off k agg K) : q83 (Cls st0 M) k agg (.ptr b off) K := by
 have key : ∀ (st : q37) (K' : PV → Prop), q4n st b = some (.arr T cs) → q5y (.load k agg (.const (.ptr b off))) (q4x []) st K' = q81 cs off k agg K' := by
  intro st K' hst
  simp only [q5y, q4x, q9w, hst]
  rfl
 obtain ⟨q, h1, h2⟩ := (k3q _ _ _ _).1 ((key st0 K hg).symm ▸ h)
 exact ⟨q, fun st hst => by rw [key st _ (hst b hb _ hg)]; rwa [key st0 _ hg] at h1, h2⟩
@[simp] theorem j0j (c : Nat) (o : PObj) (st : q37) (b : Nat) : q5p ((c, o) :: st) b = ((¬ c = b ∧ ¬ b = c) ∧ q5p st b) := propext ⟨fun h => h, fun h => h⟩
@[simp] theorem y4t (c : Nat) : q4n [] c = none := by rw [q4n]
@[simp] theorem y2f (b : Nat) (o : PObj) (st : q37) (c : Nat) : q4n ((b, o) :: st) c = if b = c then some o else q4n st c := by rw [q4n]
theorem Cls.self (st : q37) (M : List Nat) : Cls st M st := fun _ _ _ h => h
@[simp] theorem y4u (st : q37) (M : List Nat) : Cls st M st = True := eq_true (Cls.self st M)
@[simp] theorem q84 {st0 st : q37} {M : List Nat} {b : Nat} {o : PObj} (hn : q5p st b) (h : Cls st0 M st) : Cls st0 M ((b, o) :: st) := fun c hc x hx => by
 have := h c hc x hx
 simp only [q4n]
 rw [if_neg]
 ·exact this
 ·rintro rfl; rw [k1s hn] at this; cases this
@[simp] theorem z6i {st0 st : q37} {M : List Nat} {b : Nat} {o : PObj} (h : Cls st0 M st) : Cls ((b, o) :: st0) M ((b, o) :: st) := fun c hc x hx => by
 simp only [q4n] at hx ⊢
 split
 ·rename_i e; rw [if_pos e] at hx; exact hx
 ·rename_i e; rw [if_neg e] at hx; exact h c hc x hx
@[simp] theorem y2g {st0 st : q37} {M : List Nat} {b : Nat} {o o' : PObj} (hb : b ∈ M) (h : Cls st0 M st) : Cls ((b, o) :: st0) M ((b, o') :: st) := fun c hc x hx => by
 have hne : b ≠ c := by rintro rfl; exact hc hb
 simp only [q4n, if_neg hne] at hx ⊢
 exact h c hc x hx
@[simp] theorem j3s {st0 : q37} {M : List Nat} {k : Nat} {agg : Bool} {b off : Nat} {K : PV → Prop} (hb : b ∉ M) : q83 (Cls st0 M) k agg (.val (.pointer (some ⟨b, off, none⟩))) K = q4g (z9a (q4n st0 b)) fun r => q81 r.2 off k agg K := by
 apply propext
 cases hg : q4n st0 b with
 | none =>
  simp only [z9a, q73, iff_false]
  rintro ⟨q, h1, -⟩
  have := h1 st0 (Cls.self _ _)
  simp [q5y, q4x, q9w, hg] at this
 | some o =>
  cases o with
  | arr T cs =>
   simp only [j27, q4i]
   refine ⟨?_, fun h => z00 hb hg h⟩
   rintro ⟨q, h1, h2⟩
   have := h1 st0 (Cls.self _ _)
   have h3 : q5y (.load k agg (.const (.ptr b off))) (q4x []) st0 K := (k3q _ _ _ _).2 ⟨q, this, h2⟩
   simpa only [q5y, q4x, q9w, hg, q81] using h3
  | _ =>
   simp only [z9a, q73, iff_false]
   rintro ⟨q, h1, -⟩
   have := h1 st0 (Cls.self _ _)
   simp [q5y, q4x, q9w, hg] at this
@[simp] theorem j3t {st0 : q37} {M : List Nat} {k : Nat} {agg : Bool} {cs : List PV} {off : Nat} {K : PV → Prop} : q83 (Cls st0 M) k agg (.iptr cs off) K = q81 cs off k agg K := by
 apply propext
 refine ⟨?_, fun h => k8m h⟩
 rintro ⟨q, h1, h2⟩
 exact (k3q (.load k agg (.const (.iptr cs off))) (q4x []) st0 K).2 ⟨q, h1 st0 (Cls.self _ _), h2⟩
section
variable (P : Program) (Cl : q37 → Prop) (K : PS → Prop) (QP : PV → q37 → Prop) (K1 : PV → q37 → Prop) (Q : q5z) (e : Env) (st : q37)
@[simp ↓] theorem y2h (s : PS) : k17 P Cl [] s K QP = K s := rfl
@[simp ↓] theorem j99 (fl : DFlag) (d : Option Nat) (op : MOp) (l : List (DFlag × MInst)) : k17 P Cl ((fl, ⟨d, none, op⟩) :: l) ⟨e, st⟩ K QP =
  k5l P Cl fl op e st (fun p st' => q8p (⟨q8t e d p, st'⟩ : PS) fun s => k17 P Cl l s K QP) QP := rfl
@[simp ↓] theorem j3u (fl : DFlag) (d : Option Nat) (t : Nat) (op : MOp) (l : List (DFlag × MInst)) : k17 P Cl ((fl, ⟨d, some (t, true), op⟩) :: l) ⟨e, st⟩ K QP = q4g (q42 e t).gd? fun c =>
  onG c (q8p (z0b e t true) fun e => k5l P Cl fl op e st (fun p st' => q8p (⟨q8t e d p, st'⟩ : PS) fun s => k17 P Cl l s K QP) QP)
   (q8p (⟨q8t (z0b e t false) d .undef, st⟩ : PS) fun s => k17 P Cl l s K QP) (q8p (⟨q8t e d .undef, st⟩ : PS) fun s => k17 P Cl l s K QP) := by
 simp only [k17, mdraw]
 split
 ·rename_i c h; simp only [h, k59, q4i, j3d, k10]; cases c <;> simp <;> rfl
 ·rename_i vs h
  have hg : (q42 e t).gd? = some .skip := by rw [h]; rfl
  rw [hg, q4i]
  rfl
 ·rename_i h h2; rw [k6a h h2]; simp
@[simp ↓] theorem j3v (fl : DFlag) (d : Option Nat) (t : Nat) (op : MOp) (l : List (DFlag × MInst)) : k17 P Cl ((fl, ⟨d, some (t, false), op⟩) :: l) ⟨e, st⟩ K QP = q4g (q42 e t).gd? fun c =>
  onG c (q8p (⟨q8t (z0b e t true) d .undef, st⟩ : PS) fun s => k17 P Cl l s K QP)
   (q8p (z0b e t false) fun e => k5l P Cl fl op e st (fun p st' => q8p (⟨q8t e d p, st'⟩ : PS) fun s => k17 P Cl l s K QP) QP) (q8p (⟨q8t e d .undef, st⟩ : PS) fun s => k17 P Cl l s K QP) := by
 simp only [k17, mdraw]
 split
 ·rename_i c h; simp only [h, k59, q4i, j3d, k10]; cases c <;> simp <;> rfl
 ·rename_i vs h
  have hg : (q42 e t).gd? = some .skip := by rw [h]; rfl
  rw [hg, q4i]
  rfl
 ·rename_i h h2; rw [k6a h h2]; simp
@[simp ↓] theorem j2u (v : MVal) : k5l P Cl .early (.val v) e st K1 QP = q5o v (q4x e) st fun p => K1 p st := rfl
@[simp ↓] theorem y2i (op : MOp) : k5l P Cl .last op e st K1 QP = xop P op (q4x e) st K1 QP := rfl
@[simp ↓] theorem y2j (op : MOp) : k5l P Cl .hard op e st K1 QP = xop P op (q4x e) st (fun p st' => Cl st' ∧ K1 p st') QP := rfl
theorem q4s (v : MVal) (hv : q8d v = false) : k5l P Cl .late (.val v) e st K1 QP = q5o v (q4x e) [] fun p => K1 p st := by
 simp only [k5l, mdraw.one, z3o, hv, Bool.false_eq_true, if_false, q5o]
 exact propext (k3q v (q4x e) [] fun p => K1 p st).symm
@[simp ↓] theorem j55 (x : MX) : k5l P Cl .late (.val (.mv x)) e st K1 QP = q5o (.mv x) (q4x e) [] fun p => K1 p st := q4s P Cl QP K1 e st _ rfl
@[simp ↓] theorem j2v (c a b : MX) : k5l P Cl .late (.val (.pick c a b)) e st K1 QP = q5o (.pick c a b) (q4x e) [] fun p => K1 p st := q4s P Cl QP K1 e st _ rfl
@[simp ↓] theorem j0k (zs : List PV) (parts : List (Nat × Nat × MX)) : k5l P Cl .late (.val (.build zs parts)) e st K1 QP = q5o (.build zs parts) (q4x e) [] fun p => K1 p st := q4s P Cl QP K1 e st _ rfl
@[simp ↓] theorem z6j (x : MX) : k5l P Cl .late (.val (.nilCheck x)) e st K1 QP = q5o (.nilCheck x) (q4x e) [] fun p => K1 p st := q4s P Cl QP K1 e st _ rfl
@[simp ↓] theorem j3w (op : BinOp) (T : TypeId) (x y : MX) : k5l P Cl .late (.val (.bin op T x y)) e st K1 QP = q5o (.bin op T x y) (q4x e) [] fun p => K1 p st := q4s P Cl QP K1 e st _ rfl
@[simp ↓] theorem j0l (neg : Bool) (ks : List LK) (x y : MX) : k5l P Cl .late (.val (.eqAgg neg ks x y)) e st K1 QP = q5o (.eqAgg neg ks x y) (q4x e) [] fun p => K1 p st := q4s P Cl QP K1 e st _ rfl
@[simp ↓] theorem j56 (op : UnOp) (x : MX) : k5l P Cl .late (.val (.un op x)) e st K1 QP = q5o (.un op x) (q4x e) [] fun p => K1 p st := q4s P Cl QP K1 e st _ rfl
@[simp ↓] theorem j0m (k : IntKind) (x : MX) : k5l P Cl .late (.val (.toInt k x)) e st K1 QP = q5o (.toInt k x) (q4x e) [] fun p => K1 p st := q4s P Cl QP K1 e st _ rfl
@[simp ↓] theorem z4g (off : Nat) (x : MX) : k5l P Cl .late (.val (.fieldAddr off x)) e st K1 QP = q5o (.fieldAddr off x) (q4x e) [] fun p => K1 p st := q4s P Cl QP K1 e st _ rfl
@[simp ↓] theorem z4h (k : Nat) (x i : MX) : k5l P Cl .late (.val (.indexAddr k x i)) e st K1 QP = q5o (.indexAddr k x i) (q4x e) [] fun p => K1 p st := q4s P Cl QP K1 e st _ rfl
@[simp ↓] theorem z6k (n k : Nat) (x i : MX) : k5l P Cl .late (.val (.indexArr n k x i)) e st K1 QP = q5o (.indexArr n k x i) (q4x e) [] fun p => K1 p st := q4s P Cl QP K1 e st _ rfl
@[simp ↓] theorem j3x (x : MX) : k5l P Cl .late (.val (.len x)) e st K1 QP = q5o (.len x) (q4x e) [] fun p => K1 p st := q4s P Cl QP K1 e st _ rfl
@[simp ↓] theorem z7w (i : Nat) (x : MX) : k5l P Cl .late (.val (.extract i x)) e st K1 QP = q5o (.extract i x) (q4x e) [] fun p => K1 p st := q4s P Cl QP K1 e st _ rfl
@[simp ↓] theorem z9d (x : MX) : k5l P Cl .late (.val (.strlen x)) e st K1 QP = q5o (.strlen x) (q4x e) [] fun p => K1 p st := q4s P Cl QP K1 e st _ rfl
@[simp ↓] theorem z3j (T : TypeId) (len : Nat) (zs : List PV) (parts : List (Nat × Nat × MX)) : k5l P Cl .late (.val (.buildSlice T len zs parts)) e st K1 QP = q5o (.buildSlice T len zs parts) (q4x e) [] fun p => K1 p st := q4s P Cl QP K1 e st _ rfl
@[simp ↓] theorem j2w (k : Nat) (agg : Bool) (x : MX) : k5l P Cl .late (.val (.load k agg x)) e st K1 QP = q83 Cl k agg (q4x e x) fun p => K1 p st := by
 simp only [k5l, mdraw.one, z3o, q8d, if_true, q83, q5y]
 rfl
@[simp ↓] theorem j2x (g : FuncId) (fs cs : List PV) (args : List MX) : k5l P Cl .late (.call (.const (.func (.func g) fs cs)) args) e st K1 QP = k63 P Cl g (fs ++ args.map (q4x e) ++ cs) (fun p => K1 p st) QP := rfl
@[simp ↓] theorem y4v (l : List (DFlag × MInst)) (ks : List Nat) (s : PS) : xwp P (.draw false l ks) Q s = k17 P (fun _ => True) l s (fun s' => q8p (⟨q8u ks s'.env, s'.st⟩ : PS) fun s' => Q .normal s') (fun p st' => z6h Q p st') := rfl
def DrawLate (P : Program) (l : List (DFlag × MInst)) (K : PS → Prop) (QP : PV → q37 → Prop) (s : PS) (_ : Tok (l, K, QP) := ⟨⟩) : Prop := ∃ Cl : q37 → Prop, Cl s.st ∧ mdraw P Cl l s K QP
theorem DrawLate.intro {P : Program} {l : List (DFlag × MInst)} {K : PS → Prop} {QP : PV → q37 → Prop} {e : Env} {st : q37} (M : List Nat) (h : k17 P (Cls st M) l ⟨e, st⟩ K QP) : DrawLate P l K QP ⟨e, st⟩ := ⟨_, Cls.self st M, h⟩
theorem DrawLate.by {P : Program} {l : List (DFlag × MInst)} {K : PS → Prop} {QP : PV → q37 → Prop} {e : Env} {st : q37} (Cl : q37 → Prop) (h0 : Cl st) (h : k17 P Cl l ⟨e, st⟩ K QP) : DrawLate P l K QP ⟨e, st⟩ := ⟨Cl, h0, h⟩
@[simp ↓] theorem j57 (l : List (DFlag × MInst)) (ks : List Nat) (s : PS) : xwp P (.draw true l ks) Q s = DrawLate P l (fun s' => q8p (⟨q8u ks s'.env, s'.st⟩ : PS) fun s' => Q .normal s') (fun p st' => z6h Q p st') s := rfl
end
theorem Has.walk {P : Program} (q4m : P.follows .mixedOrders = true) {g : FuncId} {m : MFunc} (h : Has P g m) {nt np : Nat} {rs : List MRes} {c : MCode} (hm : m = ⟨nt, np, rs, c⟩) {ps : List PV} {st : q37} {Q : PEnd → q37 → Prop} (hlen : ps.length = np)
  {R E : PV → q37 → Prop} (hR : ∀ p st, R p st → RetView .ret p st Q) (hE : ∀ p st, E p st → RetView .panic p st Q)
  (hw : xwp P c (fun e s => j0h rs R E e s) ⟨q5g 0 ps, st⟩) : PCalls P g ps st Q := by
 subst hm
 exact h.calls q4m hlen hR hE hw
theorem Has.pure {P : Program} (q4m : P.follows .mixedOrders = true) {g : FuncId} {m : MFunc} (h : Has P g m) {nt np : Nat} {rs : List MRes} {c : MCode} (hm : m = ⟨nt, np, rs, c⟩) {ps : List PV} {st : q37} {p : PV} (hlen : ps.length = np)
  (hw : xwp P c (fun e s => j0h rs (fun q st' => q = p ∧ Over st st') (fun _ _ => False) e s) ⟨q5g 0 ps, st⟩) : Rets P g ps st p := by
 subst hm
 exact h.rets q4m hlen hw
@[simp] theorem j7k (st : q37) (cs : List PV) (off : Nat) : q9w st (.iptr cs off) = some (cs, off) := rfl
@[simp] theorem y0a (st : q37) (b off : Nat) : q9w st (.val (.pointer (some ⟨b, off, none⟩))) = (z9a (q4n st b)).map fun r => (r.2, off) := by
 simp only [q9w]
 cases q4n st b with
 | none => rfl
 | some o => cases o <;> rfl
@[simp] theorem y0b (zs : List PV) : q8v zs [] = some zs := rfl
@[simp] theorem j7l (zs : List PV) (off k : Nat) (p : PV) (rest : List (Nat × Nat × PV)) :
  q8v zs ((off, k, p) :: rest) = j3e p.cells fun ps => if ps.length = k ∧ off + k ≤ zs.length then q8v (q4a zs off ps) rest else none := by
 rw [q8v]
 cases p.cells <;> rfl
section
variable (k : IntKind) (n : Int) (c : Bool) (s : ByteArray) (a : Option Addr) (l m : Nat) (r : Option Nat)
@[simp] theorem y2k : (PV.val (.int k n)).cells = some [.val (.int k n)] := rfl
@[simp] theorem y0c : (PV.val (.bool c)).cells = some [.val (.bool c)] := rfl
@[simp] theorem y2l : (PV.val (.string s)).cells = some [.val (.string s)] := rfl
@[simp] theorem y2m : (PV.val (.pointer a)).cells = some [.val (.pointer a)] := rfl
@[simp] theorem j7m : (PV.val (.slice a l m)).cells = some [.val (.slice a l m)] := rfl
@[simp] theorem y2n : (PV.val (.map r)).cells = some [.val (.map r)] := rfl
@[simp] theorem j2y : (PV.val .nilIface).cells = some [.val .nilIface] := rfl
@[simp] theorem y2o (cs : List PV) : (PV.agg cs).cells = some cs := rfl
@[simp] theorem y0d (t : Bool) (cs : List PV) (n : Nat) : (PV.list t cs n).cells = some [.list t cs n] := rfl
@[simp] theorem y0e (cs : List PV) (n : Nat) : (PV.iptr cs n).cells = some [.iptr cs n] := rfl
@[simp] theorem y0f (ks : List Value) (vs : List PV) : (PV.imap ks vs).cells = some [.imap ks vs] := rfl
@[simp] theorem y0g (f : Fn) (fs cs : List PV) : (PV.func f fs cs).cells = some [.func f fs cs] := rfl
@[simp] theorem j7n (T : TypeId) (p : PV) : (PV.iface T p).cells = some [.iface T p] := rfl
end
attribute [simp] q8d j68 q5g q4x q42 q8t j6k q8u z0b k01 q4a q8i
end Go.Pv

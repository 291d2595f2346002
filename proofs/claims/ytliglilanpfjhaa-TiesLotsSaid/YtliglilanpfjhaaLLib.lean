/- All of the pure layer. -/
import Derived.Test.YtliglilanpfjhaaLSf
import Derived.KernelRfl
namespace Go.Pv
/-- Function g of P is the compact function m. -/
def Has (P : Program) (g : FuncId) (m : MFunc) : Prop := ∃ fn, P.funcs[g]? = some fn ∧ (fn.name == "runtime.NumGoroutine") = false ∧ convFunc P fn = some m
/-- A contract from the walk; what is behind a return, or a panic, may be seen otherwise. -/
theorem Has.calls {P : Program} (hmix : P.follows .mixedOrders = true) {g : FuncId} {m : MFunc} (h : Has P g m) {ps : List PV} {st : Store} {Q : PEnd → Store → Prop} (hlen : ps.length = m.nparams)
    {R E : PV → Store → Prop} (hR : ∀ p st, R p st → RetView .ret p st Q) (hE : ∀ p st, E p st → RetView .panic p st Q)
    (hw : mwp P m.body (retPost m.results R E) ⟨initEnv 0 ps, st⟩) : PCalls P g ps st Q := by
  obtain ⟨fn, h1, h2, h3⟩ := h
  exact pcalls_of_mwp hmix h1 h2 h3 hlen hR hE hw

/-! ### Views -/
theorem Sees.refl (p : PV) (st : Store) : Sees p st p st := ⟨fun I _ _ h1 h2 => ⟨I, I.le_refl, h1, h2⟩⟩
theorem Sees.trans {p q r : PV} {s t u : Store} (h : Sees p s q t) (k : Sees q t r u) : Sees p s r u := ⟨fun I w v h1 h2 => by
  obtain ⟨I', a, b, c⟩ := h.out I w v h1 h2
  obtain ⟨I'', a', b', c'⟩ := k.out I' w v b c
  exact ⟨I'', Imm.le_trans a a', b', c'⟩⟩
/-- A store that tells no more than another one. -/
def StLe (st' st : Store) : Prop := ∀ b o, sget st' b = some o → sget st b = some o
theorem StLe.refl (st : Store) : StLe st st := fun _ _ h => h
theorem StLe.trans {a b c : Store} (h : StLe a b) (k : StLe b c) : StLe a c := fun x o hx => k x o (h x o hx)
theorem StLe.cons {st : Store} {b : Nat} {o : PObj} (h : sget st b = none) : StLe st ((b, o) :: st) := by
  intro c x hc
  simp only [sget]
  split
  · rename_i e; subst e; rw [h] at hc; cases hc
  · exact hc
theorem StLe.fresh {st : Store} {b : Nat} {o : PObj} (h : snew st b) : StLe st ((b, o) :: st) := .cons (snew_get h)
theorem sfresh_of_get {n : Nat} : ∀ {st : Store}, (∀ b o, sget st b = some o → b < n) → sfresh st n
  | [], _ => trivial
  | (b, o) :: st, h => by
    refine ⟨h b o (by simp [sget]), sfresh_of_get fun c x hc => ?_⟩
    by_cases hbc : b = c
    · subst hbc; exact h b o (by simp [sget])
    · exact h c x (by simp [sget, hbc, hc])
theorem SRep.le {I : Imm} {st st' : Store} {w : World} (h : SRep I st w) (hle : StLe st' st) : SRep I st' w :=
  ⟨h.imm, fun b o hb => h.objs b o (hle b o hb), sfresh_of_get fun b o hb => h.obj_lt (hle b o hb)⟩
theorem Sees.drop {p : PV} {st st' : Store} (h : StLe st' st) : Sees p st p st' := ⟨fun I _ _ h1 h2 => ⟨I, I.le_refl, h1.le h, h2⟩⟩

theorem RetView.same {c : PV → PEnd} {p : PV} {st : Store} {Q : PEnd → Store → Prop} (h : Q (c p) st) : RetView c p st Q := ⟨p, st, .refl _ _, h⟩
theorem RetView.drop {c : PV → PEnd} {p : PV} {st st' : Store} {Q : PEnd → Store → Prop} (hle : StLe st' st) (h : Q (c p) st') : RetView c p st Q := ⟨p, st', .drop hle, h⟩
theorem RetView.fresh1 {c : PV → PEnd} {p : PV} {st : Store} {b : Nat} {o : PObj} {Q : PEnd → Store → Prop} (hf : snew st b) (h : RetView c p st Q) : RetView c p ((b, o) :: st) Q := by
  obtain ⟨p', st', h1, h2⟩ := h
  exact ⟨p', st', (Sees.drop (.fresh hf)).trans h1, h2⟩

theorem View.refl (s : PS) : View s s := fun I _ _ h1 h2 => ⟨I, I.le_refl, h1, h2⟩
theorem View.trans {s t u : PS} (h : View s t) (k : View t u) : View s u := fun I tm w h1 h2 => by
  obtain ⟨I', a, b, c⟩ := h I tm w h1 h2
  obtain ⟨I'', a', b', c'⟩ := k I' tm w b c
  exact ⟨I'', Imm.le_trans a a', b', c'⟩
theorem eget_mem {e : Env} : ∀ {l : Env} {t : Nat}, (∀ q ∈ l, eget e q.1 = q.2) → eget l t = .any ∨ eget l t = eget e t
  | [], _, _ => .inl rfl
  | (u, p) :: l, t, h => by
    simp only [eget]
    by_cases hut : u = t
    · subst hut
      simp only [if_true]
      exact .inr (h (u, p) (by simp)).symm
    · simp only [hut, if_false]
      exact eget_mem fun q hq => h q (by simp [hq])
/-- A shorter list of slots, a smaller store. -/
theorem View.weak {e e' : Env} {st st' : Store} (he : ∀ q ∈ e', eget e q.1 = q.2) (hle : StLe st' st) : View ⟨e, st⟩ ⟨e', st'⟩ := fun I tm w h1 h2 =>
  ⟨I, I.le_refl, fun t => by
    rcases eget_mem (t := t) he with h | h
    · simp only [h, vrep]
    · simp only [h]; exact h1 t, h2.le hle⟩

/-! ### Contracts of functions that leave the store alone -/
/-- A store under fresh objects. -/
def Over (st0 : Store) : Store → Prop
  | [] => st0 = []
  | (b, o) :: st => st0 = (b, o) :: st ∨ snew st b ∧ Over st0 st
theorem Over.le {st0 : Store} : ∀ {st : Store}, Over st0 st → StLe st0 st
  | [], h => by simp only [Over] at h; subst h; exact .refl _
  | (b, o) :: st, h => by
    simp only [Over] at h
    rcases h with rfl | ⟨h1, h2⟩
    · exact .refl _
    · exact h2.le.trans (.fresh h1)
@[simp] theorem Over.self (st : Store) : Over st st := by
  cases st with
  | nil => rfl
  | cons q st => exact .inl rfl
@[simp] theorem Over.cons {st : Store} (b : Nat) (o : PObj) (st0 : Store) : Over st0 ((b, o) :: st) ↔ st0 = (b, o) :: st ∨ snew st b ∧ Over st0 st := .rfl
def Rets (P : Program) (g : FuncId) (ps : List PV) (st : Store) (p : PV) : Prop := PCalls P g ps st fun e s => e = .ret p ∧ s = st
/-- Called so, the function gives p. -/
theorem Has.rets {P : Program} (hmix : P.follows .mixedOrders = true) {g : FuncId} {m : MFunc} (h : Has P g m) {ps : List PV} {st : Store} {p : PV} (hlen : ps.length = m.nparams)
    (hw : mwp P m.body (retPost m.results (fun q st' => q = p ∧ Over st st') (fun _ _ => False)) ⟨initEnv 0 ps, st⟩) : Rets P g ps st p :=
  h.calls hmix hlen (fun _ _ ⟨h1, h2⟩ => .drop h2.le ⟨by rw [h1], rfl⟩) (fun _ _ h => h.elim) hw
theorem Rets.calls {P : Program} {g : FuncId} {ps : List PV} {st : Store} {p : PV} (h : Rets P g ps st p) {Q : PEnd → Store → Prop} (hq : Q (.ret p) st) : PCalls P g ps st Q :=
  PCalls.mono h fun e s ⟨h1, h2⟩ => by subst h1; subst h2; exact hq
theorem Rets.soft {P : Program} {g : FuncId} {ps : List PV} {st : Store} {p : PV} (h : Rets P g ps st p) {K : PV → Prop} {QP : PV → Store → Prop} (hk : K p) :
    ∃ p, PCalls P g ps st (fun en st' => st' = st ∧ (en = .ret p ∨ ∃ q, en = .panic q ∧ QP q st)) ∧ K p :=
  ⟨p, PCalls.mono h fun _ _ ⟨h1, h2⟩ => ⟨h2, .inl h1⟩, hk⟩
@[congr] theorem PCalls_congr {P : Program} {g : FuncId} {ps ps' : List PV} {st st' : Store} {Q : PEnd → Store → Prop} (h1 : ps = ps') (h2 : st = st') : PCalls P g ps st Q = PCalls P g ps' st' Q := by
  subst h1; subst h2; rfl
@[congr] theorem LoopInv_congr {V : PS → PS → Prop} {body : MPost → PS → Prop} {Q : MPost} {s s' : PS} (h : s = s') : LoopInv V body Q s = LoopInv V body Q s' := by subst h; rfl
@[congr] theorem RetView_congr {c : PV → PEnd} {p p' : PV} {st st' : Store} {Q : PEnd → Store → Prop} (h : p = p') (h2 : st = st') : RetView c p st Q = RetView c p' st' Q := by subst h; subst h2; rfl

end Go.Pv
/- How simp runs the compact code: every rule looks at evaluated operands alone, and never walks into what comes after. -/
namespace Go.Pv
universe u

/-- A mark that keeps simp out of a. -/
structure Tok {α : Sort u} (a : α) : Type where

/-! ### Views of pure values -/
def onSome {α : Type} (o : Option α) (K : α → Prop) (_ : Tok K := ⟨⟩) : Prop := ∃ a, o = some a ∧ K a
@[simp ↓, simp] theorem onSome_some {α : Type} (a : α) (K : α → Prop) : onSome (some a) K = K a := by simp [onSome]
@[simp] theorem onSome_none {α : Type} (K : α → Prop) : onSome none K = False := by simp [onSome]

def PV.bool? : PV → Option Bool
  | .val (.bool c) => some c
  | _ => none
@[simp] theorem bool?_bool (c : Bool) : PV.bool? (.val (.bool c)) = some c := rfl
def PV.int? : PV → Option (IntKind × Int)
  | .val (.int k n) => some (k, n)
  | _ => none
@[simp] theorem int?_int (k : IntKind) (n : Int) : PV.int? (.val (.int k n)) = some (k, n) := rfl
def PV.str? : PV → Option ByteArray
  | .val (.string s) => some s
  | _ => none
@[simp] theorem str?_str (s : ByteArray) : PV.str? (.val (.string s)) = some s := rfl
def PV.agg? : PV → Option (List PV)
  | .agg cs => some cs
  | _ => none
@[simp] theorem agg?_agg (cs : List PV) : PV.agg? (.agg cs) = some cs := rfl
def PV.tuple? : PV → Option (List PV)
  | .tuple cs => some cs
  | _ => none
@[simp] theorem tuple?_tuple (cs : List PV) : PV.tuple? (.tuple cs) = some cs := rfl
def PV.func? : PV → Option (FuncId × List PV × List PV)
  | .func (.func g) fs cs => some (g, fs, cs)
  | _ => none
@[simp] theorem func?_func (g : FuncId) (fs cs : List PV) : PV.func? (.func (.func g) fs cs) = some (g, fs, cs) := rfl
def PV.iface? : PV → Option (TypeId × PV)
  | .iface T p => some (T, p)
  | _ => none
@[simp] theorem iface?_iface (T : TypeId) (p : PV) : PV.iface? (.iface T p) = some (T, p) := rfl
def PV.ptr? : PV → Option (Nat × Nat)
  | .val (.pointer (some ⟨b, off, none⟩)) => some (b, off)
  | _ => none
@[simp] theorem ptr?_ptr (b off : Nat) : PV.ptr? (.val (.pointer (some ⟨b, off, none⟩))) = some (b, off) := rfl
def arr? : Option PObj → Option (TypeId × List PV)
  | some (.arr T cs) => some (T, cs)
  | _ => none
@[simp] theorem arr?_arr (T : TypeId) (cs : List PV) : arr? (some (.arr T cs)) = some (T, cs) := rfl

/-- A branch. -/
def onB (c : Bool) (A B : Prop) (_ : Tok (A, B) := ⟨⟩) : Prop := (c = true → A) ∧ (c = false → B)
@[simp ↓, simp] theorem onB_true (A B : Prop) : onB true A B = A := by simp [onB]
@[simp ↓, simp] theorem onB_false (A B : Prop) : onB false A B = B := by simp [onB]
@[simp] theorem onB_decide (p : Prop) [Decidable p] (A B : Prop) : onB (decide p) A B = ((p → A) ∧ (¬ p → B)) := by simp [onB]
@[simp] theorem onB_not (c : Bool) (A B : Prop) : onB (!c) A B = onB c B A := by cases c <;> simp
@[simp low] theorem onB_eq (c : Bool) (A B : Prop) : onB c A B = ((c = true → A) ∧ (c = false → B)) := rfl
theorem asInt?_eq (p : PV) : asInt? p = p.int?.map (·.2) := by
  cases p <;> try rfl
  rename_i v; cases v <;> rfl
/-! ### Values -/
def xval (op : MVal) (ρ : MX → PV) (st : Store) (K : PV → Prop) (_ : Tok K := ⟨⟩) : Prop := mval op ρ st K
def xbin (op : BinOp) (p q : PV) (K : PV → Prop) (_ : Tok K := ⟨⟩) : Prop := binPV op p q K
def mvCell (cs : List PV) (off k : Nat) (agg : Bool) (K : PV → Prop) (_ : Tok K := ⟨⟩) : Prop :=
  if agg then ∃ ps, sub cs off k = some ps ∧ K (.agg ps) else ∃ p, cs[off]? = some p ∧ K p
@[simp] theorem mvCell_true (cs : List PV) (off k : Nat) (K : PV → Prop) : mvCell cs off k true K = onSome (sub cs off k) fun ps => K (.agg ps) := by simp [mvCell, onSome]
@[simp] theorem mvCell_false (cs : List PV) (off k : Nat) (K : PV → Prop) : mvCell cs off k false K = onSome (cs[off]?) K := by simp [mvCell, onSome]
theorem sub_eq (cs : List PV) (off k : Nat) : sub cs off k = if off + k ≤ cs.length then some ((cs.drop off).take k) else none := rfl
@[simp] theorem sub_lit (c : PV) (cs : List PV) (off k : Nat) : sub (c :: cs) off k = if off + k ≤ (c :: cs).length then some (((c :: cs).drop off).take k) else none := rfl

section
variable (ρ : MX → PV) (st : Store) (K : PV → Prop)
@[simp ↓] theorem mval_mv (x : MX) : xval (.mv x) ρ st K = K (ρ x) := rfl
@[simp ↓] theorem mval_pick (c a b : MX) : xval (.pick c a b) ρ st K = onSome (ρ c).bool? fun t => onB t (K (ρ a)) (K (ρ b)) := by
  simp only [xval, mval]; split <;> simp_all [PV.bool?]
@[simp ↓] theorem mval_build (zs : List PV) (parts : List (Nat × Nat × MX)) : xval (.build zs parts) ρ st K = onSome (fillPV zs (parts.map fun q => (q.1, q.2.1, ρ q.2.2))) fun cs => K (.agg cs) := by
  simp only [xval, mval]; split <;> simp_all
@[simp ↓] theorem mval_buildSlice (T : TypeId) (len : Nat) (zs : List PV) (parts : List (Nat × Nat × MX)) : xval (.buildSlice T len zs parts) ρ st K = onSome (fillPV zs (parts.map fun q => (q.1, q.2.1, ρ q.2.2))) fun cs => K (.list true cs len) := by
  simp only [xval, mval]; split <;> simp_all
@[simp ↓] theorem mval_load (k : Nat) (agg : Bool) (x : MX) : xval (.load k agg x) ρ st K = onSome (rowAt? st (ρ x)) fun r => mvCell r.1 r.2 k agg K := by
  simp only [xval, mval]; split <;> simp_all [mvCell]

def mvNil (p : PV) (K : PV → Prop) (_ : Tok K := ⟨⟩) : Prop :=
  match p with
  | .iptr cs off => K (.iptr cs off)
  | .val (.pointer (some a)) => K (.val (.pointer (some a)))
  | .func (.func f) fs cs => K (.func (.func f) fs cs)
  | .func (.yield l) fs cs => K (.func (.yield l) fs cs)
  | _ => False
@[simp] theorem mvNil_iptr (cs : List PV) (off : Nat) : mvNil (.iptr cs off) K = K (.iptr cs off) := rfl
@[simp] theorem mvNil_ptr (a : Addr) : mvNil (.val (.pointer (some a))) K = K (.val (.pointer (some a))) := rfl
@[simp] theorem mvNil_yield (l : Nat) (fs cs : List PV) : mvNil (.func (.yield l) fs cs) K = K (.func (.yield l) fs cs) := rfl
@[simp] theorem mvNil_func (f : FuncId) (fs cs : List PV) : mvNil (.func (.func f) fs cs) K = K (.func (.func f) fs cs) := rfl
@[simp ↓] theorem mval_nilCheck (x : MX) : xval (.nilCheck x) ρ st K = mvNil (ρ x) K := rfl

@[simp ↓] theorem mval_bin (op : BinOp) (T : TypeId) (x y : MX) : xval (.bin op T x y) ρ st K = xbin op (ρ x) (ρ y) K := rfl
section
variable (k k' : IntKind) (a b : Int) (s t : ByteArray)
@[simp] theorem bin_add : xbin .add (.val (.int k a)) (.val (.int k' b)) K = (k = k' ∧ K (.val (.int k (k.wrap (a + b))))) := rfl
@[simp] theorem bin_sub : xbin .sub (.val (.int k a)) (.val (.int k' b)) K = (k = k' ∧ K (.val (.int k (k.wrap (a - b))))) := rfl
@[simp] theorem bin_mul : xbin .mul (.val (.int k a)) (.val (.int k' b)) K = (k = k' ∧ K (.val (.int k (k.wrap (a * b))))) := rfl
@[simp] theorem bin_quo : xbin .quo (.val (.int k a)) (.val (.int k' b)) K = (k = k' ∧ b ≠ 0 ∧ K (.val (.int k (k.wrap (a.tdiv b))))) := rfl
@[simp] theorem bin_rem : xbin .rem (.val (.int k a)) (.val (.int k' b)) K = (k = k' ∧ b ≠ 0 ∧ K (.val (.int k (a.tmod b)))) := rfl
@[simp] theorem bin_shl : xbin .shl (.val (.int k a)) (.val (.int k' b)) K = (0 ≤ b ∧ K (.val (.int k (k.wrap (a * 2 ^ min b.toNat k.bits))))) := rfl
@[simp] theorem bin_shr : xbin .shr (.val (.int k a)) (.val (.int k' b)) K = (0 ≤ b ∧ K (.val (.int k (a.fdiv (2 ^ min b.toNat k.bits))))) := rfl
@[simp] theorem bin_and : xbin .and (.val (.int k a)) (.val (.int k' b)) K = (k = k' ∧ K (.val (.int k (k.wrap (BitVec.ofInt k.bits a &&& BitVec.ofInt k.bits b).toNat)))) := rfl
@[simp] theorem bin_or : xbin .or (.val (.int k a)) (.val (.int k' b)) K = (k = k' ∧ K (.val (.int k (k.wrap (BitVec.ofInt k.bits a ||| BitVec.ofInt k.bits b).toNat)))) := rfl
@[simp] theorem bin_xor : xbin .xor (.val (.int k a)) (.val (.int k' b)) K = (k = k' ∧ K (.val (.int k (k.wrap (BitVec.ofInt k.bits a ^^^ BitVec.ofInt k.bits b).toNat)))) := rfl
@[simp] theorem bin_andNot : xbin .andNot (.val (.int k a)) (.val (.int k' b)) K = (k = k' ∧ K (.val (.int k (k.wrap (BitVec.ofInt k.bits a &&& ~~~ BitVec.ofInt k.bits b).toNat)))) := rfl
@[simp] theorem bin_eql : xbin .eql (.val (.int k a)) (.val (.int k' b)) K = (k = k' ∧ K (.val (.bool (decide (a = b))))) := by
  have : (a == b) = decide (a = b) := rfl
  simp only [xbin, binPV, intArithR, intCmpR, this]
@[simp] theorem bin_neq : xbin .neq (.val (.int k a)) (.val (.int k' b)) K = (k = k' ∧ K (.val (.bool (decide (a ≠ b))))) := by
  have : (a != b) = decide (a ≠ b) := by by_cases h : a = b <;> simp [h]
  simp only [xbin, binPV, intArithR, intCmpR, this]
@[simp] theorem bin_lss : xbin .lss (.val (.int k a)) (.val (.int k' b)) K = (k = k' ∧ K (.val (.bool (decide (a < b))))) := rfl
@[simp] theorem bin_leq : xbin .leq (.val (.int k a)) (.val (.int k' b)) K = (k = k' ∧ K (.val (.bool (decide (a ≤ b))))) := rfl
@[simp] theorem bin_gtr : xbin .gtr (.val (.int k a)) (.val (.int k' b)) K = (k = k' ∧ K (.val (.bool (decide (b < a))))) := rfl
@[simp] theorem bin_geq : xbin .geq (.val (.int k a)) (.val (.int k' b)) K = (k = k' ∧ K (.val (.bool (decide (b ≤ a))))) := rfl
@[simp] theorem bin_cat : xbin .add (.val (.string s)) (.val (.string t)) K = (s.size + t.size < 2 ^ 62 ∧ K (.val (.string (s ++ t)))) := rfl
theorem toList_beq : (s.toList == t.toList) = decide (s = t) := by
  by_cases h : s = t
  · simp [h]
  · have : s.toList ≠ t.toList := by
      intro e
      rw [ByteArray.toList_eq, ByteArray.toList_eq] at e
      exact h (ByteArray.ext (Array.ext' e))
    simp [h, this]
@[simp] theorem bin_seql : xbin .eql (.val (.string s)) (.val (.string t)) K = K (.val (.bool (decide (s = t)))) := by
  simp only [xbin, binPV, strCmpR, toList_beq]
@[simp] theorem bin_sneq : xbin .neq (.val (.string s)) (.val (.string t)) K = K (.val (.bool (!decide (s = t)))) := by
  simp only [xbin, binPV, strCmpR, toList_beq]
@[simp] theorem bin_slss : xbin .lss (.val (.string s)) (.val (.string t)) K = K (.val (.bool (Op.bytesLess s.toList t.toList))) := rfl
end

def mvEq (neg : Bool) (ks : List LK) (p q : PV) (K : PV → Prop) (_ : Tok K := ⟨⟩) : Prop := onSome p.agg? fun cs => onSome q.agg? fun ds => onSome (eqCells ks cs ds) fun b => K (.bool (if neg then !b else b))
@[simp ↓] theorem mval_eqAgg (neg : Bool) (ks : List LK) (x y : MX) : xval (.eqAgg neg ks x y) ρ st K = onSome (ρ x).agg? fun cs => onSome (ρ y).agg? fun ds => onSome (eqCells ks cs ds) fun b => K (.bool (if neg then !b else b)) := by
  simp only [xval, mval]; split <;> simp_all [onSome, PV.agg?]
  rename_i h
  intro x h1 y h2
  split at h1 <;> split at h2 <;> simp_all
@[simp ↓] theorem mval_eqBool (neg : Bool) (x y : MX) : xval (.eqBool neg x y) ρ st K = onSome (ρ x).bool? fun a => onSome (ρ y).bool? fun b => K (.bool (if neg then !(a == b) else (a == b))) := by
  simp only [xval, mval]
  split
  · rename_i h1 h2; simp only [h1, h2, bool?_bool, onSome_some]
  · rename_i h
    simp only [onSome, eq_iff_iff, false_iff]
    rintro ⟨a, h1, b, h2, -⟩
    unfold PV.bool? at h1 h2
    split at h1
    · split at h2
      · rename_i h3 _ _ h4; exact h _ _ h3 h4
      · cases h2
    · cases h1
@[simp] theorem eqLeaf_int (k k' : IntKind) (a b : Int) : eqLeaf .int (.val (.int k a)) (.val (.int k' b)) = if k = k' then some (decide (a = b)) else none := rfl
@[simp] theorem eqLeaf_bool (a b : Bool) : eqLeaf .bool (.val (.bool a)) (.val (.bool b)) = some (a == b) := rfl
@[simp] theorem eqLeaf_str (a b : ByteArray) : eqLeaf .str (.val (.string a)) (.val (.string b)) = some (decide (a = b)) := by simp only [eqLeaf, toList_beq]
@[simp] theorem eqCells_nil : eqCells [] [] [] = some true := rfl
def and2 : Option Bool → Option Bool → Option Bool
  | some a, some b => some (a && b)
  | _, _ => none
@[simp] theorem and2_some (a b : Bool) : and2 (some a) (some b) = some (a && b) := rfl
@[simp] theorem eqCells_cons (k : LK) (ks : List LK) (p q : PV) (ps qs : List PV) : eqCells (k :: ks) (p :: ps) (q :: qs) = and2 (eqLeaf k p q) (eqCells ks ps qs) := by
  simp only [eqCells]
  cases eqLeaf k p q <;> cases eqCells ks ps qs <;> rfl

@[simp ↓] theorem mval_neg (x : MX) : xval (.un .neg x) ρ st K = onSome (ρ x).int? fun q => K (.val (.int q.1 (q.1.wrap (0 - q.2)))) := by
  simp only [xval, mval]; cases h : ρ x <;> simp [PV.int?]
  rename_i v; cases v <;> simp
/-- The complement. -/
def unXor (p : PV) (K : PV → Prop) (_ : Tok K := ⟨⟩) : Prop :=
  match p with
  | .val (.int k n) => K (.val (.int k (k.wrap (BitVec.ofInt k.bits (if k.signed then -1 else k.max) ^^^ BitVec.ofInt k.bits n).toNat)))
  | _ => False
@[simp ↓] theorem mval_unXor (x : MX) : xval (.un .xor x) ρ st K = unXor (ρ x) K := by
  simp only [xval, mval, unXor]
  split <;> simp_all
@[simp ↓] theorem mval_not (x : MX) : xval (.un .not x) ρ st K = onSome (ρ x).bool? fun b => K (.val (.bool !b)) := by
  simp only [xval, mval]; cases h : ρ x <;> simp [PV.bool?]
  rename_i v; cases v <;> simp
@[simp ↓] theorem mval_toInt (k : IntKind) (x : MX) : xval (.toInt k x) ρ st K = onSome (ρ x).int? fun q => K (.val (.int k (k.wrap q.2))) := by
  simp only [xval, mval]; cases h : ρ x <;> simp [PV.int?]
  rename_i v; cases v <;> simp
@[simp ↓] theorem mval_mkIface (T : TypeId) (x : MX) : xval (.mkIface T x) ρ st K = K (.iface T (ρ x)) := rfl
@[simp ↓] theorem mval_mkFunc (fn : Fn) (fs cs : List MX) : xval (.mkFunc fn fs cs) ρ st K = K (.func fn (fs.map ρ) (cs.map ρ)) := rfl

def mvFieldAddr (off : Nat) (p : PV) (K : PV → Prop) (_ : Tok K := ⟨⟩) : Prop :=
  match p with
  | .iptr cs k => K (.iptr cs (k + off))
  | .val (.pointer (some ⟨b, k, none⟩)) => K (.ptr b (k + off))
  | _ => False
@[simp] theorem mvFieldAddr_iptr (off : Nat) (cs : List PV) (k : Nat) : mvFieldAddr off (.iptr cs k) K = K (.iptr cs (k + off)) := rfl
@[simp] theorem mvFieldAddr_ptr (off b k : Nat) : mvFieldAddr off (.val (.pointer (some ⟨b, k, none⟩))) K = K (.ptr b (k + off)) := rfl
@[simp ↓] theorem mval_fieldAddr (off : Nat) (x : MX) : xval (.fieldAddr off x) ρ st K = mvFieldAddr off (ρ x) K := rfl
@[simp ↓] theorem mval_field (off k : Nat) (agg : Bool) (x : MX) : xval (.field off k agg x) ρ st K = onSome (ρ x).agg? fun cs => mvCell cs off k agg K := by
  simp only [xval, mval]; cases h : ρ x <;> simp [PV.agg?, mvCell]

def mvIndexAddr (k : Nat) (p : PV) (j : Int) (K : PV → Prop) (_ : Tok K := ⟨⟩) : Prop :=
  match p with
  | .list _ cs n => 0 ≤ j ∧ j < n ∧ j.toNat * k < cs.length ∧ K (.iptr cs (j.toNat * k))
  | .val (.slice (some ⟨b, off, none⟩) n _) => 0 ≤ j ∧ j < n ∧ K (.ptr b (off + j.toNat * k))
  | _ => False
@[simp] theorem mvIndexAddr_list (k : Nat) (t : Bool) (cs : List PV) (n : Nat) (j : Int) : mvIndexAddr k (.list t cs n) j K = (0 ≤ j ∧ j < n ∧ j.toNat * k < cs.length ∧ K (.iptr cs (j.toNat * k))) := rfl
@[simp] theorem mvIndexAddr_own (k b off n c : Nat) (j : Int) : mvIndexAddr k (.val (.slice (some ⟨b, off, none⟩) n c)) j K = (0 ≤ j ∧ j < n ∧ K (.ptr b (off + j.toNat * k))) := rfl
@[simp] theorem mvIndexAddr_nil (k : Nat) (j : Int) : mvIndexAddr k (.val (.slice none 0 0)) j K = False := rfl
@[simp ↓] theorem mval_indexAddr (k : Nat) (x i : MX) : xval (.indexAddr k x i) ρ st K = onSome (ρ i).int? fun q => mvIndexAddr k (ρ x) q.2 K := by
  simp only [xval, mval]
  rw [asInt?_eq]
  cases h : (ρ i).int? with
  | none => simp
  | some q =>
    simp only [Option.map_some, onSome_some]
    cases hx : ρ x with
    | val v =>
      cases v with
      | slice a n c =>
        cases a with
        | none =>
          cases n <;> cases c <;> simp [PV.asList, mvIndexAddr]
        | some a => obtain ⟨b, off, t⟩ := a; cases t <;> simp [PV.asList, mvIndexAddr]
      | _ => simp [PV.asList, mvIndexAddr]
    | _ => simp [PV.asList, mvIndexAddr]

def mvIndexArr (n k : Nat) (p : PV) (j : Int) (K : PV → Prop) (_ : Tok K := ⟨⟩) : Prop :=
  match p with
  | .iptr cs off => 0 ≤ j ∧ j < n ∧ K (.iptr cs (off + j.toNat * k))
  | .val (.pointer (some ⟨b, off, none⟩)) => 0 ≤ j ∧ j < n ∧ K (.ptr b (off + j.toNat * k))
  | _ => False
@[simp] theorem mvIndexArr_iptr (n k : Nat) (cs : List PV) (off : Nat) (j : Int) : mvIndexArr n k (.iptr cs off) j K = (0 ≤ j ∧ j < n ∧ K (.iptr cs (off + j.toNat * k))) := rfl
@[simp] theorem mvIndexArr_ptr (n k b off : Nat) (j : Int) : mvIndexArr n k (.val (.pointer (some ⟨b, off, none⟩))) j K = (0 ≤ j ∧ j < n ∧ K (.ptr b (off + j.toNat * k))) := rfl
@[simp ↓] theorem mval_indexArr (n k : Nat) (x i : MX) : xval (.indexArr n k x i) ρ st K = onSome (ρ i).int? fun q => mvIndexArr n k (ρ x) q.2 K := by
  simp only [xval, mval]
  rw [asInt?_eq]
  cases h : (ρ i).int? with
  | none => simp
  | some q => simp only [Option.map_some, onSome_some]; rfl
@[simp ↓] theorem mval_index (n k : Nat) (agg : Bool) (x i : MX) : xval (.index n k agg x i) ρ st K = onSome (ρ i).int? fun q => onSome (ρ x).agg? fun cs => 0 ≤ q.2 ∧ q.2 < n ∧ mvCell cs (q.2.toNat * k) k agg K := by
  simp only [xval, mval]
  rw [asInt?_eq]
  cases h : (ρ i).int? with
  | none => simp
  | some q => cases hx : ρ x <;> simp [PV.agg?, mvCell]
@[simp ↓] theorem mval_indexStr (x i : MX) : xval (.indexStr x i) ρ st K = onSome (ρ i).int? fun q => onSome (ρ x).str? fun s => 0 ≤ q.2 ∧ onSome (s[q.2.toNat]?) fun c => K (.val (.int .u8 c.toNat)) := by
  simp only [xval, mval]
  rw [asInt?_eq]
  cases h : (ρ i).int? with
  | none => simp
  | some q =>
    cases hx : ρ x with
    | val v => cases v <;> simp [PV.str?, onSome]
    | _ => simp [PV.str?]

/-- The length of a slice. -/
def PV.len? : PV → Option Nat
  | .list _ _ n => some n
  | .val (.slice _ n _) => some n
  | _ => none
@[simp] theorem len?_list (t : Bool) (cs : List PV) (n : Nat) : PV.len? (.list t cs n) = some n := rfl
@[simp] theorem len?_own (a : Option Addr) (n c : Nat) : PV.len? (.val (.slice a n c)) = some n := rfl
@[simp ↓] theorem mval_len (x : MX) : xval (.len x) ρ st K = onSome (ρ x).len? fun n => K (.int n) := by
  simp only [xval, mval]
  cases hx : ρ x with
  | val v =>
    cases v with
    | slice a n c =>
      cases a with
      | none => cases n <;> cases c <;> simp [PV.asList]
      | some a => simp [PV.asList]
    | _ => simp [PV.asList, PV.len?]
  | _ => simp [PV.asList, PV.len?]
@[simp ↓] theorem mval_strlen (x : MX) : xval (.strlen x) ρ st K = onSome (ρ x).str? fun s => K (.int s.size) := by
  simp only [xval, mval]
  cases hx : ρ x with
  | val v => cases v <;> simp [PV.str?]
  | _ => simp [PV.str?]
def PV.cap? : PV → Option Nat
  | .list true _ n => some n
  | .val (.slice _ _ c) => some c
  | _ => none
@[simp] theorem cap?_list (cs : List PV) (n : Nat) : PV.cap? (.list true cs n) = some n := rfl
@[simp] theorem cap?_own (a : Option Addr) (n c : Nat) : PV.cap? (.val (.slice a n c)) = some c := rfl
@[simp ↓] theorem mval_cap (x : MX) : xval (.cap x) ρ st K = onSome (ρ x).cap? fun n => K (.int n) := by
  simp only [xval, mval]
  cases hx : ρ x with
  | val v => cases v <;> simp [PV.cap?]
  | list t cs n => cases t <;> simp [PV.cap?]
  | _ => simp [PV.cap?]
@[simp ↓] theorem mval_extract (i : Nat) (x : MX) : xval (.extract i x) ρ st K = onSome (ρ x).tuple? fun ps => onSome (ps[i]?) K := by
  simp only [xval, mval]
  cases hx : ρ x <;> simp [PV.tuple?, onSome]

def mvMinmax (isMax : Bool) (ps : List PV) (K : PV → Prop) (_ : Tok K := ⟨⟩) : Prop :=
  match ps with
  | [.val (.int k a), .val (.int _ b)] => K (.val (.int k (if isMax then (if b > a then b else a) else (if b < a then b else a))))
  | _ => False
@[simp] theorem mvMinmax_two (m : Bool) (k k' : IntKind) (a b : Int) : mvMinmax m [.val (.int k a), .val (.int k' b)] K = K (.val (.int k (if m then (if b > a then b else a) else (if b < a then b else a)))) := rfl
@[simp ↓] theorem mval_minmax (m : Bool) (xs : List MX) : xval (.minmax m xs) ρ st K = mvMinmax m (xs.map ρ) K := rfl

def mvAssert (T : TypeId) (z : PV) (ok : Bool) (p : PV) (K : PV → Prop) (_ : Tok K := ⟨⟩) : Prop :=
  match p with
  | .iface U p => if U = T then (if ok then K (.tuple [p, .bool true]) else K p) else (ok = true ∧ K (.tuple [z, .bool false]))
  | .val .nilIface => ok = true ∧ K (.tuple [z, .bool false])
  | _ => False
@[simp] theorem mvAssert_iface (T U : TypeId) (z : PV) (ok : Bool) (p : PV) : mvAssert T z ok (.iface U p) K = if U = T then (if ok then K (.tuple [p, .bool true]) else K p) else (ok = true ∧ K (.tuple [z, .bool false])) := rfl
@[simp] theorem mvAssert_nil (T : TypeId) (z : PV) (ok : Bool) : mvAssert T z ok (.val .nilIface) K = (ok = true ∧ K (.tuple [z, .bool false])) := rfl
@[simp ↓] theorem mval_assert (T : TypeId) (z : PV) (ok : Bool) (x : MX) : xval (.assert T z ok x) ρ st K = mvAssert T z ok (ρ x) K := rfl

@[simp] theorem bnd_none (ρ : MX → PV) : bnd ρ none = some none := rfl
@[simp] theorem bnd_some (ρ : MX → PV) (x : MX) : bnd ρ (some x) = (ρ x).int?.map fun q => some q.2 := by
  simp only [bnd, asInt?_eq]
  cases (ρ x).int? <;> rfl
def mvSliceStr (s : ByteArray) (lo hi : Option Int) (K : PV → Prop) (_ : Tok K := ⟨⟩) : Prop := sliceStrPV s lo hi K
@[simp] theorem mvSliceStr_lo (s : ByteArray) (l : Int) : mvSliceStr s (some l) none K = (0 ≤ l ∧ l ≤ s.size ∧ K (.str (s.extract l.toNat s.size))) := rfl
@[simp] theorem mvSliceStr_hi (s : ByteArray) (h : Int) : mvSliceStr s none (some h) K = (0 ≤ h ∧ h ≤ s.size ∧ K (.str (s.extract 0 h.toNat))) := rfl
@[simp] theorem mvSliceStr_lohi (s : ByteArray) (l h : Int) : mvSliceStr s (some l) (some h) K = (0 ≤ l ∧ l ≤ h ∧ h ≤ s.size ∧ K (.str (s.extract l.toNat h.toNat))) := rfl
@[simp ↓] theorem mval_sliceStr (x : MX) (lo hi : Option MX) : xval (.sliceStr x lo hi) ρ st K = onSome (ρ x).str? fun s => onSome (bnd ρ lo) fun l => onSome (bnd ρ hi) fun h => mvSliceStr s l h K := by
  simp only [xval, mval]
  split
  · rename_i h1 h2 h3
    simp only [h1, h2, h3, str?_str, onSome_some]
    rfl
  · rename_i hn
    simp only [onSome, eq_iff_iff, false_iff]
    rintro ⟨s, h1, l, h2, h, h3, -⟩
    refine hn l h s h2 h3 ?_
    revert h1
    unfold PV.str?
    split <;> simp
    rintro rfl
    assumption
@[simp] theorem isNil0_own (b off n cap : Nat) (lo hi mx : Option Int) : isNil0 (.val (.slice (some ⟨b, off, none⟩) n cap)) lo hi mx = false := rfl
def xslice (k : Nat) (p : PV) (lo hi mx : Option Int) (K : PV → Prop) (_ : Tok K := ⟨⟩) : Prop := slicePV k p lo hi mx K
section
variable (k n b off cap : Nat) (t : Bool) (cs : List PV) (l h m : Int)
@[simp] theorem xslice_l0 : xslice k (.list t cs n) none none none K = K (.list t cs n) := rfl
@[simp] theorem xslice_l1 : xslice k (.list t cs n) (some l) none none K = (0 ≤ l ∧ l ≤ n ∧ cs.length ≤ n * k ∧ K (.list t (cs.drop (l.toNat * k)) (n - l.toNat))) := rfl
@[simp] theorem xslice_l2 : xslice k (.list t cs n) none (some h) none K = (0 ≤ h ∧ h ≤ n ∧ K (.list false (cs.take (h.toNat * k)) h.toNat)) := rfl
@[simp] theorem xslice_l3 : xslice k (.list t cs n) (some l) (some h) none K = (0 ≤ l ∧ l ≤ h ∧ h ≤ n ∧ K (.list false ((cs.take (h.toNat * k)).drop (l.toNat * k)) (h.toNat - l.toNat))) := rfl
@[simp] theorem xslice_l4 : xslice k (.list t cs n) none (some h) (some m) K = (0 ≤ h ∧ h ≤ m ∧ m ≤ n ∧ K (.list (decide (h = m)) (cs.take (h.toNat * k)) h.toNat)) := rfl
@[simp] theorem xslice_l5 : xslice k (.list t cs n) (some l) (some h) (some m) K = (0 ≤ l ∧ l ≤ h ∧ h ≤ m ∧ m ≤ n ∧ K (.list (decide (h = m)) ((cs.take (h.toNat * k)).drop (l.toNat * k)) (h.toNat - l.toNat))) := rfl
@[simp] theorem xslice_n0 : xslice k (.val (.slice none 0 0)) none none none K = K .nil := rfl
@[simp] theorem xslice_n1 : xslice k (.val (.slice none 0 0)) (some l) none none K = (0 ≤ l ∧ l ≤ ((0 : Nat) : Int) ∧ ([] : List PV).length ≤ 0 * k ∧ K (.list true (([] : List PV).drop (l.toNat * k)) (0 - l.toNat))) := rfl
@[simp] theorem xslice_n2 : xslice k (.val (.slice none 0 0)) none (some h) none K = (h = 0 ∧ K .nil) := rfl
@[simp] theorem xslice_n4 : xslice k (.val (.slice none 0 0)) none (some h) (some m) K = (0 ≤ h ∧ h ≤ m ∧ m ≤ ((0 : Nat) : Int) ∧ K (.list (decide (h = m)) (([] : List PV).take (h.toNat * k)) h.toNat)) := rfl
@[simp] theorem xslice_o0 : xslice k (.val (.slice (some ⟨b, off, none⟩) n cap)) none none none K = (n ≤ cap ∧ K (.own b off n cap)) := by
  simp only [xslice, slicePV, isNil0_own, Bool.false_eq_true, if_false, PV.asList, ownSlice]
  simp
@[simp] theorem xslice_o1 : xslice k (.val (.slice (some ⟨b, off, none⟩) n cap)) (some l) none none K = (n ≤ cap ∧ 0 ≤ l ∧ l ≤ n ∧ (l = cap → K (.list true [] 0)) ∧ (l < cap → K (.own b (off + l.toNat * k) (n - l.toNat) (cap - l.toNat)))) := by
  simp only [xslice, slicePV, isNil0_own, Bool.false_eq_true, if_false, PV.asList, ownSlice]
  simp
@[simp] theorem xslice_o2 : xslice k (.val (.slice (some ⟨b, off, none⟩) n cap)) none (some h) none K = (0 ≤ h ∧ h ≤ cap ∧ K (.own b off h.toNat cap)) := by
  simp only [xslice, slicePV, isNil0_own, Bool.false_eq_true, if_false, PV.asList, ownSlice]
  simp
@[simp] theorem xslice_o3 : xslice k (.val (.slice (some ⟨b, off, none⟩) n cap)) (some l) (some h) none K = (0 ≤ h ∧ h ≤ cap ∧ 0 ≤ l ∧ l ≤ h ∧ (l = cap → K (.list true [] 0)) ∧ (l < cap → K (.own b (off + l.toNat * k) (h.toNat - l.toNat) (cap - l.toNat)))) := by
  simp only [xslice, slicePV, isNil0_own, Bool.false_eq_true, if_false, PV.asList, ownSlice]
  simp
@[simp] theorem xslice_o4 : xslice k (.val (.slice (some ⟨b, off, none⟩) n cap)) none (some h) (some m) K = (0 ≤ h ∧ h ≤ m ∧ m ≤ cap ∧ K (.own b off h.toNat m.toNat)) := by
  simp only [xslice, slicePV, isNil0_own, Bool.false_eq_true, if_false, PV.asList, ownSlice]
  simp
end
@[simp ↓] theorem mval_slice (k : Nat) (x : MX) (lo hi mx : Option MX) : xval (.slice k x lo hi mx) ρ st K = onSome (bnd ρ lo) fun l => onSome (bnd ρ hi) fun h => onSome (bnd ρ mx) fun m => xslice k (ρ x) l h m K := by
  simp only [xval, mval]
  split
  · rename_i h1 h2 h3
    simp only [h1, h2, h3, onSome_some]
    rfl
  · rename_i hn
    simp only [onSome, eq_iff_iff, false_iff]
    rintro ⟨l, h1, h, h2, m, h3, -⟩
    exact hn l h m h1 h2 h3
def xsliceArr (n k : Nat) (p : PV) (lo hi mx : Option Int) (K : PV → Prop) (_ : Tok K := ⟨⟩) : Prop := sliceArrPV n k p lo hi mx K
section
variable (k n b off : Nat) (cs : List PV) (l h m : Int)
@[simp] theorem xsliceArr_i0 : xsliceArr n k (.iptr cs off) none none none K = (n ≤ 9223372036854775807 ∧ K (.list true ((cs.drop off).take (n * k)) n)) := by
  simp [xsliceArr, sliceArrPV]
@[simp] theorem xsliceArr_o0 : xsliceArr n k (.val (.pointer (some ⟨b, off, none⟩))) none none none K = K (.own b off n n) := by
  simp only [xsliceArr, sliceArrPV, ownSlice]
  simp
@[simp] theorem xsliceArr_o1 : xsliceArr n k (.val (.pointer (some ⟨b, off, none⟩))) (some l) none none K = (0 ≤ l ∧ l ≤ n ∧ (l = n → K (.list true [] 0)) ∧ (l < n → K (.own b (off + l.toNat * k) (n - l.toNat) (n - l.toNat)))) := by
  simp only [xsliceArr, sliceArrPV, ownSlice]
  simp
@[simp] theorem xsliceArr_o2 : xsliceArr n k (.val (.pointer (some ⟨b, off, none⟩))) none (some h) none K = (0 ≤ h ∧ h ≤ n ∧ K (.own b off h.toNat n)) := by
  simp only [xsliceArr, sliceArrPV, ownSlice]
  simp
end
@[simp ↓] theorem mval_sliceArr (n k : Nat) (x : MX) (lo hi mx : Option MX) : xval (.sliceArr n k x lo hi mx) ρ st K = onSome (bnd ρ lo) fun l => onSome (bnd ρ hi) fun h => onSome (bnd ρ mx) fun m => xsliceArr n k (ρ x) l h m K := by
  simp only [xval, mval]
  split
  · rename_i h1 h2 h3
    simp only [h1, h2, h3, onSome_some]
    rfl
  · rename_i hn
    simp only [onSome, eq_iff_iff, false_iff]
    rintro ⟨l, h1, h, h2, m, h3, -⟩
    exact hn l h m h1 h2 h3
@[simp ↓] theorem mval_strOf (x : MX) : xval (.strOf x) ρ st K = onSome (srcCells 1 st (ρ x)) fun r => onSome (bytesOf? r.1) fun bs => K (.str ⟨bs.toArray⟩) := by
  simp only [xval, mval]
  split
  · rename_i cs n h
    simp only [h, onSome_some]
    split
    · rename_i bs hb; simp only [hb, onSome_some]
    · rename_i hb; simp only [hb, onSome_none]
  · rename_i h; simp only [h, onSome_none]
/-- What a look into a map comes to. -/
def xlook (r : Option (Option Nat)) (vs : List PV) (z : PV) (ok : Bool) (K : PV → Prop) (_ : Tok K := ⟨⟩) : Prop :=
  match r with
  | some (some j) => ∃ p, vs[j]? = some p ∧ K (if ok then .tuple [p, .bool true] else p)
  | some none => K (if ok then .tuple [z, .bool false] else z)
  | none => False
@[simp] theorem xlook_t (j : Nat) (vs : List PV) (z : PV) : xlook (some (some j)) vs z true K = onSome (vs[j]?) fun p => K (.tuple [p, .bool true]) := rfl
@[simp] theorem xlook_f (j : Nat) (vs : List PV) (z : PV) : xlook (some (some j)) vs z false K = onSome (vs[j]?) fun p => K p := rfl
@[simp] theorem xlook_nt (vs : List PV) (z : PV) : xlook (some none) vs z true K = K (.tuple [z, .bool false]) := rfl
@[simp] theorem xlook_nf (vs : List PV) (z : PV) : xlook (some none) vs z false K = K z := rfl
@[simp ↓] theorem mval_lookup (kp : KP) (z : PV) (ok : Bool) (x i : MX) : xval (.lookup kp z ok x i) ρ st K = onSome (mapOf st (ρ x)) fun m => onSome (ρ i).key? fun kv => keyFits kp kv = true ∧ xlook (kidx kp kv m.1) m.2 z ok K := by
  simp only [xval, mval]
  split
  · rename_i h1 h2
    simp only [h1, h2, onSome_some]
    rfl
  · rename_i hn
    simp only [onSome, eq_iff_iff, false_iff]
    rintro ⟨⟨ks, vs⟩, h1, kv, h2, -⟩
    exact hn ks vs kv h1 h2
end

/-! ### Operations -/
/-- A guard's word: a bool, or nothing where the guarding operation was itself skipped. -/
inductive Gd where
  | b (c : Bool)
  | skip
def PV.gd? : PV → Option Gd
  | .val (.bool c) => some (.b c)
  | .val (.tuple _) => some .skip
  | _ => none
@[simp] theorem gd?_bool (c : Bool) : PV.gd? (.val (.bool c)) = some (.b c) := rfl
@[simp] theorem gd?_undef : PV.gd? (.val (.tuple #[])) = some .skip := rfl
def onG (g : Gd) (A B C : Prop) (_ : Tok (A, B, C) := ⟨⟩) : Prop :=
  match g with
  | .b c => onB c A B
  | .skip => C
@[simp ↓, simp] theorem onG_b (c : Bool) (A B C : Prop) : onG (.b c) A B C = onB c A B := rfl
@[simp ↓, simp] theorem onG_skip (A B C : Prop) : onG .skip A B C = C := rfl
/-- Work a value out ahead of its use. -/
def force {α : Type} (a : α) (K : α → Prop) (_ : Tok K := ⟨⟩) : Prop := K a
@[simp] theorem force_eq {α : Type} (a : α) (K : α → Prop) : force a K = K a := rfl
def xop (P : Program) (op : MOp) (ρ : MX → PV) (st : Store) (K QP : PV → Store → Prop) (_ : Tok (K, QP) := ⟨⟩) : Prop := mop P op ρ st K QP
/-- A fresh block. -/
def Fresh (st : Store) (K : Nat → Prop) (_ : Tok K := ⟨⟩) : Prop := ∀ b, snew st b → K b
theorem Fresh.intro {st : Store} {K : Nat → Prop} (h : ∀ b, snew st b → K b) : Fresh st K := h
def obind {α β : Type} (o : Option α) (f : α → Option β) (_ : Tok f := ⟨⟩) : Option β := o.bind f
@[simp ↓, simp] theorem obind_some {α β : Type} (a : α) (f : α → Option β) : obind (some a) f = f a := rfl
@[simp] theorem obind_none {α β : Type} (f : α → Option β) : obind none f = none := rfl
def isLit : MVal → Bool
  | .buildSlice .. => true
  | _ => false
/-- A literal slice: 'imm': never written; 'own': of one's own. -/
def Lit (T : TypeId) (cs : List PV) (len : Nat) (st : Store) (K : PV → Store → Prop) (_ : Tok K := ⟨⟩) : Prop := K (.list true cs len) st ∨ ∀ b, snew st b → K (.own b 0 len len) ((b, .arr T cs) :: st)
theorem Lit.imm {T : TypeId} {cs : List PV} {len : Nat} {st : Store} {K : PV → Store → Prop} (h : K (.list true cs len) st) : Lit T cs len st K := .inl h
theorem Lit.own {T : TypeId} {cs : List PV} {len : Nat} {st : Store} {K : PV → Store → Prop} (h : ∀ b, snew st b → K (.own b 0 len len) ((b, .arr T cs) :: st)) : Lit T cs len st K := .inr h
/-- A new row, with room to spare. -/
def Grow (T : TypeId) (bytes k : Nat) (cs : List PV) (need : Nat) (st : Store) (K : PV → Store → Prop) (_ : Tok K := ⟨⟩) : Prop := growK T bytes k cs need st K
theorem Grow.intro {T : TypeId} {bytes k : Nat} {cs : List PV} {need : Nat} {st : Store} {K : PV → Store → Prop} (h1 : need * bytes ≤ 140737488355328)
    (h2 : ∀ b cap, snew st b → need ≤ cap → cap ≤ 9223372036854775807 → K (.own b 0 need cap) ((b, .arr T (cs ++ List.replicate ((cap - need) * k) .any)) :: st)) : Grow T bytes k cs need st K := ⟨h1, .inl h2⟩
/-- A new row that is never written again. -/
theorem Grow.imm {T : TypeId} {bytes k : Nat} {cs : List PV} {need : Nat} {st : Store} {K : PV → Store → Prop} (h1 : need * bytes ≤ 140737488355328) (hl : cs.length = need * k) (h2 : K (.list false cs need) st) : Grow T bytes k cs need st K := ⟨h1, .inr ⟨hl, h2⟩⟩
def xappend (T : TypeId) (bytes k : Nat) (p : PV) (new : List PV) (m : Nat) (st : Store) (K : PV → Store → Prop) (_ : Tok K := ⟨⟩) : Prop := appendK T bytes k p new m st K
section
variable (T : TypeId) (bytes k : Nat) (new : List PV) (m : Nat) (st : Store) (K : PV → Store → Prop)
theorem xappend_nil : xappend T bytes k (.val (.slice none 0 0)) new m st K = ((m = 0 → K .nil st) ∧ (¬ m = 0 → Grow T bytes k new m st K)) := by
  show (if m = 0 then K .nil st else Grow T bytes k new m st K) = _
  split <;> simp [*]
@[simp] theorem xappend_list (t : Bool) (cs : List PV) (n : Nat) : xappend T bytes k (.list t cs n) new m st K = ((m = 0 → K (.list t cs n) st) ∧ (¬ m = 0 → t = true ∧ cs.length = n * k ∧ Grow T bytes k (cs ++ new) (n + m) st K)) := by
  show (if m = 0 then K (.list t cs n) st else t = true ∧ cs.length = n * k ∧ Grow T bytes k (cs ++ new) (n + m) st K) = _
  split <;> simp [*]
end
/-- 'append' to a row of one's own that is not looked at again. -/
theorem xappend_own {T : TypeId} {bytes k : Nat} {new : List PV} {m : Nat} {st : Store} {K : PV → Store → Prop} {b n cap : Nat} {row : List PV} (hb : sget st b = some (.arr T row)) (hl : row.length = cap * k) (hn : n ≤ cap) (hc : cap ≤ 9223372036854775807)
    (h : Grow T bytes k (row.take (n * k) ++ new) (n + m) (sdel b st) K) : xappend T bytes k (.own b 0 n cap) new m st K := by
  show appendK _ _ _ _ _ _ _ _
  simp only [appendK, hb]
  exact ⟨trivial, by omega, hn, hc, .inl ⟨trivial, hl, h⟩⟩
/-- The same, where the old row lives on. -/
theorem xappend_both {T : TypeId} {bytes k : Nat} {new : List PV} {m : Nat} {st : Store} {K : PV → Store → Prop} {b off n cap : Nat} {row : List PV} (hb : sget st b = some (.arr T row)) (hl : off + cap * k ≤ row.length) (hn : n ≤ cap) (hc : cap ≤ 9223372036854775807)
    (h0 : (n + m) * bytes ≤ 140737488355328) (h1 : n + m ≤ cap → K (.own b off (n + m) cap) (sset st b (.arr T (setCells row (off + n * k) new)))) (h2 : cap < n + m → Grow T bytes k ((row.drop off).take (n * k) ++ new) (n + m) st K) : xappend T bytes k (.own b off n cap) new m st K := by
  show appendK _ _ _ _ _ _ _ _
  simp only [appendK, hb]
  exact ⟨trivial, hl, hn, hc, .inr ⟨h0, h1, h2⟩⟩
def xcopy (k : Nat) (p : PV) (new : List PV) (m : Nat) (st : Store) (K : PV → Store → Prop) (_ : Tok K := ⟨⟩) : Prop := copyK k p new m st K
@[simp] theorem xcopy_nil (k : Nat) (new : List PV) (m : Nat) (st : Store) (K : PV → Store → Prop) : xcopy k (.val (.slice none 0 0)) new m st K = K (.int 0) st := rfl
@[simp] theorem xcopy_list0 (k : Nat) (new : List PV) (m : Nat) (st : Store) (K : PV → Store → Prop) (t : Bool) (cs : List PV) : xcopy k (.list t cs 0) new m st K = K (.int 0) st := rfl
@[simp] theorem xcopy_own (k : Nat) (new : List PV) (m : Nat) (st : Store) (K : PV → Store → Prop) (b off n cap : Nat) : xcopy k (.val (.slice (some ⟨b, off, none⟩) n cap)) new m st K =
    onSome (arr? (sget st b)) fun r => off + min m n * k ≤ r.2.length ∧ K (.int (min m n : Nat)) (sset st b (.arr r.1 (setCells r.2 off (new.take (min m n * k))))) := by
  simp only [xcopy, copyK]
  cases h : sget st b with
  | none => simp [arr?]
  | some o => cases o <;> simp [arr?]
@[simp] theorem srcCells_list (k : Nat) (st : Store) (t : Bool) (cs : List PV) (n : Nat) : srcCells k st (.list t cs n) = if cs.length = n * k then some (cs, n) else none := rfl
@[simp] theorem srcCells_nil (k : Nat) (st : Store) : srcCells k st (.val (.slice none 0 0)) = some ([], 0) := rfl
@[simp] theorem srcCells_own (k : Nat) (st : Store) (b off n cap : Nat) : srcCells k st (.val (.slice (some ⟨b, off, none⟩) n cap)) = obind (arr? (sget st b)) fun r => if off + n * k ≤ r.2.length then some ((r.2.drop off).take (n * k), n) else none := by
  simp only [srcCells]
  cases h : sget st b with
  | none => rfl
  | some o => cases o <;> rfl
@[simp] theorem srcCells_str (st : Store) (s : ByteArray) : srcCells 1 st (.val (.string s)) = some (s.data.toList.map fun b => .val (.int .u8 b.toNat), s.size) := rfl
/-- Against nil. -/
def xnil (neg : Bool) (nk : NK) (p : PV) (st : Store) (K : PV → Store → Prop) (_ : Tok K := ⟨⟩) : Prop := eqNilK neg nk p st K
section
variable (neg : Bool) (st : Store) (K : PV → Store → Prop)
@[simp] theorem xnil_nil (n c : Nat) : xnil neg .slice (.val (.slice none n c)) st K = K (.bool !neg) st := rfl
@[simp] theorem xnil_own (a : Addr) (n c : Nat) : xnil neg .slice (.val (.slice (some a) n c)) st K = K (.bool neg) st := rfl
@[simp] theorem xnil_list (t : Bool) (cs : List PV) (n : Nat) : xnil neg .slice (.list t cs n) st K = ((cs = [] → K (.bool !neg) st) ∧ K (.bool neg) st) := rfl
@[simp] theorem xnil_inil : xnil neg .iface (.val .nilIface) st K = K (.bool !neg) st := rfl
@[simp] theorem xnil_iface (T : TypeId) (p : PV) : xnil neg .iface (.iface T p) st K = K (.bool neg) st := rfl
@[simp] theorem xnil_mnil : xnil neg .map (.val (.map none)) st K = K (.bool !neg) st := rfl
@[simp] theorem xnil_map (r : Nat) : xnil neg .map (.val (.map (some r))) st K = K (.bool neg) st := rfl
@[simp] theorem xnil_imap (ks : List Value) (vs : List PV) : xnil neg .map (.imap ks vs) st K = K (.bool neg) st := rfl
end
def PV.map? : PV → Option Nat
  | .val (.map (some b)) => some b
  | _ => none
@[simp] theorem map?_map (b : Nat) : PV.map? (.val (.map (some b))) = some b := rfl
def map? : Option PObj → Option (List Value × List PV)
  | some (.map ks vs) => some (ks, vs)
  | _ => none
@[simp] theorem map?_some (ks : List Value) (vs : List PV) : map? (some (.map ks vs)) = some (ks, vs) := rfl
@[simp] theorem mapOf_map (st : Store) (b : Nat) : mapOf st (.val (.map (some b))) = map? (sget st b) := by
  simp only [mapOf]
  cases h : sget st b with
  | none => rfl
  | some o => cases o <;> rfl
@[simp] theorem mapOf_nil (st : Store) : mapOf st (.val (.map none)) = some ([], []) := rfl
@[simp] theorem mapOf_imap (st : Store) (ks : List Value) (vs : List PV) : mapOf st (.imap ks vs) = some (ks, vs) := rfl
@[simp] theorem key?_val (v : Value) : PV.key? (.val v) = some v := rfl
@[simp] theorem key?_agg (cs : List PV) : PV.key? (.agg cs) = (PV.vals? cs).map fun vs => .agg vs.toArray := rfl
@[simp] theorem vals?_nil : PV.vals? [] = some [] := rfl
@[simp] theorem vals?_cons (v : Value) (ps : List PV) : PV.vals? (.val v :: ps) = (PV.vals? ps).map (v :: ·) := rfl
@[simp] theorem keyFits_f (lk : List LK) (v : Value) : keyFits (false, lk) v = (lk.length == 1) := rfl
@[simp] theorem keyFits_t (lk : List LK) (cs : Array Value) : keyFits (true, lk) (.agg cs) = (cs.size == lk.length) := rfl
@[simp] theorem kidx_nil (kp : KP) (k : Value) : kidx kp k [] = some none := rfl
def kstep (r : Option Bool) (rest : Option (Option Nat)) : Option (Option Nat) :=
  match r with
  | some true => some (some 0)
  | some false => rest.map (·.map (· + 1))
  | none => none
@[simp] theorem kstep_t (rest : Option (Option Nat)) : kstep (some true) rest = some (some 0) := rfl
@[simp] theorem kstep_f (rest : Option (Option Nat)) : kstep (some false) rest = rest.map (·.map (· + 1)) := rfl
@[simp] theorem kidx_cons (kp : KP) (k k' : Value) (ks : List Value) : kidx kp k (k' :: ks) = kstep (eqCells kp.2 (keyCells kp.1 k) (keyCells kp.1 k')) (kidx kp k ks) := by
  simp only [kidx, kstep]
  split <;> rename_i h <;> simp only [h]
@[simp] theorem keyCells_f (v : Value) : keyCells false v = [.val v] := by cases v <;> rfl
@[simp] theorem keyCells_t (cs : Array Value) : keyCells true (.agg cs) = cs.toList.map .val := rfl
/-- What a write into a map comes to. -/
def xput (b : Nat) (kv : Value) (p : PV) (ks : List Value) (vs : List PV) (r : Option (Option Nat)) (st : Store) (K : PV → Store → Prop) (_ : Tok K := ⟨⟩) : Prop :=
  match r with
  | some (some j) => K .any (sset st b (.map (ks.set j kv) (vs.set j p)))
  | some none => K .any (sset st b (.map (ks ++ [kv]) (vs ++ [p])))
  | none => False
@[simp] theorem xput_s (b : Nat) (kv : Value) (p : PV) (ks : List Value) (vs : List PV) (j : Nat) (st : Store) (K : PV → Store → Prop) : xput b kv p ks vs (some (some j)) st K = K .any (sset st b (.map (ks.set j kv) (vs.set j p))) := rfl
@[simp] theorem xput_n (b : Nat) (kv : Value) (p : PV) (ks : List Value) (vs : List PV) (st : Store) (K : PV → Store → Prop) : xput b kv p ks vs (some none) st K = K .any (sset st b (.map (ks ++ [kv]) (vs ++ [p]))) := rfl
def xdel (b : Nat) (ks : List Value) (vs : List PV) (r : Option (Option Nat)) (st : Store) (K : PV → Store → Prop) (_ : Tok K := ⟨⟩) : Prop :=
  match r with
  | some (some j) => K .any (sset st b (.map (ks.eraseIdx j) (vs.eraseIdx j)))
  | some none => K .any st
  | none => False
@[simp] theorem xdel_s (b : Nat) (ks : List Value) (vs : List PV) (j : Nat) (st : Store) (K : PV → Store → Prop) : xdel b ks vs (some (some j)) st K = K .any (sset st b (.map (ks.eraseIdx j) (vs.eraseIdx j))) := rfl
@[simp] theorem xdel_n (b : Nat) (ks : List Value) (vs : List PV) (st : Store) (K : PV → Store → Prop) : xdel b ks vs (some none) st K = K .any st := rfl
def xcall (P : Program) (g : FuncId) (ps : List PV) (st : Store) (Q : PEnd → Store → Prop) (_ : Tok Q := ⟨⟩) : Prop := PCalls P g ps st Q
/-- A round's call. -/
def xround (P : Program) (l : Nat) (ps : List PV) (st : Store) (Q : PEnd → Store → Prop) (_ : Tok Q := ⟨⟩) : Prop := PRound P l ps st Q
def xcallV (P : Program) (f : PV) (ps : List PV) (st : Store) (Q : PEnd → Store → Prop) (_ : Tok Q := ⟨⟩) : Prop := PCallV P f ps st Q
@[simp ↓, simp] theorem xcallV_func (P : Program) (g : FuncId) (fs cs ps : List PV) (st : Store) (Q : PEnd → Store → Prop) : xcallV P (.func (.func g) fs cs) ps st Q = xcall P g (fs ++ ps ++ cs) st Q := rfl
@[simp ↓, simp] theorem xcallV_yield (P : Program) (l : Nat) (ps : List PV) (st : Store) (Q : PEnd → Store → Prop) : xcallV P (.func (.yield l) [] []) ps st Q = xround P l ps st Q := rfl
def xclear (k : Nat) (zs : List PV) (p : PV) (st : Store) (K : PV → Store → Prop) (_ : Tok K := ⟨⟩) : Prop := clearK k zs p st K
@[simp] theorem xclear_nil (k : Nat) (zs : List PV) (st : Store) (K : PV → Store → Prop) : xclear k zs (.val (.slice none 0 0)) st K = K .any st := rfl
@[simp] theorem xclear_list0 (k : Nat) (zs : List PV) (st : Store) (K : PV → Store → Prop) (t : Bool) (cs : List PV) : xclear k zs (.list t cs 0) st K = K .any st := rfl
@[simp] theorem xclear_own (k : Nat) (zs : List PV) (st : Store) (K : PV → Store → Prop) (b off n cap : Nat) : xclear k zs (.val (.slice (some ⟨b, off, none⟩) n cap)) st K =
    onSome (arr? (sget st b)) fun r => off + n * k ≤ r.2.length ∧ K .any (sset st b (.arr r.1 (setCells r.2 off (List.replicate n zs).flatten))) := by
  simp only [xclear, clearK]
  cases h : sget st b with
  | none => simp [arr?]
  | some o => cases o <;> simp [arr?]
def xrangeMap (p : PV) (st : Store) (K : PV → Store → Prop) (_ : Tok K := ⟨⟩) : Prop := rangeK p st K
def xnext (p : PV) (st : Store) (K : PV → Store → Prop) (_ : Tok K := ⟨⟩) : Prop := nextK p st K
def xentry (p : PV) (st : Store) (K : PV → Store → Prop) (_ : Tok K := ⟨⟩) : Prop := entryK p st K
theorem xrangeMap_own {st : Store} {K : PV → Store → Prop} {m : Nat} {ks : List Value} {vs : List PV} (hm : sget st m = some (.map ks vs))
    (h : ∀ bs clock r, bs.length = ks.length → bs.Nodup → (∀ b ∈ bs, b < clock) → snew st r → K (.ptr r 0) ((r, .iter m bs clock []) :: sset st m (.mapB ks vs bs clock))) : xrangeMap (.val (.map (some m))) st K := by
  simp only [xrangeMap, rangeK, hm]
  exact h
theorem xnext_own {st : Store} {K : PV → Store → Prop} {m r : Nat} {bs : List Nat} {clock : Nat} {vis : List Nat} {ks : List Value} {vs : List PV} (hr : sget st r = some (.iter m bs clock vis)) (hm : sget st m = some (.mapB ks vs bs clock))
    (h1 : bs.length = ks.length) (h2 : vs.length = ks.length) (h3 : bs.Nodup) (h4 : ∀ b ∈ bs, b < clock) (h5 : ∀ j ∈ vis, j < ks.length)
    (hn : (∀ j, j < ks.length → j ∈ vis) → K (.tuple [.bool false]) st)
    (hk : ∀ j k v, ks[j]? = some k → vs[j]? = some v → j ∉ vis → K (.tuple [.bool true, .val k, v]) (sset st r (.iter m bs clock (vis ++ [j])))) : xnext (.ptr r 0) st K := by
  simp only [xnext, nextK, hr, hm]
  exact ⟨trivial, trivial, h1, h2, h3, h4, h5, hn, hk⟩
theorem xentry_own {st : Store} {K : PV → Store → Prop} {m r : Nat} {bs : List Nat} {clock : Nat} {vis : List Nat} {ks : List Value} {vs : List PV} {j : Nat} {k : Value} {v : PV} (hr : sget st r = some (.iter m bs clock (vis ++ [j]))) (hm : sget st m = some (.mapB ks vs bs clock))
    (h1 : bs.length = ks.length) (h2 : vs.length = ks.length) (h3 : bs.Nodup) (hk : ks[j]? = some k) (hv : vs[j]? = some v) (h : K (.tuple [.val k, v]) st) : xentry (.ptr r 0) st K := by
  simp only [xentry, entryK, hr, hm]
  exact ⟨trivial, trivial, h1, h2, h3, vis, j, k, v, rfl, hk, hv, h⟩
def xend (K QP : PV → Store → Prop) (e : PEnd) (st : Store) (_ : Tok (K, QP) := ⟨⟩) : Prop := endPost K QP e st
theorem xcall_of {P : Program} {g : FuncId} {ps : List PV} {st : Store} {Q : PEnd → Store → Prop} (h : PCalls P g ps st Q) : xcall P g ps st Q := h
section
variable (P : Program) (ρ : MX → PV) (st : Store) (K QP : PV → Store → Prop)
@[simp] theorem xend_ret (p : PV) : xend K QP (.ret p) st = K p st := rfl
@[simp] theorem xend_panic (p : PV) : xend K QP (.panic p) st = QP p st := rfl
theorem mop_val (v : MVal) (h : isLit v = false) : xop P (.val v) ρ st K QP = xval v ρ st fun p => K p st := by
  have : litK v ρ st K = False := by
    unfold litK
    split
    · simp [isLit] at h
    · rfl
  simp only [xop, mop, this, or_false]
  rfl
@[simp ↓] theorem mop_mv (x : MX) : xop P (.val (.mv x)) ρ st K QP = xval (.mv x) ρ st fun p => K p st := mop_val P ρ st K QP _ rfl
@[simp ↓] theorem mop_pick (c a b : MX) : xop P (.val (.pick c a b)) ρ st K QP = xval (.pick c a b) ρ st fun p => K p st := mop_val P ρ st K QP _ rfl
@[simp ↓] theorem mop_build (zs : List PV) (parts : List (Nat × Nat × MX)) : xop P (.val (.build zs parts)) ρ st K QP = xval (.build zs parts) ρ st fun p => K p st := mop_val P ρ st K QP _ rfl
@[simp ↓] theorem mop_load (k : Nat) (agg : Bool) (x : MX) : xop P (.val (.load k agg x)) ρ st K QP = xval (.load k agg x) ρ st fun p => K p st := mop_val P ρ st K QP _ rfl
@[simp ↓] theorem mop_nilCheck (x : MX) : xop P (.val (.nilCheck x)) ρ st K QP = xval (.nilCheck x) ρ st fun p => K p st := mop_val P ρ st K QP _ rfl
@[simp ↓] theorem mop_bin (op : BinOp) (T : TypeId) (x y : MX) : xop P (.val (.bin op T x y)) ρ st K QP = xval (.bin op T x y) ρ st fun p => K p st := mop_val P ρ st K QP _ rfl
@[simp ↓] theorem mop_eqAgg (neg : Bool) (ks : List LK) (x y : MX) : xop P (.val (.eqAgg neg ks x y)) ρ st K QP = xval (.eqAgg neg ks x y) ρ st fun p => K p st := mop_val P ρ st K QP _ rfl
@[simp ↓] theorem mop_eqBool (neg : Bool) (x y : MX) : xop P (.val (.eqBool neg x y)) ρ st K QP = xval (.eqBool neg x y) ρ st fun p => K p st := mop_val P ρ st K QP _ rfl
@[simp ↓] theorem mop_un (op : UnOp) (x : MX) : xop P (.val (.un op x)) ρ st K QP = xval (.un op x) ρ st fun p => K p st := mop_val P ρ st K QP _ rfl
@[simp ↓] theorem mop_toInt (k : IntKind) (x : MX) : xop P (.val (.toInt k x)) ρ st K QP = xval (.toInt k x) ρ st fun p => K p st := mop_val P ρ st K QP _ rfl
@[simp ↓] theorem mop_mkIface (T : TypeId) (x : MX) : xop P (.val (.mkIface T x)) ρ st K QP = xval (.mkIface T x) ρ st fun p => K p st := mop_val P ρ st K QP _ rfl
@[simp ↓] theorem mop_mkFunc (fn : Fn) (first captured : List MX) : xop P (.val (.mkFunc fn first captured)) ρ st K QP = xval (.mkFunc fn first captured) ρ st fun p => K p st := mop_val P ρ st K QP _ rfl
@[simp ↓] theorem mop_fieldAddr (off : Nat) (x : MX) : xop P (.val (.fieldAddr off x)) ρ st K QP = xval (.fieldAddr off x) ρ st fun p => K p st := mop_val P ρ st K QP _ rfl
@[simp ↓] theorem mop_field (off k : Nat) (agg : Bool) (x : MX) : xop P (.val (.field off k agg x)) ρ st K QP = xval (.field off k agg x) ρ st fun p => K p st := mop_val P ρ st K QP _ rfl
@[simp ↓] theorem mop_indexAddr (k : Nat) (x i : MX) : xop P (.val (.indexAddr k x i)) ρ st K QP = xval (.indexAddr k x i) ρ st fun p => K p st := mop_val P ρ st K QP _ rfl
@[simp ↓] theorem mop_indexArr (n k : Nat) (x i : MX) : xop P (.val (.indexArr n k x i)) ρ st K QP = xval (.indexArr n k x i) ρ st fun p => K p st := mop_val P ρ st K QP _ rfl
@[simp ↓] theorem mop_index (n k : Nat) (agg : Bool) (x i : MX) : xop P (.val (.index n k agg x i)) ρ st K QP = xval (.index n k agg x i) ρ st fun p => K p st := mop_val P ρ st K QP _ rfl
@[simp ↓] theorem mop_indexStr (x i : MX) : xop P (.val (.indexStr x i)) ρ st K QP = xval (.indexStr x i) ρ st fun p => K p st := mop_val P ρ st K QP _ rfl
@[simp ↓] theorem mop_len (x : MX) : xop P (.val (.len x)) ρ st K QP = xval (.len x) ρ st fun p => K p st := mop_val P ρ st K QP _ rfl
@[simp ↓] theorem mop_maplen (x : MX) : xop P (.val (.maplen x)) ρ st K QP = xval (.maplen x) ρ st fun p => K p st := mop_val P ρ st K QP _ rfl
@[simp ↓] theorem mop_cap (x : MX) : xop P (.val (.cap x)) ρ st K QP = xval (.cap x) ρ st fun p => K p st := mop_val P ρ st K QP _ rfl
@[simp ↓] theorem mop_lookup (lk : Bool × List LK) (z : PV) (ok : Bool) (x i : MX) : xop P (.val (.lookup lk z ok x i)) ρ st K QP = xval (.lookup lk z ok x i) ρ st fun p => K p st := mop_val P ρ st K QP _ rfl
@[simp ↓] theorem mop_slice (k : Nat) (x : MX) (lo hi mx : Option MX) : xop P (.val (.slice k x lo hi mx)) ρ st K QP = xval (.slice k x lo hi mx) ρ st fun p => K p st := mop_val P ρ st K QP _ rfl
@[simp ↓] theorem mop_sliceArr (n k : Nat) (x : MX) (lo hi mx : Option MX) : xop P (.val (.sliceArr n k x lo hi mx)) ρ st K QP = xval (.sliceArr n k x lo hi mx) ρ st fun p => K p st := mop_val P ρ st K QP _ rfl
@[simp ↓] theorem mop_sliceStr (x : MX) (lo hi : Option MX) : xop P (.val (.sliceStr x lo hi)) ρ st K QP = xval (.sliceStr x lo hi) ρ st fun p => K p st := mop_val P ρ st K QP _ rfl
@[simp ↓] theorem mop_strOf (x : MX) : xop P (.val (.strOf x)) ρ st K QP = xval (.strOf x) ρ st fun p => K p st := mop_val P ρ st K QP _ rfl
@[simp ↓] theorem mop_extract (i : Nat) (x : MX) : xop P (.val (.extract i x)) ρ st K QP = xval (.extract i x) ρ st fun p => K p st := mop_val P ρ st K QP _ rfl
@[simp ↓] theorem mop_minmax (isMax : Bool) (xs : List MX) : xop P (.val (.minmax isMax xs)) ρ st K QP = xval (.minmax isMax xs) ρ st fun p => K p st := mop_val P ρ st K QP _ rfl
@[simp ↓] theorem mop_strlen (x : MX) : xop P (.val (.strlen x)) ρ st K QP = xval (.strlen x) ρ st fun p => K p st := mop_val P ρ st K QP _ rfl
@[simp ↓] theorem mop_assert (T : TypeId) (z : PV) (ok : Bool) (x : MX) : xop P (.val (.assert T z ok x)) ρ st K QP = xval (.assert T z ok x) ρ st fun p => K p st := mop_val P ρ st K QP _ rfl
@[simp ↓] theorem mop_lit (T : TypeId) (len : Nat) (zs : List PV) (parts : List (Nat × Nat × MX)) : xop P (.val (.buildSlice T len zs parts)) ρ st K QP =
    onSome (fillPV zs (parts.map fun q => (q.1, q.2.1, ρ q.2.2))) fun cs => Lit T cs len st K := by
  simp only [xop, mop, mval, litK, Lit]
  split <;> simp_all
@[simp ↓] theorem mop_append (T : TypeId) (bytes k : Nat) (x y : MX) : xop P (.append T bytes k x y) ρ st K QP = onSome (srcCells k st (ρ y)) fun r => xappend T bytes k (ρ x) r.1 r.2 st K := by
  simp only [xop, mop]
  split
  · rename_i h; simp only [h, onSome_some]; rfl
  · rename_i h; simp only [h, onSome_none]
@[simp ↓] theorem mop_appendZ (T : TypeId) (bytes k : Nat) (zs : List PV) (x n : MX) : xop P (.appendZ T bytes k zs x n) ρ st K QP = onSome (ρ n).int? fun q => 0 ≤ q.2 ∧ q.2 ≤ 9223372036854775807 ∧ xappend T bytes k (ρ x) (List.replicate q.2.toNat zs).flatten q.2.toNat st K := by
  simp only [xop, mop]
  split
  · rename_i h; simp only [h, int?_int, onSome_some]; rfl
  · rename_i h
    simp only [onSome, eq_iff_iff, false_iff]
    rintro ⟨⟨k, m⟩, h1, -⟩
    unfold PV.int? at h1
    split at h1
    · rename_i h2; exact h _ _ h2
    · cases h1
@[simp ↓] theorem mop_mkSlice (T : TypeId) (bytes k : Nat) (zs : List PV) (l c : MX) : xop P (.mkSlice T bytes k zs l c) ρ st K QP = onSome (ρ l).int? fun a => onSome (ρ c).int? fun b => 0 ≤ a.2 ∧ a.2 ≤ b.2 ∧ b.2 * bytes ≤ 281474976710656 ∧ b.2 ≤ 9223372036854775807 ∧
    Fresh st fun d => K (.own d 0 a.2.toNat b.2.toNat) ((d, .arr T (List.replicate b.2.toNat zs).flatten) :: st) := by
  simp only [xop, mop]
  split
  · rename_i h1 h2; simp only [h1, h2, int?_int, onSome_some]; rfl
  · rename_i h
    simp only [onSome, eq_iff_iff, false_iff]
    rintro ⟨⟨k, m⟩, h1, ⟨k', m'⟩, h2, -⟩
    unfold PV.int? at h1 h2
    split at h1
    · split at h2
      · rename_i h3 _ _ _ h4; exact h _ _ _ _ h3 h4
      · cases h2
    · cases h1
@[simp ↓] theorem mop_copy (k : Nat) (x y : MX) : xop P (.copy k x y) ρ st K QP = onSome (srcCells k st (ρ y)) fun r => xcopy k (ρ x) r.1 r.2 st K := by
  simp only [xop, mop]
  split
  · rename_i h; simp only [h, onSome_some]; rfl
  · rename_i h; simp only [h, onSome_none]
@[simp ↓] theorem mop_eqNil (neg : Bool) (nk : NK) (x : MX) : xop P (.eqNil neg nk x) ρ st K QP = xnil neg nk (ρ x) st K := rfl
@[simp ↓] theorem mop_mkMap : xop P .mkMap ρ st K QP = Fresh st fun b => K (.val (.map (some b))) ((b, .map [] []) :: st) := rfl
@[simp ↓] theorem mop_mapSet (kp : KP) (m k v : MX) : xop P (.mapSet kp m k v) ρ st K QP = onSome (ρ m).map? fun b => onSome (ρ k).key? fun kv => onSome (map? (sget st b)) fun r => keyFits kp kv = true ∧ xput b kv (ρ v) r.1 r.2 (kidx kp kv r.1) st K := by
  simp only [xop, mop]
  split
  · rename_i b kv h1 h2
    simp only [h1, h2, map?_map, onSome_some]
    split
    · rename_i h3; simp only [h3, map?_some, onSome_some]; rfl
    · rename_i h3
      cases h4 : sget st b with
      | none => simp [map?]
      | some o => cases o <;> simp_all [map?]
  · rename_i h
    simp only [onSome, eq_iff_iff, false_iff]
    rintro ⟨b, h1, kv, h2, -⟩
    refine h b kv ?_ h2
    revert h1
    unfold PV.map?
    split <;> simp
    rintro rfl
    assumption
@[simp ↓] theorem mop_delete (kp : KP) (m k : MX) : xop P (.delete kp m k) ρ st K QP = onSome (ρ m).map? fun b => onSome (ρ k).key? fun kv => onSome (map? (sget st b)) fun r => keyFits kp kv = true ∧ xdel b r.1 r.2 (kidx kp kv r.1) st K := by
  simp only [xop, mop]
  split
  · rename_i b kv h1 h2
    simp only [h1, h2, map?_map, onSome_some]
    split
    · rename_i h3; simp only [h3, map?_some, onSome_some]; rfl
    · rename_i h3
      cases h4 : sget st b with
      | none => simp [map?]
      | some o => cases o <;> simp_all [map?]
  · rename_i h
    simp only [onSome, eq_iff_iff, false_iff]
    rintro ⟨b, h1, kv, h2, -⟩
    refine h b kv ?_ h2
    revert h1
    unfold PV.map?
    split <;> simp
    rintro rfl
    assumption
@[simp ↓] theorem mop_alloc (T : TypeId) (zs : List PV) : xop P (.alloc T zs) ρ st K QP = Fresh st fun b => K (.ptr b 0) ((b, .arr T zs) :: st) := rfl
@[simp ↓] theorem mop_box (T : TypeId) (x : MX) : xop P (.box T x) ρ st K QP = onSome (ρ x).cells fun cs => Fresh st fun b => K (.ptr b 0) ((b, .arr T cs) :: st) := by
  simp only [xop, mop]; split <;> simp_all [Fresh]
@[simp ↓] theorem mop_store (k : Nat) (x y : MX) : xop P (.store k x y) ρ st K QP = onSome (ρ x).ptr? fun a => onSome (ρ y).cells fun ps => onSome (arr? (sget st a.1)) fun r =>
    ps.length = k ∧ a.2 + k ≤ r.2.length ∧ K .any (sset st a.1 (.arr r.1 (setCells r.2 a.2 ps))) := by
  simp only [xop, mop]
  split
  · rename_i b off ps h1 h2
    simp only [h1, h2, ptr?_ptr, onSome_some]
    split
    · rename_i h3; simp [h3]
    · rename_i h3
      cases h4 : sget st b with
      | none => simp [arr?]
      | some o => cases o <;> simp_all [arr?]
  · rename_i h1
    simp only [onSome, false_iff, eq_iff_iff]
    rintro ⟨⟨b, off⟩, h2, ps, h3, -⟩
    refine h1 b off ps ?_ h3
    revert h2
    unfold PV.ptr?
    split <;> simp
    intro e1 e2
    subst e1; subst e2
    assumption
/-- A call of a known function, or of a round. -/
@[simp ↓] theorem mop_call (f : MX) (args : List MX) : xop P (.call f args) ρ st K QP = xcallV P (ρ f) (args.map ρ) st fun e st' => xend K QP e st' := rfl
@[simp ↓] theorem mop_clear (k : Nat) (zs : List PV) (x : MX) : xop P (.clear k zs x) ρ st K QP = xclear k zs (ρ x) st K := rfl
@[simp ↓] theorem mop_rangeMap (x : MX) : xop P (.rangeMap x) ρ st K QP = xrangeMap (ρ x) st K := rfl
@[simp ↓] theorem mop_next (x : MX) : xop P (.next x) ρ st K QP = xnext (ρ x) st K := rfl
@[simp ↓] theorem mop_entry (x : MX) : xop P (.entry x) ρ st K QP = xentry (ρ x) st K := rfl
@[simp ↓] theorem mop_bytes (x : MX) : xop P (.bytes x) ρ st K QP = onSome (ρ x).str? fun s => s.size ≤ 140737488355328 ∧ K (.list false (strCells s) s.size) st := by
  simp only [xop, mop]
  split <;> simp_all [PV.str?]
@[simp ↓] theorem mop_panic (x : MX) : xop P (.panic x) ρ st K QP = onSome (ρ x).iface? fun q => QP (.iface q.1 q.2) st := by
  simp only [xop, mop]
  split <;> simp_all [PV.iface?]
end

/-! ### Code -/
def xops (P : Program) (l : List MInst) (s : PS) (K : PS → Prop) (QP : PV → Store → Prop) (_ : Tok (l, K, QP) := ⟨⟩) : Prop := mops P l s K QP
def xwp (P : Program) (c : MCode) (Q : MPost) (s : PS) (_ : Tok (c, Q) := ⟨⟩) : Prop := mwp P c Q s
def xthen (K : PS → Prop) (Q : MPost) (e : MExit) (s : PS) (_ : Tok (K, Q) := ⟨⟩) : Prop := mthen K Q e s
def xblock (id : Nat) (Q : MPost) (e : MExit) (s : PS) (_ : Tok Q := ⟨⟩) : Prop := minBlock id Q e s
def xloop (P : Program) (c : MCode) (Q : MPost) (s : PS) (_ : Tok (c, Q) := ⟨⟩) : Prop := LoopInv View (mwp P c) Q s
/-- A range over a function. -/
def xrange (P : Program) (f : PV) (ps : List Nat) (a b : MCode) (Q : MPost) (s : PS) (_ : Tok (a, b, Q) := ⟨⟩) : Prop :=
  match f with
  | .func (.func f) fs cs => Enters P f ∧ ∀ key : LoopKey, key.Conv P ps a b → ∀ l, snew s.st l →
      PCalls P f (fs ++ [.func (.yield l) [] []] ++ cs) ((l, .loop key s.env .ready none) :: s.st) (rangeEnd l Q s.env)
  | _ => False
def loop? : Option PObj → Option (LoopKey × Env × LoopState × Option Code)
  | some (.loop key e state pend) => some (key, e, state, pend)
  | _ => none
@[simp] theorem loop?_loop (key : LoopKey) (e : Env) (state : LoopState) (pend : Option Code) : loop? (some (.loop key e state pend)) = some (key, e, state, pend) := rfl
theorem loop?_none {o : Option PObj} (h : ∀ key e state pend, o = some (.loop key e state pend) → False) : loop? o = none := by
  unfold loop?
  split
  · rename_i key e state pend; exact (h key e state pend rfl).elim
  · rfl
def xpend (pend : Option Code) (Q : MPost) (s : PS) (_ : Tok Q := ⟨⟩) : Prop :=
  match pend with
  | none => Q .normal s
  | some .ret => Q .ret s
  | some (.exit id) => Q (.exit id) s
  | _ => False
@[simp ↓, simp] theorem xpend_none (Q : MPost) (s : PS) : xpend none Q s = Q .normal s := rfl
@[simp ↓, simp] theorem xpend_ret (Q : MPost) (s : PS) : xpend (some .ret) Q s = Q .ret s := rfl
@[simp ↓, simp] theorem xpend_exit (id : Nat) (Q : MPost) (s : PS) : xpend (some (.exit id)) Q s = Q (.exit id) s := rfl
def xrend (l : Nat) (Q : MPost) (e : Env) (en : PEnd) (st : Store) (_ : Tok Q := ⟨⟩) : Prop := rangeEnd l Q e en st
@[simp ↓, simp] theorem xrend_ret (l : Nat) (Q : MPost) (e : Env) (p : PV) (st : Store) : xrend l Q e (.ret p) st = onSome (loop? (sget st l)) fun r => r.2.2.1 ≠ .busy ∧ xpend r.2.2.2 Q ⟨e, sdel l st⟩ := by
  simp only [xrend, rangeEnd]
  split
  · rename_i h; simp only [h, loop?_loop, onSome_some]
    congr 1
  · rename_i h; rw [loop?_none h]; simp
@[simp ↓, simp] theorem xrend_panic (l : Nat) (Q : MPost) (e : Env) (p : PV) (st : Store) : xrend l Q e (.panic p) st = Q (.panic p) ⟨[], st⟩ := rfl
theorem xrange_func {P : Program} {f : FuncId} {fs cs : List PV} {ps : List Nat} {a b : MCode} {Q : MPost} {e : Env} {st : Store} (hent : Enters P f)
    (h : ∀ key : LoopKey, key.Conv P ps a b → ∀ l, snew st l → xcall P f (fs ++ [.func (.yield l) [] []] ++ cs) ((l, .loop key e .ready none) :: st) fun en s => xrend l Q e en s) : xrange P (.func (.func f) fs cs) ps a b Q ⟨e, st⟩ := ⟨hent, h⟩
@[simp] theorem eputs_cons (e : Env) (t : Nat) (ts : List Nat) (p : PV) (ps : List PV) : eputs e (t :: ts) (p :: ps) = eputs (eput e (some t) p) ts ps := rfl
@[simp] theorem eputs_nil (e : Env) : eputs e [] [] = e := rfl
def xroundB (l : Nat) (Q : PEnd → Store → Prop) (ex : MExit) (s : PS) (_ : Tok Q := ⟨⟩) : Prop := roundB l Q ex s
def xroundA (P : Program) (l : Nat) (b : MCode) (Q : PEnd → Store → Prop) (ex : MExit) (s : PS) (_ : Tok (b, Q) := ⟨⟩) : Prop := roundA P l b Q ex s
section
variable (l id : Nat) (Q : PEnd → Store → Prop) (e : Env) (st : Store)
@[simp ↓] theorem xroundB_normal : xroundB l Q .normal ⟨e, st⟩ = onSome (loop? (sget st l)) fun r => Q (.ret (.bool true)) (sset st l (.loop r.1 r.2.1 .ready none)) := by
  simp only [xroundB, roundB]
  split
  · rename_i h; simp only [h, loop?_loop, onSome_some]
  · rename_i h; rw [loop?_none h]; simp
@[simp ↓] theorem xroundB_ret : xroundB l Q .ret ⟨e, st⟩ = onSome (loop? (sget st l)) fun r => Q (.ret (.bool false)) (sset st l (.loop r.1 r.2.1 .done (some .ret))) := by
  simp only [xroundB, roundB]
  split
  · rename_i h; simp only [h, loop?_loop, onSome_some]
  · rename_i h; rw [loop?_none h]; simp
@[simp ↓] theorem xroundB_exit : xroundB l Q (.exit id) ⟨e, st⟩ = onSome (loop? (sget st l)) fun r => Q (.ret (.bool false)) (sset st l (.loop r.1 r.2.1 .done (some (.exit id)))) := by
  simp only [xroundB, roundB]
  split
  · rename_i h; simp only [h, loop?_loop, onSome_some]
  · rename_i h; rw [loop?_none h]; simp
@[simp ↓] theorem xroundB_panic (p : PV) (s : PS) : xroundB l Q (.panic p) s = False := rfl
@[simp ↓] theorem xroundA_normal (P : Program) (b : MCode) : xroundA P l b Q .normal ⟨e, st⟩ = onSome (loop? (sget st l)) fun r => r.2.2.1 = .ready ∧ xwp P b (fun ex s => xroundB l Q ex s) ⟨e, sset st l (.loop r.1 r.2.1 .busy r.2.2.2)⟩ := by
  simp only [xroundA, roundA]
  split
  · rename_i h; simp only [h, loop?_loop, onSome_some, true_and]; rfl
  · rename_i h
    simp only [onSome, eq_iff_iff, false_iff]
    rintro ⟨⟨key, e', state, pend⟩, h1, h2, -⟩
    simp only at h2
    subst h2
    unfold loop? at h1
    split at h1
    · rename_i h3; cases h1; exact h _ _ _ h3
    · cases h1
@[simp ↓] theorem xroundA_ret (P : Program) (b : MCode) (s : PS) : xroundA P l b Q .ret s = False := rfl
@[simp ↓] theorem xroundA_exit (P : Program) (b : MCode) (s : PS) : xroundA P l b Q (.exit id) s = False := rfl
@[simp ↓] theorem xroundA_panic (P : Program) (b : MCode) (p : PV) (s : PS) : xroundA P l b Q (.panic p) s = False := rfl
end
theorem pround_walk {P : Program} (hmix : P.follows .mixedOrders = true) {l : Nat} {key : LoopKey} {params : List Nat} {ma mb : MCode} (hconv : key.Conv P params ma mb) {e : Env} {st : Store} (hget : sget st l = some (.loop key e .ready none))
    {args : List PV} (hlen : params.length = args.length) {Q : PEnd → Store → Prop} (h : xwp P ma (fun ex s => xroundA P l mb Q ex s) ⟨eputs e params args, st⟩) : PRound P l args st Q := pround_of_mwp hmix hconv hget hlen h
def xpanic (Q : MPost) (p : PV) (st : Store) (_ : Tok Q := ⟨⟩) : Prop := Q (.panic p) ⟨[], st⟩
def xret (rs : List MRes) (R E : PV → Store → Prop) (e : MExit) (s : PS) (_ : Tok (R, E) := ⟨⟩) : Prop := retPost rs R E e s
def xres (s : PS) (rs : List MRes) (K : List PV → Prop) (_ : Tok K := ⟨⟩) : Prop := mres s rs K
section
variable (P : Program) (K : PS → Prop) (QP : PV → Store → Prop) (Q : MPost) (s : PS) (e : Env) (st : Store)
@[simp ↓] theorem mops_nil : xops P [] s K QP = K s := rfl
@[simp ↓] theorem mops_cons (d : Option Nat) (op : MOp) (l : List MInst) : xops P (⟨d, none, op⟩ :: l) ⟨e, st⟩ K QP = xop P op (meval e) st (fun p st' => force (⟨eput e d p, st'⟩ : PS) fun s => xops P l s K QP) QP := rfl
theorem bool?_none {p : PV} (h : ∀ c, p = .val (.bool c) → False) : p.bool? = none := by
  unfold PV.bool?
  split
  · rename_i c; exact (h c rfl).elim
  · rfl
theorem gd?_none {p : PV} (h : ∀ c, p = .val (.bool c) → False) (h2 : ∀ vs, p = .val (.tuple vs) → False) : p.gd? = none := by
  unfold PV.gd?
  split
  · rename_i c; exact (h c rfl).elim
  · rename_i c; exact (h2 c rfl).elim
  · rfl
@[simp ↓] theorem mops_guard_t (d : Option Nat) (t : Nat) (op : MOp) (l : List MInst) : xops P (⟨d, some (t, true), op⟩ :: l) ⟨e, st⟩ K QP = onSome (eget e t).gd? fun c =>
    onG c (force (putB e t true) fun e => xop P op (meval e) st (fun p st' => force (⟨eput e d p, st'⟩ : PS) fun s => xops P l s K QP) QP)
      (force (⟨eput (putB e t false) d .undef, st⟩ : PS) fun s => xops P l s K QP) (force (⟨eput e d .undef, st⟩ : PS) fun s => xops P l s K QP) := by
  simp only [xops, mops]
  split
  · rename_i c h; simp only [h, gd?_bool, onSome_some, onG_b, force_eq]; cases c <;> simp [xop]
  · rename_i vs h
    have hg : (eget e t).gd? = some .skip := by rw [h]; rfl
    rw [hg, onSome_some]
    rfl
  · rename_i h h2; rw [gd?_none h h2]; simp
@[simp ↓] theorem mops_guard_f (d : Option Nat) (t : Nat) (op : MOp) (l : List MInst) : xops P (⟨d, some (t, false), op⟩ :: l) ⟨e, st⟩ K QP = onSome (eget e t).gd? fun c =>
    onG c (force (⟨eput (putB e t true) d .undef, st⟩ : PS) fun s => xops P l s K QP)
      (force (putB e t false) fun e => xop P op (meval e) st (fun p st' => force (⟨eput e d p, st'⟩ : PS) fun s => xops P l s K QP) QP) (force (⟨eput e d .undef, st⟩ : PS) fun s => xops P l s K QP) := by
  simp only [xops, mops]
  split
  · rename_i c h; simp only [h, gd?_bool, onSome_some, onG_b, force_eq]; cases c <;> simp [xop]
  · rename_i vs h
    have hg : (eget e t).gd? = some .skip := by rw [h]; rfl
    rw [hg, onSome_some]
    rfl
  · rename_i h h2; rw [gd?_none h h2]; simp

@[simp ↓] theorem mwp_skip : xwp P .skip Q s = Q .normal s := rfl
@[simp ↓] theorem mwp_region (l : List MInst) (ks : List Nat) : xwp P (.region l ks) Q s = xops P l s (fun s' => force (⟨ekill ks s'.env, s'.st⟩ : PS) fun s' => Q .normal s') (fun p st' => xpanic Q p st') := rfl
@[simp ↓] theorem mwp_seq (a b : MCode) : xwp P (.seq a b) Q s = xwp P a (fun e s' => xthen (fun s' => xwp P b Q s') Q e s') s := rfl
@[simp ↓] theorem mwp_cond (c : MX) (a b : MCode) : xwp P (.cond c a b) Q ⟨e, st⟩ = onSome (meval e c).bool? fun t => onB t (xwp P a Q ⟨e, st⟩) (xwp P b Q ⟨e, st⟩) := by
  simp only [xwp, mwp]
  split
  · rename_i t h; simp only [h, bool?_bool, onSome_some]; cases t <;> simp
  · rename_i h; rw [bool?_none h]; simp
@[simp ↓] theorem mwp_block (id : Nat) (c : MCode) : xwp P (.block id c) Q s = xwp P c (fun e s' => xblock id Q e s') s := rfl
@[simp ↓] theorem mwp_loop (c : MCode) : xwp P (.loop c) Q s = xloop P c Q s := rfl
@[simp ↓] theorem mwp_rangeFunc (g : MX) (ps : List Nat) (a b : MCode) : xwp P (.rangeFunc g ps a b) Q ⟨e, st⟩ = xrange P (meval e g) ps a b Q ⟨e, st⟩ := rfl
@[simp ↓] theorem mwp_exit (id : Nat) : xwp P (.exit id) Q s = Q (.exit id) s := rfl
@[simp ↓] theorem mwp_ret : xwp P .ret Q s = Q .ret s := rfl
@[simp ↓] theorem xthen_normal : xthen K Q .normal s = K s := rfl
@[simp ↓] theorem xthen_exit (id : Nat) : xthen K Q (.exit id) s = Q (.exit id) s := rfl
@[simp ↓] theorem xthen_ret : xthen K Q .ret s = Q .ret s := rfl
@[simp ↓] theorem xthen_panic (p : PV) : xthen K Q (.panic p) s = Q (.panic p) s := rfl
@[simp ↓] theorem xblock_normal (id : Nat) : xblock id Q .normal s = Q .normal s := rfl
@[simp ↓] theorem xblock_exit (id j : Nat) : xblock id Q (.exit j) s = if j = id then Q .normal s else Q (.exit j) s := rfl
@[simp ↓] theorem xblock_ret (id : Nat) : xblock id Q .ret s = Q .ret s := rfl
@[simp ↓] theorem xblock_panic (id : Nat) (p : PV) : xblock id Q (.panic p) s = Q (.panic p) s := rfl
@[simp ↓] theorem xpanic_eq (p : PV) (st' : Store) : xpanic Q p st' = Q (.panic p) ⟨[], st'⟩ := rfl
section
variable (rs : List MRes) (R E : PV → Store → Prop)
@[simp ↓] theorem xret_normal : xret rs R E .normal s = xres s rs fun ps => R (tuplePV ps) s.st := rfl
@[simp ↓] theorem xret_ret : xret rs R E .ret s = xres s rs fun ps => R (tuplePV ps) s.st := rfl
@[simp ↓] theorem xret_panic (p : PV) : xret rs R E (.panic p) s = E p s.st := rfl
@[simp ↓] theorem xret_exit (id : Nat) : xret rs R E (.exit id) s = False := rfl
end
@[simp ↓] theorem xres_nil (K : List PV → Prop) : xres s [] K = K [] := rfl
@[simp ↓] theorem xres_tmp (K : List PV → Prop) (t : Nat) (rs : List MRes) : xres ⟨e, st⟩ (.tmp t :: rs) K = xres ⟨e, st⟩ rs fun ps => K (eget e t :: ps) := rfl
@[simp ↓] theorem xres_cell (K : List PV → Prop) (t k : Nat) (agg : Bool) (rs : List MRes) : xres ⟨e, st⟩ (.cell t k agg :: rs) K = onSome (rowAt? st (eget e t)) fun r => mvCell r.1 r.2 k agg fun p => xres ⟨e, st⟩ rs fun ps => K (p :: ps) := by
  have : xres ⟨e, st⟩ (.cell t k agg :: rs) K = xval (.load k agg (.tmp t)) (meval e) st fun p => xres ⟨e, st⟩ rs fun ps => K (p :: ps) := rfl
  rw [this, mval_load]
  rfl
end
theorem binPV_det (op : BinOp) (p q : PV) (K : PV → Prop) : binPV op p q K ↔ ∃ r, binPV op p q (fun x => x = r) ∧ K r := by
  unfold binPV
  repeat' split
  all_goals first | (simp; done) | (constructor <;> grind)
theorem ownSlice_det (k b off n cap : Nat) (lo hi mx : Option Int) (K : PV → Prop) : ownSlice k b off n cap lo hi mx K ↔ ∃ r, ownSlice k b off n cap lo hi mx (fun x => x = r) ∧ K r := by
  unfold ownSlice
  cases lo with
  | none => simp only; constructor <;> grind
  | some l =>
    simp only
    constructor
    · rintro ⟨h0, h1, h2, h3, h4, h5, h6, h7⟩
      by_cases hl : l = mx.getD cap
      · exact ⟨_, ⟨h0, h1, h2, h3, h4, h5, fun _ => rfl, fun h => by omega⟩, h6 hl⟩
      · exact ⟨_, ⟨h0, h1, h2, h3, h4, h5, fun h => absurd h hl, fun _ => rfl⟩, h7 (by omega)⟩
    · rintro ⟨r, ⟨h0, h1, h2, h3, h4, h5, h6, h7⟩, h8⟩
      exact ⟨h0, h1, h2, h3, h4, h5, fun h => by rw [h6 h]; exact h8, fun h => by rw [h7 h]; exact h8⟩
theorem listSlice_det (k : Nat) (t : Bool) (cs : List PV) (n : Nat) (p : PV) (lo hi mx : Option Int) (K : PV → Prop) : listSlice k t cs n p lo hi mx K ↔ ∃ r, listSlice k t cs n p lo hi mx (fun x => x = r) ∧ K r := by
  unfold listSlice
  split <;> first | (simp; done) | (constructor <;> grind)
theorem slicePV_det (k : Nat) (p : PV) (lo hi mx : Option Int) (K : PV → Prop) : slicePV k p lo hi mx K ↔ ∃ r, slicePV k p lo hi mx (fun x => x = r) ∧ K r := by
  unfold slicePV
  split
  · constructor
    · rintro ⟨h1, h2⟩; exact ⟨p, ⟨h1, rfl⟩, h2⟩
    · rintro ⟨r, ⟨h1, rfl⟩, h2⟩; exact ⟨h1, h2⟩
  split
  · exact listSlice_det ..
  · split
    · exact ownSlice_det ..
    · simp
theorem sliceArrPV_det (n k : Nat) (p : PV) (lo hi mx : Option Int) (K : PV → Prop) : sliceArrPV n k p lo hi mx K ↔ ∃ r, sliceArrPV n k p lo hi mx (fun x => x = r) ∧ K r := by
  unfold sliceArrPV
  split
  · constructor <;> grind
  · exact ownSlice_det ..
  · simp
theorem sliceStrPV_det (s : ByteArray) (lo hi : Option Int) (K : PV → Prop) : sliceStrPV s lo hi K ↔ ∃ r, sliceStrPV s lo hi (fun x => x = r) ∧ K r := by
  unfold sliceStrPV
  split <;> first | (simp; done) | (constructor <;> grind)
theorem mval_det (v : MVal) (ρ : MX → PV) (st : Store) (K : PV → Prop) : mval v ρ st K ↔ ∃ p, mval v ρ st (fun q => q = p) ∧ K p := by
  cases v
  case bin op T x y => exact binPV_det op _ _ K
  case pick c a b =>
    simp only [mval]
    split
    · rename_i t _
      cases t <;> simp
    · simp
  case slice k x lo hi mx =>
    simp only [mval]
    split
    · exact slicePV_det ..
    · simp
  case sliceArr n k x lo hi mx =>
    simp only [mval]
    split
    · exact sliceArrPV_det ..
    · simp
  case sliceStr x lo hi =>
    simp only [mval]
    split
    · exact sliceStrPV_det ..
    · simp
  all_goals simp only [mval]
  all_goals (repeat' split)
  all_goals first | (simp; done) | (constructor <;> grind)

/-! ### Regions that draw their order -/
def xdraw (P : Program) (Cl : Store → Prop) (l : List (DFlag × MInst)) (s : PS) (K : PS → Prop) (QP : PV → Store → Prop) (_ : Tok (Cl, l, K, QP) := ⟨⟩) : Prop := mdraw P Cl l s K QP
def xone (P : Program) (Cl : Store → Prop) (fl : DFlag) (op : MOp) (e : Env) (st : Store) (K QP : PV → Store → Prop) (_ : Tok (Cl, fl, op, K, QP) := ⟨⟩) : Prop := mdraw.one P Cl fl ⟨none, none, op⟩ ⟨e, st⟩ K QP
/-- A call that leaves the store alone, or panics of its own accord. -/
def xsoft (P : Program) (g : FuncId) (ps : List PV) (st : Store) (K : PV → Prop) (QP : PV → Store → Prop) (_ : Tok (K, QP) := ⟨⟩) : Prop :=
  ∃ p, PCalls P g ps st (fun en st' => st' = st ∧ (en = .ret p ∨ ∃ q, en = .panic q ∧ QP q st)) ∧ K p
theorem Rets.xsoft {P : Program} {g : FuncId} {ps : List PV} {st : Store} {p : PV} (h : Rets P g ps st p) {K : PV → Prop} {QP : PV → Store → Prop} (hk : K p) : xsoft P g ps st K QP := h.soft hk
theorem Rets.xcall {P : Program} {g : FuncId} {ps : List PV} {st : Store} {p : PV} (h : Rets P g ps st p) {Q : PEnd → Store → Prop} (hk : Q (.ret p) st) : xcall P g ps st Q := h.calls hk
/-- The same, in every store of a class. -/
def xlateCall (P : Program) (Cl : Store → Prop) (g : FuncId) (ps : List PV) (K : PV → Prop) (QP : PV → Store → Prop) (_ : Tok (Cl, K, QP) := ⟨⟩) : Prop :=
  ∃ p, (∀ st, Cl st → PCalls P g ps st (fun en st' => st' = st ∧ (en = .ret p ∨ ∃ q, en = .panic q ∧ QP q st))) ∧ K p
theorem xlateCall_of {P : Program} {Cl : Store → Prop} {g : FuncId} {ps : List PV} {p : PV} (h : ∀ st, Rets P g ps st p) {K : PV → Prop} {QP : PV → Store → Prop} (hk : K p) : xlateCall P Cl g ps K QP :=
  ⟨p, fun st _ => PCalls.mono (h st) fun _ _ ⟨h1, h2⟩ => ⟨h2, .inl h1⟩, hk⟩
/-- A load in every store of a class. -/
def xlateLoad (Cl : Store → Prop) (k : Nat) (agg : Bool) (p : PV) (K : PV → Prop) (_ : Tok (Cl, K) := ⟨⟩) : Prop :=
  ∃ q, (∀ st, Cl st → mval (.load k agg (.const p)) (meval []) st (fun r => r = q)) ∧ K q
theorem xlateLoad_iptr {Cl : Store → Prop} {k : Nat} {agg : Bool} {cs : List PV} {off : Nat} {K : PV → Prop} (h : mvCell cs off k agg K) : xlateLoad Cl k agg (.iptr cs off) K := by
  have h' : mval (.load k agg (.const (.iptr cs off))) (meval []) [] K := h
  obtain ⟨q, h1, h2⟩ := (mval_det _ _ _ _).1 h'
  exact ⟨q, fun _ _ => h1, h2⟩
theorem xlateLoad_ptr {st0 : Store} {M : List Nat} {k : Nat} {agg : Bool} {b off : Nat} {T : TypeId} {cs : List PV} {K : PV → Prop} (hb : b ∉ M) (hg : sget st0 b = some (.arr T cs)) (h : mvCell cs off k agg K) : xlateLoad (Cls st0 M) k agg (.ptr b off) K := by
  have key : ∀ (st : Store) (K' : PV → Prop), sget st b = some (.arr T cs) → mval (.load k agg (.const (.ptr b off))) (meval []) st K' = mvCell cs off k agg K' := by
    intro st K' hst
    simp only [mval, meval, rowAt?, hst]
    rfl
  obtain ⟨q, h1, h2⟩ := (mval_det _ _ _ _).1 ((key st0 K hg).symm ▸ h)
  exact ⟨q, fun st hst => by rw [key st _ (hst b hb _ hg)]; rwa [key st0 _ hg] at h1, h2⟩
@[simp] theorem snew_nil (b : Nat) : snew [] b = True := propext ⟨fun _ => trivial, fun _ => trivial⟩
@[simp] theorem snew_cons (c : Nat) (o : PObj) (st : Store) (b : Nat) : snew ((c, o) :: st) b = ((¬ c = b ∧ ¬ b = c) ∧ snew st b) := propext ⟨fun h => h, fun h => h⟩
@[simp] theorem sget_nil (c : Nat) : sget [] c = none := by rw [sget]
@[simp] theorem sget_cons (b : Nat) (o : PObj) (st : Store) (c : Nat) : sget ((b, o) :: st) c = if b = c then some o else sget st c := by rw [sget]
theorem Cls.self (st : Store) (M : List Nat) : Cls st M st := fun _ _ _ h => h
@[simp] theorem Cls_self (st : Store) (M : List Nat) : Cls st M st = True := eq_true (Cls.self st M)
@[simp] theorem Cls_fresh {st0 st : Store} {M : List Nat} {b : Nat} {o : PObj} (hn : snew st b) (h : Cls st0 M st) : Cls st0 M ((b, o) :: st) := fun c hc x hx => by
  have := h c hc x hx
  simp only [sget]
  rw [if_neg]
  · exact this
  · rintro rfl; rw [snew_get hn] at this; cases this
@[simp] theorem Cls_same {st0 st : Store} {M : List Nat} {b : Nat} {o : PObj} (h : Cls st0 M st) : Cls ((b, o) :: st0) M ((b, o) :: st) := fun c hc x hx => by
  simp only [sget] at hx ⊢
  split
  · rename_i e; rw [if_pos e] at hx; exact hx
  · rename_i e; rw [if_neg e] at hx; exact h c hc x hx
@[simp] theorem Cls_in {st0 st : Store} {M : List Nat} {b : Nat} {o o' : PObj} (hb : b ∈ M) (h : Cls st0 M st) : Cls ((b, o) :: st0) M ((b, o') :: st) := fun c hc x hx => by
  have hne : b ≠ c := by rintro rfl; exact hc hb
  simp only [sget, if_neg hne] at hx ⊢
  exact h c hc x hx
@[simp] theorem xlateLoad_own {st0 : Store} {M : List Nat} {k : Nat} {agg : Bool} {b off : Nat} {K : PV → Prop} (hb : b ∉ M) : xlateLoad (Cls st0 M) k agg (.val (.pointer (some ⟨b, off, none⟩))) K = onSome (arr? (sget st0 b)) fun r => mvCell r.2 off k agg K := by
  apply propext
  cases hg : sget st0 b with
  | none =>
    simp only [arr?, onSome_none, iff_false]
    rintro ⟨q, h1, -⟩
    have := h1 st0 (Cls.self _ _)
    simp [mval, meval, rowAt?, hg] at this
  | some o =>
    cases o with
    | arr T cs =>
      simp only [arr?_arr, onSome_some]
      refine ⟨?_, fun h => xlateLoad_ptr hb hg h⟩
      rintro ⟨q, h1, h2⟩
      have := h1 st0 (Cls.self _ _)
      have h3 : mval (.load k agg (.const (.ptr b off))) (meval []) st0 K := (mval_det _ _ _ _).2 ⟨q, this, h2⟩
      simpa only [mval, meval, rowAt?, hg, mvCell] using h3
    | _ =>
      simp only [arr?, onSome_none, iff_false]
      rintro ⟨q, h1, -⟩
      have := h1 st0 (Cls.self _ _)
      simp [mval, meval, rowAt?, hg] at this
@[simp] theorem xlateLoad_imm {st0 : Store} {M : List Nat} {k : Nat} {agg : Bool} {cs : List PV} {off : Nat} {K : PV → Prop} : xlateLoad (Cls st0 M) k agg (.iptr cs off) K = mvCell cs off k agg K := by
  apply propext
  refine ⟨?_, fun h => xlateLoad_iptr h⟩
  rintro ⟨q, h1, h2⟩
  exact (mval_det (.load k agg (.const (.iptr cs off))) (meval []) st0 K).2 ⟨q, h1 st0 (Cls.self _ _), h2⟩
/-- A look into a map in every store of a class. -/
def xlateLook (Cl : Store → Prop) (kp : KP) (z : PV) (ok : Bool) (p q : PV) (K : PV → Prop) (_ : Tok (Cl, K) := ⟨⟩) : Prop :=
  ∃ r, (∀ st, Cl st → mval (.lookup kp z ok (.const p) (.const q)) (meval []) st (fun x => x = r)) ∧ K r
theorem xlateLook_of {st0 : Store} {M : List Nat} {kp : KP} {z : PV} {ok : Bool} {p q : PV} {K : PV → Prop} (hp : ∀ st, Cls st0 M st → mapOf st0 p ≠ none → mapOf st p = mapOf st0 p) : xlateLook (Cls st0 M) kp z ok p q K = xval (.lookup kp z ok (.const p) (.const q)) (meval []) st0 K := by
  apply propext
  constructor
  · rintro ⟨r, h1, h2⟩
    exact (mval_det _ _ _ _).2 ⟨r, h1 st0 (Cls.self _ _), h2⟩
  · intro h
    obtain ⟨r, h1, h2⟩ := (mval_det _ _ _ _).1 h
    refine ⟨r, fun st hst => ?_, h2⟩
    have hm : mapOf st0 p ≠ none := by
      intro hn
      simp [mval, meval, hn] at h1
    simp only [mval, meval, hp st hst hm]
    exact h1
@[simp] theorem xlateLook_own {st0 : Store} {M : List Nat} {kp : KP} {z : PV} {ok : Bool} {b : Nat} {q : PV} {K : PV → Prop} (hb : b ∉ M) : xlateLook (Cls st0 M) kp z ok (.val (.map (some b))) q K = xval (.lookup kp z ok (.const (.val (.map (some b)))) (.const q)) (meval []) st0 K :=
  xlateLook_of fun st hst hn => by
    simp only [mapOf_map] at hn ⊢
    cases hg : sget st0 b with
    | none => rw [hg] at hn; exact absurd rfl hn
    | some o => rw [hst b hb o hg]
@[simp] theorem xlateLook_imap {st0 : Store} {M : List Nat} {kp : KP} {z : PV} {ok : Bool} {ks : List Value} {vs : List PV} {q : PV} {K : PV → Prop} : xlateLook (Cls st0 M) kp z ok (.imap ks vs) q K = xval (.lookup kp z ok (.const (.imap ks vs)) (.const q)) (meval []) st0 K :=
  xlateLook_of fun _ _ _ => rfl
section
variable (P : Program) (Cl : Store → Prop) (K : PS → Prop) (QP : PV → Store → Prop) (K1 : PV → Store → Prop) (Q : MPost) (e : Env) (st : Store)
@[simp ↓] theorem xdraw_nil (s : PS) : xdraw P Cl [] s K QP = K s := rfl
@[simp ↓] theorem xdraw_cons (fl : DFlag) (d : Option Nat) (op : MOp) (l : List (DFlag × MInst)) : xdraw P Cl ((fl, ⟨d, none, op⟩) :: l) ⟨e, st⟩ K QP =
    xone P Cl fl op e st (fun p st' => force (⟨eput e d p, st'⟩ : PS) fun s => xdraw P Cl l s K QP) QP := rfl
@[simp ↓] theorem xdraw_guard_t (fl : DFlag) (d : Option Nat) (t : Nat) (op : MOp) (l : List (DFlag × MInst)) : xdraw P Cl ((fl, ⟨d, some (t, true), op⟩) :: l) ⟨e, st⟩ K QP = onSome (eget e t).gd? fun c =>
    onG c (force (putB e t true) fun e => xone P Cl fl op e st (fun p st' => force (⟨eput e d p, st'⟩ : PS) fun s => xdraw P Cl l s K QP) QP)
      (force (⟨eput (putB e t false) d .undef, st⟩ : PS) fun s => xdraw P Cl l s K QP) (force (⟨eput e d .undef, st⟩ : PS) fun s => xdraw P Cl l s K QP) := by
  simp only [xdraw, mdraw]
  split
  · rename_i c h; simp only [h, gd?_bool, onSome_some, onG_b, force_eq]; cases c <;> simp <;> rfl
  · rename_i vs h
    have hg : (eget e t).gd? = some .skip := by rw [h]; rfl
    rw [hg, onSome_some]
    rfl
  · rename_i h h2; rw [gd?_none h h2]; simp
@[simp ↓] theorem xdraw_guard_f (fl : DFlag) (d : Option Nat) (t : Nat) (op : MOp) (l : List (DFlag × MInst)) : xdraw P Cl ((fl, ⟨d, some (t, false), op⟩) :: l) ⟨e, st⟩ K QP = onSome (eget e t).gd? fun c =>
    onG c (force (⟨eput (putB e t true) d .undef, st⟩ : PS) fun s => xdraw P Cl l s K QP)
      (force (putB e t false) fun e => xone P Cl fl op e st (fun p st' => force (⟨eput e d p, st'⟩ : PS) fun s => xdraw P Cl l s K QP) QP) (force (⟨eput e d .undef, st⟩ : PS) fun s => xdraw P Cl l s K QP) := by
  simp only [xdraw, mdraw]
  split
  · rename_i c h; simp only [h, gd?_bool, onSome_some, onG_b, force_eq]; cases c <;> simp <;> rfl
  · rename_i vs h
    have hg : (eget e t).gd? = some .skip := by rw [h]; rfl
    rw [hg, onSome_some]
    rfl
  · rename_i h h2; rw [gd?_none h h2]; simp
@[simp ↓] theorem xone_early_val (v : MVal) : xone P Cl .early (.val v) e st K1 QP = xval v (meval e) st fun p => K1 p st := rfl
@[simp ↓] theorem xone_early_call (f : MX) (args : List MX) : xone P Cl .early (.call f args) e st K1 QP = onSome (meval e f).func? fun q => xsoft P q.1 (q.2.1 ++ args.map (meval e) ++ q.2.2) st (fun p => K1 p st) QP := by
  simp only [xone, mdraw.one, soft1, PCallF, xsoft]
  split
  · rename_i g fs cs h
    rw [h]
    simp only [func?_func, onSome_some]
  · rename_i h
    simp only [onSome, false_and, exists_false, false_iff, eq_iff_iff]
    rintro ⟨⟨g, fs, cs⟩, h2, -⟩
    unfold PV.func? at h2
    split at h2
    · rename_i h3; exact h _ _ _ h3
    · cases h2
@[simp ↓] theorem xone_last (op : MOp) : xone P Cl .last op e st K1 QP = xop P op (meval e) st K1 QP := rfl
@[simp ↓] theorem xone_hard (op : MOp) : xone P Cl .hard op e st K1 QP = xop P op (meval e) st (fun p st' => Cl st' ∧ K1 p st') QP := rfl
theorem xone_late_val (v : MVal) (hv : usesStore v = false) : xone P Cl .late (.val v) e st K1 QP = xval v (meval e) [] fun p => K1 p st := by
  simp only [xone, mdraw.one, late1, hv, Bool.false_eq_true, if_false, xval]
  exact propext (mval_det v (meval e) [] fun p => K1 p st).symm
@[simp ↓] theorem xone_late_mv (x : MX) : xone P Cl .late (.val (.mv x)) e st K1 QP = xval (.mv x) (meval e) [] fun p => K1 p st := xone_late_val P Cl QP K1 e st _ rfl
@[simp ↓] theorem xone_late_pick (c a b : MX) : xone P Cl .late (.val (.pick c a b)) e st K1 QP = xval (.pick c a b) (meval e) [] fun p => K1 p st := xone_late_val P Cl QP K1 e st _ rfl
@[simp ↓] theorem xone_late_build (zs : List PV) (parts : List (Nat × Nat × MX)) : xone P Cl .late (.val (.build zs parts)) e st K1 QP = xval (.build zs parts) (meval e) [] fun p => K1 p st := xone_late_val P Cl QP K1 e st _ rfl
@[simp ↓] theorem xone_late_nilCheck (x : MX) : xone P Cl .late (.val (.nilCheck x)) e st K1 QP = xval (.nilCheck x) (meval e) [] fun p => K1 p st := xone_late_val P Cl QP K1 e st _ rfl
@[simp ↓] theorem xone_late_bin (op : BinOp) (T : TypeId) (x y : MX) : xone P Cl .late (.val (.bin op T x y)) e st K1 QP = xval (.bin op T x y) (meval e) [] fun p => K1 p st := xone_late_val P Cl QP K1 e st _ rfl
@[simp ↓] theorem xone_late_eqAgg (neg : Bool) (ks : List LK) (x y : MX) : xone P Cl .late (.val (.eqAgg neg ks x y)) e st K1 QP = xval (.eqAgg neg ks x y) (meval e) [] fun p => K1 p st := xone_late_val P Cl QP K1 e st _ rfl
@[simp ↓] theorem xone_late_eqBool (neg : Bool) (x y : MX) : xone P Cl .late (.val (.eqBool neg x y)) e st K1 QP = xval (.eqBool neg x y) (meval e) [] fun p => K1 p st := xone_late_val P Cl QP K1 e st _ rfl
@[simp ↓] theorem xone_late_un (op : UnOp) (x : MX) : xone P Cl .late (.val (.un op x)) e st K1 QP = xval (.un op x) (meval e) [] fun p => K1 p st := xone_late_val P Cl QP K1 e st _ rfl
@[simp ↓] theorem xone_late_toInt (k : IntKind) (x : MX) : xone P Cl .late (.val (.toInt k x)) e st K1 QP = xval (.toInt k x) (meval e) [] fun p => K1 p st := xone_late_val P Cl QP K1 e st _ rfl
@[simp ↓] theorem xone_late_mkIface (T : TypeId) (x : MX) : xone P Cl .late (.val (.mkIface T x)) e st K1 QP = xval (.mkIface T x) (meval e) [] fun p => K1 p st := xone_late_val P Cl QP K1 e st _ rfl
@[simp ↓] theorem xone_late_mkFunc (fn : Fn) (first captured : List MX) : xone P Cl .late (.val (.mkFunc fn first captured)) e st K1 QP = xval (.mkFunc fn first captured) (meval e) [] fun p => K1 p st := xone_late_val P Cl QP K1 e st _ rfl
@[simp ↓] theorem xone_late_fieldAddr (off : Nat) (x : MX) : xone P Cl .late (.val (.fieldAddr off x)) e st K1 QP = xval (.fieldAddr off x) (meval e) [] fun p => K1 p st := xone_late_val P Cl QP K1 e st _ rfl
@[simp ↓] theorem xone_late_field (off k : Nat) (agg : Bool) (x : MX) : xone P Cl .late (.val (.field off k agg x)) e st K1 QP = xval (.field off k agg x) (meval e) [] fun p => K1 p st := xone_late_val P Cl QP K1 e st _ rfl
@[simp ↓] theorem xone_late_indexAddr (k : Nat) (x i : MX) : xone P Cl .late (.val (.indexAddr k x i)) e st K1 QP = xval (.indexAddr k x i) (meval e) [] fun p => K1 p st := xone_late_val P Cl QP K1 e st _ rfl
@[simp ↓] theorem xone_late_indexArr (n k : Nat) (x i : MX) : xone P Cl .late (.val (.indexArr n k x i)) e st K1 QP = xval (.indexArr n k x i) (meval e) [] fun p => K1 p st := xone_late_val P Cl QP K1 e st _ rfl
@[simp ↓] theorem xone_late_index (n k : Nat) (agg : Bool) (x i : MX) : xone P Cl .late (.val (.index n k agg x i)) e st K1 QP = xval (.index n k agg x i) (meval e) [] fun p => K1 p st := xone_late_val P Cl QP K1 e st _ rfl
@[simp ↓] theorem xone_late_indexStr (x i : MX) : xone P Cl .late (.val (.indexStr x i)) e st K1 QP = xval (.indexStr x i) (meval e) [] fun p => K1 p st := xone_late_val P Cl QP K1 e st _ rfl
@[simp ↓] theorem xone_late_len (x : MX) : xone P Cl .late (.val (.len x)) e st K1 QP = xval (.len x) (meval e) [] fun p => K1 p st := xone_late_val P Cl QP K1 e st _ rfl
@[simp ↓] theorem xone_late_cap (x : MX) : xone P Cl .late (.val (.cap x)) e st K1 QP = xval (.cap x) (meval e) [] fun p => K1 p st := xone_late_val P Cl QP K1 e st _ rfl
@[simp ↓] theorem xone_late_slice (k : Nat) (x : MX) (lo hi mx : Option MX) : xone P Cl .late (.val (.slice k x lo hi mx)) e st K1 QP = xval (.slice k x lo hi mx) (meval e) [] fun p => K1 p st := xone_late_val P Cl QP K1 e st _ rfl
@[simp ↓] theorem xone_late_sliceArr (n k : Nat) (x : MX) (lo hi mx : Option MX) : xone P Cl .late (.val (.sliceArr n k x lo hi mx)) e st K1 QP = xval (.sliceArr n k x lo hi mx) (meval e) [] fun p => K1 p st := xone_late_val P Cl QP K1 e st _ rfl
@[simp ↓] theorem xone_late_sliceStr (x : MX) (lo hi : Option MX) : xone P Cl .late (.val (.sliceStr x lo hi)) e st K1 QP = xval (.sliceStr x lo hi) (meval e) [] fun p => K1 p st := xone_late_val P Cl QP K1 e st _ rfl
@[simp ↓] theorem xone_late_extract (i : Nat) (x : MX) : xone P Cl .late (.val (.extract i x)) e st K1 QP = xval (.extract i x) (meval e) [] fun p => K1 p st := xone_late_val P Cl QP K1 e st _ rfl
@[simp ↓] theorem xone_late_minmax (isMax : Bool) (xs : List MX) : xone P Cl .late (.val (.minmax isMax xs)) e st K1 QP = xval (.minmax isMax xs) (meval e) [] fun p => K1 p st := xone_late_val P Cl QP K1 e st _ rfl
@[simp ↓] theorem xone_late_strlen (x : MX) : xone P Cl .late (.val (.strlen x)) e st K1 QP = xval (.strlen x) (meval e) [] fun p => K1 p st := xone_late_val P Cl QP K1 e st _ rfl
@[simp ↓] theorem xone_late_assert (T : TypeId) (z : PV) (ok : Bool) (x : MX) : xone P Cl .late (.val (.assert T z ok x)) e st K1 QP = xval (.assert T z ok x) (meval e) [] fun p => K1 p st := xone_late_val P Cl QP K1 e st _ rfl
@[simp ↓] theorem xone_late_buildSlice (T : TypeId) (len : Nat) (zs : List PV) (parts : List (Nat × Nat × MX)) : xone P Cl .late (.val (.buildSlice T len zs parts)) e st K1 QP = xval (.buildSlice T len zs parts) (meval e) [] fun p => K1 p st := xone_late_val P Cl QP K1 e st _ rfl
@[simp ↓] theorem xone_late_load (k : Nat) (agg : Bool) (x : MX) : xone P Cl .late (.val (.load k agg x)) e st K1 QP = xlateLoad Cl k agg (meval e x) fun p => K1 p st := by
  simp only [xone, mdraw.one, late1, usesStore, if_true, xlateLoad, mval]
  rfl
@[simp ↓] theorem xone_late_lookup (kp : KP) (z : PV) (ok : Bool) (x i : MX) : xone P Cl .late (.val (.lookup kp z ok x i)) e st K1 QP = xlateLook Cl kp z ok (meval e x) (meval e i) fun p => K1 p st := by
  simp only [xone, mdraw.one, late1, usesStore, if_true, xlateLook, mval]
  rfl
@[simp ↓] theorem xone_late_call (g : FuncId) (fs cs : List PV) (args : List MX) : xone P Cl .late (.call (.const (.func (.func g) fs cs)) args) e st K1 QP = xlateCall P Cl g (fs ++ args.map (meval e) ++ cs) (fun p => K1 p st) QP := rfl
@[simp ↓] theorem xwp_draw (l : List (DFlag × MInst)) (ks : List Nat) (s : PS) : xwp P (.draw false l ks) Q s = xdraw P (fun _ => True) l s (fun s' => force (⟨ekill ks s'.env, s'.st⟩ : PS) fun s' => Q .normal s') (fun p st' => xpanic Q p st') := rfl
/-- Late draws: the objects that the region writes are to be named. -/
def DrawLate (P : Program) (l : List (DFlag × MInst)) (K : PS → Prop) (QP : PV → Store → Prop) (s : PS) (_ : Tok (l, K, QP) := ⟨⟩) : Prop := ∃ Cl : Store → Prop, Cl s.st ∧ mdraw P Cl l s K QP
theorem DrawLate.intro {P : Program} {l : List (DFlag × MInst)} {K : PS → Prop} {QP : PV → Store → Prop} {e : Env} {st : Store} (M : List Nat) (h : xdraw P (Cls st M) l ⟨e, st⟩ K QP) : DrawLate P l K QP ⟨e, st⟩ := ⟨_, Cls.self st M, h⟩
theorem DrawLate.by {P : Program} {l : List (DFlag × MInst)} {K : PS → Prop} {QP : PV → Store → Prop} {e : Env} {st : Store} (Cl : Store → Prop) (h0 : Cl st) (h : xdraw P Cl l ⟨e, st⟩ K QP) : DrawLate P l K QP ⟨e, st⟩ := ⟨Cl, h0, h⟩
@[simp ↓] theorem xwp_drawLate (l : List (DFlag × MInst)) (ks : List Nat) (s : PS) : xwp P (.draw true l ks) Q s = DrawLate P l (fun s' => force (⟨ekill ks s'.env, s'.st⟩ : PS) fun s' => Q .normal s') (fun p st' => xpanic Q p st') s := rfl
end

/-- A contract from the walk; what is behind a return, or a panic, may be seen otherwise. -/
theorem Has.walk {P : Program} (hmix : P.follows .mixedOrders = true) {g : FuncId} {m : MFunc} (h : Has P g m) {nt np : Nat} {rs : List MRes} {c : MCode} (hm : m = ⟨nt, np, rs, c⟩) {ps : List PV} {st : Store} {Q : PEnd → Store → Prop} (hlen : ps.length = np)
    {R E : PV → Store → Prop} (hR : ∀ p st, R p st → RetView .ret p st Q) (hE : ∀ p st, E p st → RetView .panic p st Q)
    (hw : xwp P c (fun e s => xret rs R E e s) ⟨initEnv 0 ps, st⟩) : PCalls P g ps st Q := by
  subst hm
  exact h.calls hmix hlen hR hE hw
theorem Has.pure {P : Program} (hmix : P.follows .mixedOrders = true) {g : FuncId} {m : MFunc} (h : Has P g m) {nt np : Nat} {rs : List MRes} {c : MCode} (hm : m = ⟨nt, np, rs, c⟩) {ps : List PV} {st : Store} {p : PV} (hlen : ps.length = np)
    (hw : xwp P c (fun e s => xret rs (fun q st' => q = p ∧ Over st st') (fun _ _ => False) e s) ⟨initEnv 0 ps, st⟩) : Rets P g ps st p := by
  subst hm
  exact h.rets hmix hlen hw
@[simp] theorem rowAt?_iptr (st : Store) (cs : List PV) (off : Nat) : rowAt? st (.iptr cs off) = some (cs, off) := rfl
@[simp] theorem rowAt?_ptr (st : Store) (b off : Nat) : rowAt? st (.val (.pointer (some ⟨b, off, none⟩))) = (arr? (sget st b)).map fun r => (r.2, off) := by
  simp only [rowAt?]
  cases sget st b with
  | none => rfl
  | some o => cases o <;> rfl
@[simp] theorem fillPV_nil (zs : List PV) : fillPV zs [] = some zs := rfl
@[simp] theorem fillPV_cons (zs : List PV) (off k : Nat) (p : PV) (rest : List (Nat × Nat × PV)) :
    fillPV zs ((off, k, p) :: rest) = obind p.cells fun ps => if ps.length = k ∧ off + k ≤ zs.length then fillPV (setCells zs off ps) rest else none := by
  rw [fillPV]
  cases p.cells <;> rfl
section
variable (k : IntKind) (n : Int) (c : Bool) (s : ByteArray) (a : Option Addr) (l m : Nat) (r : Option Nat)
@[simp] theorem cells_int : (PV.val (.int k n)).cells = some [.val (.int k n)] := rfl
@[simp] theorem cells_bool : (PV.val (.bool c)).cells = some [.val (.bool c)] := rfl
@[simp] theorem cells_str : (PV.val (.string s)).cells = some [.val (.string s)] := rfl
@[simp] theorem cells_ptr : (PV.val (.pointer a)).cells = some [.val (.pointer a)] := rfl
@[simp] theorem cells_slice : (PV.val (.slice a l m)).cells = some [.val (.slice a l m)] := rfl
@[simp] theorem cells_map : (PV.val (.map r)).cells = some [.val (.map r)] := rfl
@[simp] theorem cells_nilIface : (PV.val .nilIface).cells = some [.val .nilIface] := rfl
@[simp] theorem cells_agg (cs : List PV) : (PV.agg cs).cells = some cs := rfl
@[simp] theorem cells_list (t : Bool) (cs : List PV) (n : Nat) : (PV.list t cs n).cells = some [.list t cs n] := rfl
@[simp] theorem cells_iptr (cs : List PV) (n : Nat) : (PV.iptr cs n).cells = some [.iptr cs n] := rfl
@[simp] theorem cells_imap (ks : List Value) (vs : List PV) : (PV.imap ks vs).cells = some [.imap ks vs] := rfl
@[simp] theorem cells_func (f : Fn) (fs cs : List PV) : (PV.func f fs cs).cells = some [.func f fs cs] := rfl
@[simp] theorem cells_iface (T : TypeId) (p : PV) : (PV.iface T p).cells = some [.iface T p] := rfl
end
attribute [simp] usesStore isLit initEnv meval eget eput erem ekill putB tuplePV setCells sset
end Go.Pv

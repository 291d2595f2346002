/- Ranges over functions that hold one object of their own between the rounds, and may be left early. -/
import Derived.Test.YtliglilanpfjhaaLKd
import Derived.Test.YtliglilanpfjhaaLRt
namespace Go.Pv
/-- The function g, over these values, gives n rounds, with these values each, until it is told to stop; it may hold one new object meanwhile. -/
def GivesF (P : Program) (g : FuncId) (fs cs : List PV) (n : Nat) (x : Nat → List PV) : Prop :=
  ∀ (σ : Type) (S : σ → Store) (inv : Nat → σ → Prop) (fin : σ → Prop) (l : Nat),
    (∀ i s (b : Nat) (o : PObj), inv i s → i < n → snew (S s) b → PRound P l (x i) ((b, o) :: S s) fun e st' => ∃ s', st' = (b, o) :: S s' ∧ snew (S s') b ∧ ((e = .ret (.bool true) ∧ inv (i + 1) s') ∨ (e = .ret (.bool false) ∧ fin s'))) →
    ∀ s, inv 0 s → PCalls P g (fs ++ [.func (.yield l) [] []] ++ cs) (S s) fun e st' => e = .ret (.tuple []) ∧ ∃ s', st' = S s' ∧ (inv n s' ∨ fin s')
theorem cells_all {c V : List PV} (h : c.length = V.length) : setCells c 0 V = V := setCells_all V c h.symm
theorem cells_sub {V : List PV} {n : Nat} (h : V.length = n) : sub V 0 n = some V := by
  rw [sub_eq, if_pos (by omega), List.drop_zero, List.take_of_length_le (by omega)]
theorem rC_len (t u : Bool) (q : Rat) : (rC t u q).length = 4 := rfl
end Go.Pv
/- Differences by digits that owe one. -/
namespace Go.Pv
theorem carD_owe {a b : List Int} (ha : dOk a) (hb : dOk b) {f : Nat → Int} (hf : ∀ i, f i = dAt a i - dAt b i) : ∀ i, (carD f i).2 = 0 ∨ (carD f i).2 = -1
  | 0 => .inl rfl
  | i + 1 => by
    have h1 := dAt_ok ha i
    have h2 := dAt_ok hb i
    have h3 := carD_owe ha hb hf i
    rw [carD_succ]
    simp only
    rw [hf i]
    unfold BB at *
    omega
theorem carD_less {f : Nat → Int} {i : Nat} {s : Int} (hs : s = f i + (carD f i).2) (h0 : -1073741824 ≤ s) (h1 : s < 1073741824) : (s < 0 → (carD f (i + 1)) = ((carD f i).1 ++ [s + 1073741824], -1)) ∧ (¬ s < 0 → (carD f (i + 1)) = ((carD f i).1 ++ [s], 0)) := by
  rw [carD_succ, ← hs]
  unfold BB
  constructor
  · intro h
    rw [show s % 1073741824 = s + 1073741824 by omega, show s / 1073741824 = -1 by omega]
  · intro h
    rw [show s % 1073741824 = s by omega, show s / 1073741824 = 0 by omega]
/-- A literal to which a list was appended. -/
def accX (l : List Int) : Option (Acc Int) → PV
  | none => intLst true l
  | some a => .own a.b 0 a.l.length a.cap
def accXL (l : List Int) : Option (Acc Int) → List Int
  | none => l
  | some a => a.l
theorem xappend_accX {T : TypeId} {l xs : List Int} {new : List PV} {m : Nat} {st : Store} {K : PV → Store → Prop} (hn : new = intRow xs) (hm : m = xs.length) (hl : (l.length + xs.length) * 8 ≤ 140737488355328)
    (h : ∀ o : Option (Acc Int), accOk intRow 1 st o → accXL l o = l ++ xs → K (accX l o) (accS T st o)) : xappend T 8 1 (.list true (intRow l) l.length) new m st K := by
  subst hn; subst hm
  rw [xappend_list]
  refine ⟨fun h0 => ?_, fun _ => ⟨rfl, by simp, ?_⟩⟩
  · have : xs = [] := List.length_eq_zero_iff.1 h0
    subst this
    exact h none trivial (by simp [accXL])
  · refine Grow.intro (by omega) fun b cap hb h1 h2 => ?_
    have ha := Acc.raw (row := intRow) (k := 1) intRow_len (l ++ xs) b cap (by rw [List.length_append]; exact h1) h2
    have := h (some ⟨l ++ xs, b, cap, intRow (l ++ xs) ++ List.replicate ((cap - (l ++ xs).length) * 1) .any⟩) ⟨ha, hb⟩ rfl
    simp only [accX, accS_some, List.length_append, intRow_append] at this
    exact this
theorem xcall_accX {P : Program} {g : FuncId} {l : List Int} {T : TypeId} {st : Store} {o : Option (Acc Int)} (ho : accOk intRow 1 st o) {p : PV} (h : Rets P g [intLst false (accXL l o)] st p) {Q : PEnd → Store → Prop} (hk : Q (.ret p) st) : xcall P g [accX l o] (accS T st o) Q := by
  cases o with
  | none =>
    have h2 : Rets P g [intLst true l] st p := Rets.args (qs := [intLst false l]) (show PsLe [intLst true l] [intLst false l] from ⟨PLe.loose, PsLe.refl _⟩) h
    exact PCalls.mono h2 fun e s ⟨h1, h2⟩ => by subst h1; subst h2; exact hk
  | some a => exact xcall_accT (row := intRow) (o := some a) rfl ho h hk
end Go.Pv
/- Division digit by digit, from the last one on: what stands between the steps. -/
namespace Go.Pv
structure RDiv (x y i : Nat) (Q : List Int) (r : Nat) : Prop where
  len : Q.length = dl x
  ok : dOk Q
  lt : r < y
  val : dv ((digs x).drop i) = dv (Q.drop i) * y + r
  zer : ∀ j (h : j < Q.length), j < i → Q[j] = 0
theorem RDiv.start {x y : Nat} (hy : y ≠ 0) : ∃ r, dv ((digs x).drop (dl x + 1 - dl y)) = (r : Nat) ∧ RDiv x y (dl x + 1 - dl y) (List.replicate (dl x) 0) r := by
  have h0 := dv_nonneg (dOk_drop (digs_ok x) (dl x + 1 - dl y))
  have h1 := dv_lt (dOk_drop (digs_ok x) (dl x + 1 - dl y))
  have hp := dl_pos hy
  have h2 := digs_len_ge hy
  rw [List.length_drop] at h1
  have h3 := PB_mono (show (digs x).length - (dl x + 1 - dl y) ≤ (digs y).length - 1 by
    have e1 : (digs x).length = dl x := rfl
    have e2 : (digs y).length = dl y := rfl
    omega)
  refine ⟨(dv ((digs x).drop (dl x + 1 - dl y))).toNat, by omega, by simp, dOk_zeros _, by omega, ?_, fun j h _ => by simp⟩
  rw [List.drop_replicate, dv_zeros]
  omega
theorem RDiv.next {x i r : Nat} (hi : i < dl x) : ∃ d : Nat, (digs x)[i]'hi = d ∧ d < 1073741824 ∧ trimD ((digs x)[i]'hi :: digs r) = digs (d + 1073741824 * r) := by
  have h := dOk_get (digs_ok x) (i := i) hi
  refine ⟨((digs x)[i]'hi).toNat, by omega, by unfold BB at h; omega, ?_⟩
  refine trimD_eq (dOk_cons.2 ⟨h, digs_ok r⟩) ?_
  rw [dv_cons, dv_digs]
  unfold BB
  omega
theorem RDiv.step {x y i : Nat} {Q : List Int} {r d : Nat} (h : RDiv x y (i + 1) Q r) (hi : i < dl x) (hd : (digs x)[i]'hi = d) (hd2 : d < 1073741824) : (d + 1073741824 * r) / y < 1073741824 ∧ RDiv x y i (Q.set i (((d + 1073741824 * r) / y : Nat) : Int)) ((d + 1073741824 * r) % y) := by
  have hy : 0 < y := by have := h.lt; omega
  have hq : (d + 1073741824 * r) / y < 1073741824 := by
    rw [Nat.div_lt_iff_lt_mul hy]
    have := Nat.mul_le_mul_left 1073741824 (show r + 1 ≤ y from h.lt)
    omega
  have hiq : i < Q.length := by rw [h.len]; exact hi
  refine ⟨hq, by rw [List.length_set, h.len], dOk_set h.ok _ ⟨Int.natCast_nonneg _, (show (((d + 1073741824 * r) / y : Nat) : Int) < ((1073741824 : Nat) : Int) from Int.ofNat_lt.2 hq)⟩, Nat.mod_lt _ hy, ?_, fun j hj hji => ?_⟩
  · rw [dv_drop_succ (l := digs x) hi, hd, dv_drop_succ (l := Q.set i _) (by rw [List.length_set]; exact hiq), List.getElem_set_self, List.drop_set_of_lt (by omega), h.val]
    have e := Nat.mod_add_div (d + 1073741824 * r) y
    have e2 : (((d + 1073741824 * r) % y : Nat) : Int) + (y : Int) * (((d + 1073741824 * r) / y : Nat) : Int) = (d : Int) + 1073741824 * r := by
      have ep : ((y * ((d + 1073741824 * r) / y) : Nat) : Int) = (y : Int) * (((d + 1073741824 * r) / y : Nat) : Int) := Int.natCast_mul ..
      rw [← ep, ← Int.natCast_add, e]; rfl
    generalize dv (Q.drop (i + 1)) = z
    generalize (((d + 1073741824 * r) % y : Nat) : Int) = a at *
    generalize (((d + 1073741824 * r) / y : Nat) : Int) = b at *
    rw [Int.add_mul, Int.mul_comm b y, Int.mul_add, Int.mul_assoc BB z y]
    unfold BB
    omega
  · rw [List.length_set] at hj
    rw [List.getElem_set_ne (by omega)]
    exact h.zer j hj (by omega)
theorem RDiv.skip {x y i : Nat} {Q : List Int} {r d : Nat} (h : RDiv x y (i + 1) Q r) (hi : i < dl x) (hd : (digs x)[i]'hi = d) (hd2 : d < 1073741824) (hlt : d + 1073741824 * r < y) : RDiv x y i Q (d + 1073741824 * r) := by
  obtain ⟨-, h2⟩ := h.step hi hd hd2
  have hiq : i < Q.length := by rw [h.len]; exact hi
  rw [Nat.div_eq_of_lt hlt, Nat.mod_eq_of_lt hlt] at h2
  have e : Q.set i ((0 : Nat) : Int) = Q := by
    have h0 := h.zer i hiq (by omega)
    have : ((0 : Nat) : Int) = Q[i] := by rw [h0]; rfl
    rw [this]
    exact List.set_getElem_self hiq
  rwa [e] at h2
theorem RDiv.fin {x y : Nat} {Q : List Int} {r : Nat} (h : RDiv x y 0 Q r) : trimD Q = digs (x / y) ∧ r = x % y := by
  have hv := h.val
  have hlt := h.lt
  have h0 := dv_nonneg h.ok
  rw [List.drop_zero, List.drop_zero, dv_digs] at hv
  obtain ⟨q, hq⟩ : ∃ q : Nat, dv Q = q := ⟨(dv Q).toNat, by omega⟩
  rw [hq] at hv
  have hv : x = q * y + r := by exact_mod_cast hv
  have e1 : x / y = q := by
    rw [Nat.div_eq_iff (by omega)]
    omega
  have e2 : x % y = r := by
    have := Nat.mod_add_div x y
    rw [e1, Nat.mul_comm] at this
    omega
  exact ⟨trimD_eq h.ok (by rw [hq, e1]), e2.symm⟩
end Go.Pv
/- Values seen otherwise, cell by cell. -/
namespace Go.Pv
theorem PsLe.vcells : ∀ {ps qs : List PV} (_ : PsLe ps qs) (I : Imm) (vs : List Value), vcells I ps vs → vcells I qs vs
  | [], [], _, _, _, h => h
  | p :: ps, q :: qs, hw, I, [], h => by simp [Go.Pv.vcells] at h
  | p :: ps, q :: qs, hw, I, v :: vs, h => by
    simp only [Go.Pv.vcells] at h ⊢
    exact ⟨⟨hw.1 I v h.1.1, h.1.2⟩, PsLe.vcells hw.2 I vs h.2⟩
theorem PLe.aggs {ps qs : List PV} (h : PsLe ps qs) : PLe (.agg ps) (.agg qs) := fun I v hv => by
  simp only [vrep] at hv ⊢
  obtain ⟨vs, h1, h2⟩ := hv
  exact ⟨vs, h1, h.vcells I vs h2⟩
theorem PLe.tuples {ps qs : List PV} (h : PsLe ps qs) : PLe (.tuple ps) (.tuple qs) := fun I v hv => by
  simp only [vrep] at hv ⊢
  obtain ⟨vs, h1, h2⟩ := hv
  exact ⟨vs, h1, h.vreps I vs h2⟩
theorem PLe.ints {t : Bool} {l : List Int} : PLe (intLst t l) (intLst false l) := PLe.loose
end Go.Pv
/- Rows of truth values; loops that are left by a break. -/
namespace Go.Pv
def boolRow (l : List Bool) : List PV := l.map .bool
abbrev boolLst (t : Bool) (l : List Bool) : PV := .list t (boolRow l) l.length
@[simp] theorem boolRow_length (l : List Bool) : (boolRow l).length = l.length := by simp [boolRow]
@[simp] theorem boolRow_get (l : List Bool) (i : Nat) (h : i < l.length) : (boolRow l)[i]? = some (.bool l[i]) := by simp [boolRow, h]
@[simp] theorem boolRow_getE (l : List Bool) (i : Nat) (h : i < (boolRow l).length) : (boolRow l)[i]'h = .bool (l[i]'(by rw [boolRow_length] at h; exact h)) := by simp [boolRow]
theorem boolRow_set (l : List Bool) (i : Nat) (b : Bool) : (boolRow l).set i (.bool b) = boolRow (l.set i b) := by simp [boolRow, List.map_set]
theorem boolRow_rep (n : Nat) : boolRow (List.replicate n false) = List.replicate n (.bool false) := by simp [boolRow]
@[simp] theorem boolRow_fz (b : Nat) (o : PObj) (k : Nat) (l : List Bool) : fzps b o k (boolRow l) = boolRow l := fzps_plain b o k fun p hp => by
  obtain ⟨a, -, rfl⟩ := List.mem_map.1 hp
  rfl
def lsE {α : Type} : Option α → LoopState
  | none => .ready
  | some _ => .done
def lpE {α : Type} (id : Nat) : Option α → Option Code
  | none => none
  | some _ => some (.exit id)
@[simp] theorem lsE_none {α : Type} : lsE (none : Option α) = .ready := rfl
@[simp] theorem lsE_some {α : Type} (a : α) : lsE (some a) = .done := rfl
@[simp] theorem lpE_none {α : Type} (id : Nat) : lpE id (none : Option α) = none := rfl
@[simp] theorem lpE_some {α : Type} (id : Nat) (a : α) : lpE id (some a) = some (.exit id) := rfl
end Go.Pv

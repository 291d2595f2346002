/- Standings are checked. -/
import Derived.Test.YtgjgcflgjpigpaaS26A
import Derived.Test.YtgjgcflgjpigpaaLBn
import Derived.Test.YtgjgcflgjpigpaaLVf
namespace Go.Pv
def Pl.enc (x : Pl) : List PV := [.int x.entry, .int x.rank, .int x.by_]
abbrev Pl.pv (x : Pl) : PV := .agg x.enc
@[simp] theorem Pl.len (x : Pl) : x.enc.length = 3 := rfl
@[simp] theorem Pl.subAll (x : Pl) : sub x.enc 0 3 = some x.enc := rfl
@[simp] theorem Pl.get0 (x : Pl) : x.enc[0]? = some (.int x.entry) := rfl
@[simp] theorem Pl.getE0 (x : Pl) (h : 0 < x.enc.length) : x.enc[0]'h = .int x.entry := rfl
@[simp] theorem Pl.set0 (x : Pl) (v : Int) : List.set x.enc 0 (.int v) = (Pl.mk v x.rank x.by_).enc := rfl
@[simp] theorem Pl.get1 (x : Pl) : x.enc[1]? = some (.int x.rank) := rfl
@[simp] theorem Pl.getE1 (x : Pl) (h : 1 < x.enc.length) : x.enc[1]'h = .int x.rank := rfl
@[simp] theorem Pl.set1 (x : Pl) (v : Int) : List.set x.enc 1 (.int v) = (Pl.mk x.entry v x.by_).enc := rfl
@[simp] theorem Pl.get2 (x : Pl) : x.enc[2]? = some (.int x.by_) := rfl
@[simp] theorem Pl.getE2 (x : Pl) (h : 2 < x.enc.length) : x.enc[2]'h = .int x.by_ := rfl
@[simp] theorem Pl.set2 (x : Pl) (v : Int) : List.set x.enc 2 (.int v) = (Pl.mk x.entry x.rank v).enc := rfl
@[simp] theorem Pl.fz (b : Nat) (o : PObj) (k : Nat) (x : Pl) : fzps b o k x.enc = x.enc := rfl
theorem Pl.fold (v0 v1 v2 : Int) : [PV.int v0, PV.int v1, PV.int v2] = (Pl.mk v0 v1 v2).enc := rfl
@[simp] theorem Pl.fill (x y : Pl) : setCells x.enc 0 y.enc = y.enc := rfl
@[simp] theorem Pl.eq (x y : Pl) : eqCells [.int, .int, .int] x.enc y.enc = some (decide (x = y)) := by
  simp [Pl.enc]
  cases x; cases y; simp [Pl.mk.injEq]
@[simp] theorem Pl.key (x : Pl) : PV.vals? x.enc = some [.int .i64 x.entry, .int .i64 x.rank, .int .i64 x.by_] := rfl
def Pl.row (l : List Pl) : List PV := l.flatMap Pl.enc
abbrev Pl.lst (t : Bool) (l : List Pl) : PV := .list t (Pl.row l) l.length
@[simp] theorem Pl.row_len (l : List Pl) : (Pl.row l).length = l.length * 3 := flat_length Pl.enc 3 Pl.len l
@[simp] theorem Pl.row_nil : Pl.row [] = [] := rfl
@[simp] theorem Pl.row_cons (x : Pl) (l : List Pl) : Pl.row (x :: l) = x.enc ++ Pl.row l := rfl
theorem Pl.row_append (l m : List Pl) : Pl.row (l ++ m) = Pl.row l ++ Pl.row m := by simp [Pl.row]
@[simp] theorem Pl.row_eq_nil (l : List Pl) : Pl.row l = [] ↔ l = [] := by
  constructor
  · intro h
    have := congrArg List.length h
    rw [Pl.row_len] at this
    cases l with
    | nil => rfl
    | cons => simp at this
  · rintro rfl; rfl
@[simp] theorem Pl.row_sub (l : List Pl) (i : Nat) (h : i < l.length) : sub (Pl.row l) (i * 3) 3 = some (l[i]).enc := flat_sub Pl.enc 3 Pl.len l i h
theorem Pl.row_drop (l : List Pl) (i : Nat) : (Pl.row l).drop (i * 3) = Pl.row (l.drop i) := flat_drop Pl.enc 3 Pl.len l i
@[simp] theorem Pl.row_getE0 (l : List Pl) (i : Nat) (h : i * 3 < (Pl.row l).length) : (Pl.row l)[i * 3]'h = .int (l[i]'(by rw [Pl.row_len] at h; omega)).entry := by
  have hl : i < l.length := by rw [Pl.row_len] at h; omega
  have := flat_get Pl.enc 3 Pl.len l i 0 hl (by omega)
  have h2 : (Pl.row l)[i * 3]? = some (.int l[i].entry) := this
  rw [List.getElem?_eq_getElem h] at h2
  exact Option.some.inj h2
@[simp] theorem Pl.row_get0 (l : List Pl) (i : Nat) (h : i < l.length) : (Pl.row l)[i * 3]? = some (.int l[i].entry) := flat_get Pl.enc 3 Pl.len l i 0 h (by omega)
@[simp] theorem Pl.row_getE1 (l : List Pl) (i : Nat) (h : i * 3 + 1 < (Pl.row l).length) : (Pl.row l)[i * 3 + 1]'h = .int (l[i]'(by rw [Pl.row_len] at h; omega)).rank := by
  have hl : i < l.length := by rw [Pl.row_len] at h; omega
  have := flat_get Pl.enc 3 Pl.len l i 1 hl (by omega)
  have h2 : (Pl.row l)[i * 3 + 1]? = some (.int l[i].rank) := this
  rw [List.getElem?_eq_getElem h] at h2
  exact Option.some.inj h2
@[simp] theorem Pl.row_get1 (l : List Pl) (i : Nat) (h : i < l.length) : (Pl.row l)[i * 3 + 1]? = some (.int l[i].rank) := flat_get Pl.enc 3 Pl.len l i 1 h (by omega)
@[simp] theorem Pl.row_getE2 (l : List Pl) (i : Nat) (h : i * 3 + 2 < (Pl.row l).length) : (Pl.row l)[i * 3 + 2]'h = .int (l[i]'(by rw [Pl.row_len] at h; omega)).by_ := by
  have hl : i < l.length := by rw [Pl.row_len] at h; omega
  have := flat_get Pl.enc 3 Pl.len l i 2 hl (by omega)
  have h2 : (Pl.row l)[i * 3 + 2]? = some (.int l[i].by_) := this
  rw [List.getElem?_eq_getElem h] at h2
  exact Option.some.inj h2
@[simp] theorem Pl.row_get2 (l : List Pl) (i : Nat) (h : i < l.length) : (Pl.row l)[i * 3 + 2]? = some (.int l[i].by_) := flat_get Pl.enc 3 Pl.len l i 2 h (by omega)
theorem Pl.row_set (l : List Pl) (i : Nat) (x : Pl) (h : i < l.length) : setCells (Pl.row l) (i * 3) x.enc = Pl.row (l.set i x) := flat_set Pl.enc 3 Pl.len l i x h
theorem Pl.row_fz (b : Nat) (o : PObj) (k : Nat) (l : List Pl) : fzps b o k (Pl.row l) = Pl.row l := flat_fz Pl.enc Pl.fz b o k l
attribute [simp] Pl.row_fz

end Go.Pv
namespace Go.Proofs.Ytgjgcflgjpigpaa
open Go.Pv
set_option maxRecDepth 100000
set_option maxHeartbeats 8000000
/-- What becomes of a standing. -/
structure PlK (p : List Pl) (E : Int) : Prop where
  k1 : 4096 < p.length → E = 2
  k2 : p.length ≤ 4096 → ∀ i, i < p.length → ¬ Pl.Fine p i → E = 230
  k3 : p.length ≤ 4096 → Pl.Right p → E = 0
open Classical in
noncomputable def plE (p : List Pl) : Int := if 4096 < p.length then 2 else if Pl.Right p then 0 else 230
theorem plE_k (p : List Pl) : PlK p (plE p) := by
  refine ⟨fun h => ?_, fun h i hi hf => ?_, fun h hr => ?_⟩
  · unfold plE; rw [if_pos h]
  · unfold plE; rw [if_neg (by omega), if_neg fun hr => hf (hr i hi)]
  · unfold plE; rw [if_neg (by omega), if_pos hr]
theorem plE_zero {p : List Pl} (h : plE p = 0) : p.length ≤ 4096 ∧ Pl.Right p := by
  unfold plE at h
  by_cases h1 : 4096 < p.length
  · rw [if_pos h1] at h; omega
  · rw [if_neg h1] at h
    by_cases h2 : Pl.Right p
    · exact ⟨by omega, h2⟩
    · rw [if_neg h2] at h; omega
abbrev BM := KM Int Bool
abbrev BM.o (M : BM) : PObj := KM.obj intKey PV.bool M
/-- The entries met so far. -/
def MetM (p : List Pl) (n : Nat) (M : BM) : Prop := ∀ k, (M.look k = none ↔ ∀ j, j < n → (Pl.at_ p j).entry ≠ k) ∧ ∀ b, M.look k = some b → b = true
theorem MetM.start (p : List Pl) : MetM p 0 [] := fun k => ⟨⟨fun _ j hj => absurd hj (by omega), fun _ => rfl⟩, fun b h => by cases h⟩
theorem MetM.step {p : List Pl} {n : Nat} {M : BM} (h : MetM p n M) : MetM p (n + 1) (M.put (Pl.at_ p n).entry true) := fun k => by
  rw [KM.look_put]
  by_cases e : k = (Pl.at_ p n).entry
  · rw [if_pos e]
    exact ⟨⟨fun h => (by cases h), fun h => absurd e.symm (h n (by omega))⟩, fun b hb => (Option.some.inj hb).symm⟩
  · rw [if_neg e]
    refine ⟨⟨fun h1 j hj => ?_, fun h1 => (h k).1.2 fun j hj => h1 j (by omega)⟩, (h k).2⟩
    by_cases ej : j = n
    · subst ej; exact fun h2 => e h2.symm
    · exact (h k).1.1 h1 j (by omega)
/-- How a line is seen to stand rightly, or not. -/
inductive Line (p : List Pl) (n : Nat) (M : BM) (x q : Pl) : Prop where
  | f1 (hf : ¬ Pl.Fine p n) (a : x.entry < 0)
  | f2 (hf : ¬ Pl.Fine p n) (a : ¬ x.entry < 0) (b : M.look x.entry = some true)
  | f3 (hf : ¬ Pl.Fine p n) (a : ¬ x.entry < 0) (b : M.look x.entry = none) (c : x.by_ < -1)
  | f4 (hf : ¬ Pl.Fine p n) (a : ¬ x.entry < 0) (b : M.look x.entry = none) (c : x.by_ = -1) (d : 0 < n) (e : ¬ x.rank = q.rank)
  | f5 (hf : ¬ Pl.Fine p n) (a : ¬ x.entry < 0) (b : M.look x.entry = none) (c : ¬ x.by_ < -1) (c2 : ¬ x.by_ = -1) (d : ¬ 0 < n)
  | f6 (hf : ¬ Pl.Fine p n) (a : ¬ x.entry < 0) (b : M.look x.entry = none) (c : ¬ x.by_ < -1) (c2 : ¬ x.by_ = -1) (d : 0 < n) (e : x.rank = q.rank)
  | f7 (hf : ¬ Pl.Fine p n) (a : ¬ x.entry < 0) (b : M.look x.entry = none) (c : x.by_ = -1) (d : 0 < n) (e : x.rank = q.rank) (f : x.entry ≤ q.entry)
  | f8 (hf : ¬ Pl.Fine p n) (a : ¬ x.entry < 0) (b : M.look x.entry = none) (c : x.by_ = -1) (d : ¬ 0 < n) (e : ¬ x.rank = n + 1)
  | f9 (hf : ¬ Pl.Fine p n) (a : ¬ x.entry < 0) (b : M.look x.entry = none) (c : ¬ x.by_ < -1) (c2 : ¬ x.by_ = -1) (d : 0 < n) (e : ¬ x.rank = q.rank) (f : ¬ x.rank = n + 1)
  | o1 (hf : Pl.Fine p n) (a : ¬ x.entry < 0) (b : M.look x.entry = none) (c : x.by_ = -1) (d : ¬ 0 < n) (e : x.rank = n + 1)
  | o2 (hf : Pl.Fine p n) (a : ¬ x.entry < 0) (b : M.look x.entry = none) (c : x.by_ = -1) (d : 0 < n) (e : x.rank = q.rank) (f : ¬ x.entry ≤ q.entry)
  | o3 (hf : Pl.Fine p n) (a : ¬ x.entry < 0) (b : M.look x.entry = none) (c : ¬ x.by_ < -1) (c2 : ¬ x.by_ = -1) (d : 0 < n) (e : ¬ x.rank = q.rank) (f : x.rank = n + 1)
theorem Line.of {p : List Pl} {n : Nat} {M : BM} (hM : MetM p n M) {x q : Pl} (hx : x = Pl.at_ p n) (hq : 0 < n → q = Pl.at_ p (n - 1)) : Line p n M x q := by
  by_cases a : x.entry < 0
  · exact .f1 (fun h => by have := h.entry; rw [← hx] at this; omega) a
  cases b : M.look x.entry with
  | some v =>
    obtain rfl := (hM x.entry).2 v b
    refine .f2 (fun h => ?_) a b
    have h1 := (hM x.entry).1.2 fun j hj => hx ▸ h.new j hj
    rw [b] at h1; cases h1
  | none =>
    have hnew : ∀ j, j < n → (Pl.at_ p j).entry ≠ (Pl.at_ p n).entry := hx ▸ (hM x.entry).1.1 b
    by_cases c : x.by_ < -1
    · exact .f3 (fun h => by have := h.by_; rw [← hx] at this; omega) a b c
    have hsh : Pl.shared p n ↔ 0 < n ∧ x.rank = q.rank := by
      unfold Pl.shared
      rw [← hx]
      by_cases hn : 0 < n
      · rw [hq hn]
      · exact ⟨fun h => absurd h.1 hn, fun h => absurd h.1 hn⟩
    have fine : ((x.by_ = -1) ↔ (n = 0 ∨ Pl.shared p n)) → (Pl.shared p n → q.entry < x.entry) → (¬ Pl.shared p n → x.rank = n + 1) → Pl.Fine p n := fun h1 h2 h3 =>
      ⟨by rw [← hx]; omega, hnew, by rw [← hx]; omega, by rw [← hx]; exact h1, fun h => by rw [← hq h.1, ← hx]; exact h2 h, fun h => by rw [← hx]; exact h3 h⟩
    by_cases c2 : x.by_ = -1
    · by_cases d : 0 < n
      · by_cases e : x.rank = q.rank
        · by_cases f : x.entry ≤ q.entry
          · exact .f7 (fun h => by have := h.less (hsh.2 ⟨d, e⟩); rw [← hx, ← hq d] at this; omega) a b c2 d e f
          · exact .o2 (fine ⟨fun _ => .inr (hsh.2 ⟨d, e⟩), fun _ => c2⟩ (fun _ => by omega) fun h => absurd (hsh.2 ⟨d, e⟩) h) a b c2 d e f
        · refine .f4 (fun h => ?_) a b c2 d e
          have := h.why.1 (by rw [← hx]; exact c2)
          rcases this with h | h
          · omega
          · exact e (hsh.1 h).2
      · have hs : ¬ Pl.shared p n := fun h => d (hsh.1 h).1
        by_cases e : x.rank = n + 1
        · exact .o1 (fine ⟨fun _ => .inl (by omega), fun _ => c2⟩ (fun h => absurd h hs) fun _ => e) a b c2 d e
        · exact .f8 (fun h => by have := h.rank hs; rw [← hx] at this; exact e this) a b c2 d e
    · by_cases d : 0 < n
      · by_cases e : x.rank = q.rank
        · exact .f6 (fun h => c2 (by rw [hx]; exact h.why.2 (.inr (hsh.2 ⟨d, e⟩)))) a b c c2 d e
        · have hs : ¬ Pl.shared p n := fun h => e (hsh.1 h).2
          by_cases f : x.rank = n + 1
          · exact .o3 (fine ⟨fun h => absurd h c2, fun h => by rcases h with h | h; exact absurd h (by omega); exact absurd h hs⟩ (fun h => absurd h hs) fun _ => f) a b c c2 d e f
          · exact .f9 (fun h => by have := h.rank hs; rw [← hx] at this; exact f this) a b c c2 d e f
      · exact .f5 (fun h => c2 (by rw [hx]; exact h.why.2 (.inl (by omega)))) a b c c2 d
theorem plCheck_spec (t : Bool) (p : List Pl) (hp : p.length ≤ 9223372036854775807) {E : Int} (hE : PlK p E) (st : Store) : Rets P F.standing_Check [Pl.lst t p] st (.int E) := by
  refine H.standing_Check.view hmix rfl rfl ?_
  by_cases hl : 4096 < p.length
  · obtain rfl := hE.k1 hl
    have h1 : (4096 : Int) < p.length := by omega
    clear hE
    repeat' (simp -dsimp -implicitDefEqProofs [*])
    exact .same ⟨rfl, rfl⟩
  have h1 : ¬ (4096 : Int) < p.length := by omega
  have kF : Hid (∀ i, i < p.length → ¬ Pl.Fine p i → E = 230) := ⟨hE.k2 (by omega)⟩
  have kT : Hid (Pl.Right p → E = 0) := ⟨hE.k3 (by omega)⟩
  clear hE
  repeat' (first 
   | (with_reducible refine Fresh.intro fun b hb => ?_) <;> (try simp -dsimp -implicitDefEqProofs [*] at hb)
   | (simp -dsimp -implicitDefEqProofs [*]))
  revert b; intro m hm
  refine xloop_for (fun s : Nat × BM => [(0, Pl.lst t p), (3, .val (.map (some m))), (11, Pl.lst t p), (12, .int p.length), (13, .int s.1)]) (fun s => (m, BM.o s.2) :: st)
    (fun s => s.1 ≤ p.length ∧ Hid (MetM p s.1 s.2) ∧ Hid (∀ i, i < s.1 → Pl.Fine p i)) (fun s => p.length - s.1) (0, []) ⟨Nat.zero_le _, ⟨MetM.start p⟩, ⟨fun i hi => absurd hi (by omega)⟩⟩ (by simp) (.refl _) ?_
  rintro ⟨n, M⟩ ⟨hn, hM, hR⟩
  simp only at hn hM hR
  by_cases hnl : n < p.length
  · have hw := wrap_succ (n := n) (by omega)
    obtain ⟨x, hx⟩ : ∃ x, x = p[n] := ⟨_, rfl⟩
    have hxa : x = Pl.at_ p n := by rw [hx]; simp [Pl.at_, hnl]
    obtain ⟨q, hq⟩ : ∃ q, q = Pl.at_ p (n - 1) := ⟨_, rfl⟩
    have hL := Line.of hM.out hxa fun _ => hq
    have kF := Hid.mk (kF.out n hnl)
    have kM : Hid (MetM p (n + 1) (M.put x.entry true)) := ⟨by rw [hxa]; exact hM.out.step⟩
    have kR : Hid (Pl.Fine p n → ∀ i, i < n + 1 → Pl.Fine p i) := ⟨fun h i hi => if e : i = n then by subst e; exact h else hR.out i (by omega)⟩
    have s0 : sub (Pl.row p) (n * 3) 3 = some x.enc := by rw [hx]; exact Pl.row_sub p n hnl
    have hput := KM.int_put PV.bool M x.entry
    have kq : Hid (∀ k, n = k + 1 → ∃ h : k < p.length, q = p[k]) := ⟨fun k hk => ⟨by omega, by subst hk; rw [hq]; simp [Pl.at_, show k < p.length by omega]⟩⟩
    have hlen : (p.length : Int) ≤ 4096 := by omega
    have hnl2 : (n : Int) < p.length := by omega
    clear hM hR hx hxa hq kT
    by_cases hn0 : 0 < n
    case neg =>
      clear kq
      rcases hL with ⟨hf, a⟩ | ⟨hf, a, b⟩ | ⟨hf, a, b, c⟩ | ⟨hf, a, b, c, d, e⟩ | ⟨hf, a, b, c, c2, d⟩ | ⟨hf, a, b, c, c2, d, e⟩ | ⟨hf, a, b, c, d, e, f⟩ | ⟨hf, a, b, c, d, e⟩ | ⟨hf, a, b, c, c2, d, e, f⟩ | ⟨hf, a, b, c, d, e⟩ | ⟨hf, a, b, c, d, e, f⟩ | ⟨hf, a, b, c, c2, d, e, f⟩
      all_goals first | (exfalso; omega) | skip
      all_goals try clear d
      iterate 5
        · obtain rfl := kF.out hf
          clear kF kR kM hf
          repeat' (first 
           | (with_reducible refine Fresh.intro fun b hb => ?_) <;> (try simp -dsimp -implicitDefEqProofs [*] at hb)
           | (with_reducible refine And.intro (fun h => ?_) (fun h => ?_)) <;> (try (exfalso; omega))
           | (simp -dsimp -implicitDefEqProofs [*]))
          exact RetView.drop (st' := st) (by repeat' (first | exact StLe.refl _ | (refine StLe_cons (by simp [*]; done) ?_) | (refine StLe_fresh (by simp [*]; done) ?_))) ⟨rfl, rfl⟩
      · have kR2 := Hid.mk (kR.out hf)
        clear kF kR hf
        repeat' (first 
         | (with_reducible refine Fresh.intro fun b hb => ?_) <;> (try simp -dsimp -implicitDefEqProofs [*] at hb)
         | (with_reducible refine And.intro (fun h => ?_) (fun h => ?_)) <;> (try (exfalso; omega))
         | (simp -dsimp -implicitDefEqProofs [*]))
        have e0 : n = 0 := by omega
        subst e0
        exact Next.intro (1, M.put x.entry true) ⟨by simp only; omega, kM, kR2⟩ (by simp only; omega) (by simp) (by repeat' (first | exact StLe.refl _ | (refine StLe_cons (by simp [*]; done) ?_) | (refine StLe_fresh (by simp [*]; done) ?_)))
    obtain ⟨k, hk⟩ : ∃ k, n = k + 1 := ⟨n - 1, by omega⟩
    obtain ⟨hkl, hqk⟩ := kq.out k hk
    have wk : IntKind.i64.wrap ((n : Int) - 1) = (k : Int) := by rw [wrap_in (by omega) (by omega)]; omega
    have g0 := Pl.row_get0 p k hkl
    have g1 := Pl.row_get1 p k hkl
    have E0 : ∀ h, (Pl.row p)[k * 3]'h = .int q.entry := fun h => by rw [Pl.row_getE0, hqk]
    have E1 : ∀ h, (Pl.row p)[k * 3 + 1]'h = .int q.rank := fun h => by rw [Pl.row_getE1, hqk]
    rw [← hqk] at g0 g1
    have hk2 : Hid (n = k + 1) := ⟨hk⟩
    have hk3 : k * 3 + 1 < p.length * 3 ∧ k * 3 < p.length * 3 := by omega
    clear hqk kq hk
    rcases hL with ⟨hf, a⟩ | ⟨hf, a, b⟩ | ⟨hf, a, b, c⟩ | ⟨hf, a, b, c, d, e⟩ | ⟨hf, a, b, c, c2, d⟩ | ⟨hf, a, b, c, c2, d, e⟩ | ⟨hf, a, b, c, d, e, f⟩ | ⟨hf, a, b, c, d, e⟩ | ⟨hf, a, b, c, c2, d, e, f⟩ | ⟨hf, a, b, c, d, e⟩ | ⟨hf, a, b, c, d, e, f⟩ | ⟨hf, a, b, c, c2, d, e, f⟩
    all_goals first | (exfalso; omega) | skip
    all_goals try clear d
    iterate 7
      · obtain rfl := kF.out hf
        clear kF kR kM hf
        repeat' (first 
         | (with_reducible refine Fresh.intro fun b hb => ?_) <;> (try simp -dsimp -implicitDefEqProofs [*] at hb)
         | (with_reducible refine And.intro (fun h => ?_) (fun h => ?_)) <;> (try (exfalso; omega))
         | (simp -dsimp -implicitDefEqProofs [*]))
        exact RetView.drop (st' := st) (by repeat' (first | exact StLe.refl _ | (refine StLe_cons (by simp [*]; done) ?_) | (refine StLe_fresh (by simp [*]; done) ?_))) ⟨rfl, rfl⟩
    all_goals
      have kR2 := Hid.mk (kR.out hf)
      clear kF kR hf
      repeat' (first 
       | (with_reducible refine Fresh.intro fun b hb => ?_) <;> (try simp -dsimp -implicitDefEqProofs [*] at hb)
       | (with_reducible refine And.intro (fun h => ?_) (fun h => ?_)) <;> (try (exfalso; omega))
       | (simp -dsimp -implicitDefEqProofs [*]))
      exact Next.intro (n + 1, M.put x.entry true) ⟨by simp only; omega, kM, kR2⟩ (by simp only; omega) (by simp) (by repeat' (first | exact StLe.refl _ | (refine StLe_cons (by simp [*]; done) ?_) | (refine StLe_fresh (by simp [*]; done) ?_)))
  · obtain rfl : n = p.length := by omega
    obtain rfl := kT.out fun i hi => hR.out i hi
    clear kT kF hM hR
    repeat' (simp -dsimp -implicitDefEqProofs [*])
    exact RetView.drop (st' := st) (by repeat' (first | exact StLe.refl _ | (refine StLe_cons (by simp [*]; done) ?_) | (refine StLe_fresh (by simp [*]; done) ?_))) ⟨rfl, rfl⟩
end Go.Proofs.Ytgjgcflgjpigpaa
/- The reference: standings are checked. -/
namespace Go.Proofs.Ytgjgcflgjpigpaa
open Go.Pv
set_option maxRecDepth 100000
set_option maxHeartbeats 8000000
inductive Line2 (p : List Pl) (n : Nat) (x q : Pl) : Prop where
  | a1 (hf : ¬ Pl.Fine p n) (d : ¬ 0 < n) (f : ¬ x.rank = n + 1)
  | a2 (hf : ¬ Pl.Fine p n) (d : ¬ 0 < n) (f : x.rank = n + 1) (c : ¬ x.by_ = -1)
  | b1 (hf : ¬ Pl.Fine p n) (d : 0 < n) (e : x.rank = q.rank) (f : x.entry ≤ q.entry)
  | b2 (hf : ¬ Pl.Fine p n) (d : 0 < n) (e : x.rank = q.rank) (f : ¬ x.entry ≤ q.entry) (c : ¬ x.by_ = -1)
  | c1 (hf : ¬ Pl.Fine p n) (d : 0 < n) (e : ¬ x.rank = q.rank) (f : ¬ x.rank = n + 1)
  | c2 (hf : ¬ Pl.Fine p n) (d : 0 < n) (e : ¬ x.rank = q.rank) (f : x.rank = n + 1) (c : x.by_ = -1)
  | c3 (hf : ¬ Pl.Fine p n) (d : 0 < n) (e : ¬ x.rank = q.rank) (f : x.rank = n + 1) (c : ¬ x.by_ = -1) (c2 : x.by_ < -1)
  | a3 (hf : Pl.Fine p n) (d : ¬ 0 < n) (f : x.rank = n + 1) (c : x.by_ = -1)
  | b3 (hf : Pl.Fine p n) (d : 0 < n) (e : x.rank = q.rank) (f : ¬ x.entry ≤ q.entry) (c : x.by_ = -1)
  | c4 (hf : Pl.Fine p n) (d : 0 < n) (e : ¬ x.rank = q.rank) (f : x.rank = n + 1) (c : ¬ x.by_ = -1) (c2 : ¬ x.by_ < -1)
theorem Line2.of {p : List Pl} {n : Nat} {x q : Pl} (hx : x = Pl.at_ p n) (hq : 0 < n → q = Pl.at_ p (n - 1)) (h0 : ¬ x.entry < 0) (hnew : ∀ j, j < n → (Pl.at_ p j).entry ≠ x.entry) : Line2 p n x q := by
  have hsh : Pl.shared p n ↔ 0 < n ∧ x.rank = q.rank := by
    unfold Pl.shared
    rw [← hx]
    by_cases hn : 0 < n
    · rw [hq hn]
    · exact ⟨fun h => absurd h.1 hn, fun h => absurd h.1 hn⟩
  have fine : -1 ≤ x.by_ → ((x.by_ = -1) ↔ (n = 0 ∨ Pl.shared p n)) → (Pl.shared p n → q.entry < x.entry) → (¬ Pl.shared p n → x.rank = n + 1) → Pl.Fine p n := fun h4 h1 h2 h3 =>
    ⟨by rw [← hx]; omega, by rw [← hx]; exact hnew, by rw [← hx]; omega, by rw [← hx]; exact h1, fun h => by rw [← hq h.1, ← hx]; exact h2 h, fun h => by rw [← hx]; exact h3 h⟩
  have fw : Pl.Fine p n → (x.by_ = -1 ↔ (n = 0 ∨ Pl.shared p n)) := fun h => by rw [hx]; exact h.why
  have fb : Pl.Fine p n → -1 ≤ x.by_ := fun h => by rw [hx]; exact h.by_
  have fl : Pl.Fine p n → 0 < n → x.rank = q.rank → q.entry < x.entry := fun h d e => by have := h.less (hsh.2 ⟨d, e⟩); rw [← hx, ← hq d] at this; exact this
  have fr : Pl.Fine p n → ¬ Pl.shared p n → x.rank = n + 1 := fun h d => by have := h.rank d; rw [← hx] at this; exact this
  by_cases d : 0 < n
  · by_cases e : x.rank = q.rank
    · have hs := hsh.2 ⟨d, e⟩
      by_cases f : x.entry ≤ q.entry
      · exact .b1 (fun h => by have := fl h d e; omega) d e f
      · by_cases c : x.by_ = -1
        · exact .b3 (fine (by omega) ⟨fun _ => .inr hs, fun _ => c⟩ (fun _ => by omega) fun h => absurd hs h) d e f c
        · exact .b2 (fun h => c ((fw h).2 (.inr hs))) d e f c
    · have hs : ¬ Pl.shared p n := fun h => e (hsh.1 h).2
      have hw : ¬ (n = 0 ∨ Pl.shared p n) := fun h => by rcases h with h | h; exact absurd h (by omega); exact hs h
      by_cases f : x.rank = n + 1
      · by_cases c : x.by_ = -1
        · exact .c2 (fun h => hw ((fw h).1 c)) d e f c
        · by_cases c2 : x.by_ < -1
          · exact .c3 (fun h => by have := fb h; omega) d e f c c2
          · exact .c4 (fine (by omega) ⟨fun h => absurd h c, fun h => absurd h hw⟩ (fun h => absurd h hs) fun _ => f) d e f c c2
      · exact .c1 (fun h => f (fr h hs)) d e f
  · have hs : ¬ Pl.shared p n := fun h => d (hsh.1 h).1
    by_cases f : x.rank = n + 1
    · by_cases c : x.by_ = -1
      · exact .a3 (fine (by omega) ⟨fun _ => .inl (by omega), fun _ => c⟩ (fun h => absurd h hs) fun _ => f) d f c
      · exact .a2 (fun h => c ((fw h).2 (.inl (by omega)))) d f c
    · exact .a1 (fun h => f (fr h hs)) d f
theorem rPlCheck_spec (t : Bool) (p : List Pl) {E : Int} (hE : PlK p E) (st : Store) : Rets P F.podiumref23_Check [Pl.lst t p] st (.int E) := by
  refine H.podiumref23_Check.view hmix rfl rfl ?_
  by_cases hl : 4096 < p.length
  · obtain rfl := hE.k1 hl
    have h1 : (4096 : Int) < p.length := by omega
    clear hE
    repeat' (simp -dsimp -implicitDefEqProofs [*])
    exact .same ⟨rfl, rfl⟩
  have h1 : ¬ (4096 : Int) < p.length := by omega
  have kF : Hid (∀ i, i < p.length → ¬ Pl.Fine p i → E = 230) := ⟨hE.k2 (by omega)⟩
  have kT : Hid (Pl.Right p → E = 0) := ⟨hE.k3 (by omega)⟩
  clear hE
  repeat' (simp -dsimp -implicitDefEqProofs [*])
  refine xloop_for (fun n : Nat => [(0, Pl.lst t p), (3, .int n)]) (fun _ => st)
    (fun n => n ≤ p.length ∧ Hid (∀ i, i < n → Pl.Fine p i)) (fun n => p.length - n) 0 ⟨Nat.zero_le _, ⟨fun i hi => absurd hi (by omega)⟩⟩ (by simp) (.refl _) ?_
  rintro n ⟨hn, hR⟩
  by_cases hnl : n < p.length
  case neg =>
    obtain rfl : n = p.length := by omega
    obtain rfl := kT.out fun i hi => hR.out i hi
    clear kT kF hR
    repeat' (simp -dsimp -implicitDefEqProofs [*])
    exact .same ⟨rfl, rfl⟩
  have hw := wrap_succ (n := n) (by omega)
  obtain ⟨x, hx⟩ : ∃ x, x = p[n] := ⟨_, rfl⟩
  have hxa : x = Pl.at_ p n := by rw [hx]; simp [Pl.at_, hnl]
  obtain ⟨q, hq⟩ : ∃ q, q = Pl.at_ p (n - 1) := ⟨_, rfl⟩
  have kL : Hid (¬ x.entry < 0 → (∀ j, j < n → (Pl.at_ p j).entry ≠ x.entry) → Line2 p n x q) := ⟨Line2.of hxa fun _ => hq⟩
  have kF := Hid.mk (kF.out n hnl)
  have kR : Hid (Pl.Fine p n → ∀ i, i < n + 1 → Pl.Fine p i) := ⟨fun h i hi => if e : i = n then by subst e; exact h else hR.out i (by omega)⟩
  have kN : Hid (Pl.Fine p n → 0 ≤ x.entry ∧ ∀ j, j < n → (Pl.at_ p j).entry ≠ x.entry) := ⟨fun h => by rw [hxa]; exact ⟨h.entry, h.new⟩⟩
  have x0 := Pl.row_get0 p n hnl
  have x1 := Pl.row_get1 p n hnl
  have x2 := Pl.row_get2 p n hnl
  have X0 : ∀ h, (Pl.row p)[n * 3]'h = .int x.entry := fun h => by rw [Pl.row_getE0, hx]
  have X1 : ∀ h, (Pl.row p)[n * 3 + 1]'h = .int x.rank := fun h => by rw [Pl.row_getE1, hx]
  have X2 : ∀ h, (Pl.row p)[n * 3 + 2]'h = .int x.by_ := fun h => by rw [Pl.row_getE2, hx]
  rw [← hx] at x0 x1 x2
  have kq : Hid (∀ k, n = k + 1 → ∃ h : k < p.length, q = p[k]) := ⟨fun k hk => ⟨by omega, by subst hk; rw [hq]; simp [Pl.at_, show k < p.length by omega]⟩⟩
  have hlen : (p.length : Int) ≤ 4096 := by omega
  have hnl2 : (n : Int) < p.length := by omega
  have hnl3 : n * 3 < p.length * 3 ∧ n * 3 + 1 < p.length * 3 ∧ n * 3 + 2 < p.length * 3 := by omega
  clear hR hx hxa hq kT
  by_cases a : x.entry < 0
  · obtain rfl := kF.out fun h => by have := (kN.out h).1; omega
    clear kF kR kL kN kq
    repeat' (simp -dsimp -implicitDefEqProofs [*])
    exact .same ⟨rfl, rfl⟩
  repeat' (simp -dsimp -implicitDefEqProofs [*])
  refine xloop_for (fun k : Nat => [(0, Pl.lst t p), (3, .int n), (4, .int k)]) (fun _ => st)
    (fun k => k ≤ n ∧ Hid (∀ j, j < k → (Pl.at_ p j).entry ≠ x.entry)) (fun k => n - k) 0 ⟨Nat.zero_le _, ⟨fun i hi => absurd hi (by omega)⟩⟩ (by simp) (.refl _) ?_
  rintro k ⟨hk, hI⟩
  by_cases hkn : k < n
  · have hkl : k < p.length := by omega
    have wk := wrap_succ (n := k) (by omega)
    have y0 := Pl.row_get0 p k hkl
    have Y0 : ∀ h, (Pl.row p)[k * 3]'h = .int p[k].entry := fun h => by rw [Pl.row_getE0]
    have hya : Pl.at_ p k = p[k] := by simp [Pl.at_, hkl]
    obtain ⟨y, hy⟩ : ∃ y, y = p[k] := ⟨_, rfl⟩
    rw [← hy] at y0 Y0 hya
    have hkl3 : k * 3 < p.length * 3 := by omega
    clear hy
    by_cases e : y.entry = x.entry
    · obtain rfl := kF.out fun h => (kN.out h).2 k hkn (by rw [hya]; exact e)
      clear kF kR kL kN kq hI hya
      repeat' (simp -dsimp -implicitDefEqProofs [*])
      exact .same ⟨rfl, rfl⟩
    · have hI2 : Hid (∀ j, j < k + 1 → (Pl.at_ p j).entry ≠ x.entry) := ⟨fun j hj => if h : j = k then by subst h; rw [hya]; exact e else hI.out j (by omega)⟩
      clear kF kR kL kN kq hI hya
      repeat' (simp -dsimp -implicitDefEqProofs [*])
      exact Next.intro (k + 1) ⟨by omega, hI2⟩ (by omega) (by simp) (by repeat' (first | exact StLe.refl _ | (refine StLe_cons (by simp [*]; done) ?_) | (refine StLe_fresh (by simp [*]; done) ?_)))
  · obtain rfl : k = n := by omega
    have hL := kL.out a hI.out
    clear hI kL kN
    by_cases hn0 : 0 < k
    case neg =>
      clear kq
      rcases hL with ⟨hf, d, f⟩ | ⟨hf, d, f, c⟩ | ⟨hf, d, e, f⟩ | ⟨hf, d, e, f, c⟩ | ⟨hf, d, e, f⟩ | ⟨hf, d, e, f, c⟩ | ⟨hf, d, e, f, c, c2⟩ | ⟨hf, d, f, c⟩ | ⟨hf, d, e, f, c⟩ | ⟨hf, d, e, f, c, c2⟩
      all_goals first | (exfalso; omega) | skip
      all_goals try clear d
      iterate 2
        · obtain rfl := kF.out hf
          clear kF kR hf
          repeat' (first 
           | (with_reducible refine And.intro (fun h => ?_) (fun h => ?_)) <;> (try (exfalso; omega))
           | (simp -dsimp -implicitDefEqProofs [*]))
          exact .same ⟨rfl, rfl⟩
      · have kR2 := Hid.mk (kR.out hf)
        clear kF kR hf
        repeat' (first 
         | (with_reducible refine And.intro (fun h => ?_) (fun h => ?_)) <;> (try (exfalso; omega))
         | (simp -dsimp -implicitDefEqProofs [*]))
        have e0 : k = 0 := by omega
        subst e0
        exact Next.intro 1 ⟨by omega, kR2⟩ (by omega) (by simp) (by repeat' (first | exact StLe.refl _ | (refine StLe_cons (by simp [*]; done) ?_) | (refine StLe_fresh (by simp [*]; done) ?_)))
    obtain ⟨m, hm⟩ : ∃ m, k = m + 1 := ⟨k - 1, by omega⟩
    obtain ⟨hml, hqm⟩ := kq.out m hm
    have wm : IntKind.i64.wrap ((k : Int) - 1) = (m : Int) := by rw [wrap_in (by omega) (by omega)]; omega
    have g0 := Pl.row_get0 p m hml
    have g1 := Pl.row_get1 p m hml
    have E0 : ∀ h, (Pl.row p)[m * 3]'h = .int q.entry := fun h => by rw [Pl.row_getE0, hqm]
    have E1 : ∀ h, (Pl.row p)[m * 3 + 1]'h = .int q.rank := fun h => by rw [Pl.row_getE1, hqm]
    rw [← hqm] at g0 g1
    have hm3 : m * 3 + 1 < p.length * 3 ∧ m * 3 < p.length * 3 := by omega
    have hk0 : ¬ k = 0 := by omega
    clear hqm kq hm
    rcases hL with ⟨hf, d, f⟩ | ⟨hf, d, f, c⟩ | ⟨hf, d, e, f⟩ | ⟨hf, d, e, f, c⟩ | ⟨hf, d, e, f⟩ | ⟨hf, d, e, f, c⟩ | ⟨hf, d, e, f, c, c2⟩ | ⟨hf, d, f, c⟩ | ⟨hf, d, e, f, c⟩ | ⟨hf, d, e, f, c, c2⟩
    all_goals first | (exfalso; omega) | skip
    all_goals try clear d
    iterate 5
      · obtain rfl := kF.out hf
        clear kF kR hf
        repeat' (first 
         | (with_reducible refine And.intro (fun h => ?_) (fun h => ?_)) <;> (try (exfalso; omega))
         | (simp -dsimp -implicitDefEqProofs [*]))
        exact .same ⟨rfl, rfl⟩
    all_goals
      have kR2 := Hid.mk (kR.out hf)
      clear kF kR hf
      repeat' (first 
       | (with_reducible refine And.intro (fun h => ?_) (fun h => ?_)) <;> (try (exfalso; omega))
       | (simp -dsimp -implicitDefEqProofs [*]))
      exact Next.intro (k + 1) ⟨by omega, kR2⟩ (by omega) (by simp) (by repeat' (first | exact StLe.refl _ | (refine StLe_cons (by simp [*]; done) ?_) | (refine StLe_fresh (by simp [*]; done) ?_)))
end Go.Proofs.Ytgjgcflgjpigpaa

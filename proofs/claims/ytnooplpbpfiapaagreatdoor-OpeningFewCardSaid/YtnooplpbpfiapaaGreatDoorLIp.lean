/- Plain: polynomials modulo the prime, and the one through some points. -/
import Derived.KernelRfl
namespace Go.Pv.Ip
abbrev Qi : Int := 1073741789
def ev : List Int → Int → Int
 | [], _ => 0
 | c :: l, x => c + x * ev l x
def Cg (a b : Int) : Prop := a % Qi = b % Qi
theorem Cg.refl (a : Int) : Cg a a := rfl
theorem Cg.symm {a b : Int} (h : Cg a b) : Cg b a := Eq.symm h
theorem Cg.trans {a b c : Int} (h : Cg a b) (k : Cg b c) : Cg a c := Eq.trans h k
theorem Cg.of_eq {a b : Int} (h : a = b) : Cg a b := h ▸ rfl
theorem Cg.mod (a : Int) : Cg (a % Qi) a := Int.emod_emod_of_dvd a (Int.dvd_refl Qi)
theorem Cg.add {a b c d : Int} (h : Cg a b) (k : Cg c d) : Cg (a + c) (b + d) := by
 unfold Cg at *
 rw [Int.add_emod, h, k, ← Int.add_emod]
theorem Cg.mul {a b c d : Int} (h : Cg a b) (k : Cg c d) : Cg (a * c) (b * d) := by
 unfold Cg at *
 rw [Int.mul_emod, h, k, ← Int.mul_emod]
theorem k25 (a : Int) : 0 ≤ a % Qi ∧ a % Qi < Qi := ⟨Int.emod_nonneg _ (by decide), Int.emod_lt_of_pos _ (by decide)⟩
def j2z (poly : List Int) (X : Int) : Nat → List Int
 | 0 => List.replicate (poly.length + 1) 0
 | j + 1 => ((j2z poly X j).set (j + 1) (((j2z poly X j).getD (j + 1) 0 + poly.getD j 0) % Qi)).set j ((((j2z poly X j).set (j + 1) (((j2z poly X j).getD (j + 1) 0 + poly.getD j 0) % Qi)).getD j 0 + poly.getD j 0 * (Qi - X)) % Qi)
def y8a (out poly : List Int) (s : Int) : Nat → List Int
 | 0 => out
 | j + 1 => (y8a out poly s j).set j (((y8a out poly s j).getD j 0 + poly.getD j 0 * s) % Qi)
def k26 : Nat → Int → Int → Int → Int
 | 0, c, _, _ => c
 | f + 1, c, n, k => if k > 0 then k26 f (if k % 2 = 1 then c * n % Qi else c) (n * n % Qi) (k / 2) else c
def invF (n : Int) : Int := k26 31 1 n (Qi - 2)
def z6t (pts : List (Int × Int)) (i : Nat) : Nat → List Int × Int
 | 0 => ([1], (pts.getD i (0, 0)).2)
 | k + 1 => if k = i then z6t pts i k else (j2z (z6t pts i k).1 (pts.getD k (0, 0)).1 (z6t pts i k).1.length, (z6t pts i k).2 * invF (((pts.getD i (0, 0)).1 - (pts.getD k (0, 0)).1 + Qi) % Qi) % Qi)
def y4x (pts : List (Int × Int)) : Nat → List Int
 | 0 => List.replicate pts.length 0
 | i + 1 => y8a (y4x pts i) (z6t pts i pts.length).1 (z6t pts i pts.length).2 (z6t pts i pts.length).1.length
def j9x (pts : List (Int × Int)) : List Int := y4x pts pts.length
theorem Cg.neg {a b : Int} (h : Cg a b) : Cg (-a) (-b) := by
 have := Cg.mul (.refl (-1)) h
 simpa using this
theorem Cg.sub {a b c d : Int} (h : Cg a b) (k : Cg c d) : Cg (a - c) (b - d) := by
 rw [Int.sub_eq_add_neg, Int.sub_eq_add_neg]; exact h.add k.neg
theorem Cg.mod' (a : Int) : Cg a (a % Qi) := (Cg.mod a).symm
theorem Cg.emod {a b : Int} (h : Cg a b) : a % Qi = b % Qi := h
def k71 (n : Int) : Int := k26 31 1 (n % Qi) (Qi - 2)
theorem z9w {a b : Int} (h : Cg a b) : k71 a = k71 b := by unfold k71; rw [h.emod]
theorem k87 : ∀ (f : Nat) {c d e m n p : Int} (_ : Cg (c * d) e) (_ : Cg (m * n) p) (k : Int), Cg (k26 f c m k * k26 f d n k) (k26 f e p k)
 | 0, _, _, _, _, _, _, h, _, _ => h
 | f + 1, c, d, e, m, n, p, h, h2, k => by
  rw [k26, k26, k26]
  by_cases hk : k > 0
  ·rw [if_pos hk, if_pos hk, if_pos hk]
   have g : Cg (m * m % Qi * (n * n % Qi)) (p * p % Qi) := by
    refine ((Cg.mod _).mul (Cg.mod _)).trans (Cg.trans (.of_eq ?_) ((h2.mul h2).trans (Cg.mod' _)))
    grind
   by_cases hb : k % 2 = 1
   ·rw [if_pos hb, if_pos hb, if_pos hb]
    refine k87 f ?_ g _
    refine ((Cg.mod _).mul (Cg.mod _)).trans (Cg.trans (.of_eq ?_) ((h.mul h2).trans (Cg.mod' _)))
    grind
   ·rw [if_neg hb, if_neg hb, if_neg hb]
    exact k87 f h g _
  ·rw [if_neg hk, if_neg hk, if_neg hk]
   exact h
theorem j54 (a b : Int) : Cg (k71 a * k71 b) (k71 (a * b)) :=
 k87 31 (c := 1) (d := 1) (e := 1) (.refl _) (((Cg.mod a).mul (Cg.mod b)).trans (Cg.mod' _)) _
def Unit (a : Int) : Prop := Cg (k71 a * a) 1
theorem Unit.mul {a b : Int} (h : Unit a) (k : Unit b) : Unit (a * b) := by
 refine ((j54 a b).symm.mul (.refl _)).trans (Cg.trans (.of_eq ?_) ((Cg.mul h k).trans (.of_eq (Int.mul_one _))))
 rw [Int.mul_assoc, Int.mul_assoc, ← Int.mul_assoc (k71 b) a b, Int.mul_comm (k71 b) a, Int.mul_assoc a]
theorem Unit.cancel {a b : Int} (h : Unit a) (k : Cg (a * b) 0) : Cg b 0 := by
 have e : Cg (k71 a * (a * b)) (1 * b) := by rw [← Int.mul_assoc]; exact Cg.mul h (.refl _)
 rw [Int.one_mul] at e
 exact e.symm.trans ((Cg.mul (.refl _) k).trans (.of_eq (Int.mul_zero _)))
theorem z9x : ∀ d : Nat, d < 257 → d ≠ 0 → k71 (d : Int) * (d : Int) % Qi = 1 := by decide +kernel
theorem j20 : k71 (-1) * (-1) % Qi = 1 := by decide +kernel
theorem j55 {a b : Int} (ha : 0 ≤ a) (ha2 : a ≤ 256) (hb : 0 ≤ b) (hb2 : b ≤ 256) (hne : a ≠ b) : Unit (a - b) := by
 have key : ∀ d : Nat, d < 257 → d ≠ 0 → Unit (d : Int) := fun d h1 h2 => by
  show _ % Qi = 1 % Qi
  rw [z9x d h1 h2]; rfl
 by_cases h : b < a
 ·obtain ⟨d, hd⟩ : ∃ d : Nat, (d : Int) = a - b := ⟨(a - b).toNat, Int.toNat_of_nonneg (by omega)⟩
  rw [← hd]
  exact key d (by omega) (by omega)
 ·obtain ⟨d, hd⟩ : ∃ d : Nat, (d : Int) = b - a := ⟨(b - a).toNat, Int.toNat_of_nonneg (by omega)⟩
  have e : a - b = -1 * (d : Int) := by omega
  rw [e]
  refine Unit.mul ?_ (key d (by omega) (by omega))
  show _ % Qi = 1 % Qi
  rw [j20]; rfl
def PolyF (n : Nat) (f : Int → Int) : Prop := ∃ l : List Int, l.length ≤ n ∧ ∀ z, f z = ev l z
def j08 : List Int → List Int → List Int
 | [], m => m
 | l, [] => l
 | a :: l, b :: m => (a + b) :: j08 l m
theorem k88 : ∀ (l m : List Int) (z : Int), ev (j08 l m) z = ev l z + ev m z
 | [], m, z => by simp [j08, ev]
 | a :: l, [], z => by simp [j08, ev]
 | a :: l, b :: m, z => by
  simp only [j08, ev, k88 l m z, Int.mul_add]
  omega
theorem k72 : ∀ (l m : List Int) {n : Nat}, l.length ≤ n → m.length ≤ n → (j08 l m).length ≤ n
 | [], m, n, _, h => by simpa [j08] using h
 | a :: l, [], n, h, _ => by simpa [j08] using h
 | a :: l, b :: m, 0, h, _ => by simp at h
 | a :: l, b :: m, n + 1, h, h2 => by
  simp only [j08, List.length_cons, Nat.add_le_add_iff_right] at h h2 ⊢
  exact k72 l m h h2
theorem PolyF.zero {n : Nat} : PolyF n (fun _ => 0) := ⟨[], by simp, fun _ => rfl⟩
theorem PolyF.add {n : Nat} {f g : Int → Int} (hf : PolyF n f) (hg : PolyF n g) : PolyF n (fun z => f z + g z) := by
 obtain ⟨l, h1, h2⟩ := hf
 obtain ⟨m, h3, h4⟩ := hg
 exact ⟨j08 l m, k72 l m h1 h3, fun z => by simp only [k88, h2, h4]⟩
theorem z4z (c : Int) : ∀ (l : List Int) (z : Int), ev (l.map (c * ·)) z = c * ev l z
 | [], z => by simp [ev]
 | a :: l, z => by
  simp only [List.map_cons, ev, z4z c l z, Int.mul_add]
  rw [← Int.mul_assoc, ← Int.mul_assoc, Int.mul_comm z c]
theorem PolyF.smul {n : Nat} {f : Int → Int} (c : Int) (hf : PolyF n f) : PolyF n (fun z => c * f z) := by
 obtain ⟨l, h1, h2⟩ := hf
 exact ⟨l.map (c * ·), by simpa using h1, fun z => by simp only [z4z, h2]⟩
theorem PolyF.const (c : Int) {n : Nat} (h : 0 < n) : PolyF n (fun _ => c) := ⟨[c], by simp; omega, fun z => by simp [ev]⟩
theorem PolyF.mulX {n : Nat} {f : Int → Int} (a : Int) (hf : PolyF n f) : PolyF (n + 1) (fun z => f z * (z - a)) := by
 obtain ⟨l, h1, h2⟩ := hf
 refine ⟨j08 (0 :: l) (l.map (-a * ·)), k72 _ _ (by simpa using h1) (by simp; omega), fun z => ?_⟩
 simp only [k88, z4z, h2, ev]
 grind
theorem PolyF.mono {n m : Nat} {f : Int → Int} (hf : PolyF n f) (h : n ≤ m) : PolyF m f := by
 obtain ⟨l, h1, h2⟩ := hf
 exact ⟨l, by omega, h2⟩
def j56 (a : Int) : List Int → List Int
 | [] => []
 | [_] => []
 | _ :: b :: l => ev (b :: l) a :: j56 a (b :: l)
theorem z8i (a : Int) : ∀ l : List Int, (j56 a l).length = l.length - 1
 | [] => rfl
 | [_] => rfl
 | _ :: b :: l => by
  have := z8i a (b :: l)
  simp only [j56, List.length_cons] at this ⊢
  omega
theorem z6u (a z : Int) : ∀ l : List Int, ev l z = ev l a + (z - a) * ev (j56 a l) z
 | [] => by simp [ev, j56]
 | [c] => by simp [ev, j56]
 | c :: b :: l => by
  have ih := z6u a z (b :: l)
  have e : ∀ x, ev (c :: b :: l) x = c + x * ev (b :: l) x := fun _ => rfl
  have e2 : ev (j56 a (c :: b :: l)) z = ev (b :: l) a + z * ev (j56 a (b :: l)) z := rfl
  rw [e, e, e2, ih]
  grind
theorem j9y {a b : Int} (h : Cg b 0) : Cg (a * b) 0 := (Cg.mul (.refl a) h).trans (.of_eq (Int.mul_zero _))
theorem y4y : ∀ (xs : List Int) (_ : xs.Pairwise fun a b => Unit (b - a)) (l : List Int) (_ : l.length ≤ xs.length) (_ : ∀ x ∈ xs, Cg (ev l x) 0) (z : Int), Cg (ev l z) 0
 | [], _, l, hl, _, z => by
  have : l = [] := List.length_eq_zero_iff.1 (by simpa using hl)
  subst this
  exact .refl _
 | a :: xs, hp, l, hl, h, z => by
  have hp' := List.pairwise_cons.1 hp
  have h0 := h a (by simp)
  have ih := y4y xs hp'.2 (j56 a l) (by rw [z8i]; simp only [List.length_cons] at hl; omega) (fun x hx => by
   have h1 := h x (by simp [hx])
   rw [z6u a x l] at h1
   refine (hp'.1 x hx).cancel ?_
   have := (h1.sub h0)
   refine Cg.trans (.of_eq ?_) this
   omega) z
  rw [z6u a z l]
  exact (h0.add (j9y ih)).trans (.of_eq (Int.add_zero _))
section
variable (pts : List (Int × Int))
abbrev X (i : Nat) : Int := (pts.getD i (0, 0)).1
abbrev Y (i : Nat) : Int := (pts.getD i (0, 0)).2
def k14 (f : Nat → Int) (i : Nat) : Nat → Int
 | 0 => 1
 | k + 1 => if k = i then k14 f i k else k14 f i k * f k
def z2y (z : Int) (i : Nat) : Int := Y pts i * k14 (fun k => z - X pts k) i pts.length * k71 (k14 (fun k => X pts i - X pts k) i pts.length)
def z40 (z : Int) : Nat → Int
 | 0 => 0
 | i + 1 => z40 z i + z2y pts z i
def atV (z : Int) : Int := z40 pts z pts.length % Qi
end
theorem z1h (pts : List (Int × Int)) (i : Nat) : ∀ k, PolyF (if k ≤ i then k + 1 else k) (fun z => k14 (fun k => z - X pts k) i k)
 | 0 => by rw [if_pos (Nat.zero_le _)]; exact .const 1 (by omega)
 | k + 1 => by
  have ih := z1h pts i k
  simp only [k14]
  by_cases e : k = i
  ·subst e
   rw [if_pos (Nat.le_refl _)] at ih
   rw [if_neg (by omega)]
   simp only [if_true]
   exact ih
  ·simp only [if_neg e]
   refine (PolyF.mulX _ ih).mono ?_
   split <;> split <;> omega
theorem j21 {pts : List (Int × Int)} {i : Nat} (hi : i < pts.length) : PolyF pts.length (fun z => z2y pts z i) := by
 have h := z1h pts i pts.length
 rw [if_neg (by omega)] at h
 obtain ⟨l, h1, h2⟩ := (h.smul (Y pts i * k71 (k14 (fun k => X pts i - X pts k) i pts.length)))
 refine ⟨l, h1, fun z => ?_⟩
 rw [← h2]
 simp only [z2y]
 grind
theorem z2z (pts : List (Int × Int)) : ∀ i, i ≤ pts.length → PolyF pts.length (fun z => z40 pts z i)
 | 0, _ => .zero
 | i + 1, h => (z2z pts i (by omega)).add (j21 (by omega))
theorem j9z (pts : List (Int × Int)) : ∃ l : List Int, l.length ≤ pts.length ∧ ∀ z, atV pts z = ev l z % Qi := by
 obtain ⟨l, h1, h2⟩ := z2z pts pts.length (Nat.le_refl _)
 exact ⟨l, h1, fun z => by unfold atV; rw [← h2]⟩
structure GoodP (pts : List (Int × Int)) : Prop where
 x : ∀ i, i < pts.length → 0 ≤ X pts i ∧ X pts i ≤ 256
 ne : ∀ i k, i < pts.length → k < pts.length → i ≠ k → X pts i ≠ X pts k
theorem GoodP.unit {pts : List (Int × Int)} (h : GoodP pts) {i k : Nat} (hi : i < pts.length) (hk : k < pts.length) (hne : i ≠ k) : Unit (X pts i - X pts k) :=
 j55 (h.x i hi).1 (h.x i hi).2 (h.x k hk).1 (h.x k hk).2 (h.ne i k hi hk hne)
theorem z1i {f : Nat → Int} {i : Nat} : ∀ {n : Nat} (_ : ∀ k, k < n → k ≠ i → Unit (f k)), Unit (k14 f i n)
 | 0, _ => by
  have h : Unit 1 := by show k71 1 * 1 % Qi = 1 % Qi; decide +kernel
  exact h
 | n + 1, h => by
  have ih := z1i (f := f) (i := i) (n := n) fun k hk => h k (by omega)
  simp only [k14]
  by_cases e : n = i
  ·rw [if_pos e]; exact ih
  ·rw [if_neg e]; exact ih.mul (h n (by omega) e)
theorem z1j {f : Nat → Int} {i m : Nat} (hm : m ≠ i) (h0 : f m = 0) : ∀ {n : Nat}, m < n → k14 f i n = 0
 | 0, h => by omega
 | n + 1, h => by
  simp only [k14]
  by_cases e : m = n
  ·subst e
   rw [if_neg hm, h0, Int.mul_zero]
  ·have ih := z1j (f := f) hm h0 (n := n) (by omega)
   split
   ·exact ih
   ·rw [ih, Int.zero_mul]
theorem z8j {pts : List (Int × Int)} (hg : GoodP pts) {m : Nat} (hm : m < pts.length) : ∀ i, i ≤ pts.length → Cg (z40 pts (X pts m) i) (if m < i then Y pts m else 0)
 | 0, _ => by rw [if_neg (by omega)]; exact .refl _
 | i + 1, hi => by
  have ih := z8j hg hm i (by omega)
  simp only [z40]
  by_cases e : m = i
  ·subst e
   rw [if_neg (by omega)] at ih
   rw [if_pos (by omega)]
   have hu : Unit (k14 (fun k => X pts m - X pts k) m pts.length) := z1i fun k hk hne => hg.unit hm hk (fun e => hne e.symm)
   refine (ih.add (.refl _)).trans ?_
   rw [Int.zero_add]
   unfold z2y
   rw [Int.mul_assoc, Int.mul_comm (k14 _ _ _)]
   exact (Cg.mul (.refl _) hu).trans (.of_eq (Int.mul_one _))
  ·have h0 : z2y pts (X pts m) i = 0 := by
    unfold z2y
    rw [z1j (f := fun k => X pts m - X pts k) e (Int.sub_self _) hm, Int.mul_zero, Int.zero_mul]
   rw [h0, Int.add_zero]
   refine ih.trans (.of_eq ?_)
   by_cases h1 : m < i
   ·rw [if_pos h1, if_pos (by omega)]
   ·rw [if_neg h1, if_neg (by omega)]
theorem j22 {pts : List (Int × Int)} (hg : GoodP pts) {m : Nat} (hm : m < pts.length) : atV pts (X pts m) = Y pts m % Qi := by
 have := z8j hg hm pts.length (Nat.le_refl _)
 rw [if_pos hm] at this
 exact this
def y6w (l : List Int) : List Int := l.map (-1 * ·)
theorem j23 {pts : List (Int × Int)} (hg : GoodP pts) {l : List Int} (hl : l.length ≤ pts.length) (hy : ∀ i, i < pts.length → Cg (Y pts i) (ev l (X pts i))) (z : Int) : atV pts z = ev l z % Qi := by
 obtain ⟨q, h1, h2⟩ := z2z pts pts.length (Nat.le_refl _)
 have key := y4y ((List.range pts.length).map (X pts)) (List.pairwise_map.2 (List.pairwise_iff_getElem.2 fun i k hi hk hik => by
   simp only [List.length_range] at hi hk
   simp only [List.getElem_range]
   exact hg.unit hk hi (by omega))) (j08 q (y6w l)) (by
   simp only [List.length_map, List.length_range]
   exact k72 _ _ h1 (by simpa [y6w] using hl)) (fun x hx => by
   obtain ⟨i, hi, rfl⟩ := List.mem_map.1 hx
   rw [List.mem_range] at hi
   rw [k88, y6w, z4z, ← h2]
   have a := j22 hg hi
   have b := hy i hi
   have c : Cg (z40 pts (X pts i) pts.length) (ev l (X pts i)) := Cg.trans a b
   exact (c.add (.refl _)).trans (.of_eq (by omega))) z
 rw [k88, y6w, z4z, ← h2] at key
 simp only at key
 show z40 pts z pts.length % Qi = _
 have := key.add (.refl (ev l z))
 exact Cg.trans (.of_eq (by omega)) (this.trans (.of_eq (by omega)))
end Go.Pv.Ip

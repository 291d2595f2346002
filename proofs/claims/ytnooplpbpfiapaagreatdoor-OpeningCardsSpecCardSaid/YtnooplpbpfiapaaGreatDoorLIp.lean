/- Plain: polynomials modulo the prime, and the one through some points. -/
import Derived.KernelRfl
namespace Go.Pv.Ip
abbrev Qi : Int := 1073741789
def ev : List Int → Int → Int
 | [], _ => 0
 | c :: l, x => c + x * ev l x
def Cg (a b : Int) : Prop := a % Qi = b % Qi
theorem Cg.refl (a : Int) : Cg a a := rfl
theorem Cg.symm {a b : Int} (h : Cg a b) : Cg b a := Eq.symm h
theorem Cg.trans {a b c : Int} (h : Cg a b) (k : Cg b c) : Cg a c := Eq.trans h k
theorem Cg.of_eq {a b : Int} (h : a = b) : Cg a b := h ▸ rfl
theorem Cg.mod (a : Int) : Cg (a % Qi) a := Int.emod_emod_of_dvd a (Int.dvd_refl Qi)
theorem Cg.add {a b c d : Int} (h : Cg a b) (k : Cg c d) : Cg (a + c) (b + d) := by
 unfold Cg at *
 rw [Int.add_emod, h, k, ← Int.add_emod]
theorem Cg.mul {a b c d : Int} (h : Cg a b) (k : Cg c d) : Cg (a * c) (b * d) := by
 unfold Cg at *
 rw [Int.mul_emod, h, k, ← Int.mul_emod]
theorem k0c (a : Int) : 0 ≤ a % Qi ∧ a % Qi < Qi := ⟨Int.emod_nonneg _ (by decide), Int.emod_lt_of_pos _ (by decide)⟩
def j3a (poly : List Int) (X : Int) : Nat → List Int
 | 0 => List.replicate (poly.length + 1) 0
 | j + 1 => ((j3a poly X j).set (j + 1) (((j3a poly X j).getD (j + 1) 0 + poly.getD j 0) % Qi)).set j ((((j3a poly X j).set (j + 1) (((j3a poly X j).getD (j + 1) 0 + poly.getD j 0) % Qi)).getD j 0 + poly.getD j 0 * (Qi - X)) % Qi)
def y8c (out poly : List Int) (s : Int) : Nat → List Int
 | 0 => out
 | j + 1 => (y8c out poly s j).set j (((y8c out poly s j).getD j 0 + poly.getD j 0 * s) % Qi)
def k2j : Nat → Int → Int → Int → Int
 | 0, c, _, _ => c
 | f + 1, c, n, k => if k > 0 then k2j f (if k % 2 = 1 then c * n % Qi else c) (n * n % Qi) (k / 2) else c
def invF (n : Int) : Int := k2j 31 1 n (Qi - 2)
def z62 (pts : List (Int × Int)) (i : Nat) : Nat → List Int × Int
 | 0 => ([1], (pts.getD i (0, 0)).2)
 | k + 1 => if k = i then z62 pts i k else (j3a (z62 pts i k).1 (pts.getD k (0, 0)).1 (z62 pts i k).1.length, (z62 pts i k).2 * invF (((pts.getD i (0, 0)).1 - (pts.getD k (0, 0)).1 + Qi) % Qi) % Qi)
def y41 (pts : List (Int × Int)) : Nat → List Int
 | 0 => List.replicate pts.length 0
 | i + 1 => y8c (y41 pts i) (z62 pts i pts.length).1 (z62 pts i pts.length).2 (z62 pts i pts.length).1.length
def j98 (pts : List (Int × Int)) : List Int := y41 pts pts.length
theorem Cg.neg {a b : Int} (h : Cg a b) : Cg (-a) (-b) := by
 have := Cg.mul (.refl (-1)) h
 simpa using this
theorem Cg.mod' (a : Int) : Cg a (a % Qi) := (Cg.mod a).symm
theorem Cg.emod {a b : Int} (h : Cg a b) : a % Qi = b % Qi := h
def k3l (n : Int) : Int := k2j 31 1 (n % Qi) (Qi - 2)
theorem z1u {a b : Int} (h : Cg a b) : k3l a = k3l b := by unfold k3l; rw [h.emod]
theorem k9m : ∀ (f : Nat) {c d e m n p : Int} (_ : Cg (c * d) e) (_ : Cg (m * n) p) (k : Int), Cg (k2j f c m k * k2j f d n k) (k2j f e p k)
 | 0, _, _, _, _, _, _, h, _, _ => h
 | f + 1, c, d, e, m, n, p, h, h2, k => by
  rw [k2j, k2j, k2j]
  by_cases hk : k > 0
  ·rw [if_pos hk, if_pos hk, if_pos hk]
   have g : Cg (m * m % Qi * (n * n % Qi)) (p * p % Qi) := by
    refine ((Cg.mod _).mul (Cg.mod _)).trans (Cg.trans (.of_eq ?_) ((h2.mul h2).trans (Cg.mod' _)))
    grind
   by_cases hb : k % 2 = 1
   ·rw [if_pos hb, if_pos hb, if_pos hb]
    refine k9m f ?_ g _
    refine ((Cg.mod _).mul (Cg.mod _)).trans (Cg.trans (.of_eq ?_) ((h.mul h2).trans (Cg.mod' _)))
    grind
   ·rw [if_neg hb, if_neg hb, if_neg hb]
    exact k9m f h g _
  ·rw [if_neg hk, if_neg hk, if_neg hk]
   exact h
theorem z82 (a b : Int) : Cg (k3l a * k3l b) (k3l (a * b)) :=
 k9m 31 (c := 1) (d := 1) (e := 1) (.refl _) (((Cg.mod a).mul (Cg.mod b)).trans (Cg.mod' _)) _
def Unit (a : Int) : Prop := Cg (k3l a * a) 1
theorem Unit.mul {a b : Int} (h : Unit a) (k : Unit b) : Unit (a * b) := by
 refine ((z82 a b).symm.mul (.refl _)).trans (Cg.trans (.of_eq ?_) ((Cg.mul h k).trans (.of_eq (Int.mul_one _))))
 rw [Int.mul_assoc, Int.mul_assoc, ← Int.mul_assoc (k3l b) a b, Int.mul_comm (k3l b) a, Int.mul_assoc a]
theorem j0d : ∀ d : Nat, d < 257 → d ≠ 0 → k3l (d : Int) * (d : Int) % Qi = 1 := by decide +kernel
theorem j3b : k3l (-1) * (-1) % Qi = 1 := by decide +kernel
theorem j6f {a b : Int} (ha : 0 ≤ a) (ha2 : a ≤ 256) (hb : 0 ≤ b) (hb2 : b ≤ 256) (hne : a ≠ b) : Unit (a - b) := by
 have key : ∀ d : Nat, d < 257 → d ≠ 0 → Unit (d : Int) := fun d h1 h2 => by
  show _ % Qi = 1 % Qi
  rw [j0d d h1 h2]; rfl
 by_cases h : b < a
 ·obtain ⟨d, hd⟩ : ∃ d : Nat, (d : Int) = a - b := ⟨(a - b).toNat, Int.toNat_of_nonneg (by omega)⟩
  rw [← hd]
  exact key d (by omega) (by omega)
 ·obtain ⟨d, hd⟩ : ∃ d : Nat, (d : Int) = b - a := ⟨(b - a).toNat, Int.toNat_of_nonneg (by omega)⟩
  have e : a - b = -1 * (d : Int) := by omega
  rw [e]
  refine Unit.mul ?_ (key d (by omega) (by omega))
  show _ % Qi = 1 % Qi
  rw [j3b]; rfl
section
variable (pts : List (Int × Int))
abbrev X (i : Nat) : Int := (pts.getD i (0, 0)).1
abbrev Y (i : Nat) : Int := (pts.getD i (0, 0)).2
def k2k (f : Nat → Int) (i : Nat) : Nat → Int
 | 0 => 1
 | k + 1 => if k = i then k2k f i k else k2k f i k * f k
def z63 (z : Int) (i : Nat) : Int := Y pts i * k2k (fun k => z - X pts k) i pts.length * k3l (k2k (fun k => X pts i - X pts k) i pts.length)
def z3b (z : Int) : Nat → Int
 | 0 => 0
 | i + 1 => z3b z i + z63 pts z i
def atV (z : Int) : Int := z3b pts z pts.length % Qi
end
structure GoodP (pts : List (Int × Int)) : Prop where
 x : ∀ i, i < pts.length → 0 ≤ X pts i ∧ X pts i ≤ 256
 ne : ∀ i k, i < pts.length → k < pts.length → i ≠ k → X pts i ≠ X pts k
theorem GoodP.unit {pts : List (Int × Int)} (h : GoodP pts) {i k : Nat} (hi : i < pts.length) (hk : k < pts.length) (hne : i ≠ k) : Unit (X pts i - X pts k) :=
 j6f (h.x i hi).1 (h.x i hi).2 (h.x k hk).1 (h.x k hk).2 (h.ne i k hi hk hne)
def k2x (pts : List (Int × Int)) (z : Int) (i n : Nat) : Int := Y pts i * k2k (fun k => (z - X pts k) * k3l (X pts i - X pts k)) i n
theorem j6g : k3l 1 = 1 := by decide +kernel
theorem z1v {f g : Nat → Int} {i : Nat} : ∀ n, Cg (k2k (fun k => f k * k3l (g k)) i n) (k2k f i n * k3l (k2k g i n))
 | 0 => by
  have h : Cg (1 : Int) (1 * k3l 1) := by rw [j6g]; exact .refl _
  exact h
 | n + 1 => by
  have ih := z1v (f := f) (g := g) (i := i) n
  simp only [k2k]
  by_cases e : n = i
  ·rw [if_pos e, if_pos e, if_pos e]; exact ih
  ·rw [if_neg e, if_neg e, if_neg e]
   refine (ih.mul (.refl _)).trans ?_
   refine Cg.trans (.of_eq ?_) (Cg.mul (.refl (k2k f i n * f n)) (z82 _ _))
   grind
theorem j3c (pts : List (Int × Int)) (z : Int) (i : Nat) : Cg (k2x pts z i pts.length) (z63 pts z i) := by
 unfold k2x z63
 rw [Int.mul_assoc]
 exact Cg.mul (.refl _) (z1v pts.length)
end Go.Pv.Ip

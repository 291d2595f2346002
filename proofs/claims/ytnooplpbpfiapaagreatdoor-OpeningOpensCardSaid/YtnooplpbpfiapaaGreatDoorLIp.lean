/- Plain: polynomials modulo the prime, and the one through some points. -/
import Derived.KernelRfl
namespace Go.Pv.Ip
abbrev Qi : Int := 1073741789
def ev : List Int → Int → Int
 | [], _ => 0
 | c :: l, x => c + x * ev l x
def Cg (a b : Int) : Prop := a % Qi = b % Qi
theorem Cg.refl (a : Int) : Cg a a := rfl
theorem Cg.symm {a b : Int} (h : Cg a b) : Cg b a := Eq.symm h
theorem Cg.trans {a b c : Int} (h : Cg a b) (k : Cg b c) : Cg a c := Eq.trans h k
theorem Cg.of_eq {a b : Int} (h : a = b) : Cg a b := h ▸ rfl
theorem Cg.mod (a : Int) : Cg (a % Qi) a := Int.emod_emod_of_dvd a (Int.dvd_refl Qi)
theorem Cg.add {a b c d : Int} (h : Cg a b) (k : Cg c d) : Cg (a + c) (b + d) := by
 unfold Cg at *
 rw [Int.add_emod, h, k, ← Int.add_emod]
theorem Cg.mul {a b c d : Int} (h : Cg a b) (k : Cg c d) : Cg (a * c) (b * d) := by
 unfold Cg at *
 rw [Int.mul_emod, h, k, ← Int.mul_emod]
theorem k3v (a : Int) : 0 ≤ a % Qi ∧ a % Qi < Qi := ⟨Int.emod_nonneg _ (by decide), Int.emod_lt_of_pos _ (by decide)⟩
theorem z22 : ∀ (l m : List Int) (x : Int), ev (l ++ m) x = ev l x + x ^ l.length * ev m x
 | [], m, x => by simp [ev]
 | c :: l, m, x => by
  simp only [List.cons_append, ev, List.length_cons]
  rw [z22 l m x, Int.pow_succ, Int.mul_add, Int.add_assoc]
  congr 2
  rw [← Int.mul_assoc, Int.mul_comm x (x ^ l.length)]
theorem j73 (l : List Int) (c x : Int) : ev (l ++ [c]) x = ev l x + x ^ l.length * c := by
 rw [z22]; simp [ev]
def j02 (poly : List Int) (X : Int) : Nat → List Int
 | 0 => List.replicate (poly.length + 1) 0
 | j + 1 => ((j02 poly X j).set (j + 1) (((j02 poly X j).getD (j + 1) 0 + poly.getD j 0) % Qi)).set j ((((j02 poly X j).set (j + 1) (((j02 poly X j).getD (j + 1) 0 + poly.getD j 0) % Qi)).getD j 0 + poly.getD j 0 * (Qi - X)) % Qi)
def y6q (out poly : List Int) (s : Int) : Nat → List Int
 | 0 => out
 | j + 1 => (y6q out poly s j).set j (((y6q out poly s j).getD j 0 + poly.getD j 0 * s) % Qi)
def k1i : Nat → Int → Int → Int → Int
 | 0, c, _, _ => c
 | f + 1, c, n, k => if k > 0 then k1i f (if k % 2 = 1 then c * n % Qi else c) (n * n % Qi) (k / 2) else c
def invF (n : Int) : Int := k1i 31 1 n (Qi - 2)
def z4r (pts : List (Int × Int)) (i : Nat) : Nat → List Int × Int
 | 0 => ([1], (pts.getD i (0, 0)).2)
 | k + 1 => if k = i then z4r pts i k else (j02 (z4r pts i k).1 (pts.getD k (0, 0)).1 (z4r pts i k).1.length, (z4r pts i k).2 * invF (((pts.getD i (0, 0)).1 - (pts.getD k (0, 0)).1 + Qi) % Qi) % Qi)
def y26 (pts : List (Int × Int)) : Nat → List Int
 | 0 => List.replicate pts.length 0
 | i + 1 => y6q (y26 pts i) (z4r pts i pts.length).1 (z4r pts i pts.length).2 (z4r pts i pts.length).1.length
def j74 (pts : List (Int × Int)) : List Int := y26 pts pts.length
theorem Cg.neg {a b : Int} (h : Cg a b) : Cg (-a) (-b) := by
 have := Cg.mul (.refl (-1)) h
 simpa using this
theorem Cg.sub {a b c d : Int} (h : Cg a b) (k : Cg c d) : Cg (a - c) (b - d) := by
 rw [Int.sub_eq_add_neg, Int.sub_eq_add_neg]; exact h.add k.neg
theorem Cg.mod' (a : Int) : Cg a (a % Qi) := (Cg.mod a).symm
theorem Cg.emod {a b : Int} (h : Cg a b) : a % Qi = b % Qi := h
def k6c (n : Int) : Int := k1i 31 1 (n % Qi) (Qi - 2)
theorem z72 {a b : Int} (h : Cg a b) : k6c a = k6c b := by unfold k6c; rw [h.emod]
theorem k7i : ∀ (f : Nat) {c d e m n p : Int} (_ : Cg (c * d) e) (_ : Cg (m * n) p) (k : Int), Cg (k1i f c m k * k1i f d n k) (k1i f e p k)
 | 0, _, _, _, _, _, _, h, _, _ => h
 | f + 1, c, d, e, m, n, p, h, h2, k => by
  rw [k1i, k1i, k1i]
  by_cases hk : k > 0
  ·rw [if_pos hk, if_pos hk, if_pos hk]
   have g : Cg (m * m % Qi * (n * n % Qi)) (p * p % Qi) := by
    refine ((Cg.mod _).mul (Cg.mod _)).trans (Cg.trans (.of_eq ?_) ((h2.mul h2).trans (Cg.mod' _)))
    grind
   by_cases hb : k % 2 = 1
   ·rw [if_pos hb, if_pos hb, if_pos hb]
    refine k7i f ?_ g _
    refine ((Cg.mod _).mul (Cg.mod _)).trans (Cg.trans (.of_eq ?_) ((h.mul h2).trans (Cg.mod' _)))
    grind
   ·rw [if_neg hb, if_neg hb, if_neg hb]
    exact k7i f h g _
  ·rw [if_neg hk, if_neg hk, if_neg hk]
   exact h
theorem j39 (a b : Int) : Cg (k6c a * k6c b) (k6c (a * b)) :=
 k7i 31 (c := 1) (d := 1) (e := 1) (.refl _) (((Cg.mod a).mul (Cg.mod b)).trans (Cg.mod' _)) _
def Unit (a : Int) : Prop := Cg (k6c a * a) 1
theorem Unit.mul {a b : Int} (h : Unit a) (k : Unit b) : Unit (a * b) := by
 refine ((j39 a b).symm.mul (.refl _)).trans (Cg.trans (.of_eq ?_) ((Cg.mul h k).trans (.of_eq (Int.mul_one _))))
 rw [Int.mul_assoc, Int.mul_assoc, ← Int.mul_assoc (k6c b) a b, Int.mul_comm (k6c b) a, Int.mul_assoc a]
theorem Unit.cancel {a b : Int} (h : Unit a) (k : Cg (a * b) 0) : Cg b 0 := by
 have e : Cg (k6c a * (a * b)) (1 * b) := by rw [← Int.mul_assoc]; exact Cg.mul h (.refl _)
 rw [Int.one_mul] at e
 exact e.symm.trans ((Cg.mul (.refl _) k).trans (.of_eq (Int.mul_zero _)))
theorem z73 : ∀ d : Nat, d < 257 → d ≠ 0 → k6c (d : Int) * (d : Int) % Qi = 1 := by decide +kernel
theorem j03 : k6c (-1) * (-1) % Qi = 1 := by decide +kernel
theorem j4a {a b : Int} (ha : 0 ≤ a) (ha2 : a ≤ 256) (hb : 0 ≤ b) (hb2 : b ≤ 256) (hne : a ≠ b) : Unit (a - b) := by
 have key : ∀ d : Nat, d < 257 → d ≠ 0 → Unit (d : Int) := fun d h1 h2 => by
  show _ % Qi = 1 % Qi
  rw [z73 d h1 h2]; rfl
 by_cases h : b < a
 ·obtain ⟨d, hd⟩ : ∃ d : Nat, (d : Int) = a - b := ⟨(a - b).toNat, Int.toNat_of_nonneg (by omega)⟩
  rw [← hd]
  exact key d (by omega) (by omega)
 ·obtain ⟨d, hd⟩ : ∃ d : Nat, (d : Int) = b - a := ⟨(b - a).toNat, Int.toNat_of_nonneg (by omega)⟩
  have e : a - b = -1 * (d : Int) := by omega
  rw [e]
  refine Unit.mul ?_ (key d (by omega) (by omega))
  show _ % Qi = 1 % Qi
  rw [j03]; rfl
def PolyF (n : Nat) (f : Int → Int) : Prop := ∃ l : List Int, l.length ≤ n ∧ ∀ z, f z = ev l z
def z9f : List Int → List Int → List Int
 | [], m => m
 | l, [] => l
 | a :: l, b :: m => (a + b) :: z9f l m
theorem k7j : ∀ (l m : List Int) (z : Int), ev (z9f l m) z = ev l z + ev m z
 | [], m, z => by simp [z9f, ev]
 | a :: l, [], z => by simp [z9f, ev]
 | a :: l, b :: m, z => by
  simp only [z9f, ev, k7j l m z, Int.mul_add]
  omega
theorem k6d : ∀ (l m : List Int) {n : Nat}, l.length ≤ n → m.length ≤ n → (z9f l m).length ≤ n
 | [], m, n, _, h => by simpa [z9f] using h
 | a :: l, [], n, h, _ => by simpa [z9f] using h
 | a :: l, b :: m, 0, h, _ => by simp at h
 | a :: l, b :: m, n + 1, h, h2 => by
  simp only [z9f, List.length_cons, Nat.add_le_add_iff_right] at h h2 ⊢
  exact k6d l m h h2
theorem PolyF.zero {n : Nat} : PolyF n (fun _ => 0) := ⟨[], by simp, fun _ => rfl⟩
theorem PolyF.add {n : Nat} {f g : Int → Int} (hf : PolyF n f) (hg : PolyF n g) : PolyF n (fun z => f z + g z) := by
 obtain ⟨l, h1, h2⟩ := hf
 obtain ⟨m, h3, h4⟩ := hg
 exact ⟨z9f l m, k6d l m h1 h3, fun z => by simp only [k7j, h2, h4]⟩
theorem z23 (c : Int) : ∀ (l : List Int) (z : Int), ev (l.map (c * ·)) z = c * ev l z
 | [], z => by simp [ev]
 | a :: l, z => by
  simp only [List.map_cons, ev, z23 c l z, Int.mul_add]
  rw [← Int.mul_assoc, ← Int.mul_assoc, Int.mul_comm z c]
theorem PolyF.smul {n : Nat} {f : Int → Int} (c : Int) (hf : PolyF n f) : PolyF n (fun z => c * f z) := by
 obtain ⟨l, h1, h2⟩ := hf
 exact ⟨l.map (c * ·), by simpa using h1, fun z => by simp only [z23, h2]⟩
theorem PolyF.const (c : Int) {n : Nat} (h : 0 < n) : PolyF n (fun _ => c) := ⟨[c], by simp; omega, fun z => by simp [ev]⟩
theorem PolyF.mulX {n : Nat} {f : Int → Int} (a : Int) (hf : PolyF n f) : PolyF (n + 1) (fun z => f z * (z - a)) := by
 obtain ⟨l, h1, h2⟩ := hf
 refine ⟨z9f (0 :: l) (l.map (-a * ·)), k6d _ _ (by simpa using h1) (by simp; omega), fun z => ?_⟩
 simp only [k7j, z23, h2, ev]
 grind
theorem PolyF.mono {n m : Nat} {f : Int → Int} (hf : PolyF n f) (h : n ≤ m) : PolyF m f := by
 obtain ⟨l, h1, h2⟩ := hf
 exact ⟨l, by omega, h2⟩
def j4b (a : Int) : List Int → List Int
 | [] => []
 | [_] => []
 | _ :: b :: l => ev (b :: l) a :: j4b a (b :: l)
theorem z6n (a : Int) : ∀ l : List Int, (j4b a l).length = l.length - 1
 | [] => rfl
 | [_] => rfl
 | _ :: b :: l => by
  have := z6n a (b :: l)
  simp only [j4b, List.length_cons] at this ⊢
  omega
theorem z4s (a z : Int) : ∀ l : List Int, ev l z = ev l a + (z - a) * ev (j4b a l) z
 | [] => by simp [ev, j4b]
 | [c] => by simp [ev, j4b]
 | c :: b :: l => by
  have ih := z4s a z (b :: l)
  have e : ∀ x, ev (c :: b :: l) x = c + x * ev (b :: l) x := fun _ => rfl
  have e2 : ev (j4b a (c :: b :: l)) z = ev (b :: l) a + z * ev (j4b a (b :: l)) z := rfl
  rw [e, e, e2, ih]
  grind
theorem j75 {a b : Int} (h : Cg b 0) : Cg (a * b) 0 := (Cg.mul (.refl a) h).trans (.of_eq (Int.mul_zero _))
theorem y27 : ∀ (xs : List Int) (_ : xs.Pairwise fun a b => Unit (b - a)) (l : List Int) (_ : l.length ≤ xs.length) (_ : ∀ x ∈ xs, Cg (ev l x) 0) (z : Int), Cg (ev l z) 0
 | [], _, l, hl, _, z => by
  have : l = [] := List.length_eq_zero_iff.1 (by simpa using hl)
  subst this
  exact .refl _
 | a :: xs, hp, l, hl, h, z => by
  have hp' := List.pairwise_cons.1 hp
  have h0 := h a (by simp)
  have ih := y27 xs hp'.2 (j4b a l) (by rw [z6n]; simp only [List.length_cons] at hl; omega) (fun x hx => by
   have h1 := h x (by simp [hx])
   rw [z4s a x l] at h1
   refine (hp'.1 x hx).cancel ?_
   have := (h1.sub h0)
   refine Cg.trans (.of_eq ?_) this
   omega) z
  rw [z4s a z l]
  exact (h0.add (j75 ih)).trans (.of_eq (Int.add_zero _))
section
variable (pts : List (Int × Int))
abbrev X (i : Nat) : Int := (pts.getD i (0, 0)).1
abbrev Y (i : Nat) : Int := (pts.getD i (0, 0)).2
def k0l (f : Nat → Int) (i : Nat) : Nat → Int
 | 0 => 1
 | k + 1 => if k = i then k0l f i k else k0l f i k * f k
def z07 (z : Int) (i : Nat) : Int := Y pts i * k0l (fun k => z - X pts k) i pts.length * k6c (k0l (fun k => X pts i - X pts k) i pts.length)
def z24 (z : Int) : Nat → Int
 | 0 => 0
 | i + 1 => z24 z i + z07 pts z i
def atV (z : Int) : Int := z24 pts z pts.length % Qi
end
theorem k9p (pts : List (Int × Int)) (i : Nat) : ∀ k, PolyF (if k ≤ i then k + 1 else k) (fun z => k0l (fun k => z - X pts k) i k)
 | 0 => by rw [if_pos (Nat.zero_le _)]; exact .const 1 (by omega)
 | k + 1 => by
  have ih := k9p pts i k
  simp only [k0l]
  by_cases e : k = i
  ·subst e
   rw [if_pos (Nat.le_refl _)] at ih
   rw [if_neg (by omega)]
   simp only [if_true]
   exact ih
  ·simp only [if_neg e]
   refine (PolyF.mulX _ ih).mono ?_
   split <;> split <;> omega
theorem j04 {pts : List (Int × Int)} {i : Nat} (hi : i < pts.length) : PolyF pts.length (fun z => z07 pts z i) := by
 have h := k9p pts i pts.length
 rw [if_neg (by omega)] at h
 obtain ⟨l, h1, h2⟩ := (h.smul (Y pts i * k6c (k0l (fun k => X pts i - X pts k) i pts.length)))
 refine ⟨l, h1, fun z => ?_⟩
 rw [← h2]
 simp only [z07]
 grind
theorem z6o (pts : List (Int × Int)) : ∀ i, i ≤ pts.length → PolyF pts.length (fun z => z24 pts z i)
 | 0, _ => .zero
 | i + 1, h => (z6o pts i (by omega)).add (j04 (by omega))
structure GoodP (pts : List (Int × Int)) : Prop where
 x : ∀ i, i < pts.length → 0 ≤ X pts i ∧ X pts i ≤ 256
 ne : ∀ i k, i < pts.length → k < pts.length → i ≠ k → X pts i ≠ X pts k
theorem GoodP.unit {pts : List (Int × Int)} (h : GoodP pts) {i k : Nat} (hi : i < pts.length) (hk : k < pts.length) (hne : i ≠ k) : Unit (X pts i - X pts k) :=
 j4a (h.x i hi).1 (h.x i hi).2 (h.x k hk).1 (h.x k hk).2 (h.ne i k hi hk hne)
theorem k9q {f : Nat → Int} {i : Nat} : ∀ {n : Nat} (_ : ∀ k, k < n → k ≠ i → Unit (f k)), Unit (k0l f i n)
 | 0, _ => by
  have h : Unit 1 := by show k6c 1 * 1 % Qi = 1 % Qi; decide +kernel
  exact h
 | n + 1, h => by
  have ih := k9q (f := f) (i := i) (n := n) fun k hk => h k (by omega)
  simp only [k0l]
  by_cases e : n = i
  ·rw [if_pos e]; exact ih
  ·rw [if_neg e]; exact ih.mul (h n (by omega) e)
theorem k9r {f : Nat → Int} {i m : Nat} (hm : m ≠ i) (h0 : f m = 0) : ∀ {n : Nat}, m < n → k0l f i n = 0
 | 0, h => by omega
 | n + 1, h => by
  simp only [k0l]
  by_cases e : m = n
  ·subst e
   rw [if_neg hm, h0, Int.mul_zero]
  ·have ih := k9r (f := f) hm h0 (n := n) (by omega)
   split
   ·exact ih
   ·rw [ih, Int.zero_mul]
theorem z6p {pts : List (Int × Int)} (hg : GoodP pts) {m : Nat} (hm : m < pts.length) : ∀ i, i ≤ pts.length → Cg (z24 pts (X pts m) i) (if m < i then Y pts m else 0)
 | 0, _ => by rw [if_neg (by omega)]; exact .refl _
 | i + 1, hi => by
  have ih := z6p hg hm i (by omega)
  simp only [z24]
  by_cases e : m = i
  ·subst e
   rw [if_neg (by omega)] at ih
   rw [if_pos (by omega)]
   have hu : Unit (k0l (fun k => X pts m - X pts k) m pts.length) := k9q fun k hk hne => hg.unit hm hk (fun e => hne e.symm)
   refine (ih.add (.refl _)).trans ?_
   rw [Int.zero_add]
   unfold z07
   rw [Int.mul_assoc, Int.mul_comm (k0l _ _ _)]
   exact (Cg.mul (.refl _) hu).trans (.of_eq (Int.mul_one _))
  ·have h0 : z07 pts (X pts m) i = 0 := by
    unfold z07
    rw [k9r (f := fun k => X pts m - X pts k) e (Int.sub_self _) hm, Int.mul_zero, Int.zero_mul]
   rw [h0, Int.add_zero]
   refine ih.trans (.of_eq ?_)
   by_cases h1 : m < i
   ·rw [if_pos h1, if_pos (by omega)]
   ·rw [if_neg h1, if_neg (by omega)]
theorem j76 {pts : List (Int × Int)} (hg : GoodP pts) {m : Nat} (hm : m < pts.length) : atV pts (X pts m) = Y pts m % Qi := by
 have := z6p hg hm pts.length (Nat.le_refl _)
 rw [if_pos hm] at this
 exact this
def y5a (l : List Int) : List Int := l.map (-1 * ·)
theorem j05 {pts : List (Int × Int)} (hg : GoodP pts) {l : List Int} (hl : l.length ≤ pts.length) (hy : ∀ i, i < pts.length → Cg (Y pts i) (ev l (X pts i))) (z : Int) : atV pts z = ev l z % Qi := by
 obtain ⟨q, h1, h2⟩ := z6o pts pts.length (Nat.le_refl _)
 have key := y27 ((List.range pts.length).map (X pts)) (List.pairwise_map.2 (List.pairwise_iff_getElem.2 fun i k hi hk hik => by
   simp only [List.length_range] at hi hk
   simp only [List.getElem_range]
   exact hg.unit hk hi (by omega))) (z9f q (y5a l)) (by
   simp only [List.length_map, List.length_range]
   exact k6d _ _ h1 (by simpa [y5a] using hl)) (fun x hx => by
   obtain ⟨i, hi, rfl⟩ := List.mem_map.1 hx
   rw [List.mem_range] at hi
   rw [k7j, y5a, z23, ← h2]
   have a := j76 hg hi
   have b := hy i hi
   have c : Cg (z24 pts (X pts i) pts.length) (ev l (X pts i)) := Cg.trans a b
   exact (c.add (.refl _)).trans (.of_eq (by omega))) z
 rw [k7j, y5a, z23, ← h2] at key
 simp only at key
 show z24 pts z pts.length % Qi = _
 have := key.add (.refl (ev l z))
 exact Cg.trans (.of_eq (by omega)) (this.trans (.of_eq (by omega)))
end Go.Pv.Ip

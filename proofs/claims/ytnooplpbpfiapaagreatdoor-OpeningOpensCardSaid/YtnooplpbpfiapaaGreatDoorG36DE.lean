/- OpeningKept. -/
import Derived.Test.YtnooplpbpfiapaaGreatDoorG36DB
import Derived.Test.YtnooplpbpfiapaaGreatDoorG36AE
import Derived.Test.YtnooplpbpfiapaaGreatDoorG36CG
namespace Go.Proofs.YtnooplpbpfiapaaGreatDoor
open Go.Pv
set_option maxRecDepth 100000
set_option maxHeartbeats 16000000
theorem Opd.row_drop (l : List Opd) (i : Nat) : (Opd.row l).drop (i * 2) = Opd.row (l.drop i) := k1d Opd.enc 2 Opd.len l i
theorem Opd.row_take (l : List Opd) (i : Nat) : (Opd.row l).take (i * 2) = Opd.row (l.take i) := k64 Opd.enc 2 Opd.len l i
theorem Opd.row_one (l : List Opd) (n : Nat) (h : n < l.length) : List.drop (n * 2) (List.take ((n + 1) * 2) (Opd.row l)) = l[n].enc := by
 rw [Opd.row_take, Opd.row_drop, List.take_succ_eq_append_getElem h, List.drop_left' (by rw [List.length_take]; omega)]
 simp [Opd.row]
open Go.Pv Go.Pv.Ip
set_option maxRecDepth 100000
set_option maxHeartbeats 16000000
theorem q99 {st0 : q37} {M : List Nat} {g : FuncId} {ps : List PV} {p : PV} {oa ob : PObj} (h : ∀ st, q4n st 0 = some oa → q4n st 1 = some ob → Rets P g ps st p) (h0 : q4n st0 0 = some oa) (h1 : q4n st0 1 = some ob) (n0 : 0 ∉ M) (n1 : 1 ∉ M) {K : PV → Prop} {QP : PV → q37 → Prop} (hk : K p) :
  k63 P (Cls st0 M) g ps K QP :=
 ⟨p, fun st hc => PCalls.mono (h st (hc 0 n0 _ h0) (hc 1 n1 _ h1)) fun _ _ ⟨e1, e2⟩ => ⟨e2, .inl e1⟩, hk⟩
abbrev y6w (mk kk : List (List Int)) (sa : List Dig) (mo : List (List (List Int))) : PV := .agg [LL mk, LL kk, DD sa, LLL mo]
def d32 : Dig := ⟨List.replicate 32 0#8, rfl⟩
def q6e (J : List Int) (C m : Nat) (mk kk : List (List Int)) (sa : List Dig) (mo : List (List (List Int))) : Pan :=
 ⟨J, C, m, fun k => mk.getD k [], fun k => kk.getD k [], fun k => sa.getD k d32, fun a c => (mo.getD a []).getD c []⟩
theorem j43 {J : List Int} {C m : Nat} {mk kk : List (List Int)} {sa : List Dig} {mo : List (List (List Int))} (hn : 2 ≤ J.length ∧ J.length ≤ 5) (hc : 1 ≤ C ∧ C ≤ 3) (hm : 1 ≤ m ∧ m + 1 ≤ J.length)
  (hr : q5f (z1m 1 2 C J m 100) = true) (hf : Fits mk kk sa mo J.length C m) : (q6e J C m mk kk sa mo).Ok := by
 refine ⟨(q5s _).1 hr, hn, hc, hm, fun k hk => ?_, fun k hk => ?_, fun k c hk hcc => ?_⟩
 ·have f := hf.a k hk
  refine ⟨f.l.1, fun x hx => ?_⟩
  obtain ⟨i, hi, rfl⟩ := List.mem_iff_getElem.1 hx
  have hi : i < (mk.getD k []).length := hi
  have g := f.b i (by have := f.l.1; omega)
  rw [q6y hi] at g
  exact ⟨g.1, g.2.1⟩
 ·have f := hf.a k hk
  refine ⟨f.l.2.1, fun x hx => ?_⟩
  obtain ⟨i, hi, rfl⟩ := List.mem_iff_getElem.1 hx
  have hi : i < (kk.getD k []).length := hi
  have g := (f.b i (by have := f.l.2.1; omega)).2.2
  rw [q6y hi] at g
  exact ⟨g.1, Int.le_of_lt_add_one (b := 1073741788) g.2.1⟩
 ·exact ((hf.a k hk).b c hcc).2.2.2.2
theorem z5u {n : Nat} {T : List Nat} (h : Perm n T) {i j : Nat} (hi : i < T.length) (hj : j < T.length) (e : T[i] = T[j]) : i = j := by
 have hp := List.pairwise_iff_getElem.1 h.nd
 rcases Nat.lt_trichotomy i j with k | k | k
 ·exact absurd e (hp i j hi hj k)
 ·exact k
 ·exact absurd e.symm (hp j i hj hi k)
theorem j83 {n : Nat} {T : List Nat} (hl : T.length = n) (hlt : ∀ i (h : i < T.length), T[i] < n) (hi : ∀ i j (h1 : i < T.length) (h2 : j < T.length), T[i] = T[j] → i = j) : Perm n T :=
 ⟨hl, List.pairwise_iff_getElem.2 fun i j h1 h2 h3 e => by have := hi i j h1 h2 e; omega, fun t ht => by
  obtain ⟨i, h, rfl⟩ := List.mem_iff_getElem.1 ht
  exact hlt i h⟩
theorem Perm.swap {n : Nat} {T : List Nat} (h : Perm n T) {i a : Nat} (hi : i < T.length) (ha : a < T.length) : Perm n ((T.set i T[a]).set a T[i]) := by
 refine j83 (by rw [List.length_set, List.length_set, h.len]) (fun k hk => ?_) fun k l hk hl e => ?_
 ·rw [List.length_set, List.length_set] at hk
  rw [List.getElem_set, List.getElem_set]
  split
  ·exact h.lt _ (List.getElem_mem _)
  ·split
   ·exact h.lt _ (List.getElem_mem _)
   ·exact h.lt _ (List.getElem_mem _)
 ·rw [List.length_set, List.length_set] at hk hl
  rw [List.getElem_set, List.getElem_set, List.getElem_set, List.getElem_set] at e
  split at e
  ·split at e
   ·omega
   ·split at e
    ·have := z5u h _ _ e; omega
    ·have := z5u h _ _ e; omega
  ·split at e
   ·split at e
    ·have := z5u h _ _ e; omega
    ·split at e
     ·omega
     ·have := z5u h _ _ e; omega
   ·split at e
    ·have := z5u h _ _ e; omega
    ·split at e
     ·have := z5u h _ _ e; omega
     ·exact z5u h _ _ e
theorem z83 (n : Nat) : Perm n (List.range n) := ⟨List.length_range, List.nodup_range, fun t ht => List.mem_range.1 ht⟩
theorem SealI.zlen {p : Pan} {V : List Nat} {i : Nat} {l : List Card} (h : SealI p V i l) (H : p.Ok) (hV : Perm p.J.length V) (hi : i ≤ 1000) : (p.ses l [] []).Len := by
 have hn := H.n
 have hc := H.c
 have hm := H.m
 refine ⟨?_, ?_, Nat.zero_le _, Nat.zero_le _, fun x hx => ?_, fun x hx => absurd hx List.not_mem_nil, ?_, ?_⟩
 ·show p.J.length ≤ 100000
  omega
 ·show l.length ≤ 1024
  rw [h.len]; omega
 ·obtain ⟨t, ht, rfl⟩ := (h.mem x).1 hx
  rw [H.clen (hV.lt t (List.mem_of_mem_take ht))]
  omega
 ·show -9223372036854775808 ≤ (p.C : Int) ∧ (p.C : Int) < 9223372036854775808
  omega
 ·show -9223372036854775808 ≤ (p.m : Int) ∧ (p.m : Int) < 9223372036854775808
  omega
def z1z (T : List Nat) : List PV := T.map fun t : Nat => .int (t : Int)
@[simp] theorem z5v (T : List Nat) : (z1z T).length = T.length := by simp [z1z]
theorem z67 (T : List Nat) (i : Nat) (h : i < T.length) : (z1z T)[i]? = some (.int (T[i] : Nat)) := by simp [z1z, h]
theorem z3g (T : List Nat) (i : Nat) (h : i < (z1z T).length) : (z1z T)[i]'h = .int ((T[i]'(by rw [z5v] at h; exact h) : Nat) : Int) := by simp [z1z]
theorem z1x (T : List Nat) (i t : Nat) : (z1z T).set i (.int (t : Int)) = z1z (T.set i t) := by simp [z1z]
theorem y3m {J : List Int} {C m : Nat} {mk kk : List (List Int)} {sa : List Dig} {mo : List (List (List Int))} (hF : Fits mk kk sa mo J.length C m) {t : Nat} (ht : t < J.length) :
  J[t]? = some ((q6e J C m mk kk sa mo).j t) ∧ mk[t]? = some ((q6e J C m mk kk sa mo).Mk t) ∧ kk[t]? = some ((q6e J C m mk kk sa mo).Kk t) ∧ sa[t]? = some ((q6e J C m mk kk sa mo).Sa t) := by
 have hl := hF.l
 have e : ∀ {α : Type} (l : List α) (d : α), t < l.length → l[t]? = some (l.getD t d) := fun l d h => by rw [q6y h, List.getElem?_eq_getElem h]
 exact ⟨e J 0 ht, e mk [] (by omega), e kk [] (by omega), e sa d32 (by omega)⟩
structure SealC (J : List Int) (mk kk : List (List Int)) (sa : List Dig) (p : Pan) (V : List Nat) (i t : Nat) (l l2 : List Card) (j : Int) (M K : List Int) (S : Dig) (x : Card) (Z Z2 : Ses) : Prop where
 av : V[i]? = some t
 aj : J[t]? = some j
 am : mk[t]? = some M
 ak : kk[t]? = some K
 ad : sa[t]? = some S
 z : Z = p.ses l [] []
 z2 : Z2 = p.ses l2 [] []
 gate : ∀ st, q4n st 0 = some (.arr T.t8uint32 Sha.start.row) → q4n st 1 = some q6d → Rets P F.q2b [Z.pv] st (.tuple [.bool false, .int 0])
 make : ∀ st, q4n st 0 = some (.arr T.t8uint32 Sha.start.row) → q4n st 1 = some q6d → Rets P F.q27 [.int 1, .int 2, .int j, q4b false M, q4b false K, .agg (q38 S.1)] st (.tuple [x.pv, .int 0])
 act : ∀ st, q4n st 0 = some (.arr T.t8uint32 Sha.start.row) → q4n st 1 = some q6d → Rets P F.q03 [Z.pv, .agg (q4a (.int 2 :: .int 0 :: (q5v ++ ([.int 0, .int 0, .int 0, .int 0] ++ (.int 0 :: .nil :: zz)))) 2 x.enc)] st (.tuple [Z2.pv, .int 0])
 len : Z2.sealed.length = i + 1
 inv : SealI p V (i + 1) l2
theorem z84 {J : List Int} {C m : Nat} {mk kk : List (List Int)} {sa : List Dig} {mo : List (List (List Int))} (H : (q6e J C m mk kk sa mo).Ok) (hF : Fits mk kk sa mo J.length C m) {V : List Nat} (hP : Perm J.length V) {i : Nat} {l : List Card} (h : SealI (q6e J C m mk kk sa mo) V i l) (hi : i < J.length) :
  ∃ t l2 j M K S x Z Z2, SealC J mk kk sa (q6e J C m mk kk sa mo) V i t l l2 j M K S x Z Z2 := by
 have hiV : i < V.length := by rw [hP.len]; exact hi
 have ht := hP.lt _ (List.getElem_mem hiV)
 have hn := H.n
 have hn : J.length ≤ 5 := hn.2
 obtain ⟨l2, d1, d2⟩ := h.step H hP hiV
 have hz := h.zlen H hP (by omega)
 have d4 : q5f ((q6e J C m mk kk sa mo).ses l [] []) = true := (q5s _).2 h.r
 have d3 : q6g ((q6e J C m mk kk sa mo).ses l [] []) = false := h.shut hi
 obtain ⟨e1, e2, e3, e4⟩ := y3m hF ht
 have hcl := H.clen ht
 have hc := H.c
 have hdo : doR ((q6e J C m mk kk sa mo).ses l [] []) ⟨2, 0, (q6e J C m mk kk sa mo).card V[i], default, default⟩ = .inl ((q6e J C m mk kk sa mo).ses l2 [] []) := Did.to d4 (.dSeal rfl d1)
 have hg := fun st h0 h1 => k41 _ hz st ⟨h0, h1⟩
 rw [d4, if_pos rfl, Bool.true_and, d3] at hg
 have hmk : ∀ st, q4n st 0 = some (.arr T.t8uint32 Sha.start.row) → q4n st 1 = some q6d → Rets P F.q27 [.int 1, .int 2, .int ((q6e J C m mk kk sa mo).j V[i]), q4b false ((q6e J C m mk kk sa mo).Mk V[i]), q4b false ((q6e J C m mk kk sa mo).Kk V[i]), .agg (q38 ((q6e J C m mk kk sa mo).Sa V[i]).1)] st (.tuple [((q6e J C m mk kk sa mo).card V[i]).pv, .int 0]) :=
  fun st h0 h1 => z6w false false _ ((q6e J C m mk kk sa mo).Sa V[i]).2 (H.back ht).make st h0 h1
 have hll : l.length ≤ 1000 := by have := h.len; omega
 obtain ⟨x, hx⟩ : ∃ x, x = (q6e J C m mk kk sa mo).card V[i] := ⟨_, rfl⟩
 have hxl : x.c.length ≤ 100000 := by rw [hx, hcl]; omega
 rw [← hx] at hdo hmk
 have hl3 : ((q6e J C m mk kk sa mo).ses l [] []).sealed.length ≤ 1000 ∧ ((q6e J C m mk kk sa mo).ses l [] []).keys.length ≤ 1000 ∧ ((q6e J C m mk kk sa mo).ses l [] []).shown.length ≤ 1000 := ⟨hll, Nat.zero_le _, Nat.zero_le _⟩
 have hz2 : ((q6e J C m mk kk sa mo).ses l2 [] []).sealed.length = i + 1 := d2.len
 obtain ⟨Z, hZ⟩ : ∃ Z, Z = (q6e J C m mk kk sa mo).ses l [] [] := ⟨_, rfl⟩
 obtain ⟨Z2, hZ2⟩ : ∃ Z2, Z2 = (q6e J C m mk kk sa mo).ses l2 [] [] := ⟨_, rfl⟩
 rw [← hZ] at hdo hg hz hl3
 rw [← hZ2] at hdo hz2
 have ha := fun st h0 h1 => z5s hz hxl (show ([] : List Int).length ≤ 100000 by decide) hl3 hdo st h0 h1 (j2f x)
 exact ⟨V[i], l2, _, _, _, _, x, Z, Z2, ⟨List.getElem?_eq_getElem hiV, e1, e2, e3, e4, hZ, hZ2, hg, hmk, ha, hz2, d2⟩⟩
theorem j44 {p : Pan} {L : List Card} (H : p.Ok) (A : AllS p L) (st : q37) (h0 : q4n st 0 = some (.arr T.t8uint32 Sha.start.row)) (h1 : q4n st 1 = some q6d) : Rets P F.q2b [(p.ses L [] []).pv] st (.tuple [.bool true, .int 0]) := by
 have hn := H.n
 have hc := H.c
 have hm := H.m
 have hz : (p.ses L [] []).Len := by
  refine ⟨?_, ?_, Nat.zero_le _, Nat.zero_le _, fun x hx => ?_, fun x hx => absurd hx List.not_mem_nil, ?_, ?_⟩
  ·show p.J.length ≤ 100000
   omega
  ·show L.length ≤ 1024
   rw [A.len]; omega
  ·obtain ⟨t, ht, rfl⟩ := (A.mem x).1 hx
   rw [H.clen ht]
   omega
  ·show -9223372036854775808 ≤ (p.C : Int) ∧ (p.C : Int) < 9223372036854775808
   omega
  ·show -9223372036854775808 ≤ (p.m : Int) ∧ (p.m : Int) < 9223372036854775808
   omega
 have := k41 _ hz st ⟨h0, h1⟩
 have e1 : q5f (p.ses L [] []) = true := (q5s _).2 A.r
 have e2 : q6g (p.ses L [] []) = true := A.opn
 rw [e1, e2, if_pos rfl] at this
 exact this
def z85 (n : Int) (k : Nat) : Int := IntKind.u8.wrap ((((n.fdiv (2 ^ min k IntKind.u8.bits) % 2 ^ IntKind.u8.bits).toNat &&& 1 % 2 ^ IntKind.u8.bits : Nat)) : Int)
theorem z1y (n : Int) (k : Nat) : z85 n k = 0 ∨ z85 n k = 1 := by
 unfold z85
 have h : ((n.fdiv (2 ^ min k IntKind.u8.bits) % 2 ^ IntKind.u8.bits).toNat &&& 1 % 2 ^ IntKind.u8.bits : Nat) ≤ 1 := Nat.and_le_right
 generalize ((n.fdiv (2 ^ min k IntKind.u8.bits) % 2 ^ IntKind.u8.bits).toNat &&& 1 % 2 ^ IntKind.u8.bits : Nat) = x at h
 obtain rfl | rfl : x = 0 ∨ x = 1 := by omega
 ·exact .inl (by decide)
 ·exact .inr (by decide)
def q9s (n : Int) (k : Nat) : Bool := decide (z85 n k = 1)
theorem k6g (n : Int) (k : Nat) : IntKind.u8.wrap ((((n.fdiv (2 ^ min k IntKind.u8.bits) % 2 ^ IntKind.u8.bits).toNat &&& 1 % 2 ^ IntKind.u8.bits : Nat)) : Int) = z85 n k := rfl
theorem j84 {T : List Nat} {i t : Nat} (h : T[i]? = some t) : (z1z T)[i]? = some (.int (t : Int)) := by simp [z1z, h]
theorem j2g {l : List Dig} {i : Nat} {x : Dig} (h : l[i]? = some x) : sub (digs l) (i * 32) 32 = some (q38 x.1) := by
 have hi := q64 h
 have e := q7p h hi
 have := j4z l i hi
 rwa [e] at this
theorem GiveI.zlen {p : Pan} {sh gv : Nat → Bool} {L : List Card} {k k2 a c : Nat} {Sw : List Shn} {K : List Sh} (H : p.Ok) (A : AllS p L) (h : GiveI p sh gv L k k2 a c Sw K) (hk : k2 ≤ 5 ∧ k ≤ 5 ∧ a ≤ 5 ∧ c ≤ 3) :
  (p.ses L Sw K).Len ∧ ((p.ses L Sw K).sealed.length ≤ 1000 ∧ (p.ses L Sw K).keys.length ≤ 1000 ∧ (p.ses L Sw K).shown.length ≤ 1000) := by
 have hn := H.n
 have hc := H.c
 have hm := H.m
 have h1 := h.slen
 have h2 := h.klen
 have h3 := A.len
 have e1 : (p.ses L Sw K).sealed.length ≤ 1000 ∧ (p.ses L Sw K).keys.length ≤ 1000 ∧ (p.ses L Sw K).shown.length ≤ 1000 := by
  refine ⟨?_, ?_, ?_⟩
  ·show L.length ≤ 1000
   omega
  ·show K.length ≤ 1000
   omega
  ·show Sw.length ≤ 1000
   omega
 refine ⟨⟨?_, by omega, by omega, by omega, fun x hx => ?_, fun x hx => ?_, ?_, ?_⟩, e1⟩
 ·show p.J.length ≤ 100000
  omega
 ·obtain ⟨t, ht, rfl⟩ := (A.mem x).1 hx
  rw [H.clen ht]
  omega
 ·obtain ⟨t, -, ht, -, rfl⟩ := (h.shn x).1 hx
  show (p.Kk t).length ≤ 100000
  rw [(H.fk t ht).1]
  omega
 ·show -9223372036854775808 ≤ (p.C : Int) ∧ (p.C : Int) < 9223372036854775808
  omega
 ·show -9223372036854775808 ≤ (p.m : Int) ∧ (p.m : Int) < 9223372036854775808
  omega
theorem j85 (o c h v : Int) : PsLe (.int 3 :: .int 0 :: (q5v ++ ([.int o, .int c, .int h, .int v] ++ (.int 0 :: .nil :: zz)))) (⟨3, 0, default, ⟨o, c, h, v⟩, default⟩ : Act).enc := by
 unfold Act.enc
 refine ⟨.refl _, .refl _, PsLe.append ?_ (PsLe.append (PsLe.refl _) ?_)⟩
 ·exact ⟨.refl _, .refl _, .refl _, .nil1, PsLe.refl _⟩
 ·exact ⟨.refl _, .nil1, PsLe.refl _⟩
theorem j45 (X : List PV) (hX : X.length = 34) : q4a (.int 4 :: .int 0 :: (q5v ++ ([.int 0, .int 0, .int 0, .int 0] ++ (.int 0 :: .nil :: zz)))) 42 X = .int 4 :: .int 0 :: (q5v ++ ([.int 0, .int 0, .int 0, .int 0] ++ X)) := by
 have := k1q (.int 4 :: .int 0 :: (q5v ++ [.int 0, .int 0, .int 0, .int 0])) (.int 0 :: .nil :: zz) [] X (by rw [hX]; rfl)
 rw [List.append_nil, List.append_nil] at this
 exact this
theorem j86 (x : Shn) : PsLe (q4a (.int 4 :: .int 0 :: (q5v ++ ([.int 0, .int 0, .int 0, .int 0] ++ (.int 0 :: .nil :: zz)))) 42 (.int x.j :: q4b false x.k :: q38 x.s.1)) (⟨4, 0, default, default, x⟩ : Act).enc := by
 rw [j45 _ (by simp [x.s.2])]
 unfold Act.enc
 refine ⟨.refl _, .refl _, PsLe.append ?_ (PsLe.append (PsLe.refl _) (PsLe.refl _))⟩
 exact ⟨.refl _, .refl _, .refl _, .nil1, PsLe.refl _⟩
theorem setCells_two (a b : PV) (B X : List PV) (h : X.length = B.length) : q4a (a :: b :: B) 2 X = a :: b :: X := by
 have := k1q [a, b] B [] X h
 rw [List.append_nil, List.append_nil] at this
 exact this
theorem z86 {p : Pan} {sh gv : Nat → Bool} {L : List Card} {k : Nat} {Sw : List Shn} {K : List Sh} (H : p.Ok) (A : AllS p L) (h : GiveI p sh gv L k k 0 0 Sw K) (hk : k < p.J.length) (hs : sh k = true) {Z : Ses} (hZ : Z = p.ses L Sw K) :
  ∃ Sw' Z', Z' = p.ses L Sw' K ∧ GiveI p sh gv L k (k + 1) 0 0 Sw' K ∧ ∀ st, q4n st 0 = some (.arr T.t8uint32 Sha.start.row) → q4n st 1 = some q6d → Rets P F.q03 [Z.pv, .agg (q4a (.int 4 :: .int 0 :: (q5v ++ ([.int 0, .int 0, .int 0, .int 0] ++ (.int 0 :: .nil :: zz)))) 42 (.int (p.j k) :: q4b false (p.Kk k) :: q38 (p.Sa k).1))] st (.tuple [Z'.pv, .int 0]) := by
 have hn := H.n
 have hC := H.c
 obtain ⟨Sw', d1, d2⟩ := h.show H A hk hs
 obtain ⟨z1, z2⟩ := h.zlen H A (by omega)
 have d4 : q5f (p.ses L Sw K) = true := (q5s _).2 h.r
 have hdo : doR (p.ses L Sw K) ⟨4, 0, default, default, p.shn k⟩ = .inl (p.ses L Sw' K) := Did.to d4 (.dShow rfl d1)
 have hx : (p.shn k).k.length ≤ 100000 := by
  show (p.Kk k).length ≤ 100000
  rw [(H.fk k hk).1]
  omega
 have hle := j86 (p.shn k)
 obtain ⟨x, hxd⟩ : ∃ x, x = p.shn k := ⟨_, rfl⟩
 have e1 : p.j k = x.j := by rw [hxd]; rfl
 have e2 : p.Kk k = x.k := by rw [hxd]; rfl
 have e3 : p.Sa k = x.s := by rw [hxd]; rfl
 rw [← hxd] at hdo hx hle
 obtain ⟨Z', hZ'⟩ : ∃ Z', Z' = p.ses L Sw' K := ⟨_, rfl⟩
 rw [← hZ, ← hZ'] at hdo
 rw [← hZ] at z1 z2
 rw [e1, e2, e3]
 exact ⟨Sw', Z', hZ', d2, fun st h0 h1 => z5s z1 (show ([] : List Int).length ≤ 100000 by decide) hx z2 hdo st h0 h1 hle⟩
theorem z87 {p : Pan} {sh gv : Nat → Bool} {L : List Card} {k k2 a c : Nat} {Sw : List Shn} {K : List Sh} (H : p.Ok) (A : AllS p L) (h : GiveI p sh gv L k k2 a c Sw K) (hk : k < p.J.length) (hk2 : k2 ≤ 5) (ha : a < p.J.length) (hc : c < p.C) (hne : a ≠ k) (hg : gv k = true) {Z : Ses} (hZ : Z = p.ses L Sw K) :
  ∃ K' Z', Z' = p.ses L Sw K' ∧ GiveI p sh gv L k k2 a (c + 1) Sw K' ∧ ∀ st, q4n st 0 = some (.arr T.t8uint32 Sha.start.row) → q4n st 1 = some q6d → Rets P F.q03 [Z.pv, .agg (.int 3 :: .int 0 :: (q5v ++ ([.int (p.j a), .int c, .int (p.j k), .int (p.val a c k)] ++ (.int 0 :: .nil :: zz))))] st (.tuple [Z'.pv, .int 0]) := by
 have hn := H.n
 have hC := H.c
 obtain ⟨K', d1, d2⟩ := h.give H A hk ha hc hne hg
 obtain ⟨z1, z2⟩ := h.zlen H A (by omega)
 have d4 : q5f (p.ses L Sw K) = true := (q5s _).2 h.r
 have hdo : doR (p.ses L Sw K) ⟨3, 0, default, p.share a c k, default⟩ = .inl (p.ses L Sw K') := Did.to d4 (.dShare rfl d1)
 obtain ⟨Z', hZ'⟩ : ∃ Z', Z' = p.ses L Sw K' := ⟨_, rfl⟩
 rw [← hZ, ← hZ'] at hdo
 rw [← hZ] at z1 z2
 unfold Pan.share at hdo
 generalize p.val a c k = v at *
 generalize p.j a = o at *
 generalize p.j k = w at *
 exact ⟨K', Z', hZ', d2, fun st h0 h1 => z5s z1 (show ([] : List Int).length ≤ 100000 by decide) (show ([] : List Int).length ≤ 100000 by decide) z2 hdo st h0 h1 (j85 o c w v)⟩
end Go.Proofs.YtnooplpbpfiapaaGreatDoor

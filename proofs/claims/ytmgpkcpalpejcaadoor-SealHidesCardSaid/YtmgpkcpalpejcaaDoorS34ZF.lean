/- SealBack. -/
import Derived.Test.YtmgpkcpalpejcaaDoorS34ZD
namespace Go.Proofs.YtmgpkcpalpejcaaDoor
open Go.Pv Go.Pv.Sha
set_option maxRecDepth 100000
set_option maxHeartbeats 4000000
def fewB (m k : List Int) : Bool := inAll m 1000 && inAll k 1073741788 && decide (m.length = k.length)
theorem inAll_long {l : List Int} {most : Int} (h : 64 < l.length) : inAll l most = false := by
  unfold inAll
  simp; omega
theorem few_spec (t u : Bool) (m k : List Int) (hm : m.length ≤ 9223372036854775807) (hk : k.length ≤ 9223372036854775807) (st : Store) : Rets P F.podiumlaw34_few [intLst t m, intLst u k] st (.bool (fewB m k)) := by
  refine H.podiumlaw34_few.pure hmix rfl rfl ?_
  have hM := fun st => refMarks_big t m hm st
  have hK := fun st => refKeys_big u k hk st
  unfold fewB
  generalize inAll m 1000 = A at *
  generalize inAll k 1073741788 = B at *
  have he : decide ((m.length : Int) = k.length) = decide (m.length = k.length) := decide_eq_decide.2 (by omega)
  cases A
  · repeat' (first 
     | (with_reducible refine Rets.xcall (hM _) ?_)
     | (simp -dsimp -implicitDefEqProofs [*]))
  cases B
  · repeat' (first 
     | (with_reducible refine Rets.xcall (hM _) ?_)
     | (with_reducible refine Rets.xcall (hK _) ?_)
     | (simp -dsimp -implicitDefEqProofs [*]))
  · repeat' (first 
     | (with_reducible refine Rets.xcall (hM _) ?_)
     | (with_reducible refine Rets.xcall (hK _) ?_)
     | (simp -dsimp -implicitDefEqProofs [*]))
theorem less_back {x y : Int} (hx : 0 ≤ x) (hx2 : x ≤ 1000) (hy : 0 ≤ y) (hy2 : y ≤ 1073741788) : less ((x + y) % QI) y = x := by
  unfold less QI
  split <;> omega
theorem bare_back {m k : List Int} (h : fewB m k = true) : bareL (cipher m k) k = m := by
  simp only [fewB, Bool.and_eq_true, decide_eq_true_eq] at h
  obtain ⟨⟨h1, h2⟩, h3⟩ := h
  refine List.ext_getElem (by simp [bareL, cipher, h3]) fun i hi hi2 => ?_
  have hik : i < k.length := by omega
  have b1 := inAll_bound h1 _ (List.getElem_mem hi2)
  have b2 := inAll_bound h2 _ (List.getElem_mem hik)
  simp only [bareL, cipher, List.getElem_zipWith]
  exact less_back b1.1 b1.2 b2.1 b2.2
theorem cipher_in {m k : List Int} (h : fewB m k = true) : inAll (cipher m k) 1073741788 = true := by
  simp only [fewB, Bool.and_eq_true, decide_eq_true_eq] at h
  obtain ⟨⟨h1, h2⟩, h3⟩ := h
  have l1 := inAll_len h1
  have hl : (cipher m k).length = m.length := by simp [cipher, h3]
  unfold inAll
  simp only [Bool.and_eq_true, decide_eq_true_eq, List.all_eq_true, wi]
  refine ⟨⟨by omega, by omega⟩, fun n hn => ?_⟩
  obtain ⟨i, hi, rfl⟩ := List.mem_iff_getElem.1 hn
  simp only [cipher, List.getElem_zipWith]
  unfold QI
  omega
theorem cipher_diff {x y : Int} (hx : 0 ≤ x) (hx2 : x ≤ 1000) (hy : 0 ≤ y) (hy2 : y ≤ 1073741788) : ((x + y) % QI - x - y).tmod 1073741789 = 0 := by
  have : (x + y) % QI - x - y = 0 ∨ (x + y) % QI - x - y = -1073741789 := by unfold QI; omega
  rcases this with h | h <;> rw [h] <;> decide
theorem back_facts {r e j : Int} {m k : List Int} {salt : List (BitVec 8)} (hp : placeOk r e j = true) (h : fewB m k = true) :
    mkOk r e j m k = true ∧ bareOk r e j (cipher m k) k = true ∧ openR r e j (cipher m k) (digI r e j m k salt) k salt = some m ∧ stripR r e j (cipher m k) k = some m ∧ chk r e j (cipher m k) = true := by
  have hb := bare_back h
  have hc := cipher_in h
  simp only [fewB, Bool.and_eq_true, decide_eq_true_eq] at h
  obtain ⟨⟨h1, h2⟩, h3⟩ := h
  have hl : (cipher m k).length = m.length := by simp [cipher, h3]
  have hk : chk r e j (cipher m k) = true := by simp [chk, hp, hc]
  have hbo : bareOk r e j (cipher m k) k = true := by simp [bareOk, hk, h2, hl, h3]
  refine ⟨by simp [mkOk, hp, h1, h2, h3], hbo, ?_, ?_, hk⟩
  · unfold openR
    rw [hb, hbo, h1]
    simp
  · unfold stripR
    rw [hb, hbo, h1]
    simp
theorem back_law (a bb cc : Int) (ha : 0 ≤ a ∧ a ≤ 255) (hb : 0 ≤ bb ∧ bb ≤ 255) (hc : 0 ≤ cc ∧ cc ≤ 255) (t u : Bool) (m k : List Int) (salt : List (BitVec 8)) (hs : salt.length = 32) (st : Store) (h0 : sget st 0 = some (.arr T.t8uint32 Sha.start.row)) (h1 : sget st 1 = some numsO) :
    Rets P F.podiumlaw34_SealBack [.val (.int .u8 a), .val (.int .u8 bb), .val (.int .u8 cc), intLst t m, intLst u k, .agg (byteRow salt)] st (.bool true) := by
  refine H.podiumlaw34_SealBack.sound fun hsnd => ?_
  have hml := hsnd.list_le (t := t) (cs := intRow m) (n := m.length) (by simp)
  have hkl := hsnd.list_le (t := u) (cs := intRow k) (n := k.length) (by simp)
  clear hsnd
  refine H.podiumlaw34_SealBack.pure hmix rfl rfl ?_
  have hN := snew_globs h0 h1
  have hsane := fun st h0 h1 => sane_spec st h0 h1
  have hF := fun st => few_spec t u m k hml hkl st
  have hsl : (byteRow salt).length = 32 := by simp [hs]
  have hts : List.take 32 (byteRow salt) = byteRow salt := List.take_of_length_le (by omega)
  have hsub := sub_all hsl
  cases hf : fewB m k
  · rw [hf] at hF
    repeat' (first 
     | (with_reducible refine Fresh.intro fun b hb => ?_) <;> (try simp -dsimp -implicitDefEqProofs [*] at hb)
     | (with_reducible refine Rets.xcall (hsane _ (by simp [*]) (by simp [*])) ?_)
     | (with_reducible refine Rets.xcall (hF _) ?_)
     | (simp -dsimp -implicitDefEqProofs [*]))
  rw [hf] at hF
  have wa : IntKind.i64.wrap a = a := wrap_in (by omega) (by omega)
  have wb : IntKind.i64.wrap bb = bb := wrap_in (by omega) (by omega)
  have wc : IntKind.i64.wrap cc = cc := wrap_in (by omega) (by omega)
  have ea : a.tmod 8 = a % 8 := Int.tmod_eq_emod_of_nonneg ha.1
  have wa8 : IntKind.i64.wrap (a % 8) = a % 8 := wrap_in (by omega) (by omega)
  have hp : placeOk (a % 8) bb cc = true := by simp [placeOk, wi]; omega
  obtain ⟨f1, f2, f3, f4, f5⟩ := back_facts (salt := salt) hp hf
  have hf' := hf
  simp only [fewB, Bool.and_eq_true, decide_eq_true_eq] at hf'
  obtain ⟨⟨g1, g2⟩, g3⟩ := hf'
  have hmb := inAll_bound g1
  have hkb := inAll_bound g2
  have lm := inAll_len g1
  have hcl : (cipher m k).length = m.length := by simp [cipher, g3]
  have hM := fun st h0 h1 => makeI_ok t u salt hs f1 st h0 h1
  have hO := fun st h0 h1 => open_spec false u (a % 8) bb cc (cipher m k) k (by omega) (by omega) (digI (a % 8) bb cc m k salt) salt rfl hs st h0 h1
  have hS := fun st => strip_spec false u (a % 8) bb cc (cipher m k) k (by omega) (by omega) (digI (a % 8) bb cc m k salt) rfl st
  have hC := fun st => checkC (a % 8) bb cc false (cipher m k) (by omega) (digI (a % 8) bb cc m k salt) rfl st
  rw [f3, f2] at hO
  rw [f4] at hS
  rw [f5] at hC
  simp only [optL, errO, Option.isSome, if_true] at hO hS hC
  have hE : ∀ st, Rets P F.podiumref34_SameInts [intLst false m, intLst t m] st (.bool true) := fun st => by
    have := sameInts_spec false t m m (by omega) (by omega) st
    rwa [decide_eq_true rfl] at this
  have hDl : (byteRow (digI (a % 8) bb cc m k salt)).length = 32 := rfl
  have hDt : List.take 32 (byteRow (digI (a % 8) bb cc m k salt)) = byteRow (digI (a % 8) bb cc m k salt) := List.take_of_length_le (by omega)
  have hall : ∀ x y z w (L : List PV), L.length = 32 → setCells (x :: y :: z :: w :: L) 4 (byteRow (digI (a % 8) bb cc m k salt)) = x :: y :: z :: w :: byteRow (digI (a % 8) bb cc m k salt) := fun x y z w L h => by
    have h9 := setCells_append_right (byteRow (digI (a % 8) bb cc m k salt)) [x, y, z, w] L 0
    rw [setCells_all _ _ (hDl.trans h.symm)] at h9
    exact h9
  have hcm : ∀ ci, cipher m k = ci → ∀ i (h : i < ci.length) (h1 : i < m.length) (h2 : i < k.length), ci[i] = (m[i] + k[i]) % QI := fun ci e i h h1 h2 => by subst e; simp [cipher]
  clear f1 f2 f3 f4 f5 g1 g2 hf hp
  generalize digI (a % 8) bb cc m k salt = D at *
  generalize hci : cipher m k = ci at hcl hM hO hS hC
  replace hcm := hcm ci hci
  clear hci
  repeat' (first 
   | (with_reducible refine Fresh.intro fun b hb => ?_) <;> (try simp -dsimp -implicitDefEqProofs [*] at hb)
   | (with_reducible refine Rets.xcall (hsane _ (by simp [*]) (by simp [*])) ?_)
   | (with_reducible refine Rets.xcall (hF _) ?_)
   | (with_reducible refine Rets.xcall (hM _ (by simp [*]) (by simp [*])) ?_)
   | (with_reducible refine Rets.xcall (hO _ (by simp [*]) (by simp [*])) ?_)
   | (with_reducible refine Rets.xcall (hS _) ?_)
   | (with_reducible refine Rets.xcall (hC _) ?_)
   | (with_reducible refine Rets.xcall (hE _) ?_)
   | (simp -dsimp -implicitDefEqProofs [*]))
  revert b
  intro y hy
  revert b
  intro z hz hy
  refine xloop_for (fun i : Nat => [(3, intLst t m), (4, intLst u k), (96, intLst false ci), (97, .int k.length), (98, .int (i : Nat))]) (fun _ => (y, .arr T.apiSealed (.int (a % 8) :: .int bb :: .int cc :: intLst false ci :: byteRow D)) :: (z, .arr T.apiDigest (byteRow salt)) :: st) (fun i => i ≤ ci.length) (fun i => ci.length - i) 0 (by omega) (by simp [hcl, g3]) (.refl _) ?_
  intro i hi
  by_cases hil : i < ci.length
  · have him : i < m.length := by omega
    have hik : i < k.length := by omega
    have q0 := intRow_get ci i hil
    have q1 := intRow_get m i him
    have q2 := intRow_get k i hik
    have hwi := wrap_succ (n := i) (by omega)
    have b1 := hmb _ (List.getElem_mem him)
    have b2 := hkb _ (List.getElem_mem hik)
    have e := hcm i hil him hik
    have c0 : 0 ≤ ci[i] ∧ ci[i] ≤ 1073741788 := by rw [e]; unfold QI; omega
    have d0 := cipher_diff b1.1 b1.2 b2.1 b2.2
    rw [← e] at d0
    have w1 : IntKind.i64.wrap (ci[i] - m[i]) = ci[i] - m[i] := wrap_in (by omega) (by omega)
    have w2 : IntKind.i64.wrap (ci[i] - m[i] - k[i]) = ci[i] - m[i] - k[i] := wrap_in (by omega) (by omega)
    have n0 : ¬ ci[i] < 0 := by omega
    have n1 : ¬ 1073741789 ≤ ci[i] := by omega
    clear b1 b2 e c0 hcm hmb hkb
    repeat' (simp -dsimp -implicitDefEqProofs [*])
    exact Next.intro (i + 1) (by omega) (by omega) (by simp) (by repeat' (first | exact StLe.refl _ | (refine StLe_cons (by simp [*]; done) ?_) | (refine StLe_fresh (by simp [*]; done) ?_)))
  · have e : i = ci.length := by omega
    subst e
    clear hcm hmb hkb
    repeat' (simp -dsimp -implicitDefEqProofs [*])
end Go.Proofs.YtmgpkcpalpejcaaDoor

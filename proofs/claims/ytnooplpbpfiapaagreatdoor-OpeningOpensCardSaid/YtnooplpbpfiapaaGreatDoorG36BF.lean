/- The reference: Right. -/
import Derived.Test.YtnooplpbpfiapaaGreatDoorG36BR
import Derived.Test.YtnooplpbpfiapaaGreatDoorG36AE
import Derived.Test.YtnooplpbpfiapaaGreatDoorS36X
import Derived.Test.YtnooplpbpfiapaaGreatDoorS36ZA
import Derived.Test.YtnooplpbpfiapaaGreatDoorG36CD
namespace Go.Proofs.YtnooplpbpfiapaaGreatDoor
open Go.Pv
set_option maxRecDepth 100000
set_option maxHeartbeats 16000000
open Go.Pv
set_option maxRecDepth 100000
set_option maxHeartbeats 8000000
open Go.Pv Go.Pv.Ip
set_option maxRecDepth 100000
set_option maxHeartbeats 8000000
def k72 (s : Ses) : List Opd := if q5f s = true then s.judges.map (q7j s) else []
theorem j80 (x : Opd) : Opd.row [x] = x.enc := by simp [Opd.row]
theorem k23 (s : Ses) (hL : s.Len) (hl : s.keys.length ≤ 1000) (st : q37) (hG : GL st) : Rets P F.q2m [s.pv] st (.tuple [Opd.lst false (k72 s), .int (if q5f s = true then 0 else 360)]) := by
 have hN := q46 hG.h0 hG.h1
 have h0 := hG.h0
 have h1 := hG.h1
 have c := fun st h0 h1 => q89 s hL st ⟨h0, h1⟩
 unfold k72
 by_cases hR : q5f s = true
 case neg =>
  rw [if_neg hR] at c
  rw [if_neg hR, if_neg hR]
  clear hL hG
  refine H.q2m.view q4m rfl rfl ?_
  repeat' (first 
   | (with_reducible refine Fresh.intro fun b hb => ?_) <;> (try simp -dsimp -implicitDefEqProofs [*] at hb)
   | (with_reducible refine Rets.xcall (c _ (by simp [*]) (by simp [*])) ?_)
   | (simp -dsimp -implicitDefEqProofs [*]))
  exact .sees (.tuple2l (.nil0 _)) (RetView.drop (st' := st) q4p ⟨rfl, rfl⟩)
 rw [if_pos hR] at c
 rw [if_pos hR, if_pos hR]
 have hRP := (q5s s).1 hR
 have ck := fun j st h0 h1 => z5k s hL hRP hl j st ⟨h0, h1⟩
 have hj : s.judges.length ≤ 24 := hRP.many.2
 clear hR hRP hL hG
 refine H.q2m.view q4m rfl rfl ?_
 repeat' (first 
  | (with_reducible refine Fresh.intro fun b hb => ?_) <;> (try simp -dsimp -implicitDefEqProofs [*] at hb)
  | (with_reducible refine Rets.xcall (c _ (by simp [*]) (by simp [*])) ?_)
  | (simp -dsimp -implicitDefEqProofs [*]))
 revert b; intro q hq
 clear c
 refine q4e (fun y : Nat × Option (Acc Opd) => [(1, .ptr q 0), (2, k1e y.2), (12, q4b false s.judges), (13, .int s.judges.length), (14, .int y.1)]) (fun y => q6c T.apiOpened ((q, .arr T.apiSession s.enc) :: st) y.2) (fun y => y.1 ≤ s.judges.length ∧ accOk Opd.row 2 ((q, .arr T.apiSession s.enc) :: st) y.2 ∧ Hid (q5c y.2 = (s.judges.take y.1).map (q7j s))) (fun y => s.judges.length - y.1) (0, none) ⟨Nat.zero_le _, trivial, ⟨rfl⟩⟩ (by simp) (.refl _) ?_
 rintro ⟨i, o⟩ ⟨hi, ho, hA⟩
 replace hi : i ≤ s.judges.length := hi
 replace ho : accOk Opd.row 2 ((q, .arr T.apiSession s.enc) :: st) o := ho
 replace hA : Hid (q5c o = (s.judges.take i).map (q7j s)) := hA
 simp only
 by_cases hil : i < s.judges.length
 ·have hw := q4d (n := i) (by omega)
  have g1 := q5a s.judges i hil
  have hlen : (q5c o).length ≤ 24 := by rw [hA.out, List.length_map, List.length_take]; omega
  have hst : Hid ((s.judges.take (i + 1)).map (q7j s) = q5c o ++ [q7j s s.judges[i]]) := ⟨by rw [List.take_succ_eq_append_getElem hil, List.map_append, ← hA.out]; rfl⟩
  have c1 := ck s.judges[i]
  have E1 : ∀ h, (q43 s.judges)[i]'h = .int s.judges[i] := fun h => q86 s.judges i h
  obtain ⟨j, hj⟩ : ∃ j, j = s.judges[i] := ⟨_, rfl⟩
  rw [← hj] at g1 hst c1
  simp only [← hj] at E1
  obtain ⟨x, hx⟩ : ∃ x, x = q7j s j := ⟨_, rfl⟩
  rw [← hx] at c1 hst
  have hg1 := k4d (T := T.apiOpened) (b := q) (x := .arr T.apiSession s.enc) ho (by simp [*])
  have hs0 := k4d (T := T.apiOpened) (b := 0) (x := .arr T.t8uint32 Sha.start.row) ho (by simp [*])
  have hs1 := k4d (T := T.apiOpened) (b := 1) (x := q6d) ho (by simp [*])
  clear hA ck hj hx
  repeat' (first 
   | (with_reducible refine Rets.xcall (c1 _ hs0 hs1) ?_)
   | (with_reducible refine Lit.imm ?_)
   | (simp -dsimp -implicitDefEqProofs [*]))
  clear hg1 hs0 hs1 c1
  refine q9h Opd.row_len Opd.row_append o ho [x] (j80 x) rfl (by omega) (by omega) fun o2 ho2 hl2 => ?_
  have k1 : Hid (q5c o2 = (s.judges.take (i + 1)).map (q7j s)) := ⟨by rw [hst.out, hl2]⟩
  clear hl2 hst ho
  repeat' (simp -dsimp -implicitDefEqProofs [*])
  exact Next.intro (i + 1, o2) ⟨by simp only; omega, ho2, k1⟩ (by simp only; omega) (by simp) (.refl _)
 ·obtain rfl : i = s.judges.length := by omega
  clear ck hil
  repeat' (simp -dsimp -implicitDefEqProofs [*])
  refine RetView.accP2 rfl ho ?_
  rw [hA.out, List.take_length]
  exact RetView.drop (st' := st) q4p ⟨rfl, rfl⟩
open Go.Pv
set_option maxRecDepth 100000
set_option maxHeartbeats 16000000
def ses2 : Ses := z1m 0 0 1 [3, 7] 2 5
theorem q78 : q5f ses2 = true := by decide +kernel
theorem z81 (st : q37) (hG : GL st) : Rets P F.q28 [] st (.tuple [ses2.pv, .int 0]) := by
 have hN := q46 hG.h0 hG.h1
 have h0 := hG.h0
 have h1 := hG.h1
 have c : ∀ st, q4n st 0 = some (.arr T.t8uint32 Sha.start.row) → q4n st 1 = some q6d → Rets P F.q2w [.int 0, .int 0, .int 1, .list true [.int 3, .int 7] 2, .int 2, .int 5] st (.tuple [ses2.pv, .int 0]) := fun st h0 h1 => by
  have := k7w 0 0 1 [3, 7] 2 5 (by simp) (by omega) (by omega) st ⟨h0, h1⟩
  have e : q5f (z1m 0 0 1 [3, 7] 2 5) = true := q78
  rw [e, if_pos rfl, if_pos rfl] at this
  exact Rets.args (qs := [.int 0, .int 0, .int 1, q4b false [3, 7], .int 2, .int 5]) ⟨.refl _, .refl _, .refl _, .loose, .refl _, .refl _, trivial⟩ this
 clear hG
 refine H.q28.view q4m rfl rfl ?_
 repeat' (first 
  | (with_reducible refine Fresh.intro fun b hb => ?_) <;> (try simp -dsimp -implicitDefEqProofs [*] at hb)
  | (with_reducible refine Rets.xcall (c _ (by simp [*]) (by simp [*])) ?_)
  | (with_reducible refine Lit.imm ?_)
  | (simp -dsimp -implicitDefEqProofs [*]))
 exact RetView.drop (st' := st) q4p ⟨rfl, rfl⟩
def z5q : Dig := ⟨1#8 :: List.replicate 31 0#8, rfl⟩
def card9 : Card := ⟨0, 0, 3, [1009], ⟨j6f 0 0 3 [9] [1000] z5q.1, rfl⟩⟩
theorem z1w (st : q37) (hG : GL st) : Rets P F.q2t [.int 3, .int 9, .int 1000] st (.tuple [card9.pv, .int 0]) := by
 have hN := q46 hG.h0 hG.h1
 have h0 := hG.h0
 have h1 := hG.h1
 have c : ∀ st, q4n st 0 = some (.arr T.t8uint32 Sha.start.row) → q4n st 1 = some q6d → Rets P F.q27 [.int 0, .int 0, .int 3, q4b true [9], q4b true [1000], .agg (q38 z5q.1)] st (.tuple [card9.pv, .int 0]) := fun st h0 h1 => z6w true true z5q.1 z5q.2 (by decide +kernel) st h0 h1
 have e1 : q4b true [9] = .list true [.int 9] 1 := rfl
 have e2 : q4b true [1000] = .list true [.int 1000] 1 := rfl
 have e3 : q38 z5q.1 = .val (.int .u8 1) :: List.replicate 31 (.val (.int .u8 0)) := rfl
 rw [e1, e2, e3] at c
 simp only [List.replicate] at c
 clear hG e1 e2 e3
 refine H.q2t.view q4m rfl rfl ?_
 repeat' (first 
  | (with_reducible refine Fresh.intro fun b hb => ?_) <;> (try simp -dsimp -implicitDefEqProofs [*] at hb)
  | (with_reducible refine Rets.xcall (c _ (by simp [*]) (by simp [*])) ?_)
  | (with_reducible refine Lit.imm ?_)
  | (simp -dsimp -implicitDefEqProofs [*]))
 exact RetView.drop (st' := st) q4p ⟨rfl, rfl⟩
open Go.Pv Go.Pv.Sha
set_option maxRecDepth 100000
set_option maxHeartbeats 4000000
abbrev zz : List PV := [.val (.int .u8 0), .val (.int .u8 0), .val (.int .u8 0), .val (.int .u8 0), .val (.int .u8 0), .val (.int .u8 0), .val (.int .u8 0), .val (.int .u8 0), .val (.int .u8 0), .val (.int .u8 0), .val (.int .u8 0), .val (.int .u8 0), .val (.int .u8 0), .val (.int .u8 0), .val (.int .u8 0), .val (.int .u8 0), .val (.int .u8 0), .val (.int .u8 0), .val (.int .u8 0), .val (.int .u8 0), .val (.int .u8 0), .val (.int .u8 0), .val (.int .u8 0), .val (.int .u8 0), .val (.int .u8 0), .val (.int .u8 0), .val (.int .u8 0), .val (.int .u8 0), .val (.int .u8 0), .val (.int .u8 0), .val (.int .u8 0), .val (.int .u8 0)]
open Go.Pv
set_option maxRecDepth 100000
def y3i (k t : Int) : Act := ⟨k, t, default, default, default⟩
def ses2L : Ses := { ses2 with time := 5 }
def ses9 : Ses := { ses2 with sealed := [card9] }
def ses9L : Ses := { ses9 with time := 6 }
def shn9 : Shn := ⟨3, [1000], z5q⟩
def sesN : Ses := { ses9L with shown := [shn9] }
theorem j40 : doR ses2 (y3i 3 0) = .inr 360 := by
 unfold doR
 rw [if_pos q78]
 rfl
theorem j81 : doR ses2 (y3i 1 5) = .inl ses2L := Did.to q78 (.dPass rfl (by decide +kernel))
theorem z82 : q8g ses2 card9 = true := by decide +kernel
def actS : Act := ⟨2, 0, card9, default, default⟩
theorem j2a : doR ses2 actS = .inl ses9 := by
 refine Did.to q78 (.dSeal rfl ?_)
 unfold k4b
 rw [if_neg (by decide +kernel)]
 have : q8g ses2 actS.card = true := z82
 rw [if_pos this]
 rfl
theorem k95 : RightP ses9 := (j11 j2a).2.right ((q5s _).1 q78)
theorem j2b : doR ses9 (y3i 1 6) = .inl ses9L := Did.to ((q5s _).2 k95) (.dPass rfl (by decide +kernel))
theorem k73 : RightP ses9L := (j11 j2b).2.right k95
theorem y3j : q9b card9 shn9 = some [9] := (k93 (r := 0) (e := 0) (j := 3) (m := [9]) (k := [1000]) (salt := z5q.1) (by decide +kernel) (by decide +kernel) (by decide +kernel) rfl).ope
theorem z66 {s : Ses} (h : s.sealed = [card9]) : q62 s 3 = some card9 := by
 unfold q62
 rw [h]
 rfl
theorem j41 {s : Ses} (h : s.sealed = [card9]) : q62 s 7 = none := by
 unfold q62
 rw [h]
 rfl
def actN : Act := ⟨4, 0, default, default, shn9⟩
theorem j2c : doR ses9L actN = .inl sesN := by
 refine Did.to ((q5s _).2 k73) (.dShow rfl ?_)
 unfold k4c
 rw [if_pos (by decide +kernel), if_pos]
 ·rfl
 ·show q7u ses9L shn9 = true
  unfold q7u
  have : q62 ses9L shn9.j = some card9 := z66 rfl
  rw [this]
  show (q9b card9 shn9).isSome = true
  rw [y3j]
  rfl
theorem k96 : RightP sesN := (j11 j2c).2.right k73
theorem j2d : k72 ses2L = [⟨3, []⟩, ⟨3, []⟩] := by decide +kernel
theorem j2e : k72 sesN = [⟨1, [9]⟩, ⟨3, []⟩] := by
 unfold k72
 rw [if_pos ((q5s _).2 k96)]
 show [q7j sesN 3, q7j sesN 7] = _
 have ho : q6g sesN = true := by decide +kernel
 have h1 := z65 (s := sesN) (j := 3) (x := card9) (y := shn9) ho (z66 rfl) rfl
 rw [y3j] at h1
 rw [h1, z8w ho (j41 rfl)]
 rfl
theorem y3k {s : Ses} (hj : s.judges = [3, 7]) (hc : s.crits = 1) (hn : s.need = 2) (hk : s.keys = []) (h1 : s.sealed = [] ∨ s.sealed = [card9]) (h2 : s.shown = [] ∨ s.shown = [shn9]) : s.Len where
 judges := by rw [hj]; decide
 sealed := by rcases h1 with h | h <;> rw [h] <;> decide
 keys := by rw [hk]; decide
 shown := by rcases h2 with h | h <;> rw [h] <;> decide
 cards := by
  rcases h1 with h | h <;> rw [h] <;> intro x hx
  ·cases hx
  ·rw [List.mem_singleton.1 hx]; decide
 given := by
  rcases h2 with h | h <;> rw [h] <;> intro x hx
  ·cases hx
  ·rw [List.mem_singleton.1 hx]; decide
 crits := by omega
 need := by omega
end Go.Proofs.YtnooplpbpfiapaaGreatDoor

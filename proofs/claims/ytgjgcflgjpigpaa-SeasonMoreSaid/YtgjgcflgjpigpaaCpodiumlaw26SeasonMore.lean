/- The code of one function. -/
import Derived.Test.YtgjgcflgjpigpaaCode
import Derived.Test.YtgjgcflgjpigpaaS26ZN
import Derived.Test.YtgjgcflgjpigpaaLBw
import Derived.Test.YtgjgcflgjpigpaaLRd
set_option maxRecDepth 100000
namespace Go.Proofs.Ytgjgcflgjpigpaa
open Go.Pv
/-- podium/podiumlaw26.SeasonMore -/
noncomputable def C.podiumlaw26_SeasonMore : MFunc := ⟨166, 4, [.tmp 8],
  (.seq (.region [
    ⟨(some 8), none, .val (.mv (.const (.bool false)))⟩] [])
  (.seq (.seq (.region [
    ⟨(some 20), none, .call (.const (.func (.func F.podiumlaw26_sane) [] [])) []⟩,
    ⟨(some 21), none, .val (.un .not (.tmp 20))⟩] [20])
  (.cond (.tmp 21)
  (.seq (.region [
    ⟨(some 8), none, .val (.mv (.const (.bool false)))⟩] [])
  .ret)
  .skip))
  (.seq (.seq (.region [
    ⟨(some 22), none, .val (.mv (.tmp 0))⟩,
    ⟨(some 23), none, .val (.len (.tmp 22))⟩,
    ⟨(some 24), none, .val (.bin .eql T.int (.tmp 23) (.const (.int 0)))⟩,
    ⟨(some 25), none, .val (.mv (.tmp 24))⟩,
    ⟨(some 26), (some (25, false)), .val (.mv (.tmp 0))⟩,
    ⟨(some 27), (some (25, false)), .val (.len (.tmp 26))⟩,
    ⟨(some 28), (some (25, false)), .val (.bin .gtr T.int (.tmp 27) (.const (.int 20)))⟩,
    ⟨(some 29), none, .val (.pick (.tmp 25) (.const (.bool true)) (.tmp 28))⟩,
    ⟨(some 30), none, .val (.mv (.tmp 29))⟩,
    ⟨(some 31), (some (30, false)), .val (.mv (.tmp 1))⟩,
    ⟨(some 32), (some (30, false)), .val (.bin .lss T.int (.tmp 31) (.const (.int 0)))⟩,
    ⟨(some 33), none, .val (.pick (.tmp 30) (.const (.bool true)) (.tmp 32))⟩,
    ⟨(some 34), none, .val (.mv (.tmp 33))⟩,
    ⟨(some 35), (some (34, false)), .val (.mv (.tmp 1))⟩,
    ⟨(some 36), (some (34, false)), .val (.bin .gtr T.int (.tmp 35) (.const (.int 1099511627776)))⟩,
    ⟨(some 37), none, .val (.pick (.tmp 34) (.const (.bool true)) (.tmp 36))⟩] [22, 23, 24, 25, 26, 27, 28, 29, 30, 31, 32, 33, 34, 35, 36])
  (.cond (.tmp 37)
  (.seq (.region [
    ⟨(some 8), none, .val (.mv (.const (.bool true)))⟩] [])
  .ret)
  .skip))
  (.seq (.region [
    ⟨(some 9), none, .val (.mv (.const (.int 0)))⟩] [])
  (.seq (.seq (.region [
    ⟨(some 38), none, .val (.mv (.tmp 0))⟩,
    ⟨(some 39), none, .val (.len (.tmp 38))⟩,
    ⟨(some 40), none, .val (.mv (.const (.int 0)))⟩] [])
  (.block 0 (.loop (.seq (.region [
    ⟨(some 41), none, .val (.bin .lss T.int (.tmp 40) (.tmp 39))⟩] [])
  (.seq (.cond (.tmp 41)
  .skip
  (.exit 0))
  (.seq (.block 1 (.seq (.region [
    ⟨(some 42), none, .val (.indexAddr 1 (.tmp 38) (.tmp 40))⟩,
    ⟨(some 43), none, .val (.load 1 false (.tmp 42))⟩,
    ⟨(some 11), none, .val (.mv (.tmp 43))⟩] [42, 43])
  (.seq (.seq (.region [
    ⟨(some 44), none, .val (.mv (.tmp 11))⟩,
    ⟨(some 45), none, .val (.bin .lss T.int (.tmp 44) (.const (.int 0)))⟩,
    ⟨(some 46), none, .val (.mv (.tmp 45))⟩,
    ⟨(some 47), (some (46, false)), .val (.mv (.tmp 11))⟩,
    ⟨(some 48), (some (46, false)), .val (.bin .gtr T.int (.tmp 47) (.const (.int 1099511627776)))⟩,
    ⟨(some 49), none, .val (.pick (.tmp 46) (.const (.bool true)) (.tmp 48))⟩] [44, 45, 46, 47, 48])
  (.cond (.tmp 49)
  (.seq (.region [
    ⟨(some 8), none, .val (.mv (.const (.bool true)))⟩] [])
  .ret)
  .skip))
  (.region [
    ⟨(some 50), none, .val (.mv (.tmp 9))⟩,
    ⟨(some 51), none, .val (.mv (.tmp 11))⟩,
    ⟨(some 52), none, .val (.bin .add T.int (.tmp 50) (.tmp 51))⟩,
    ⟨(some 9), none, .val (.mv (.tmp 52))⟩] [50, 51, 52]))))
  (.region [
    ⟨(some 53), none, .val (.bin .add T.int (.tmp 40) (.const (.int 1)))⟩,
    ⟨(some 40), none, .val (.mv (.tmp 53))⟩] [53])))))))
  (.seq (.draw false [
    (.early, ⟨(some 54), none, .val (.mv (.tmp 2))⟩),
    (.early, ⟨(some 55), none, .val (.toInt .i64 (.tmp 54))⟩),
    (.early, ⟨(some 56), none, .val (.bin .rem T.int (.tmp 55) (.const (.int 22)))⟩),
    (.early, ⟨(some 57), none, .val (.mv (.tmp 3))⟩),
    (.early, ⟨(some 58), none, .val (.toInt .i64 (.tmp 57))⟩),
    (.early, ⟨(some 59), none, .val (.mv (.tmp 0))⟩),
    (.early, ⟨(some 60), none, .val (.len (.tmp 59))⟩),
    (.early, ⟨(some 61), none, .val (.bin .rem T.int (.tmp 58) (.tmp 60))⟩),
    (.early, ⟨(some 12), none, .val (.mv (.tmp 56))⟩),
    (.early, ⟨(some 13), none, .val (.mv (.tmp 61))⟩)] [54, 55, 56, 57, 58, 59, 60, 61])
  (.seq (.draw true [
    (.early, ⟨(some 62), none, .val (.buildSlice T.int 0 [] [])⟩),
    (.early, ⟨(some 63), none, .val (.mv (.tmp 0))⟩),
    (.early, ⟨(some 64), none, .val (.mv (.tmp 13))⟩),
    (.early, ⟨(some 65), none, .val (.slice 1 (.tmp 63) (some (.tmp 64)) none none)⟩),
    (.late, ⟨(some 67), none, .val (.mv (.tmp 0))⟩),
    (.late, ⟨(some 68), none, .val (.mv (.tmp 13))⟩),
    (.late, ⟨(some 69), none, .val (.slice 1 (.tmp 67) none (some (.tmp 68)) none)⟩),
    (.hard, ⟨(some 66), none, .append T.int 8 1 (.tmp 62) (.tmp 65)⟩),
    (.hard, ⟨(some 70), none, .append T.int 8 1 (.tmp 66) (.tmp 69)⟩),
    (.late, ⟨(some 14), none, .val (.mv (.tmp 70))⟩)] [62, 63, 64, 65, 66, 67, 68, 69, 70])
  (.seq (.region [
    ⟨(some 71), none, .val (.buildSlice T.int 0 [] [])⟩,
    ⟨(some 72), none, .val (.mv (.tmp 0))⟩,
    ⟨(some 73), none, .append T.int 8 1 (.tmp 71) (.tmp 72)⟩,
    ⟨(some 74), none, .val (.mv (.tmp 1))⟩,
    ⟨(some 75), none, .val (.buildSlice T.int 1 [(.int 0)] [(0, 1, (.tmp 74))])⟩,
    ⟨(some 76), none, .append T.int 8 1 (.tmp 73) (.tmp 75)⟩,
    ⟨(some 15), none, .val (.mv (.tmp 76))⟩] [71, 72, 73, 74, 75, 76])
  (.seq (.region [
    ⟨(some 78), none, .val (.mv (.tmp 0))⟩,
    ⟨(some 79), none, .val (.mv (.tmp 14))⟩,
    ⟨(some 80), none, .val (.mv (.tmp 15))⟩,
    ⟨(some 81), none, .val (.buildSlice T.Lint 3 [.nil, .nil, .nil] [(0, 1, (.tmp 78)), (1, 1, (.tmp 79)), (2, 1, (.tmp 80))])⟩,
    ⟨(some 82), none, .val (.mv (.tmp 12))⟩,
    ⟨(some 83), none, .call (.const (.func (.func F.season_Total) [] [])) [(.tmp 81), (.tmp 82)]⟩,
    ⟨(some 77), none, .val (.mv (.tmp 83))⟩,
    ⟨(some 84), none, .val (.extract 0 (.tmp 77))⟩,
    ⟨(some 85), none, .val (.extract 1 (.tmp 77))⟩,
    ⟨(some 16), none, .val (.mv (.tmp 84))⟩,
    ⟨(some 17), none, .val (.mv (.tmp 85))⟩] [78, 79, 80, 81, 82, 83, 77, 84, 85])
  (.seq (.region [
    ⟨(some 87), none, .val (.mv (.tmp 0))⟩,
    ⟨(some 88), none, .val (.buildSlice T.Lint 1 [.nil] [(0, 1, (.tmp 87))])⟩,
    ⟨(some 89), none, .val (.mv (.tmp 12))⟩,
    ⟨(some 90), none, .val (.bin .add T.int (.tmp 89) (.const (.int 1)))⟩,
    ⟨(some 91), none, .call (.const (.func (.func F.season_Total) [] [])) [(.tmp 88), (.tmp 90)]⟩,
    ⟨(some 86), none, .val (.mv (.tmp 91))⟩,
    ⟨(some 92), none, .val (.extract 0 (.tmp 86))⟩,
    ⟨(some 93), none, .val (.extract 1 (.tmp 86))⟩,
    ⟨(some 18), none, .val (.mv (.tmp 92))⟩,
    ⟨(some 19), none, .val (.mv (.tmp 93))⟩] [87, 88, 89, 90, 91, 86, 92, 93])
  (.seq (.seq (.region [
    ⟨(some 94), none, .val (.mv (.tmp 17))⟩,
    ⟨(some 95), none, .val (.bin .neq T.apiErrno (.tmp 94) (.const (.int 0)))⟩,
    ⟨(some 96), none, .val (.mv (.tmp 95))⟩,
    ⟨(some 97), (some (96, false)), .val (.mv (.tmp 19))⟩,
    ⟨(some 98), (some (96, false)), .val (.bin .neq T.apiErrno (.tmp 97) (.const (.int 0)))⟩,
    ⟨(some 99), none, .val (.pick (.tmp 96) (.const (.bool true)) (.tmp 98))⟩,
    ⟨(some 100), none, .val (.mv (.tmp 99))⟩,
    ⟨(some 101), (some (100, false)), .val (.mv (.tmp 16))⟩,
    ⟨(some 102), (some (100, false)), .val (.len (.tmp 101))⟩,
    ⟨(some 103), (some (100, false)), .val (.bin .neq T.int (.tmp 102) (.const (.int 3)))⟩,
    ⟨(some 104), none, .val (.pick (.tmp 100) (.const (.bool true)) (.tmp 103))⟩,
    ⟨(some 105), none, .val (.mv (.tmp 104))⟩,
    ⟨(some 106), (some (105, false)), .val (.mv (.tmp 18))⟩,
    ⟨(some 107), (some (105, false)), .val (.len (.tmp 106))⟩,
    ⟨(some 108), (some (105, false)), .val (.bin .neq T.int (.tmp 107) (.const (.int 1)))⟩,
    ⟨(some 109), none, .val (.pick (.tmp 105) (.const (.bool true)) (.tmp 108))⟩] [94, 95, 96, 97, 98, 99, 100, 101, 102, 103, 104, 105, 106, 107, 108])
  (.cond (.tmp 109)
  (.seq (.region [
    ⟨(some 8), none, .val (.mv (.const (.bool false)))⟩] [])
  .ret)
  .skip))
  (.seq (.draw false (
    (.early, ⟨(some 110), none, .val (.mv (.tmp 16))⟩) ::
    (.early, ⟨(some 111), none, .val (.indexAddr 1 (.tmp 110) (.const (.int 0)))⟩) ::
    (.early, ⟨(some 112), none, .val (.load 1 false (.tmp 111))⟩) ::
    (.early, ⟨(some 113), none, .val (.mv (.tmp 16))⟩) ::
    (.early, ⟨(some 114), none, .val (.indexAddr 1 (.tmp 113) (.const (.int 1)))⟩) ::
    (.early, ⟨(some 115), none, .val (.load 1 false (.tmp 114))⟩) ::
    (.early, ⟨(some 116), none, .val (.bin .eql T.int (.tmp 112) (.tmp 115))⟩) ::
    (.early, ⟨(some 117), none, .val (.mv (.tmp 116))⟩) ::
    (.early, ⟨(some 118), (some (117, true)), .val (.mv (.tmp 16))⟩) ::
    (.early, ⟨(some 119), (some (117, true)), .val (.indexAddr 1 (.tmp 118) (.const (.int 2)))⟩) ::
    (.early, ⟨(some 120), (some (117, true)), .val (.load 1 false (.tmp 119))⟩) ::
    (.early, ⟨(some 121), (some (117, true)), .val (.mv (.tmp 16))⟩) ::
    (.early, ⟨(some 122), (some (117, true)), .val (.indexAddr 1 (.tmp 121) (.const (.int 0)))⟩) ::
    (.early, ⟨(some 123), (some (117, true)), .val (.load 1 false (.tmp 122))⟩) ::
    (.early, ⟨(some 124), (some (117, true)), .val (.bin .geq T.int (.tmp 120) (.tmp 123))⟩) ::
    (.early, ⟨(some 125), none, .val (.pick (.tmp 117) (.tmp 124) (.const (.bool false)))⟩) ::
    (.early, ⟨(some 126), none, .val (.mv (.tmp 125))⟩) ::
    (.early, ⟨(some 127), (some (126, true)), .val (.mv (.tmp 18))⟩) ::
    (.early, ⟨(some 128), (some (126, true)), .val (.indexAddr 1 (.tmp 127) (.const (.int 0)))⟩) ::
    (.early, ⟨(some 129), (some (126, true)), .val (.load 1 false (.tmp 128))⟩) ::
    (.early, ⟨(some 130), (some (126, true)), .val (.mv (.tmp 16))⟩) ::
    (.early, ⟨(some 131), (some (126, true)), .val (.indexAddr 1 (.tmp 130) (.const (.int 0)))⟩) ::
    (.early, ⟨(some 132), (some (126, true)), .val (.load 1 false (.tmp 131))⟩) ::
    (.early, ⟨(some 133), (some (126, true)), .val (.bin .geq T.int (.tmp 129) (.tmp 132))⟩) ::
    (.early, ⟨(some 134), none, .val (.pick (.tmp 126) (.tmp 133) (.const (.bool false)))⟩) ::
    (.early, ⟨(some 135), none, .val (.mv (.tmp 134))⟩) ::
    (.early, ⟨(some 136), (some (135, true)), .val (.mv (.tmp 16))⟩) ::
    (.early, ⟨(some 137), (some (135, true)), .val (.indexAddr 1 (.tmp 136) (.const (.int 2)))⟩) ::
    (.early, ⟨(some 138), (some (135, true)), .val (.load 1 false (.tmp 137))⟩) ::
    (.early, ⟨(some 139), (some (135, true)), .val (.mv (.tmp 16))⟩) ::
    (.early, ⟨(some 140), (some (135, true)), .val (.indexAddr 1 (.tmp 139) (.const (.int 0)))⟩) ::
    (.early, ⟨(some 141), (some (135, true)), .val (.load 1 false (.tmp 140))⟩) ::
    (.early, ⟨(some 142), (some (135, true)), .val (.mv (.tmp 1))⟩) ::
    (.early, ⟨(some 143), (some (135, true)), .val (.bin .add T.int (.tmp 141) (.tmp 142))⟩) ::
    (.early, ⟨(some 144), (some (135, true)), .val (.bin .leq T.int (.tmp 138) (.tmp 143))⟩) ::
    (.early, ⟨(some 145), none, .val (.pick (.tmp 135) (.tmp 144) (.const (.bool false)))⟩) ::
    (.early, ⟨(some 146), none, .val (.mv (.tmp 145))⟩) ::
    (.early, ⟨(some 147), (some (146, true)), .val (.mv (.tmp 12))⟩) ::
    (.early, ⟨(some 148), (some (146, true)), .val (.mv (.tmp 0))⟩) ::
    (.early, ⟨(some 149), (some (146, true)), .val (.len (.tmp 148))⟩) ::
    (.early, ⟨(some 150), (some (146, true)), .val (.bin .lss T.int (.tmp 147) (.tmp 149))⟩) ::
    (.early, ⟨(some 151), (some (146, true)), .val (.mv (.tmp 150))⟩) ::
    (.early, ⟨(some 152), (some (151, false)), .val (.mv (.tmp 16))⟩) ::
    (.early, ⟨(some 153), (some (151, false)), .val (.indexAddr 1 (.tmp 152) (.const (.int 0)))⟩) ::
    (.early, ⟨(some 154), (some (151, false)), .val (.load 1 false (.tmp 153))⟩) ::
    (.early, ⟨(some 155), (some (151, false)), .val (.mv (.tmp 9))⟩) ::
    (.early, ⟨(some 156), (some (151, false)), .val (.bin .eql T.int (.tmp 154) (.tmp 155))⟩) ::
    (.early, ⟨(some 157), (some (146, true)), .val (.pick (.tmp 151) (.const (.bool true)) (.tmp 156))⟩) ::
    (.early, ⟨(some 158), none, .val (.pick (.tmp 146) (.tmp 157) (.const (.bool false)))⟩) ::
    (.early, ⟨(some 159), none, .val (.mv (.tmp 158))⟩) ::
    (.early, ⟨(some 160), (some (159, true)), .val (.mv (.tmp 16))⟩) ::
    (.early, ⟨(some 161), (some (159, true)), .val (.indexAddr 1 (.tmp 160) (.const (.int 0)))⟩) ::
    (.early, ⟨(some 162), (some (159, true)), .val (.load 1 false (.tmp 161))⟩) ::
    (.early, ⟨(some 163), (some (159, true)), .val (.mv (.tmp 9))⟩) ::
    (.early, ⟨(some 164), (some (159, true)), .val (.bin .leq T.int (.tmp 162) (.tmp 163))⟩) ::
    (.early, ⟨(some 165), none, .val (.pick (.tmp 159) (.tmp 164) (.const (.bool false)))⟩) ::
    (.early, ⟨(some 8), none, .val (.mv (.tmp 165))⟩) :: []) (110 :: 111 :: 112 :: 113 :: 114 :: 115 :: 116 :: 117 :: 118 :: 119 :: 120 :: 121 :: 122 :: 123 :: 124 :: 125 :: 126 :: 127 :: 128 :: 129 :: 130 :: 131 :: 132 :: 133 :: 134 :: 135 :: 136 :: 137 :: 138 :: 139 :: 140 :: 141 :: 142 :: 143 :: 144 :: 145 :: 146 :: 147 :: 148 :: 149 :: 150 :: 151 :: 152 :: 153 :: 154 :: 155 :: 156 :: 157 :: 158 :: 159 :: 160 :: 161 :: 162 :: 163 :: 164 :: 165 :: []))
  .ret))))))))))))⟩
theorem H.podiumlaw26_SeasonMore : Has P F.podiumlaw26_SeasonMore C.podiumlaw26_SeasonMore := ⟨Try.f7, Try.func7, by kernel_rfl, by kernel_rfl⟩
end Go.Proofs.Ytgjgcflgjpigpaa
/- Points, totals and records match the specification. -/
namespace Go.Proofs.Ytgjgcflgjpigpaa
open Go.Pv
set_option maxRecDepth 100000
set_option maxHeartbeats 8000000
end Go.Proofs.Ytgjgcflgjpigpaa
/- Points of ranks. -/
namespace Go.Proofs.Ytgjgcflgjpigpaa
open Go.Pv
set_option maxRecDepth 100000
set_option maxHeartbeats 8000000
end Go.Proofs.Ytgjgcflgjpigpaa
/- The best events: all choices. -/
namespace Go.Proofs.Ytgjgcflgjpigpaa
open Go.Pv
set_option maxRecDepth 100000
set_option maxHeartbeats 8000000
/-- The rows are short, and their numbers fine. -/
def SmallR (c : Nat) (r : List Int) : Prop := r.length ≤ c ∧ ∀ x ∈ r, 0 ≤ x ∧ x ≤ 1099511627776
theorem totE_small {L : List (Bool × List Int)} (h1 : L.length ≤ 20) (h2 : ∀ r ∈ L, SmallR 64 r.2) {k : Nat} (hk : k ≤ 64) : totE L k = 0 ∧ totL L k = L.map fun r => topSum r.2 k := by
  have e1 : L.any (fun r => decide ((64 : Int) < r.2.length)) = false := by
    rw [List.any_eq_false]
    intro r hr
    have := (h2 r hr).1
    simp; omega
  have e2 : L.any (fun r => !r.2.all amt) = false := by
    rw [List.any_eq_false]
    intro r hr
    have : r.2.all amt = true := List.all_eq_true.2 fun x hx => amt_iff.2 ((h2 r hr).2 x hx)
    simp [this]
  have e3 : btw (k : Int) 0 64 = true := by unfold btw; simp; omega
  have e4 : decide ((4096 : Int) < L.length) = false := decide_eq_false (by omega)
  have e : totE L k = 0 := by unfold totE; rw [e1, e2, e3, e4]; rfl
  exact ⟨e, by unfold totL; rw [if_pos e]; simp⟩
end Go.Proofs.Ytgjgcflgjpigpaa
/- One event more, or a greater best. -/
namespace Go.Proofs.Ytgjgcflgjpigpaa
open Go.Pv
set_option maxRecDepth 100000
set_option maxHeartbeats 8000000
theorem more_law (r : List Int) (n b1 b2 : Int) (hb1 : 0 ≤ b1 ∧ b1 < 256) (hb2 : 0 ≤ b2 ∧ b2 < 256) (st : Store) : Rets P F.podiumlaw26_SeasonMore [intLst false r, .int n, .val (.int .u8 b1), .val (.int .u8 b2)] st (.bool true) := by
  refine H.podiumlaw26_SeasonMore.view hmix rfl rfl ?_
  by_cases h0 : r = []
  · repeat' (first 
     | (with_reducible refine Rets.xcall (sane_spec _) ?_)
     | (simp -dsimp -implicitDefEqProofs [*]))
    exact .same ⟨rfl, rfl⟩
  have hl0 : 0 < r.length := List.length_pos_iff.2 h0
  by_cases h1 : (20 : Int) < r.length
  · repeat' (first 
     | (with_reducible refine Rets.xcall (sane_spec _) ?_)
     | (simp -dsimp -implicitDefEqProofs [*]))
    exact .same ⟨rfl, rfl⟩
  by_cases h2 : n < 0
  · repeat' (first 
     | (with_reducible refine Rets.xcall (sane_spec _) ?_)
     | (simp -dsimp -implicitDefEqProofs [*]))
    exact .same ⟨rfl, rfl⟩
  by_cases h3 : 1099511627776 < n
  · repeat' (first 
     | (with_reducible refine Rets.xcall (sane_spec _) ?_)
     | (simp -dsimp -implicitDefEqProofs [*]))
    exact .same ⟨rfl, rfl⟩
  have z0 : List.sum ([] : List Int) = 0 := rfl
  repeat' (first 
   | (with_reducible refine Rets.xcall (sane_spec _) ?_)
   | (simp -dsimp -implicitDefEqProofs [*]))
  refine xloop_for (fun j : Nat => [(0, intLst false r), (1, .int n), (2, .val (.int .u8 b1)), (3, .val (.int .u8 b2)), (9, .int (r.take j).sum), (38, intLst false r), (39, .int r.length), (40, .int j)]) (fun _ => st) (fun j => j ≤ r.length ∧ Hid (∀ i (h : i < r.length), i < j → 0 ≤ r[i] ∧ r[i] ≤ 1099511627776)) (fun j => r.length - j) 0 ⟨Nat.zero_le _, ⟨fun j _ h => absurd h (by omega)⟩⟩ (by simp [z0]) (.refl _) ?_
  clear z0
  rintro j ⟨hj, hJ⟩
  by_cases hjl : j < r.length
  · have hw2 := wrap_succ (n := j) (by omega)
    have hJ2 : Hid (0 ≤ r[j] ∧ r[j] ≤ 1099511627776 → ∀ i (h : i < r.length), i < j + 1 → 0 ≤ r[i] ∧ r[i] ≤ 1099511627776) := ⟨fun h i hi h2 => if e : i = j then by subst e; exact h else hJ.out i hi (by omega)⟩
    clear hJ
    by_cases y1 : r[j] < 0
    · repeat' (simp -dsimp -implicitDefEqProofs [*])
      exact .same ⟨rfl, rfl⟩
    by_cases y2 : 1099511627776 < r[j]
    · repeat' (simp -dsimp -implicitDefEqProofs [*])
      exact .same ⟨rfl, rfl⟩
    have hJ3 := Hid.mk (hJ2.out ⟨by omega, by omega⟩)
    have hsum : (r.take (j + 1)).sum = (r.take j).sum + r[j] := by rw [List.take_succ_eq_append_getElem hjl, List.sum_append]; simp
    have hbd := sum_le (l := r.take (j + 1)) (c := 1099511627776) fun x hx => by
      obtain ⟨i, hi, rfl⟩ := List.mem_iff_getElem.1 hx
      rw [List.length_take] at hi
      rw [List.getElem_take]
      exact hJ3.out i (by omega) (by omega)
    have hl2 : (r.take (j + 1)).length ≤ 20 := Nat.le_trans (List.length_take_le _ _) (by omega)
    obtain ⟨s, hs⟩ : ∃ s, s = (r.take j).sum := ⟨_, rfl⟩
    rw [← hs] at hsum ⊢
    rw [hsum] at hbd
    have x7 : IntKind.i64.wrap (s + r[j]) = s + r[j] := wrap_in (by omega) (by omega)
    have ks := Hid.mk hsum
    clear hJ2 hsum hbd hs hl2
    repeat' (simp -dsimp -implicitDefEqProofs [*])
    exact Next.intro (j + 1) ⟨by omega, hJ3⟩ (by omega) (by simp [ks.out]) (by repeat' (first | exact StLe.refl _ | (refine StLe_cons (by simp [*]; done) ?_) | (refine StLe_fresh (by simp [*]; done) ?_)))
  obtain rfl : j = r.length := by omega
  rw [List.take_length]
  have hS : SmallR 20 r := ⟨by omega, fun x hx => by
    obtain ⟨i, hi, rfl⟩ := List.mem_iff_getElem.1 hx
    exact hJ.out i hi hi⟩
  have x1 : IntKind.i64.wrap b1 = b1 := wrap_in (by omega) (by omega)
  have x2 : IntKind.i64.wrap b2 = b2 := wrap_in (by omega) (by omega)
  obtain ⟨k, hk⟩ : ∃ k : Nat, b1.tmod 22 = k := ⟨(b1.tmod 22).toNat, by have := Int.tmod_nonneg 22 hb1.1; omega⟩
  have hk9 : k ≤ 21 := by have := Int.tmod_lt_of_pos b1 (show (0 : Int) < 22 by omega); omega
  have x3 : IntKind.i64.wrap (b1.tmod 22) = k := by rw [hk]; exact wrap_in (by omega) (by omega)
  obtain ⟨i, hi⟩ : ∃ i : Nat, b2.tmod r.length = i := ⟨(b2.tmod r.length).toNat, by have := Int.tmod_nonneg r.length hb2.1; omega⟩
  have hil : i < r.length := by have := Int.tmod_lt_of_pos b2 (show (0 : Int) < r.length by omega); omega
  have x4 : IntKind.i64.wrap (b2.tmod r.length) = i := by rw [hi]; exact wrap_in (by omega) (by omega)
  have x5 := wrap_succ (n := k) (by omega)
  -- the totals
  have hT : SmallR 64 (r.drop i ++ r.take i) := ⟨by have := hS.1; simp; omega, fun x hx => hS.2 x ((List.perm_append_comm.trans (by rw [List.take_append_drop])).mem_iff.1 hx)⟩
  have hM : SmallR 64 (r ++ [n]) := ⟨by have := hS.1; simp; omega, fun x hx => by
    rcases List.mem_append.1 hx with h | h
    · exact hS.2 x h
    · rw [List.mem_singleton.1 h]; omega⟩
  have hS64 : SmallR 64 r := ⟨Nat.le_trans hS.1 (by omega), hS.2⟩
  obtain ⟨e1, e2⟩ := totE_small (L := [(false, r), (false, r.drop i ++ r.take i), (false, r ++ [n])]) (by simp) (fun q hq => by
    simp at hq
    rcases hq with rfl | rfl | rfl
    · exact hS64
    · exact hT
    · exact hM) (k := k) (by omega)
  obtain ⟨e3, e4⟩ := totE_small (L := [(false, r)]) (by simp) (fun q hq => by
    simp at hq
    subst hq
    exact hS64) (k := k + 1) (by omega)
  have c1 := total_spec true [(false, r), (false, r.drop i ++ r.take i), (false, r ++ [n])] ⟨by simp, fun q hq => by
    simp at hq
    rcases hq with rfl | rfl | rfl
    · exact Nat.le_trans hS64.1 (by omega)
    · exact Nat.le_trans hT.1 (by omega)
    · exact Nat.le_trans hM.1 (by omega)⟩ k
  have c2 := total_spec true [(false, r)] ⟨by simp, fun q hq => by
    simp at hq
    subst hq
    exact Nat.le_trans hS64.1 (by omega)⟩ ((k + 1 : Nat) : Int)
  rw [e1, e2] at c1
  rw [e3, e4] at c2
  have h00 : ∀ x ∈ r, 0 ≤ x := fun x hx => (hS.2 x hx).1
  have f1 : topSum (r.drop i ++ r.take i) k = topSum r k := topSum_perm (List.perm_append_comm.trans (by rw [List.take_append_drop])) k
  obtain ⟨f2, f3⟩ := topSum_more (l := r) (n := n) (by omega) h00 k
  have f4 : topSum r k ≤ topSum r (k + 1) := topSum_mono h00 (by omega)
  have f5 : r.length ≤ k → topSum r k = r.sum := fun h => topSum_all h
  have f6 := topSum_le h00 k
  have f7 := (sum_le hS.2).2
  have f8 : 0 ≤ topSum r k := by have := topSum_mono h00 (Nat.zero_le k); simp [topSum] at this; exact this
  have f9 : r.sum ≤ 20 * 1099511627776 := by omega
  simp only [List.map_cons, List.map_nil, f1] at c1 c2
  obtain ⟨s, hs⟩ : ∃ s, s = r.sum := ⟨_, rfl⟩
  obtain ⟨u, hu⟩ : ∃ s, s = topSum r k := ⟨_, rfl⟩
  obtain ⟨v, hv⟩ : ∃ s, s = topSum r (k + 1) := ⟨_, rfl⟩
  obtain ⟨w, hw⟩ : ∃ s, s = topSum (r ++ [n]) k := ⟨_, rfl⟩
  rw [← hu, ← hw] at c1 f2 f3
  rw [← hv] at c2 f4
  rw [← hu] at f4 f5 f6 f8
  rw [← hs] at f5 f6 f9 ⊢
  have x7 : IntKind.i64.wrap (u + n) = u + n := wrap_in (by omega) (by omega)
  have kB : Hid (u ≤ w ∧ w ≤ u + n ∧ u ≤ v ∧ (r.length ≤ k → u = s) ∧ u ≤ s) := ⟨f2, f3, f4, f5, f6⟩
  clear hs hu hv hw f1 f2 f3 f4 f5 f6 f7 f8 f9 e1 e2 e3 e4 hT hM hS hS64 hJ h00
  have hdl : (r.drop i).length = r.length - i := by simp
  have htl : (r.take i).length = i := by simp; omega
  have i1 : Hid (intRow (r.drop i) = (intRow r).drop i ∧ intRow (r.take i) = (intRow r).take i) := ⟨(intRow_drop r i).symm, (intRow_take r i).symm⟩
  have hAl : (r.drop i ++ r.take i).length = r.length := by rw [List.length_append, hdl, htl]; omega
  have hBl : (r ++ [n]).length = r.length + 1 := by simp
  obtain ⟨A, hA⟩ : ∃ A, A = r.drop i ++ r.take i := ⟨_, rfl⟩
  obtain ⟨B, hB⟩ : ∃ B, B = r ++ [n] := ⟨_, rfl⟩
  rw [← hA] at c1 hAl
  rw [← hB] at c1 hBl
  replace c1 : ∀ st, Rets P F.season_Total [.list true [.list false (intRow r) r.length, .list false (intRow A) r.length, .list false (intRow B) (r.length + 1)] 3, .int k] st (.tuple [.list false [.int u, .int u, .int w] 3, .int 0]) := fun st => by
    have e : [PV.list false (intRow r) r.length, .list false (intRow A) r.length, .list false (intRow B) (r.length + 1)] = llRow [(false, r), (false, A), (false, B)] := by
      show _ = [intLst false r, intLst false A, intLst false B]
      simp only [intLst]
      rw [hAl, hBl]
    rw [e]
    exact c1 st
  replace c2 : ∀ st, Rets P F.season_Total [.list true [.list false (intRow r) r.length] 1, .int ((k + 1 : Nat) : Int)] st (.tuple [.list false [.int v] 1, .int 0]) := c2
  have kAB := Hid.mk (And.intro hA hB)
  clear hA hB
  have hkk : ((k + 1 : Nat) : Int) = (k : Int) + 1 := by omega
  rw [hkk] at c2
  clear hkk
  repeat' (first 
   | (with_reducible refine DrawLate.intro [] ?_)
   | ((with_reducible refine and_keep ?_ fun hk => ?_); omega)
   | (simp -dsimp -implicitDefEqProofs [-xappend_list, *]))
  refine xappend_copy (row := intRow) intRow_len (r.drop i) i1.out.1 hdl (by omega) fun o ho hol => ?_
  have hcl := Cls_acc (T := T.int) ho (Cls.self st [])
  replace hol : Hid (accL o = r.drop i) := ⟨hol⟩
  repeat' (first 
   | (with_reducible refine Cls_and ?_ ?_)
   | (simp -dsimp -implicitDefEqProofs [-xappend_list, *]))
  clear hcl
  refine xappend_imm (row := intRow) intRow_len intRow_append o ho (r.take i) i1.out.2 htl (by rw [hol.out, hdl]; omega) (fun h => by
    have := congrArg List.length h
    rw [hol.out, List.length_append, hdl, htl] at this
    simp at this
    omega) ?_
  rw [hol.out, ← kAB.out.1, hAl]
  clear ho hol i1
  repeat' (first 
   | (with_reducible refine Lit.imm ?_)
   | (with_reducible refine Cls_and ?_ ?_)
   | (with_reducible exact Cls.self _ _)
   | (simp -dsimp -implicitDefEqProofs [-xappend_list, *]))
  refine xappend_copy (row := intRow) intRow_len r rfl rfl (by omega) fun o ho hol => ?_
  replace hol : Hid (accL o = r) := ⟨hol⟩
  repeat' (first 
   | (with_reducible refine Lit.imm ?_)
   | (simp -dsimp -implicitDefEqProofs [-xappend_list, *]))
  refine xappend_imm (row := intRow) intRow_len intRow_append o ho [n] rfl rfl (by rw [hol.out]; omega) (fun h => by simp at h) ?_
  rw [hol.out, ← kAB.out.2, hBl]
  clear ho hol kAB hAl hBl
  repeat' (first 
   | (with_reducible refine Rets.xcall (c1 _) ?_)
   | (with_reducible refine Rets.xcall (c2 _) ?_)
   | (with_reducible refine Lit.imm ?_)
   | (with_reducible refine And.intro (fun h => ?_) (fun h => ?_)) <;> (try (exfalso; omega))
   | (simp -dsimp -implicitDefEqProofs [*]))
  all_goals first
    | exact .same ⟨rfl, rfl⟩
    | (rw [decide_eq_true (show u ≤ s from kB.out.2.2.2.2)]; exact .same ⟨rfl, rfl⟩)
    | (obtain ⟨k1, k2, k3, k4, k5⟩ := kB.out; exfalso; omega)
end Go.Proofs.Ytgjgcflgjpigpaa

/- Packets in another order: the parties know the same afterwards. -/
import Derived.Test.YtmlmoaimjifpgaaGreatA58A
import Derived.Test.YtmlmoaimjifpgaaGreatG58W
namespace Go.Proofs.YtmlmoaimjifpgaaGreat
open Go.Pv Go.Pv.Cd
set_option maxRecDepth 100000
set_option maxHeartbeats 4000000
theorem j48 (n : Nat) (hn : n < 256) (t u : Bool) (l : List (Mv Note)) (order : List Nat) (hb8 : ∀ x ∈ order, x < 256) : Rets P F.q1o [u8v n, .list t (mvR l) l.length, .list u (u8R order) order.length] [] (.bool true) := by
 have hml := z3g l
 have hol := z8w order
 obtain ⟨k, hk⟩ : ∃ k, k = n % 4 := ⟨_, rfl⟩
 obtain ⟨m, hm⟩ : ∃ m, m = 1 + k := ⟨_, rfl⟩
 have hm4 : 1 ≤ m ∧ m ≤ 4 := by omega
 have hwn : IntKind.i64.wrap (n : Int) = n := k1f (by omega)
 have hrem : (n : Int).tmod 4 = (k : Int) := by rw [hk]; exact (Int.ofNat_tmod n 4).symm
 have hw1 : IntKind.i64.wrap (1 + (k : Int)) = (m : Int) := by rw [q5a (by omega) (by omega), hm]; omega
 clear hk hm
 have kb := Hid.mk hb8
 clear hb8
 refine H.q1o.view q5d rfl rfl ?_
 by_cases hl : 14 < l.length
 ·have hlI : (14 : Int) < l.length := by omega
  repeat' (first 
   | (with_reducible refine Rets.xcall (q54 _) ?_)
   | (simp -dsimp -implicitDefEqProofs [*]))
  exact .same ⟨rfl, rfl⟩
 have hlI : ¬ (14 : Int) < l.length := by omega
 by_cases ho : 100 < order.length
 ·have hoI : (100 : Int) < order.length := by omega
  repeat' (first 
   | (with_reducible refine Rets.xcall (q54 _) ?_)
   | (simp -dsimp -implicitDefEqProofs [*]))
  exact .same ⟨rfl, rfl⟩
 have hoI : ¬ (100 : Int) < order.length := by omega
 repeat' (first 
  | (with_reducible refine Rets.xcall (q54 _) ?_)
  | (simp -dsimp -implicitDefEqProofs [*]))
 refine q48 (z1m m hm4 t l (by omega) _) ?_
 rintro e s ⟨x, hx, rfl, rfl⟩
 rw [q5l]
 obtain ⟨U, hin, -, hUl, -⟩ := hx.ex
 have hxq := hx.q
 have hxl : x.1.q.length ≤ 2500 := by omega
 have hin2 := Hid.mk hin
 rw [q59 hin]
 clear hin hx hwn hrem hw1
 obtain ⟨r, told⟩ := x
 simp only at hin2 hxl
 have d0 := fun st => k20 hin2.out hm4 (by omega) hxl true [] (by simp) (by simp) st
 have d1 := fun st => k20 hin2.out hm4 (by omega) hxl u order (by omega) kb.out st
 rw [q59 hin2.out] at d0 d1
 repeat' (first 
  | (with_reducible refine Fresh.intro fun b hb => ?_) <;> (try simp -dsimp -implicitDefEqProofs [*] at hb)
  | (simp -dsimp -implicitDefEqProofs [*]))
 refine q48 (PCalls.args (qs := [.agg [.list false (prR r.peers) m, Pk.lst false (r.q.map q6q), .list false [] 0], .list true (u8R []) ([] : List Nat).length]) ⟨.refl _, PLe.nil, trivial⟩ (d0 _)) ?_
 rintro e s ⟨y, hy, hyq, rfl, rfl⟩
 rw [q5l, q59 hy.inn, hyq]
 have ky := Hid.mk hy
 have kyq := Hid.mk hyq
 clear hy hyq d0
 repeat' (first 
  | (with_reducible refine Fresh.intro fun b hb => ?_) <;> (try simp -dsimp -implicitDefEqProofs [*] at hb)
  | (simp -dsimp -implicitDefEqProofs [*]))
 refine q48 (d1 _) ?_
 rintro e s ⟨z, hz, hzq, rfl, rfl⟩
 rw [q5l, q59 hz.inn, hzq]
 have ep : z.peers = y.peers := j09 cmpN_ord hz.inn ky.out.inn hzq kyq.out fun i w => (hz.will i w).trans (ky.out.will i w).symm
 rw [ep]
 have hpl := ky.out.inn.len
 have hsm := fun st => z3f y.peers [] (by simp) (by omega) (fun l hl => by
  have h1 := ky.out.inn
  have h2 : l.length ≤ U.length := q74 (Rise.nodup cmpN_ord (h1.rise l hl)) (h1.sub l hl)
  omega) st
 rw [hpl] at hsm
 clear ep hz hzq ky kyq d1 hpl
 repeat' (first 
  | (with_reducible refine Fresh.intro fun b hb => ?_) <;> (try simp -dsimp -implicitDefEqProofs [*] at hb)
  | (with_reducible refine Rets.xcall (hsm _) ?_)
  | (simp -dsimp -implicitDefEqProofs [*]))
 exact .drop (st' := []) (fun _ _ h => by cases h) ⟨rfl, rfl⟩
theorem j49 (n : Int) (hn : 0 ≤ n ∧ n < 256) (l : List (Mv Note)) (o : List (BitVec 8)) : Rets P F.q1o [.val (.int .u8 n), .list false (mvR l) l.length, q5v false o] [] (.bool true) := by
 have := j48 n.toNat (by omega) false false l (o.map BitVec.toNat) fun x hx => by
  obtain ⟨b, -, rfl⟩ := List.mem_map.1 hx
  exact b.isLt
 have e : ((n.toNat : Nat) : Int) = n := by omega
 have e2 : u8R (o.map BitVec.toNat) = q5b o := by
  unfold u8R q5b
  rw [List.map_map]
  rfl
 unfold u8v at this
 rw [e, e2, List.length_map] at this
 exact this
open Go.ChangeShapes Go.WideShapes Go.ChangeAt Go.RowKit Go.Pv
set_option maxRecDepth 100000 in
theorem k22 (H : Type) (enc : TypeId × Value → H) (W : World) (base : Nat) (args : Array Value) (ds gs : List (DataW H)) (before : List MemPlace)
  (hval0 : ∀ (j : Nat) t v, Tryz.f7.params[j]? = some t → args[j]? = some v → Value.okWide Tryz.prog W .any base t v)
  (hW : DataW.Whole enc Tryz.prog Tryz.f7.params.toList Rows.partiesOrderSpec.vars false W args.toList ds gs before) :
  Calls Tryz.prog 7 args W fun e W' => ∃ v, e = .returned v ∧ Rows.partiesOrderSpec.post enc Tryz.prog Tryz.f7 false true false false W args v W' := by
 have hval : ∀ (j : Nat) t v, Tryz.f7.params[j]? = some t → args[j]? = some v → Value.okWide Tryz.prog W .any base t v := hval0
 have hW' := hW
 obtain ⟨p, q, hA0, hV, rfl, hfz, hnd⟩ := hW
 have hA : DataW.TrodAll enc Tryz.prog W 0 (fun _ => true) true Tryz.f7.params.toList args.toList ds p := hA0
 rw [Tryz.params7] at hA hval
 obtain ⟨v0, vs0, d0, ds0, p0, q0, hargs, rfl, rfl, h0, r0⟩ := trodAll_cons hA
 obtain ⟨v1, vs1, d1, ds1, p1, q1, rfl, rfl, rfl, h1, r1⟩ := trodAll_cons r0
 obtain ⟨v2, vs2, d2, ds2, p2, q2, rfl, rfl, rfl, h2, r2⟩ := trodAll_cons r1
 obtain ⟨rfl, rfl, rfl⟩ := trodAll_nil r2
 obtain rfl : args = #[v0, v1, v2] := by cases args; simp_all
 obtain ⟨rfl, rfl⟩ := trodVars_none hV
 obtain ⟨a0, rfl, rfl, rfl, w0⟩ := open_int Tryz.underlying5 (hval 0 5 v0 rfl rfl) h0
 have k1 := h1
 have lt1 : ∀ x ∈ p1, x.block < W.heap.size := by obtain ⟨m, hm⟩ := k1; exact DataW.trod_lt m _ _ _ hm
 obtain ⟨x1, g1, w1⟩ := Opens.argL (gl := []) z3j Tryz.underlying78 (hval 1 78 v1 rfl rfl) h1
 have k2 := h2
 have lt2 : ∀ x ∈ p2, x.block < W.heap.size := by obtain ⟨m, hm⟩ := k2; exact DataW.trod_lt m _ _ _ hm
 obtain ⟨x2, g2, w2⟩ := Opens.argL (gl := []) z3i Tryz.underlying79 (hval 2 79 v2 rfl rfl) h2
 clear hA0 hval0
 refine ((_root_.Go.Proofs.YtmlmoaimjifpgaaGreat.H.q1o).bridgeG (gl := []) (j49 a0 (j42 w0) x1 x2) (w := W) (fun _ _ _ h => by cases h) (vs := [.int .u8 a0, v1, v2]) ⟨rfl, w1, w2, trivial⟩).mono fun e W' ⟨he, bel⟩ => ?_
 subst he
 exact ⟨_, rfl, _, _, _, [], _, [], hW', trodAll_mk1 (shut_bool Tryz.underlying4 _), (trodAll_cons_mk (shut_int Tryz.underlying5 w0) (trodAll_cons_mk (Go.RowKit.Below.trod k21 (by kernel_rfl) (of_decide_eq_true (by kernel_rfl)) k1 bel lt1) (trodAll_cons_mk (Go.RowKit.Below.trod k21 (by kernel_rfl) (of_decide_eq_true (by kernel_rfl)) k2 bel lt2) trodAll_mk0))), rfl, bel.frame _, fun h => by cases h⟩
set_option maxRecDepth 100000 in
theorem k4g (os : Os) (started : os.Started) (H : Type) (enc : TypeId × Value → H) :
  ReturnsInHanded {} Tryz.checked os 7 .any (Rows.partiesOrderSpec.pre6 enc Tryz.prog Tryz.f7 Rows.partiesOrderRow.domain false) (Rows.partiesOrderSpec.post enc Tryz.prog Tryz.f7 false true false false) := by
 refine returnsInHanded_of_change (C := Tryz.checked) own started (by kernel_rfl) Tryz.func7
  (ChangeSpec.witness6 (enc := enc) (C := Tryz.checked) false ⟨#[], #[.int .u8 0, .slice none 0 0, .slice none 0 0], []⟩ 8 (by kernel_rfl) (by kernel_rfl) (by kernel_rfl) (by kernel_rfl)) ?_
 intro W base args ds gs before hval hW _ _
 exact k22 H enc W base args ds gs before hval hW
theorem partiesOrder_holds : Rows.PartiesOrderSaid :=
 OpenClaim.holds_of_wide 7 Tryz.f7 rfl rfl rfl rfl rfl rfl rfl ⟨rfl, rfl, rfl, rfl, rfl⟩ rfl rfl rfl rfl rfl (by kernel_rfl) Tryz.func7 (by kernel_rfl)
  (of_decide_eq_true (by kernel_rfl)) (by unfold Func.isWrapper; first | (rw [if_pos (by decide +kernel)]; kernel_rfl) | (rw [if_neg (by decide +kernel)]; exact ⟨rfl, rfl⟩))
  (fun os started H enc _ => k4g os started H enc)
end Go.Proofs.YtmlmoaimjifpgaaGreat

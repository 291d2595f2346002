/- The law TiesLots of chapter 21: whatever the input, its function gives true and leaves what it was given as it was (the list of keys takes no more than the form's own reach, so that one key more is still within what an append may hold). -/
import Derived.Test.YtliglilanpfjhaaS21ZW
import Derived.Test.YtliglilanpfjhaaCpodiumlaw21TiesFurther
import Derived.HandedShaped
namespace Go.Proofs.Ytliglilanpfjhaa
open Go.ChangeShapes Go.WideShapes Go.ChangeAt Go.RowKit Go.Pv
theorem reach_len {H : Type} {enc : TypeId × Value → H} {W : World} {base : Nat} {spare : Nat → Bool} {held : Bool} {t e : TypeId} (ht : Try.prog.underlying t = some (.slice e)) {v : Value} {d : DataW H} {p : List MemPlace}
    (hd : DataW.Trod enc Try.prog W base spare held t v d p) {I : Imm} {tt : Bool} {cs : List PV} {n : Nat} (hv : vrep I (.list tt cs n) v) {ts : List TypeId} {ds : List (DataW H)} {j : Nat}
    (hr : (DataW.weightsEach Try.prog ts ds).all (· ≤ reachBytes) = true) (hts : ts[j]? = some t) (hds : ds[j]? = some d) : n * Try.prog.bytesOf e ≤ reachBytes := by
  simp only [vrep] at hv
  obtain ⟨a, cap, vs, rfl, -⟩ := hv
  obtain ⟨fuel, hf⟩ := hd
  have hf' : DataW.trod enc Try.prog W base spare held fuel t [.slice a n cap] = some (d, p) := hf
  rcases DataW.trod_slice ht hf' with ⟨h1, h2⟩ | ⟨a', len, cap', elems, rest, m, -, h1, h2, -, -, -, h3, -⟩
  · simp only [List.cons.injEq, Value.slice.injEq] at h1
    have hn : n = 0 := by omega
    rw [hn, Nat.zero_mul]
    exact Nat.zero_le _
  · simp only [List.cons.injEq, Value.slice.injEq] at h1
    have e : d = .slice (elems.map (·.1)) (rest.map (·.1)) := congrArg Prod.fst h2
    subst e
    have := sized_slice hr hts hds ht
    simp only [List.length_map] at this
    exact Nat.le_trans (Nat.mul_le_mul_right _ (by omega)) this
set_option maxRecDepth 100000 in
theorem tiesLots_contract (H : Type) (enc : TypeId × Value → H) (W : World) (base : Nat) (args : Array Value) (ds gs : List (DataW H)) (before : List MemPlace)
    (hval0 : ∀ (j : Nat) t v, Try.f6.params[j]? = some t → args[j]? = some v → Value.okWide Try.prog W .any base t v)
    (hW : DataW.Whole enc Try.prog Try.f6.params.toList Rows.tiesLotsSpec.vars false W args.toList ds gs before) (hr : (DataW.weightsEach Try.prog (Try.f6.params.toList ++ Rows.tiesLotsSpec.plain.varTypes Try.prog) (ds ++ gs)).all (· ≤ reachBytes) = true) :
    Calls Try.prog 6 args W fun e W' => ∃ v, e = .returned v ∧ Rows.tiesLotsSpec.post enc Try.prog Try.f6 false true false false W args v W' := by
  have hval : ∀ (j : Nat) t v, Try.f6.params[j]? = some t → args[j]? = some v → Value.okWide Try.prog W .any base t v := hval0
  have hW' := hW
  obtain ⟨p, q, hA0, hV, rfl, hfz, hnd⟩ := hW
  have hA : DataW.TrodAll enc Try.prog W 0 (fun _ => true) true Try.f6.params.toList args.toList ds p := hA0
  rw [Try.params6] at hA hval
  obtain ⟨v0, vs0, d0, ds0, p0, q0, hargs, rfl, rfl, h0, r0⟩ := trodAll_cons hA
  obtain ⟨v1, vs1, d1, ds1, p1, q1, rfl, rfl, rfl, h1, r1⟩ := trodAll_cons r0
  obtain ⟨v2, vs2, d2, ds2, p2, q2, rfl, rfl, rfl, h2, r2⟩ := trodAll_cons r1
  obtain ⟨rfl, rfl, rfl⟩ := trodAll_nil r2
  obtain rfl : args = #[v0, v1, v2] := by cases args; simp_all
  obtain ⟨rfl, rfl⟩ := trodVars_none hV
  have k0 := h0
  have lt0 : ∀ x ∈ p0, x.block < W.heap.size := by obtain ⟨m, hm⟩ := k0; exact DataW.trod_lt m _ _ _ hm
  obtain ⟨x0, g0, w0⟩ := Opens.argL (gl := []) op_keys Try.underlying22 (hval 0 22 v0 rfl rfl) h0
  have k1 := h1
  have lt1 : ∀ x ∈ p1, x.block < W.heap.size := by obtain ⟨m, hm⟩ := k1; exact DataW.trod_lt m _ _ _ hm
  obtain ⟨x1, g1, w1⟩ := Opens.argS (gl := []) op_keyed Try.underlying30 (hval 1 30 v1 rfl rfl) h1
  have k2 := h2
  have lt2 : ∀ x ∈ p2, x.block < W.heap.size := by obtain ⟨m, hm⟩ := k2; exact DataW.trod_lt m _ _ _ hm
  obtain ⟨x2, g2, w2⟩ := Opens.argS (gl := []) op_keyed Try.underlying30 (hval 2 30 v2 rfl rfl) h2
  have hl : (x0.length + 1) * 32 ≤ 140737488355328 := by
    have b0 := reach_len Try.underlying22 h0 w0 (j := 0) hr (by rw [Try.params6]; rfl) rfl
    have hb : Try.prog.bytesOf 44 = 32 := by kernel_rfl
    have hB : reachBytes = 140737488351232 := rfl
    rw [hb, hB] at b0
    omega
  clear hA0 hval0
  refine ((_root_.Go.Proofs.Ytliglilanpfjhaa.H.podiumlaw21_TiesLots).bridgeG (gl := []) (lots_law x0 hl x1 x2 (ky_wide w1) (ky_wide w2) []) (w := W) (fun _ _ _ h => by cases h) (vs := [v0, v1, v2]) ⟨w0, w1, w2, trivial⟩).mono fun e W' ⟨he, bel⟩ => ?_
  subst he
  exact ⟨_, rfl, _, _, _, [], _, [], hW', trodAll_mk1 (shut_bool Try.underlying4 _), (trodAll_cons_mk (Go.RowKit.Below.trod laidOut (by kernel_rfl) (of_decide_eq_true (by kernel_rfl)) k0 bel lt0) (trodAll_cons_mk (Go.RowKit.Below.trod laidOut (by kernel_rfl) (of_decide_eq_true (by kernel_rfl)) k1 bel lt1) (trodAll_cons_mk (Go.RowKit.Below.trod laidOut (by kernel_rfl) (of_decide_eq_true (by kernel_rfl)) k2 bel lt2) trodAll_mk0))), rfl, bel.frame _, fun h => by cases h⟩
set_option maxRecDepth 100000 in
theorem tiesLots_lifted (os : Os) (started : os.Started) (H : Type) (enc : TypeId × Value → H) :
    ReturnsInHanded {} Try.checked os 6 .any (Rows.tiesLotsSpec.pre6 enc Try.prog Try.f6 Rows.tiesLotsRow.domain false) (Rows.tiesLotsSpec.post enc Try.prog Try.f6 false true false false) := by
  refine returnsInHanded_of_change_shaped (C := Try.checked) own started (by kernel_rfl) Try.func6
    (ChangeSpec.witness6 (enc := enc) (C := Try.checked) false ⟨#[], #[.slice none 0 0, .agg #[.int .i64 0, .bool false, .slice none 0 0, .bool false, .slice none 0 0, .slice none 0 0, .slice none 0 0, .int .i64 0, .int .i64 0, .int .i64 0], .agg #[.int .i64 0, .bool false, .slice none 0 0, .bool false, .slice none 0 0, .slice none 0 0, .slice none 0 0, .int .i64 0, .int .i64 0, .int .i64 0]], []⟩ 8 (by kernel_rfl) (by kernel_rfl) (by kernel_rfl) (by kernel_rfl)) ?_
  intro W base args ds gs before hval hW _ hr _ _
  exact tiesLots_contract H enc W base args ds gs before hval hW hr
theorem tiesLots_said : Rows.TiesLotsSaid :=
  OpenClaim.holds_of_wide 6 Try.f6 rfl rfl rfl rfl rfl rfl rfl ⟨rfl, rfl, rfl, rfl, rfl⟩ rfl rfl rfl rfl rfl (by kernel_rfl) Try.func6 (by kernel_rfl)
    (of_decide_eq_true (by kernel_rfl)) (by unfold Func.isWrapper; first | (rw [if_pos (by decide +kernel)]; kernel_rfl) | (rw [if_neg (by decide +kernel)]; exact ⟨rfl, rfl⟩))
    (fun os started H enc _ => tiesLots_lifted os started H enc)

end Go.Proofs.Ytliglilanpfjhaa

/- For the rows: the two package variables, arguments opened beside them. -/
import Derived.Test.YtmgpkcpalpejcaaDoorRows
import Derived.Test.YtmgpkcpalpejcaaDoorCards
import Derived.Test.YtmgpkcpalpejcaaDoorTie
import Derived.WalkKit
import Derived.ProofKit
import Derived.OpenShut
import Derived.ChangeOld
import Derived.Below
import Derived.LaidMore
import Derived.SevenTiedAt
import Derived.Stop.Joined
import Derived.Test.YtmgpkcpalpejcaaDoorLGl
import Derived.Test.YtmgpkcpalpejcaaDoorS34ZF
import Derived.SizedLaws
namespace Go.Proofs.YtmgpkcpalpejcaaDoor
set_option maxRecDepth 100000
set_option maxHeartbeats 4000000
open Go.ChangeShapes Go.WideShapes Go.ChangeAt Go.RowKit Go.Pv
theorem own : ownKnob Tryd.prog.godebug = none := by kernel_rfl
theorem laidOut : laidOutB Tryd.prog = true := by kernel_rfl
abbrev laidL : List (String × DataW Unit) := [("podium/digest.start", Rows.laid_podium_digest_start), ("podium/digest.numbers", Rows.laid_podium_digest_numbers)]
def startL : List Int := [1779033703, 3144134277, 1013904242, 2773480762, 1359893119, 2600822924, 528734635, 1541459225]
def numsL : List Int := [1116352408, 1899447441, 3049323471, 3921009573, 961987163, 1508970993, 2453635748, 2870763221, 3624381080, 310598401, 607225278, 1426881987, 1925078388, 2162078206, 2614888103, 3248222580, 3835390401, 4022224774, 264347078, 604807628, 770255983, 1249150122, 1555081692, 1996064986, 2554220882, 2821834349, 2952996808, 3210313671, 3336571891, 3584528711, 113926993, 338241895, 666307205, 773529912, 1294757372, 1396182291, 1695183700, 1986661051, 2177026350, 2456956037, 2730485921, 2820302411, 3259730800, 3345764771, 3516065817, 3600352804, 4094571909, 275423344, 430227734, 506948616, 659060556, 883997877, 958139571, 1322822218, 1537002063, 1747873779, 1955562222, 2024104815, 2227730452, 2361852424, 2428436474, 2756734187, 3204031479, 3329325298]
def gl34 : Glob := [(0, T.t8uint32, startL.map (Value.int .u32)), (1, T.t64uint32, numsL.map (Value.int .u32))]
theorem gStart : Tryd.prog.globalNamed "podium/digest.start" = some 0 := by kernel_rfl
theorem gNums : Tryd.prog.globalNamed "podium/digest.numbers" = some 1 := by kernel_rfl
theorem tStart : (Tryd.prog.globals[0]?).map (·.type) = some T.t8uint32 := by kernel_rfl
theorem tNums : (Tryd.prog.globals[1]?).map (·.type) = some T.t64uint32 := by kernel_rfl
theorem zStart : ((((begin Tryd.prog (fun _ _ => 0) default).world.heap[0]?).bind Obj.row?).map fun r => (r.1.toList, r.2)) = some (List.replicate 8 (Value.int .u32 0), T.t8uint32) := by kernel_rfl
theorem zNums : ((((begin Tryd.prog (fun _ _ => 0) default).world.heap[1]?).bind Obj.row?).map fun r => (r.1.toList, r.2)) = some (List.replicate 64 (Value.int .u32 0), T.t64uint32) := by kernel_rfl
theorem door_met (os : Os) (args : Array Value) : laidMetH Tryd.prog laidL ((World.doorLaid Tryd.prog 4000 os).forCall (fun _ _ => 0) ⟨#[], args, []⟩).memory :=
  laidMetH_of_parts3 (fuel := 8) (laidMet_of_run' 8 (by kernel_rfl) (by kernel_rfl)) (by kernel_rfl) (by kernel_rfl)
theorem in34 {W : World} (hsh : W.ShapedOpen Tryd.prog) (h : laidMetH Tryd.prog laidL W) : gl34.In W := by
  rw [MakeChecks.laidMetH_plain _ _ _ (by kernel_rfl)] at h
  obtain ⟨ps, ⟨g0, t0, cs0, f0, p0, q0, hg0, ht0, hv0, hd0, ⟨g1, t1, cs1, f1, p1, q1, hg1, ht1, hv1, hd1, _, _⟩, _⟩, _, _⟩ := h
  obtain rfl := Option.some.inj (gStart.symm.trans hg0)
  obtain rfl := Option.some.inj (gNums.symm.trans hg1)
  obtain rfl := Option.some.inj (tStart.symm.trans ht0)
  obtain rfl := Option.some.inj (tNums.symm.trans ht1)
  have b0 := glob_block hsh (of_decide_eq_true (by kernel_rfl)) zStart gStart hv0
  have b1 := glob_block hsh (of_decide_eq_true (by kernel_rfl)) zNums gNums hv1
  have e0 : cs0.toList = startL.map (Value.int .u32) := trod_lits (k := .u32) (e := T.uint32) (n := 8) (by kernel_rfl) (by kernel_rfl) (by kernel_rfl) (by kernel_rfl) hd0
  have e1 : cs1.toList = numsL.map (Value.int .u32) := trod_lits (k := .u32) (e := T.uint32) (n := 64) (by kernel_rfl) (by kernel_rfl) (by kernel_rfl) (by kernel_rfl) hd1
  have ok : ∀ l : List Int, ∀ v ∈ l.map (Value.int .u32), v.oneCell' = true := fun l v hv => by
    obtain ⟨n, -, rfl⟩ := List.mem_map.1 hv; rfl
  intro b T us hm
  simp only [gl34, List.mem_cons, List.not_mem_nil, or_false, Prod.mk.injEq] at hm
  rcases hm with ⟨rfl, rfl, rfl⟩ | ⟨rfl, rfl, rfl⟩
  · exact ⟨by rw [b0, ← e0], ok _⟩
  · exact ⟨by rw [b1, ← e1], ok _⟩
theorem off34 {W : World} (h : gl34.In W) : Off W gl34 fun c => ∃ n, c = .int .u32 n := by
  intro b off c hb hc
  obtain ⟨⟨b', T, us⟩, hm, he⟩ := List.any_eq_true.1 hb
  obtain rfl : b' = b := by simpa using he
  obtain ⟨arr, T', fz, g1, g2⟩ := row_of_cell hc
  rw [(h _ _ _ hm).1] at g1
  cases g1
  have hu : c ∈ us := by
    have := List.mem_of_getElem? (l := us) (i := off) (a := c) (by simpa using g2)
    exact this
  simp only [gl34, List.mem_cons, List.not_mem_nil, or_false, Prod.mk.injEq] at hm
  rcases hm with ⟨-, -, rfl⟩ | ⟨-, -, rfl⟩ <;> (obtain ⟨n, -, rfl⟩ := List.mem_map.1 hu; exact ⟨n, rfl⟩)
theorem offI {W : World} (h : gl34.In W) : Off W gl34 fun c => ∀ n, c ≠ .int .i64 n := fun b off c hb hc n e => by
  obtain ⟨m, rfl⟩ := off34 h b off c hb hc
  cases e
theorem st34_0 : sget (globSt gl34) 0 = some (.arr T.t8uint32 Sha.start.row) := by kernel_rfl
theorem st34_1 : sget (globSt gl34) 1 = some numsO := by kernel_rfl
theorem u8_in {n : Int} (h : (Lit.int .u8 n).wf = true) : 0 ≤ n ∧ n ≤ 255 := by
  simp [Lit.wf, IntKind.min, IntKind.max, IntKind.bits, IntKind.signed] at h
  omega
section
variable {H : Type} {enc : TypeId × Value → H} {W : World} {b0 : Nat} {r : Reach} {v : Value} {d : DataW H} {p : List MemPlace}
theorem open_ints34 (hg : gl34.In W) (hv : Value.okWide Tryd.prog W r b0 22 v) (h : DataW.Trod enc Tryd.prog W 0 (fun _ => true) true 22 v d p) : ∃ l : List Int, vrep (immG W gl34) (intLst false l) v := by
  obtain ⟨a, n, cap, rfl⟩ := okWide_slice Tryd.underlying22 hv
  obtain ⟨fuel, hf⟩ := h
  obtain ⟨l, v', hc, hr, -⟩ := open_intsT (offI hg) Tryd.underlying22 Tryd.underlying3 (by kernel_rfl) hf
  have : v' = .slice a n cap := by simpa [Value.cells] using hc.symm
  subst this
  exact ⟨l, hr⟩
theorem open_dig34 (hv : Value.okWide Tryd.prog W r b0 24 v) (h : DataW.Trod enc Tryd.prog W 0 (fun _ => true) true 24 v d p) : ∃ l : List (BitVec 8), l.length = 32 ∧ ∀ I, vrep I (.agg (byteRow l)) v := by
  have hv' : ∃ cs, v = .agg cs := by
    simp only [Value.okWide, Tryd.underlying24] at hv
    obtain ⟨cs, h1, -⟩ := hv
    exact ⟨cs, h1⟩
  obtain ⟨cs, rfl⟩ := hv'
  obtain ⟨fuel, hf⟩ := h
  obtain ⟨l, hl, hc⟩ := open_bytesT Tryd.underlying24 Tryd.underlying5 (by kernel_rfl) (by kernel_rfl) hf
  refine ⟨l, hl, fun I => ?_⟩
  have hc' : cs.toList = l.map fun b => Value.int .u8 b.toNat := hc
  simp only [vrep]
  refine ⟨l.map fun b => Value.int .u8 b.toNat, by rw [← hc'], ?_⟩
  have := vcells_vals I (l.map fun b => Value.int .u8 b.toNat) (fun v hv => by obtain ⟨n, -, rfl⟩ := List.mem_map.1 hv; rfl)
  rwa [List.map_map] at this
theorem open_card34 (hg : gl34.In W) (hv : Value.okWide Tryd.prog W r b0 26 v) (h : DataW.Trod enc Tryd.prog W 0 (fun _ => true) true 26 v d p) : ∃ (r e j : Int) (c : List Int) (d : List (BitVec 8)), d.length = 32 ∧ vrep (immG W gl34) (cardV r e j (intLst false c) d) v := by
  obtain ⟨cs, rfl, -⟩ := okWide_struct Tryd.underlying26 hv
  obtain ⟨fuel, hf⟩ := h
  have hf' : DataW.trod enc Tryd.prog W 0 (fun _ => true) true fuel 26 cs.toList = some (d, p) := hf
  obtain ⟨xs, n, rfl, -, hcl, hxl, hx⟩ := DataW.trod_struct Tryd.underlying26 hf'
  have h36 : Tryd.prog.cellsOf 26 = 36 := by kernel_rfl
  have c3 : Tryd.prog.cellsOf 3 = 1 := by kernel_rfl
  have c22 : Tryd.prog.cellsOf 22 = 1 := by kernel_rfl
  have c24 : Tryd.prog.cellsOf 24 = 32 := by kernel_rfl
  rw [h36] at hcl
  obtain ⟨l, hl⟩ : ∃ l, l = cs.toList := ⟨_, rfl⟩
  rw [← hl] at hcl hx
  have hcs : cs = l.toArray := by rw [hl]
  subst hcs
  match l, hcl, xs, hxl with
  | a :: b :: c :: e :: rest, hcl, [y0, y1, y2, y3, y4], _ =>
  have x0 : DataW.trod enc Tryd.prog W 0 (fun _ => true) true n 3 (((a :: b :: c :: e :: rest).drop 0).take (Tryd.prog.cellsOf 3)) = some y0 := hx 0 _ rfl
  have x1 : DataW.trod enc Tryd.prog W 0 (fun _ => true) true n 3 (((a :: b :: c :: e :: rest).drop 1).take (Tryd.prog.cellsOf 3)) = some y1 := hx 1 _ rfl
  have x2 : DataW.trod enc Tryd.prog W 0 (fun _ => true) true n 3 (((a :: b :: c :: e :: rest).drop 2).take (Tryd.prog.cellsOf 3)) = some y2 := hx 2 _ rfl
  have x3 : DataW.trod enc Tryd.prog W 0 (fun _ => true) true n 22 (((a :: b :: c :: e :: rest).drop 3).take (Tryd.prog.cellsOf 22)) = some y3 := hx 3 _ rfl
  have x4 : DataW.trod enc Tryd.prog W 0 (fun _ => true) true n 24 (((a :: b :: c :: e :: rest).drop 4).take (Tryd.prog.cellsOf 24)) = some y4 := hx 4 _ rfl
  rw [c3] at x0 x1 x2
  rw [c22] at x3
  rw [c24] at x4
  simp only [List.drop_zero, List.drop_succ_cons, List.take_succ_cons, List.take_zero] at x0 x1 x2 x3 x4
  have hr : rest.length = 32 := by simpa using hcl
  rw [List.take_of_length_le (by omega)] at x4
  obtain ⟨k0, h0, -, -⟩ := DataW.trod_int Tryd.underlying3 x0
  obtain ⟨k1, h1, -, -⟩ := DataW.trod_int Tryd.underlying3 x1
  obtain ⟨k2, h2, -, -⟩ := DataW.trod_int Tryd.underlying3 x2
  obtain ⟨ci, v3, h3, hv3, ho3, -⟩ := open_intsT (offI hg) Tryd.underlying22 Tryd.underlying3 (by kernel_rfl) x3
  obtain ⟨dd, hd, h4⟩ := open_bytesT Tryd.underlying24 Tryd.underlying5 (by kernel_rfl) (by kernel_rfl) x4
  simp only [List.cons.injEq, and_true] at h0 h1 h2 h3
  subst h0 h1 h2 h3 h4
  refine ⟨k0, k1, k2, ci, dd, hd, ?_⟩
  simp only [vrep]
  refine ⟨_, rfl, ?_⟩
  have hb := vcells_vals (immG W gl34) (dd.map fun b => Value.int .u8 b.toNat) (fun v hv => by obtain ⟨n, -, rfl⟩ := List.mem_map.1 hv; rfl)
  rw [List.map_map] at hb
  simp only [vcells]
  exact ⟨⟨by simp [vrep], rfl⟩, ⟨by simp [vrep], rfl⟩, ⟨by simp [vrep], rfl⟩, ⟨hv3, ho3⟩, hb⟩
theorem weights_all {P : Program} {e : TypeId} : ∀ {l : List (DataW H)} {d : DataW H}, d ∈ l → ∀ n ∈ d.weights P e, n ∈ DataW.weightsAll P e l
  | x :: l, d, hd, n, hn => by
    simp only [DataW.weightsAll, List.mem_append]
    rcases List.mem_cons.1 hd with rfl | hd
    · exact .inl hn
    · exact .inr (weights_all hd n hn)
abbrev Row34 := { l : List Int // l.length ≤ 1000000000000000 }
instance : Inhabited Row34 := ⟨⟨[], by decide⟩⟩
theorem open_lists34 (hg : gl34.In W) (hw : ∀ n ∈ d.weights Tryd.prog 45, n ≤ reachBytes) (hv : Value.okWide Tryd.prog W r b0 45 v) (h : DataW.Trod enc Tryd.prog W 0 (fun _ => true) true 45 v d p) :
    ∃ mo : List (List Int), (∀ l ∈ mo, l.length ≤ 1000000000000000) ∧ vrep (immG W gl34) (.list false (mo.map fun l => intLst false l) mo.length) v := by
  obtain ⟨a, n, cap, rfl⟩ := okWide_slice Tryd.underlying45 hv
  obtain ⟨fuel, hf⟩ := h
  have hoff : Off W gl34 fun c => ¬ ∃ a n cap, c = .slice a n cap := fun b off c hb hc ⟨a, n, cap, e⟩ => by
    obtain ⟨m, rfl⟩ := off34 hg b off c hb hc
    cases e
  have H := open_listW (gl := gl34) (Wt := fun d : DataW H => ∀ n ∈ d.weights Tryd.prog 22, n ≤ reachBytes) (A := Row34) (row := fun l => intLst false l.1) hoff Tryd.underlying45 (by kernel_rfl)
    (fun m c y hy hwt => by
      obtain ⟨l, v', hc, hr, ho, hs⟩ := open_intsT (offI hg) Tryd.underlying22 Tryd.underlying3 (by kernel_rfl) hy
      obtain rfl : c = v' := by simpa using hc
      have hll : l.length ≤ 1000000000000000 := by
        simp only [vrep] at hr
        obtain ⟨a', cap', vs, e1, -⟩ := hr
        rcases Go.Deep.open_slice Tryd.underlying22 hy with ⟨e2, -⟩ | ⟨a2, len, cap2, m2, n2, D, Pl, e2, -, -, -, -, hx, -⟩
        · rw [e1] at e2
          simp only [List.cons.injEq, Value.slice.injEq, and_true] at e2
          omega
        · rw [e1] at e2
          simp only [List.cons.injEq, Value.slice.injEq, and_true] at e2
          have h8 : Tryd.prog.bytesOf 3 = 8 := by kernel_rfl
          have hb := hwt ((len + (m2 - len)) * Tryd.prog.bytesOf 3) (by
            rw [hx]
            simp only [DataW.weights, Tryd.underlying22, List.length_map, List.length_range]
            exact List.mem_cons_self)
          rw [h8] at hb
          unfold reachBytes at hb
          omega
      exact ⟨⟨l, hll⟩, hr, ho, hs⟩) hf (fun elems rest hx d' hd' n' hn' => by
      have hx' : d = .slice elems rest := hx
      subst hx'
      refine hw n' ?_
      simp only [DataW.weights, Tryd.underlying45, List.mem_cons, List.mem_append]
      exact .inr (.inl (weights_all hd' n' hn')))
  obtain ⟨l, v', hc, hr, -⟩ := H
  have : v' = .slice a n cap := by simpa [Value.cells] using hc.symm
  subst this
  refine ⟨l.map (·.1), fun x hx => ?_, ?_⟩
  · obtain ⟨y, -, rfl⟩ := List.mem_map.1 hx
    exact y.2
  · rw [List.map_map, List.length_map]
    exact hr
theorem open_bools34 (hg : gl34.In W) (hv : Value.okWide Tryd.prog W r b0 46 v) (h : DataW.Trod enc Tryd.prog W 0 (fun _ => true) true 46 v d p) : ∃ l : List Bool, vrep (immG W gl34) (.list false (l.map PV.bool) l.length) v := by
  obtain ⟨a, n, cap, rfl⟩ := okWide_slice Tryd.underlying46 hv
  obtain ⟨fuel, hf⟩ := h
  have hoff : Off W gl34 fun c => ¬ ∃ b, c = .bool b := fun b off c hb hc ⟨x, e⟩ => by
    obtain ⟨m, rfl⟩ := off34 hg b off c hb hc
    cases e
  have H := open_list (gl := gl34) (A := Bool) (row := PV.bool) hoff Tryd.underlying46 (by kernel_rfl) (fun m c y hy => by
    obtain ⟨k, hk, -⟩ := DataW.trod_bool Tryd.underlying4 hy
    cases hk
    exact ⟨k, by simp [vrep], rfl, k, rfl⟩) hf
  obtain ⟨l, v', hc, hr, -⟩ := H
  have : v' = .slice a n cap := by simpa [Value.cells] using hc.symm
  subst this
  exact ⟨l, hr⟩
end
end Go.Proofs.YtmgpkcpalpejcaaDoor

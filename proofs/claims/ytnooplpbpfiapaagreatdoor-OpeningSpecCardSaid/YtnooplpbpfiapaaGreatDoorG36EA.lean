/- For the rows: the two package variables, arguments opened beside them. -/
import Derived.Test.YtnooplpbpfiapaaGreatDoorRows
import Derived.Test.YtnooplpbpfiapaaGreatDoorCards
import Derived.Test.YtnooplpbpfiapaaGreatDoorTie
import Derived.WalkKit
import Derived.ProofKit
import Derived.OpenShut
import Derived.ChangeOld
import Derived.Below
import Derived.LaidMore
import Derived.SevenTiedAt
import Derived.Stop.Joined
import Derived.Test.YtnooplpbpfiapaaGreatDoorLRd
import Derived.Test.YtnooplpbpfiapaaGreatDoorLBr
import Derived.Test.YtnooplpbpfiapaaGreatDoorG36CF
import Derived.SizedLaws
import Derived.Test.YtnooplpbpfiapaaGreatDoorG36BI
namespace Go.Proofs.YtnooplpbpfiapaaGreatDoor
set_option maxRecDepth 100000
set_option maxHeartbeats 4000000
open Go.ChangeShapes Go.WideShapes Go.ChangeAt Go.RowKit Go.Pv
theorem own : ownKnob Tryz.prog.godebug = none := by kernel_rfl
theorem j4e : laidOutB Tryz.prog = true := by kernel_rfl
abbrev j4f : List (String × DataW Unit) := [("podium/digest.start", Rows.laid_podium_digest_start), ("podium/digest.numbers", Rows.laid_podium_digest_numbers)]
def startL : List Int := [1779033703, 3144134277, 1013904242, 2773480762, 1359893119, 2600822924, 528734635, 1541459225]
def numsL : List Int := [1116352408, 1899447441, 3049323471, 3921009573, 961987163, 1508970993, 2453635748, 2870763221, 3624381080, 310598401, 607225278, 1426881987, 1925078388, 2162078206, 2614888103, 3248222580, 3835390401, 4022224774, 264347078, 604807628, 770255983, 1249150122, 1555081692, 1996064986, 2554220882, 2821834349, 2952996808, 3210313671, 3336571891, 3584528711, 113926993, 338241895, 666307205, 773529912, 1294757372, 1396182291, 1695183700, 1986661051, 2177026350, 2456956037, 2730485921, 2820302411, 3259730800, 3345764771, 3516065817, 3600352804, 4094571909, 275423344, 430227734, 506948616, 659060556, 883997877, 958139571, 1322822218, 1537002063, 1747873779, 1955562222, 2024104815, 2227730452, 2361852424, 2428436474, 2756734187, 3204031479, 3329325298]
def gl36 : Glob := [(0, T.t8uint32, startL.map (Value.int .u32)), (1, T.t64uint32, numsL.map (Value.int .u32))]
theorem gStart : Tryz.prog.globalNamed "podium/digest.start" = some 0 := by kernel_rfl
theorem gNums : Tryz.prog.globalNamed "podium/digest.numbers" = some 1 := by kernel_rfl
theorem tStart : (Tryz.prog.globals[0]?).map (·.type) = some T.t8uint32 := by kernel_rfl
theorem tNums : (Tryz.prog.globals[1]?).map (·.type) = some T.t64uint32 := by kernel_rfl
theorem y5l : ((((begin Tryz.prog (fun _ _ => 0) default).world.heap[0]?).bind Obj.row?).map fun r => (r.1.toList, r.2)) = some (List.replicate 8 (Value.int .u32 0), T.t8uint32) := by kernel_rfl
theorem y8p : ((((begin Tryz.prog (fun _ _ => 0) default).world.heap[1]?).bind Obj.row?).map fun r => (r.1.toList, r.2)) = some (List.replicate 64 (Value.int .u32 0), T.t64uint32) := by kernel_rfl
theorem j65 (os : Os) (args : Array Value) : laidMetH Tryz.prog j4f ((World.doorLaid Tryz.prog 4000 os).forCall (fun _ _ => 0) ⟨#[], args, []⟩).memory :=
 laidMetH_of_parts3 (fuel := 8) (laidMet_of_run' 8 (by kernel_rfl) (by kernel_rfl)) (by kernel_rfl) (by kernel_rfl)
theorem in36 {W : World} (hsh : W.ShapedOpen Tryz.prog) (h : laidMetH Tryz.prog j4f W) : gl36.In W := by
 rw [MakeChecks.laidMetH_plain _ _ _ (by kernel_rfl)] at h
 obtain ⟨ps, ⟨g0, t0, cs0, f0, p0, q0, hg0, ht0, hv0, hd0, ⟨g1, t1, cs1, f1, p1, q1, hg1, ht1, hv1, hd1, _, _⟩, _⟩, _, _⟩ := h
 obtain rfl := Option.some.inj (gStart.symm.trans hg0)
 obtain rfl := Option.some.inj (gNums.symm.trans hg1)
 obtain rfl := Option.some.inj (tStart.symm.trans ht0)
 obtain rfl := Option.some.inj (tNums.symm.trans ht1)
 have b0 := z15 hsh (of_decide_eq_true (by kernel_rfl)) y5l gStart hv0
 have b1 := z15 hsh (of_decide_eq_true (by kernel_rfl)) y8p gNums hv1
 have e0 : cs0.toList = startL.map (Value.int .u32) := z5c (k := .u32) (e := T.uint32) (n := 8) (by kernel_rfl) (by kernel_rfl) (by kernel_rfl) (by kernel_rfl) hd0
 have e1 : cs1.toList = numsL.map (Value.int .u32) := z5c (k := .u32) (e := T.uint32) (n := 64) (by kernel_rfl) (by kernel_rfl) (by kernel_rfl) (by kernel_rfl) hd1
 have ok : ∀ l : List Int, ∀ v ∈ l.map (Value.int .u32), v.oneCell' = true := fun l v hv => by
  obtain ⟨n, -, rfl⟩ := List.mem_map.1 hv; rfl
 intro b T us hm
 simp only [gl36, List.mem_cons, List.not_mem_nil, or_false, Prod.mk.injEq] at hm
 rcases hm with ⟨rfl, rfl, rfl⟩ | ⟨rfl, rfl, rfl⟩
 ·exact ⟨by rw [b0, ← e0], ok _⟩
 ·exact ⟨by rw [b1, ← e1], ok _⟩
theorem y8q {W : World} (h : gl36.In W) : Off W gl36 fun c => ∃ n, c = .int .u32 n := by
 intro b off c hb hc
 obtain ⟨⟨b', T, us⟩, hm, he⟩ := List.any_eq_true.1 hb
 obtain rfl : b' = b := by simpa using he
 obtain ⟨arr, T', fz, g1, g2⟩ := k41 hc
 rw [(h _ _ _ hm).1] at g1
 cases g1
 have hu : c ∈ us := by
  have := List.mem_of_getElem? (l := us) (i := off) (a := c) (by simpa using g2)
  exact this
 simp only [gl36, List.mem_cons, List.not_mem_nil, or_false, Prod.mk.injEq] at hm
 rcases hm with ⟨-, -, rfl⟩ | ⟨-, -, rfl⟩ <;> (obtain ⟨n, -, rfl⟩ := List.mem_map.1 hu; exact ⟨n, rfl⟩)
theorem y5m : q5x (k08 gl36) 0 = some (.arr T.t8uint32 Sha.start.row) := by kernel_rfl
theorem y5n : q5x (k08 gl36) 1 = some q9l := by kernel_rfl
section
variable {H : Type} {enc : TypeId × Value → H} {W : World} {base : Nat} {spare : Nat → Bool} {held : Bool}
theorem z4c (hg : gl36.In W) {A : Type} {e : TypeId} {k : Nat} {row : A → List PV} {ok : A → Prop} (hE : Opens enc Tryz.prog W base spare held gl36 e k row ok)
  (hr : ∀ a, ∃ q rest, row a = q :: rest ∧ ∀ v n, vrep (z8u W gl36) q v → v ≠ .int .u32 n) : OffE enc Tryz.prog W base spare held gl36 e := fun b off fuel cs y hb hc hy => by
 obtain ⟨a, -, hv, -⟩ := hE.op hy
 obtain ⟨q, rest, e1, e2⟩ := hr a
 rw [e1] at hv
 cases cs with
 | nil => simp [vcells] at hv
 | cons c cs =>
  simp only [vcells] at hv
  have h0 := hc 0 (by simp)
  rw [Nat.add_zero] at h0
  obtain ⟨n, hn⟩ := y8q hg b off c hb h0
  exact e2 c n hv.1.1 hn
theorem z9a {I : Imm} {m : Int} : ∀ v n, vrep I (.int m) v → v ≠ .int .u32 n := fun v n h e => by
 simp only [vrep] at h
 rw [h] at e
 cases e
theorem q9a : Opens enc Tryz.prog W base spare held gl36 3 1 (fun n : Int => [.int n]) I64 := Opens.i64 Tryz.underlying3 (by kernel_rfl)
theorem z76 (hg : gl36.In W) : Opens enc Tryz.prog W base spare held gl36 22 1 (fun l : List Int => [q5k false l]) (fun _ => True) :=
 (Opens.slice (z4c hg q9a fun n => ⟨_, _, rfl, z9a⟩) Tryz.underlying22 (by kernel_rfl) (by decide) q9a).conv id (fun l => by rw [Go.Pv.ints_flat]; rfl) (fun _ _ => trivial)
theorem j8k : Opens enc Tryz.prog W base spare held gl36 29 32 (fun d : Dig => q5e d.1) (fun _ => True) :=
 ⟨by kernel_rfl, fun {fuel cs y} h => by
  obtain ⟨l, hl, hc⟩ := z62 Tryz.underlying29 Tryz.underlying5 (by kernel_rfl) (by kernel_rfl) h
  refine ⟨⟨l, hl⟩, trivial, ?_, by rw [hc, List.length_map, hl]⟩
  rw [hc]
  have := k42 (z8u W gl36) (l.map fun b => Value.int .u8 b.toNat) (fun v hv => by obtain ⟨n, -, rfl⟩ := List.mem_map.1 hv; rfl)
  rwa [List.map_map] at this⟩
theorem z77 (hg : gl36.In W) : Opens enc Tryz.prog W base spare held gl36 31 36 (fun x : Card => x.enc) (fun _ => True) :=
 (Opens.struct Tryz.underlying31 (by kernel_rfl) (.cons rfl q9a (.cons rfl q9a (.cons rfl q9a (.cons rfl (z76 hg) (.cons rfl j8k .nil)))))).conv (fun x => ⟨x.1, x.2.1, x.2.2.1, x.2.2.2.1, x.2.2.2.2.1⟩) (fun x => by simp [Card.enc]) (fun _ _ => trivial)
theorem j66 (hg : gl36.In W) : Opens enc Tryz.prog W base spare held gl36 23 1 (fun l : List Card => [Card.lst false l]) (fun _ => True) :=
 (Opens.slice (z4c hg (z77 hg) fun x => ⟨_, _, rfl, z9a⟩) Tryz.underlying23 (by kernel_rfl) (by decide) (z77 hg)).conv id (fun _ => rfl) (fun _ _ => trivial)
theorem z4d : Opens enc Tryz.prog W base spare held gl36 33 4 (fun x : Sh => x.enc) (fun _ => True) :=
 (Opens.struct Tryz.underlying33 (by kernel_rfl) (.cons rfl q9a (.cons rfl q9a (.cons rfl q9a (.cons rfl q9a .nil))))).conv (fun x => ⟨x.1, x.2.1, x.2.2.1, x.2.2.2.1⟩) (fun _ => rfl) (fun _ _ => trivial)
theorem j4g (hg : gl36.In W) : Opens enc Tryz.prog W base spare held gl36 24 1 (fun l : List Sh => [Sh.lst false l]) (fun _ => True) :=
 (Opens.slice (z4c hg z4d fun x => ⟨_, _, rfl, z9a⟩) Tryz.underlying24 (by kernel_rfl) (by decide) z4d).conv id (fun _ => rfl) (fun _ _ => trivial)
theorem j4h (hg : gl36.In W) : Opens enc Tryz.prog W base spare held gl36 35 34 (fun x : Shn => x.enc) (fun _ => True) :=
 (Opens.struct Tryz.underlying35 (by kernel_rfl) (.cons rfl q9a (.cons rfl (z76 hg) (.cons rfl j8k .nil)))).conv (fun x => ⟨x.1, x.2.1, x.2.2.1⟩) (fun x => by simp [Shn.enc]) (fun _ _ => trivial)
theorem y06 (hg : gl36.In W) : Opens enc Tryz.prog W base spare held gl36 25 1 (fun l : List Shn => [Shn.lst false l]) (fun _ => True) :=
 (Opens.slice (z4c hg (j4h hg) fun x => ⟨_, _, rfl, z9a⟩) Tryz.underlying25 (by kernel_rfl) (by decide) (j4h hg)).conv id (fun _ => rfl) (fun _ _ => trivial)
theorem y5o (hg : gl36.In W) : Opens enc Tryz.prog W base spare held gl36 27 10 (fun x : Ses => x.enc) Wide :=
 (Opens.struct Tryz.underlying27 (by kernel_rfl) (.cons rfl q9a (.cons rfl q9a (.cons rfl q9a (.cons rfl (z76 hg) (.cons rfl q9a (.cons rfl q9a (.cons rfl q9a (.cons rfl (j66 hg) (.cons rfl (j4g hg) (.cons rfl (y06 hg) .nil))))))))))).conv
  (fun x => ⟨x.1, x.2.1, x.2.2.1, x.2.2.2.1, x.2.2.2.2.1, x.2.2.2.2.2.1, x.2.2.2.2.2.2.1, x.2.2.2.2.2.2.2.1, x.2.2.2.2.2.2.2.2.1, x.2.2.2.2.2.2.2.2.2.1⟩) (fun x => by simp [Ses.enc]) (fun x h => ⟨⟨h.2.2.1.1, Int.lt_of_le_of_lt h.2.2.1.2 (by decide)⟩, ⟨h.2.2.2.2.1.1, Int.lt_of_le_of_lt h.2.2.2.2.1.2 (by decide)⟩⟩)
theorem y5p (hg : gl36.In W) : Opens enc Tryz.prog W base spare held gl36 37 76 (fun x : Act => x.enc) (fun _ => True) :=
 (Opens.struct Tryz.underlying37 (by kernel_rfl) (.cons rfl q9a (.cons rfl q9a (.cons rfl (z77 hg) (.cons rfl z4d (.cons rfl (j4h hg) .nil)))))).conv (fun x => ⟨x.1, x.2.1, x.2.2.1, x.2.2.2.1, x.2.2.2.2.1⟩) (fun x => by simp [Act.enc]) (fun _ _ => trivial)
end
set_option maxRecDepth 100000
open Go.ChangeShapes Go.WideShapes Go.ChangeAt Go.RowKit Go.Pv
set_option maxRecDepth 100000 in
theorem k6m (os : Os) (started : os.Started) (H : Type) (enc : TypeId × Value → H) :
  ReturnsInHanded {} Tryz.checked os 3 .any (fun w args => (Rows.openingSpecSpec.pre enc Tryz.prog Tryz.f3 [] false w args ∧ laidMetH Tryz.prog j4f w) ∧ sizedMet enc Tryz.prog Tryz.f3 (OpenSpec.ofChange Rows.openingSpecSpec) false w args) (Rows.openingSpecSpec.post enc Tryz.prog Tryz.f3 false true false false) := by
 refine q88 (C := Tryz.checked) (X := fun w _ => laidMetH Tryz.prog j4f w) (fun _ _ _ hh h => h.of_heap hh) own started (by kernel_rfl) Tryz.func3
  (ChangeSpec.witness_shaped (enc := enc) (C := Tryz.checked) (os := os) (X := fun w _ => laidMetH Tryz.prog j4f w) false (World.doorLaid Tryz.prog 4000 os) #[.agg #[.int .i64 0, .int .i64 0, .int .i64 0, .slice none 0 0, .int .i64 0, .int .i64 0, .int .i64 0, .slice none 0 0, .slice none 0 0, .slice none 0 0], .agg #[.int .i64 0, .int .i64 0, .int .i64 0, .int .i64 0, .int .i64 0, .slice none 0 0, .int .u8 0, .int .u8 0, .int .u8 0, .int .u8 0, .int .u8 0, .int .u8 0, .int .u8 0, .int .u8 0, .int .u8 0, .int .u8 0, .int .u8 0, .int .u8 0, .int .u8 0, .int .u8 0, .int .u8 0, .int .u8 0, .int .u8 0, .int .u8 0, .int .u8 0, .int .u8 0, .int .u8 0, .int .u8 0, .int .u8 0, .int .u8 0, .int .u8 0, .int .u8 0, .int .u8 0, .int .u8 0, .int .u8 0, .int .u8 0, .int .u8 0, .int .u8 0, .int .i64 0, .int .i64 0, .int .i64 0, .int .i64 0, .int .i64 0, .slice none 0 0, .int .u8 0, .int .u8 0, .int .u8 0, .int .u8 0, .int .u8 0, .int .u8 0, .int .u8 0, .int .u8 0, .int .u8 0, .int .u8 0, .int .u8 0, .int .u8 0, .int .u8 0, .int .u8 0, .int .u8 0, .int .u8 0, .int .u8 0, .int .u8 0, .int .u8 0, .int .u8 0, .int .u8 0, .int .u8 0, .int .u8 0, .int .u8 0, .int .u8 0, .int .u8 0, .int .u8 0, .int .u8 0, .int .u8 0, .int .u8 0, .int .u8 0, .int .u8 0]] 8 rfl (World.shaped_of_RefB (by kernel_rfl) (by kernel_rfl)) (by kernel_rfl) (by kernel_rfl) (by kernel_rfl) (j65 os _)) ?_
 intro W base args ds gs before hsh hval0 hW _ hwt hL
 have hg := in36 hsh hL
 have hval : ∀ (j : Nat) t v, Tryz.f3.params[j]? = some t → args[j]? = some v → Value.okWide Tryz.prog W .any base t v := hval0
 have hW' := hW
 obtain ⟨p, q, hA0, hV, rfl, hfz, hnd⟩ := hW
 have hA : DataW.TrodAll enc Tryz.prog W 0 (fun _ => true) true Tryz.f3.params.toList args.toList ds p := hA0
 rw [Tryz.params3] at hA hval
 obtain ⟨v0, vs0, d0, ds0, p0, q0, hargs, rfl, rfl, h0, r0⟩ := trodAll_cons hA
 obtain ⟨v1, vs1, d1, ds1, p1, q1, rfl, rfl, rfl, h1, r1⟩ := trodAll_cons r0
 obtain ⟨rfl, rfl, rfl⟩ := trodAll_nil r1
 obtain rfl : args = #[v0, v1] := by cases args; simp_all
 obtain ⟨rfl, rfl⟩ := trodVars_none hV
 have k0 := h0
 have lt0 : ∀ x ∈ p0, x.block < W.heap.size := by obtain ⟨m, hm⟩ := k0; exact DataW.trod_lt m _ _ _ hm
 obtain ⟨x0_0, x0_1, w0⟩ := Opens.argS (y5o hg) Tryz.underlying27 (hval 0 27 v0 rfl rfl) h0
 have k1 := h1
 have lt1 : ∀ x ∈ p1, x.block < W.heap.size := by obtain ⟨m, hm⟩ := k1; exact DataW.trod_lt m _ _ _ hm
 obtain ⟨x1_0, x1_1, w1⟩ := Opens.argS (y5p hg) Tryz.underlying37 (hval 1 37 v1 rfl rfl) h1
 clear hA0 hval0
 refine ((_root_.Go.Proofs.YtnooplpbpfiapaaGreatDoor.H.q1d).bridgeG (gl := gl36) (j1a x0_0 x0_1 x1_0 _ ⟨y5m, y5n⟩) (w := W) hg (vs := [v0, v1]) ⟨w0, w1, trivial⟩).mono fun e W' ⟨he, bel⟩ => ?_
 subst he
 exact ⟨_, rfl, _, _, _, [], _, [], hW', trodAll_mk1 (shut_bool Tryz.underlying4 _), (trodAll_cons_mk (Go.RowKit.Below.trod j4e (by kernel_rfl) (of_decide_eq_true (by kernel_rfl)) k0 bel lt0) (trodAll_cons_mk (Go.RowKit.Below.trod j4e (by kernel_rfl) (of_decide_eq_true (by kernel_rfl)) k1 bel lt1) trodAll_mk0)), rfl, bel.frame _, fun h => by cases h⟩
theorem z0n : Rows.OpeningSpecSaid :=
 OpenClaim.holds_of_wide 3 Tryz.f3 rfl rfl rfl rfl rfl rfl rfl ⟨rfl, rfl, rfl, rfl, rfl⟩ rfl rfl rfl rfl rfl (by kernel_rfl) Tryz.func3 (by kernel_rfl)
  (of_decide_eq_true (by kernel_rfl)) (by unfold Func.isWrapper; first | (rw [if_pos (by decide +kernel)]; kernel_rfl) | (rw [if_neg (by decide +kernel)]; exact ⟨rfl, rfl⟩))
  (fun os started H enc _ => k6m os started H enc)
theorem openingSpec_holds : Rows.OpeningSpecCardSaid :=
 Claim7.holds_tied_plain_at .later [] [.data, .data] true (true, "ffc4543b999d2e2c31cdf81055f5021fbefa10124ccad2d48d02d065e1def487") true
  z0n (fun _ h => by cases h) (by kernel_rfl) (fun _ h => by cases h) openingSpec_row_tie rfl ⟨rfl, rfl⟩ (by kernel_rfl) rfl
  (fun f fn hf hfn => by
   obtain rfl : f = 3 := Option.some.inj ((show Tryz.prog.funcNamed "podium/podiumlaw36.OpeningSpec" = some 3 by kernel_rfl).symm.trans hf) |>.symm
   obtain rfl : fn = Tryz.f3 := (Option.some.inj (Tryz.func3.symm.trans hfn)).symm
   exact ⟨by kernel_rfl, fun j t ht => by
    rw [Tryz.params3] at ht
    have hm : t ∈ [27, 37] := by simpa using Array.mem_of_getElem? ht
    have hall : ([27, 37].all fun u => !Tryz.prog.wantsStandIn u) = true := by kernel_rfl
    exact (show Tryz.prog.wantsStandIn t = false by simpa using List.all_eq_true.1 hall t hm)⟩)
  (by kernel_rfl)
end Go.Proofs.YtnooplpbpfiapaaGreatDoor

/- The reference: Cards. -/
import Derived.Test.YtnooplpbpfiapaaGreatDoorG36BM
import Derived.Test.YtnooplpbpfiapaaGreatDoorG36AG
import Derived.Test.YtnooplpbpfiapaaGreatDoorLBx
import Derived.Test.YtnooplpbpfiapaaGreatDoorG36CF
import Derived.Test.YtnooplpbpfiapaaGreatDoorRows
import Derived.Test.YtnooplpbpfiapaaGreatDoorCards
import Derived.Test.YtnooplpbpfiapaaGreatDoorTie
import Derived.WalkKit
import Derived.ProofKit
import Derived.OpenShut
import Derived.ChangeOld
import Derived.Below
import Derived.LaidMore
import Derived.SevenTiedAt
import Derived.Stop.Joined
import Derived.Test.YtnooplpbpfiapaaGreatDoorLRd
import Derived.Test.YtnooplpbpfiapaaGreatDoorLBr
import Derived.SizedLaws
namespace Go.Proofs.YtnooplpbpfiapaaGreatDoor
open Go.Pv Go.Pv.Ip
set_option maxRecDepth 100000
set_option maxHeartbeats 16000000
def j8m (l : List Unit) : List PV := l.flatMap fun _ => [.int 0, .nil]
theorem j68 (l : List Unit) : (j8m l).length = l.length * 2 := q6h (fun _ : Unit => [PV.int 0, .nil]) 2 (fun _ => rfl) l
theorem z79 (l m : List Unit) : j8m (l ++ m) = j8m l ++ j8m m := by simp [j8m]
theorem j4l : ∀ l : List Unit, PsLe (j8m l) (Opd.row (List.replicate l.length ⟨0, []⟩))
 | [] => trivial
 | _ :: l => PsLe.append (ps := [.int 0, .nil]) (qs := Opd.enc ⟨0, []⟩) ⟨.refl _, .nil1, trivial⟩ (j4l l)
theorem z8a (s : Ses) (hL : s.Len) (hl : s.keys.length ≤ 1000) (st : q5d) : Rets P F.q2n [s.pv] st (.tuple [Opd.lst false (k2w s), .int (if q67 s = true then 0 else 360)]) := by
 have c := z7y s hL
 have co := z19 s
 unfold k2w
 by_cases hR : q67 s = true
 case neg =>
  rw [Bool.eq_false_iff.2 hR] at c
  rw [if_neg hR, if_neg hR]
  clear hL hR co
  refine H.q2n.view q5n rfl rfl ?_
  repeat' (first 
   | (with_reducible refine Fresh.intro fun b hb => ?_) <;> (try simp -dsimp -implicitDefEqProofs [*] at hb)
   | (with_reducible refine Rets.xcall (c _) ?_)
   | (simp -dsimp -implicitDefEqProofs [*]))
  exact .sees (.tuple2l (.nil0 _)) (RetView.drop (st' := st) q5q ⟨rfl, rfl⟩)
 rw [hR] at c
 rw [if_pos hR, if_pos hR]
 have hRP := (q9t s).1 hR
 have hj : s.judges.length ≤ 24 := hRP.many.2
 cases hO : q8j s with
 | true =>
  have ck := z78 s hL hRP hl hO
  rw [hO] at co
  clear hR hRP hL hO
  refine H.q2n.view q5n rfl rfl ?_
  repeat' (first 
   | (with_reducible refine Fresh.intro fun b hb => ?_) <;> (try simp -dsimp -implicitDefEqProofs [*] at hb)
   | (with_reducible refine Rets.xcall (c _) ?_)
   | (with_reducible refine Lit.imm ?_)
   | (simp -dsimp -implicitDefEqProofs [-q5f, *]))
  revert b; intro q hq
  clear c
  refine q5g (fun y : Nat × Option (Acc Opd) => [(1, .ptr q 0), (4, accQ y.2), (5, .int y.1)]) (fun y => q6o T.apiOpened ((q, .arr T.apiSession s.enc) :: st) y.2) (fun y => y.1 ≤ s.judges.length ∧ accOk Opd.row 2 ((q, .arr T.apiSession s.enc) :: st) y.2 ∧ Hid (q5y y.2 = (s.judges.take y.1).map (q7a s))) (fun y => s.judges.length - y.1) (0, none) ⟨Nat.zero_le _, trivial, ⟨rfl⟩⟩ (by simp [accQ]) (.refl _) ?_
  rintro ⟨i, o⟩ ⟨hi, ho, hA⟩
  replace hi : i ≤ s.judges.length := hi
  replace ho : accOk Opd.row 2 ((q, .arr T.apiSession s.enc) :: st) o := ho
  replace hA : Hid (q5y o = (s.judges.take i).map (q7a s)) := hA
  simp only
  have hg1 := k0l (T := T.apiOpened) (b := q) (x := .arr T.apiSession s.enc) ho (by simp [*])
  by_cases hil : i < s.judges.length
  ·have hw := q5h (n := i) (by omega)
   have g1 := q6d s.judges i hil
   have hlen : (q5y o).length ≤ 24 := by rw [hA.out, List.length_map, List.length_take]; omega
   have hst : Hid ((s.judges.take (i + 1)).map (q7a s) = q5y o ++ [q7a s s.judges[i]]) := ⟨by rw [List.take_succ_eq_append_getElem hil, List.map_append, ← hA.out]; rfl⟩
   have E1 : ∀ h, (q6j s.judges)[i]'h = .int s.judges[i] := fun h => q9n s.judges i h
   obtain ⟨j, hj⟩ : ∃ j, j = s.judges[i] := ⟨_, rfl⟩
   rw [← hj] at g1 hst
   simp only [← hj] at E1
   have c1 := ck j
   obtain ⟨x, hx⟩ : ∃ x, x = q7a s j := ⟨_, rfl⟩
   rw [← hx] at c1 hst
   clear hA ck hj hx
   repeat' (first 
    | (with_reducible refine Rets.xcall (co _) ?_)
    | (simp -dsimp -implicitDefEqProofs [-q5f, *]))
   refine DrawLate.intro (accB o) ?_
   repeat' (first 
    | (with_reducible refine Rets.xcall (c1 _) ?_)
    | (simp -dsimp -implicitDefEqProofs [-q5f, *]))
   clear c1
   refine k1b Opd.row_len Opd.row_append o ho [x] (j37 x) rfl (by omega) fun o2 ho2 hl2 => ?_
   refine j9v (j59 ho2) ?_
   have k1 : Hid (q5y o2 = (s.judges.take (i + 1)).map (q7a s)) := ⟨by rw [hst.out, hl2]⟩
   clear hl2 hst ho hg1
   repeat' (simp -dsimp -implicitDefEqProofs [-q5f, *])
   exact Next.intro (i + 1, o2) ⟨by simp only; omega, ho2, k1⟩ (by simp only; omega) (by simp) (.refl _)
  ·obtain rfl : i = s.judges.length := by omega
   clear ck hil
   repeat' (simp -dsimp -implicitDefEqProofs [-q5f, *])
   refine RetView.accQ2 rfl ho ?_
   rw [hA.out, List.take_length]
   exact RetView.drop (st' := st) q5q ⟨rfl, rfl⟩
 | false =>
  have ck : s.judges.map (q7a s) = List.replicate s.judges.length ⟨0, []⟩ := by
   rw [List.eq_replicate_iff]
   refine ⟨List.length_map .., fun x hx => ?_⟩
   obtain ⟨j, -, rfl⟩ := List.mem_map.1 hx
   exact j1b hO
  rw [ck]
  rw [hO] at co
  clear hR hRP hL hO ck
  refine H.q2n.view q5n rfl rfl ?_
  repeat' (first 
   | (with_reducible refine Fresh.intro fun b hb => ?_) <;> (try simp -dsimp -implicitDefEqProofs [*] at hb)
   | (with_reducible refine Rets.xcall (c _) ?_)
   | (with_reducible refine Lit.imm ?_)
   | (simp -dsimp -implicitDefEqProofs [-q5f, *]))
  revert b; intro q hq
  clear c
  refine q5g (fun y : Nat × Option (Acc Unit) => [(1, .ptr q 0), (4, accQ y.2), (5, .int y.1)]) (fun y => q6o T.apiOpened ((q, .arr T.apiSession s.enc) :: st) y.2) (fun y => y.1 ≤ s.judges.length ∧ accOk j8m 2 ((q, .arr T.apiSession s.enc) :: st) y.2 ∧ (q5y y.2).length = y.1) (fun y => s.judges.length - y.1) (0, none) ⟨Nat.zero_le _, trivial, rfl⟩ (by simp [accQ]) (.refl _) ?_
  rintro ⟨i, o⟩ ⟨hi, ho, hA⟩
  replace hi : i ≤ s.judges.length := hi
  replace ho : accOk j8m 2 ((q, .arr T.apiSession s.enc) :: st) o := ho
  replace hA : (q5y o).length = i := hA
  simp only
  have hg1 := k0l (T := T.apiOpened) (b := q) (x := .arr T.apiSession s.enc) ho (by simp [*])
  by_cases hil : i < s.judges.length
  ·have hw := q5h (n := i) (by omega)
   repeat' (first 
    | (with_reducible refine Rets.xcall (co _) ?_)
    | (with_reducible refine Lit.imm ?_)
    | (simp -dsimp -implicitDefEqProofs [-q5f, *]))
   refine k1b j68 z79 o ho [()] rfl rfl (by omega) fun o2 ho2 hl2 => ?_
   have k1 : (q5y o2).length = i + 1 := by rw [hl2, List.length_append, hA]; rfl
   clear hl2 ho hg1
   repeat' (simp -dsimp -implicitDefEqProofs [-q5f, *])
   exact Next.intro (i + 1, o2) ⟨by simp only; omega, ho2, k1⟩ (by simp only; omega) (by simp) (.refl _)
  ·obtain rfl : i = s.judges.length := by omega
   clear hil
   repeat' (simp -dsimp -implicitDefEqProofs [-q5f, *])
   refine RetView.accQ2 rfl ho ?_
   refine RetView.le (q := .tuple [Opd.lst false (List.replicate s.judges.length ⟨0, []⟩), .int 0]) (PLe.tuple2 ?_ (.refl _)) (RetView.drop (st' := st) q5q ⟨rfl, rfl⟩)
   have h := PLe.lists (t := false) (n := (q5y o).length) (j4l (q5y o))
   rw [hA] at h ⊢
   rw [Opd.lst, List.length_replicate]
   exact h
open Go.Pv
set_option maxRecDepth 100000
set_option maxHeartbeats 16000000
theorem z8b (s : Ses) (hw : Wide s) (st : q5d) (hG : GL st) : Rets P F.q06 [s.pv] st (.bool true) := by
 have hN := q6k hG.h0 hG.h1
 have h0 := hG.h0
 have h1 := hG.h1
 have cs := fun st h0 h1 => z76 st ⟨h0, h1⟩
 have cf := j34 s
 by_cases hF : y2q s = true
 case neg =>
  rw [Bool.eq_false_iff.2 hF] at cf
  clear hF hw hG
  refine H.q06.view q5n rfl rfl ?_
  repeat' (first 
   | (with_reducible refine Fresh.intro fun b hb => ?_) <;> (try simp -dsimp -implicitDefEqProofs [*] at hb)
   | (with_reducible refine Rets.xcall (cs _ (by simp [*]) (by simp [*])) ?_)
   | (with_reducible refine Rets.xcall (cf _) ?_)
   | (simp -dsimp -implicitDefEqProofs [*]))
  exact RetView.drop (st' := st) q5q ⟨rfl, rfl⟩
 obtain ⟨hL, l1, l2, l3, l4⟩ := y0x hF hw.c hw.n
 rw [hF] at cf
 have p1 := fun st h0 h1 => k5c s hL (by omega) st ⟨h0, h1⟩
 have p2 := z8a s hL (by omega)
 have p3 := k05 false false (k2w s) (z5v hL).1 (z5v hL).2
 generalize (if q67 s = true then (0 : Int) else 360) = E2 at *
 generalize Opd.lst false (k2w s) = O at *
 clear hL l1 l2 l3 l4 hF hw hG
 refine H.q06.view q5n rfl rfl ?_
 repeat' (first 
  | (with_reducible refine Fresh.intro fun b hb => ?_) <;> (try simp -dsimp -implicitDefEqProofs [*] at hb)
  | (with_reducible refine Rets.xcall (cs _ (by simp [*]) (by simp [*])) ?_)
  | (with_reducible refine Rets.xcall (cf _) ?_)
  | (with_reducible refine Rets.xcall (p1 _ (by simp [*]) (by simp [*])) ?_)
  | (with_reducible refine Rets.xcall (p2 _) ?_)
  | (with_reducible refine Rets.xcall (p3 _) ?_)
  | (simp -dsimp -implicitDefEqProofs [*]))
 exact RetView.drop (st' := st) q5q ⟨rfl, rfl⟩
set_option maxRecDepth 100000
set_option maxHeartbeats 4000000
open Go.ChangeShapes Go.WideShapes Go.ChangeAt Go.RowKit Go.Pv
theorem own : ownKnob Tryz.prog.godebug = none := by kernel_rfl
theorem y02 : laidOutB Tryz.prog = true := by kernel_rfl
abbrev j4m : List (String × DataW Unit) := [("podium/digest.start", Rows.laid_podium_digest_start), ("podium/digest.numbers", Rows.laid_podium_digest_numbers)]
def startL : List Int := [1779033703, 3144134277, 1013904242, 2773480762, 1359893119, 2600822924, 528734635, 1541459225]
def numsL : List Int := [1116352408, 1899447441, 3049323471, 3921009573, 961987163, 1508970993, 2453635748, 2870763221, 3624381080, 310598401, 607225278, 1426881987, 1925078388, 2162078206, 2614888103, 3248222580, 3835390401, 4022224774, 264347078, 604807628, 770255983, 1249150122, 1555081692, 1996064986, 2554220882, 2821834349, 2952996808, 3210313671, 3336571891, 3584528711, 113926993, 338241895, 666307205, 773529912, 1294757372, 1396182291, 1695183700, 1986661051, 2177026350, 2456956037, 2730485921, 2820302411, 3259730800, 3345764771, 3516065817, 3600352804, 4094571909, 275423344, 430227734, 506948616, 659060556, 883997877, 958139571, 1322822218, 1537002063, 1747873779, 1955562222, 2024104815, 2227730452, 2361852424, 2428436474, 2756734187, 3204031479, 3329325298]
def gl36 : Glob := [(0, T.t8uint32, startL.map (Value.int .u32)), (1, T.t64uint32, numsL.map (Value.int .u32))]
theorem gStart : Tryz.prog.globalNamed "podium/digest.start" = some 0 := by kernel_rfl
theorem gNums : Tryz.prog.globalNamed "podium/digest.numbers" = some 1 := by kernel_rfl
theorem tStart : (Tryz.prog.globals[0]?).map (·.type) = some T.t8uint32 := by kernel_rfl
theorem tNums : (Tryz.prog.globals[1]?).map (·.type) = some T.t64uint32 := by kernel_rfl
theorem y5f : ((((begin Tryz.prog (fun _ _ => 0) default).world.heap[0]?).bind Obj.row?).map fun r => (r.1.toList, r.2)) = some (List.replicate 8 (Value.int .u32 0), T.t8uint32) := by kernel_rfl
theorem y8j : ((((begin Tryz.prog (fun _ _ => 0) default).world.heap[1]?).bind Obj.row?).map fun r => (r.1.toList, r.2)) = some (List.replicate 64 (Value.int .u32 0), T.t64uint32) := by kernel_rfl
theorem j69 (os : Os) (args : Array Value) : laidMetH Tryz.prog j4m ((World.doorLaid Tryz.prog 4000 os).forCall (fun _ _ => 0) ⟨#[], args, []⟩).memory :=
 laidMetH_of_parts3 (fuel := 8) (laidMet_of_run' 8 (by kernel_rfl) (by kernel_rfl)) (by kernel_rfl) (by kernel_rfl)
theorem in36 {W : World} (hsh : W.ShapedOpen Tryz.prog) (h : laidMetH Tryz.prog j4m W) : gl36.In W := by
 rw [MakeChecks.laidMetH_plain _ _ _ (by kernel_rfl)] at h
 obtain ⟨ps, ⟨g0, t0, cs0, f0, p0, q0, hg0, ht0, hv0, hd0, ⟨g1, t1, cs1, f1, p1, q1, hg1, ht1, hv1, hd1, _, _⟩, _⟩, _, _⟩ := h
 obtain rfl := Option.some.inj (gStart.symm.trans hg0)
 obtain rfl := Option.some.inj (gNums.symm.trans hg1)
 obtain rfl := Option.some.inj (tStart.symm.trans ht0)
 obtain rfl := Option.some.inj (tNums.symm.trans ht1)
 have b0 := z1q hsh (of_decide_eq_true (by kernel_rfl)) y5f gStart hv0
 have b1 := z1q hsh (of_decide_eq_true (by kernel_rfl)) y8j gNums hv1
 have e0 : cs0.toList = startL.map (Value.int .u32) := z45 (k := .u32) (e := T.uint32) (n := 8) (by kernel_rfl) (by kernel_rfl) (by kernel_rfl) (by kernel_rfl) hd0
 have e1 : cs1.toList = numsL.map (Value.int .u32) := z45 (k := .u32) (e := T.uint32) (n := 64) (by kernel_rfl) (by kernel_rfl) (by kernel_rfl) (by kernel_rfl) hd1
 have ok : ∀ l : List Int, ∀ v ∈ l.map (Value.int .u32), v.oneCell' = true := fun l v hv => by
  obtain ⟨n, -, rfl⟩ := List.mem_map.1 hv; rfl
 intro b T us hm
 simp only [gl36, List.mem_cons, List.not_mem_nil, or_false, Prod.mk.injEq] at hm
 rcases hm with ⟨rfl, rfl, rfl⟩ | ⟨rfl, rfl, rfl⟩
 ·exact ⟨by rw [b0, ← e0], ok _⟩
 ·exact ⟨by rw [b1, ← e1], ok _⟩
theorem y8k {W : World} (h : gl36.In W) : Off W gl36 fun c => ∃ n, c = .int .u32 n := by
 intro b off c hb hc
 obtain ⟨⟨b', T, us⟩, hm, he⟩ := List.any_eq_true.1 hb
 obtain rfl : b' = b := by simpa using he
 obtain ⟨arr, T', fz, g1, g2⟩ := k41 hc
 rw [(h _ _ _ hm).1] at g1
 cases g1
 have hu : c ∈ us := by
  have := List.mem_of_getElem? (l := us) (i := off) (a := c) (by simpa using g2)
  exact this
 simp only [gl36, List.mem_cons, List.not_mem_nil, or_false, Prod.mk.injEq] at hm
 rcases hm with ⟨-, -, rfl⟩ | ⟨-, -, rfl⟩ <;> (obtain ⟨n, -, rfl⟩ := List.mem_map.1 hu; exact ⟨n, rfl⟩)
theorem y5g : q5w (k1d gl36) 0 = some (.arr T.t8uint32 Sha.start.row) := by kernel_rfl
theorem y5h : q5w (k1d gl36) 1 = some q9o := by kernel_rfl
section
variable {H : Type} {enc : TypeId × Value → H} {W : World} {base : Nat} {spare : Nat → Bool} {held : Bool}
theorem z35 (hg : gl36.In W) {A : Type} {e : TypeId} {k : Nat} {row : A → List PV} {ok : A → Prop} (hE : Opens enc Tryz.prog W base spare held gl36 e k row ok)
  (hr : ∀ a, ∃ q rest, row a = q :: rest ∧ ∀ v n, vrep (z8y W gl36) q v → v ≠ .int .u32 n) : OffE enc Tryz.prog W base spare held gl36 e := fun b off fuel cs y hb hc hy => by
 obtain ⟨a, -, hv, -⟩ := hE.op hy
 obtain ⟨q, rest, e1, e2⟩ := hr a
 rw [e1] at hv
 cases cs with
 | nil => simp [vcells] at hv
 | cons c cs =>
  simp only [vcells] at hv
  have h0 := hc 0 (by simp)
  rw [Nat.add_zero] at h0
  obtain ⟨n, hn⟩ := y8k hg b off c hb h0
  exact e2 c n hv.1.1 hn
theorem z9i {I : Imm} {m : Int} : ∀ v n, vrep I (.int m) v → v ≠ .int .u32 n := fun v n h e => by
 simp only [vrep] at h
 rw [h] at e
 cases e
theorem k0d : Opens enc Tryz.prog W base spare held gl36 3 1 (fun n : Int => [.int n]) I64 := Opens.i64 Tryz.underlying3 (by kernel_rfl)
theorem z8c (hg : gl36.In W) : Opens enc Tryz.prog W base spare held gl36 22 1 (fun l : List Int => [q5k false l]) (fun _ => True) :=
 (Opens.slice (z35 hg k0d fun n => ⟨_, _, rfl, z9i⟩) Tryz.underlying22 (by kernel_rfl) (by decide) k0d).conv id (fun l => by rw [Go.Pv.ints_flat]; rfl) (fun _ _ => trivial)
theorem j8n : Opens enc Tryz.prog W base spare held gl36 29 32 (fun d : Dig => q5e d.1) (fun _ => True) :=
 ⟨by kernel_rfl, fun {fuel cs y} h => by
  obtain ⟨l, hl, hc⟩ := z6y Tryz.underlying29 Tryz.underlying5 (by kernel_rfl) (by kernel_rfl) h
  refine ⟨⟨l, hl⟩, trivial, ?_, by rw [hc, List.length_map, hl]⟩
  rw [hc]
  have := k42 (z8y W gl36) (l.map fun b => Value.int .u8 b.toNat) (fun v hv => by obtain ⟨n, -, rfl⟩ := List.mem_map.1 hv; rfl)
  rwa [List.map_map] at this⟩
theorem j4n (hg : gl36.In W) : Opens enc Tryz.prog W base spare held gl36 31 36 (fun x : Card => x.enc) (fun _ => True) :=
 (Opens.struct Tryz.underlying31 (by kernel_rfl) (.cons rfl k0d (.cons rfl k0d (.cons rfl k0d (.cons rfl (z8c hg) (.cons rfl j8n .nil)))))).conv (fun x => ⟨x.1, x.2.1, x.2.2.1, x.2.2.2.1, x.2.2.2.2.1⟩) (fun x => by simp [Card.enc]) (fun _ _ => trivial)
theorem j7a (hg : gl36.In W) : Opens enc Tryz.prog W base spare held gl36 23 1 (fun l : List Card => [Card.lst false l]) (fun _ => True) :=
 (Opens.slice (z35 hg (j4n hg) fun x => ⟨_, _, rfl, z9i⟩) Tryz.underlying23 (by kernel_rfl) (by decide) (j4n hg)).conv id (fun _ => rfl) (fun _ _ => trivial)
theorem z9j : Opens enc Tryz.prog W base spare held gl36 33 4 (fun x : Sh => x.enc) (fun _ => True) :=
 (Opens.struct Tryz.underlying33 (by kernel_rfl) (.cons rfl k0d (.cons rfl k0d (.cons rfl k0d (.cons rfl k0d .nil))))).conv (fun x => ⟨x.1, x.2.1, x.2.2.1, x.2.2.2.1⟩) (fun _ => rfl) (fun _ _ => trivial)
theorem j4o (hg : gl36.In W) : Opens enc Tryz.prog W base spare held gl36 24 1 (fun l : List Sh => [Sh.lst false l]) (fun _ => True) :=
 (Opens.slice (z35 hg z9j fun x => ⟨_, _, rfl, z9i⟩) Tryz.underlying24 (by kernel_rfl) (by decide) z9j).conv id (fun _ => rfl) (fun _ _ => trivial)
theorem j8o (hg : gl36.In W) : Opens enc Tryz.prog W base spare held gl36 35 34 (fun x : Shn => x.enc) (fun _ => True) :=
 (Opens.struct Tryz.underlying35 (by kernel_rfl) (.cons rfl k0d (.cons rfl (z8c hg) (.cons rfl j8n .nil)))).conv (fun x => ⟨x.1, x.2.1, x.2.2.1⟩) (fun x => by simp [Shn.enc]) (fun _ _ => trivial)
theorem y03 (hg : gl36.In W) : Opens enc Tryz.prog W base spare held gl36 25 1 (fun l : List Shn => [Shn.lst false l]) (fun _ => True) :=
 (Opens.slice (z35 hg (j8o hg) fun x => ⟨_, _, rfl, z9i⟩) Tryz.underlying25 (by kernel_rfl) (by decide) (j8o hg)).conv id (fun _ => rfl) (fun _ _ => trivial)
theorem y5i (hg : gl36.In W) : Opens enc Tryz.prog W base spare held gl36 27 10 (fun x : Ses => x.enc) Wide :=
 (Opens.struct Tryz.underlying27 (by kernel_rfl) (.cons rfl k0d (.cons rfl k0d (.cons rfl k0d (.cons rfl (z8c hg) (.cons rfl k0d (.cons rfl k0d (.cons rfl k0d (.cons rfl (j7a hg) (.cons rfl (j4o hg) (.cons rfl (y03 hg) .nil))))))))))).conv
  (fun x => ⟨x.1, x.2.1, x.2.2.1, x.2.2.2.1, x.2.2.2.2.1, x.2.2.2.2.2.1, x.2.2.2.2.2.2.1, x.2.2.2.2.2.2.2.1, x.2.2.2.2.2.2.2.2.1, x.2.2.2.2.2.2.2.2.2.1⟩) (fun x => by simp [Ses.enc]) (fun x h => ⟨⟨h.2.2.1.1, Int.lt_of_le_of_lt h.2.2.1.2 (by decide)⟩, ⟨h.2.2.2.2.1.1, Int.lt_of_le_of_lt h.2.2.2.2.1.2 (by decide)⟩⟩)
end
set_option maxRecDepth 100000
open Go.ChangeShapes Go.WideShapes Go.ChangeAt Go.RowKit Go.Pv
set_option maxRecDepth 100000 in
theorem k2r (os : Os) (started : os.Started) (H : Type) (enc : TypeId × Value → H) :
  ReturnsInHanded {} Tryz.checked os 4 .any (fun w args => (Rows.openingCardsSpecSpec.pre enc Tryz.prog Tryz.f4 [] false w args ∧ laidMetH Tryz.prog j4m w) ∧ sizedMet enc Tryz.prog Tryz.f4 (OpenSpec.ofChange Rows.openingCardsSpecSpec) false w args) (Rows.openingCardsSpecSpec.post enc Tryz.prog Tryz.f4 false true false false) := by
 refine q9b (C := Tryz.checked) (X := fun w _ => laidMetH Tryz.prog j4m w) (fun _ _ _ hh h => h.of_heap hh) own started (by kernel_rfl) Tryz.func4
  (ChangeSpec.witness_shaped (enc := enc) (C := Tryz.checked) (os := os) (X := fun w _ => laidMetH Tryz.prog j4m w) false (World.doorLaid Tryz.prog 4000 os) #[.agg #[.int .i64 0, .int .i64 0, .int .i64 0, .slice none 0 0, .int .i64 0, .int .i64 0, .int .i64 0, .slice none 0 0, .slice none 0 0, .slice none 0 0]] 8 rfl (World.shaped_of_RefB (by kernel_rfl) (by kernel_rfl)) (by kernel_rfl) (by kernel_rfl) (by kernel_rfl) (j69 os _)) ?_
 intro W base args ds gs before hsh hval0 hW _ hwt hL
 have hg := in36 hsh hL
 have hval : ∀ (j : Nat) t v, Tryz.f4.params[j]? = some t → args[j]? = some v → Value.okWide Tryz.prog W .any base t v := hval0
 have hW' := hW
 obtain ⟨p, q, hA0, hV, rfl, hfz, hnd⟩ := hW
 have hA : DataW.TrodAll enc Tryz.prog W 0 (fun _ => true) true Tryz.f4.params.toList args.toList ds p := hA0
 rw [Tryz.params4] at hA hval
 obtain ⟨v0, vs0, d0, ds0, p0, q0, hargs, rfl, rfl, h0, r0⟩ := trodAll_cons hA
 obtain ⟨rfl, rfl, rfl⟩ := trodAll_nil r0
 obtain rfl : args = #[v0] := by cases args; simp_all
 obtain ⟨rfl, rfl⟩ := trodVars_none hV
 have k0 := h0
 have lt0 : ∀ x ∈ p0, x.block < W.heap.size := by obtain ⟨m, hm⟩ := k0; exact DataW.trod_lt m _ _ _ hm
 obtain ⟨x0_0, x0_1, w0⟩ := Opens.argS (y5i hg) Tryz.underlying27 (hval 0 27 v0 rfl rfl) h0
 clear hA0 hval0
 refine ((_root_.Go.Proofs.YtnooplpbpfiapaaGreatDoor.H.q06).bridgeG (gl := gl36) (z8b x0_0 x0_1 _ ⟨y5g, y5h⟩) (w := W) hg (vs := [v0]) ⟨w0, trivial⟩).mono fun e W' ⟨he, bel⟩ => ?_
 subst he
 exact ⟨_, rfl, _, _, _, [], _, [], hW', trodAll_mk1 (shut_bool Tryz.underlying4 _), (trodAll_cons_mk (Go.RowKit.Below.trod y02 (by kernel_rfl) (of_decide_eq_true (by kernel_rfl)) k0 bel lt0) trodAll_mk0), rfl, bel.frame _, fun h => by cases h⟩
theorem k4d : Rows.OpeningCardsSpecSaid :=
 OpenClaim.holds_of_wide 4 Tryz.f4 rfl rfl rfl rfl rfl rfl rfl ⟨rfl, rfl, rfl, rfl, rfl⟩ rfl rfl rfl rfl rfl (by kernel_rfl) Tryz.func4 (by kernel_rfl)
  (of_decide_eq_true (by kernel_rfl)) (by unfold Func.isWrapper; first | (rw [if_pos (by decide +kernel)]; kernel_rfl) | (rw [if_neg (by decide +kernel)]; exact ⟨rfl, rfl⟩))
  (fun os started H enc _ => k2r os started H enc)
theorem openingCardsSpec_holds : Rows.OpeningCardsSpecCardSaid :=
 Claim7.holds_tied_plain_at .later [] [.data, .data] true (true, "ffc4543b999d2e2c31cdf81055f5021fbefa10124ccad2d48d02d065e1def487") true
  k4d (fun _ h => by cases h) (by kernel_rfl) (fun _ h => by cases h) openingCardsSpec_row_tie rfl ⟨rfl, rfl⟩ (by kernel_rfl) rfl
  (fun f fn hf hfn => by
   obtain rfl : f = 4 := Option.some.inj ((show Tryz.prog.funcNamed "podium/podiumlaw36.OpeningCardsSpec" = some 4 by kernel_rfl).symm.trans hf) |>.symm
   obtain rfl : fn = Tryz.f4 := (Option.some.inj (Tryz.func4.symm.trans hfn)).symm
   exact ⟨by kernel_rfl, fun j t ht => by
    rw [Tryz.params4] at ht
    have hm : t ∈ [27] := by simpa using Array.mem_of_getElem? ht
    have hall : ([27].all fun u => !Tryz.prog.wantsStandIn u) = true := by kernel_rfl
    exact (show Tryz.prog.wantsStandIn t = false by simpa using List.all_eq_true.1 hall t hm)⟩)
  (by kernel_rfl)
end Go.Proofs.YtnooplpbpfiapaaGreatDoor

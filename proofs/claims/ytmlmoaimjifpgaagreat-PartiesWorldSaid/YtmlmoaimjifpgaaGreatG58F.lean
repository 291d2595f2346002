/- Worlds are right. -/
import Derived.Test.YtmlmoaimjifpgaaGreatR58D
import Derived.Test.YtmlmoaimjifpgaaGreatR58E
import Derived.Test.YtmlmoaimjifpgaaGreatLKf
import Derived.Test.YtmlmoaimjifpgaaGreatG58W
namespace Go.Proofs.YtmlmoaimjifpgaaGreat
open Go.Pv Go.Pv.Cd
set_option maxRecDepth 100000
set_option maxHeartbeats 4000000
theorem j5a {l : List Note} (h : ∀ n ∈ l, q5c n = true) : ∀ e ∈ k6m l, q7m e = true := fun e he => by
 obtain ⟨n, hn, h2⟩ := List.mem_filterMap.1 he
 have hf := h n hn
 unfold q5c at hf
 split at h2
 ·rename_i hk
  rw [if_pos hk, Bool.and_eq_true] at hf
  cases h2
  exact hf.1
 ·cases h2
theorem j10 {l : List Note} (h : ∀ n ∈ l, q5c n = true) : ∀ d ∈ k0y l, q66 d = true := fun d hd => by
 obtain ⟨n, hn, h2⟩ := List.mem_filterMap.1 hd
 have hf := h n hn
 unfold q5c at hf
 split at h2
 ·cases h2
 ·rename_i hk
  rw [if_neg hk, Bool.and_eq_true, Bool.and_eq_true] at hf
  cases h2
  exact hf.1.2
theorem j5b {α : Type} {key : α → Int} {L : List α} {x : α} (h : x ∈ k3l key (srt key L)) : x ∈ L := ((k8u L x).1 h).mem
theorem j5c {l : List Note} (h : ∀ n ∈ l, q5c n = true) (hl : l.length ≤ 4096) : q75 (k0z l) = 0 :=
 k8x.2 ⟨Nat.le_trans (k6o l) hl, fun e he => j5a h e (j5b he), z2t _⟩
theorem j5d {l : List Note} (h : ∀ n ∈ l, q5c n = true) (hl : l.length ≤ 4096) : q8b (k00 l) = 0 :=
 k1l.2 ⟨Nat.le_trans (k6p l) hl, fun e he => j10 h e (j5b he), z2t _⟩
abbrev MEo (M : KM Int Event) : PObj := KM.obj k2n Event.pv M
abbrev MDo (M : KM Int Decision) : PObj := KM.obj k2n Decision.pv M
theorem j5e (l : List Note) : Rets P F.q12 [.agg [Note.lst false l]] [] (.bool true) := by
 have hrl := Note.row_len l
 refine H.q12.view q5d rfl rfl ?_
 by_cases hl : 30 < l.length
 ·have hlI : (30 : Int) < l.length := by omega
  repeat' (first 
   | (with_reducible refine Fresh.intro fun b hb => ?_) <;> (try simp -dsimp -implicitDefEqProofs [*] at hb)
   | (with_reducible refine Rets.xcall (q54 _) ?_)
   | (simp -dsimp -implicitDefEqProofs [*]))
  all_goals exact .drop (st' := []) (fun _ _ h => by cases h) ⟨rfl, rfl⟩
 have hlI : ¬ (30 : Int) < l.length := by omega
 by_cases hr : Rise q55 okN l
 case neg =>
  have hv := fun st => q8q l (by omega) false ⟨(fun h => by cases h), fun h => absurd h.1 hr⟩ st
  clear hr
  repeat' (first 
   | (with_reducible refine Fresh.intro fun b hb => ?_) <;> (try simp -dsimp -implicitDefEqProofs [*] at hb)
   | (with_reducible refine Rets.xcall (q54 _) ?_)
   | (with_reducible refine Rets.xcall (hv _) ?_)
   | (simp -dsimp -implicitDefEqProofs [*]))
  all_goals exact .drop (st' := []) (fun _ _ h => by cases h) ⟨rfl, rfl⟩
 have hv := fun st => q8q l (by omega) true ⟨fun _ => ⟨hr, by omega⟩, fun _ => rfl⟩ st
 have w0 := fun st => j9h l hr (by omega) st
 have cE := fun st => k6b false (k0z l) st
 have cD := fun st => k81 false (k00 l) st
 rw [j5c hr.1 (by omega)] at cE
 rw [j5d hr.1 (by omega)] at cD
 clear hr
 repeat' (first 
  | (with_reducible refine Fresh.intro fun b hb => ?_) <;> (try simp -dsimp -implicitDefEqProofs [*] at hb)
  | (with_reducible refine Rets.xcall (q54 _) ?_)
  | (with_reducible refine Rets.xcall (hv _) ?_)
  | (with_reducible refine Rets.xcall (w0 _) ?_)
  | (with_reducible refine Rets.xcall (cE _) ?_)
  | (with_reducible refine Rets.xcall (cD _) ?_)
  | (simp -dsimp -implicitDefEqProofs [*]))
 clear hv w0 cE cD
 rename_i pb hpb wb hwb m1 hm1
 revert b; intro m2 hm2
 refine q44 (σ := Nat × KM Int Event × KM Int Decision) (fun x => [(3, .ptr wb 0), (5, .val (.map (some m1))), (6, .val (.map (some m2))), (55, Note.lst false l), (56, .int l.length), (57, .int (x.1 : Nat))])
  (fun x => [(m2, MDo x.2.2), (m1, MEo x.2.1), (wb, .arr T.apiWorld (zC.row (Event.lst false (k0z l)) (Decision.lst false (k00 l))))]) (fun x => x.1 ≤ l.length ∧ Hid (FstM y1c (k6m (l.take x.1)) x.2.1) ∧ Hid (FstM y1d (k0y (l.take x.1)) x.2.2)) (fun x => l.length - x.1) (0, [], []) ⟨Nat.zero_le _, ⟨.nil⟩, ⟨.nil⟩⟩ (by simp) (q6s (q6s (q6s (fun _ _ h => by cases h)))) ?_
 rintro ⟨i, M, N⟩ ⟨hi, h1, h2⟩
 simp only at hi h1 h2
 have hw := q46 (n := i) (by omega)
 by_cases hil : i < l.length
 case pos =>
  have e1 := z98 hil
  have e2 := z56 hil
  have q0 : l[i].enc[0]? = some (.int l[i].kind) := rfl
  have q1 : l[i].enc[1]? = some (.int l[i].ev.no) := rfl
  have q2 : ∀ h : 1 < l[i].enc.length, l[i].enc[1]'h = .int l[i].ev.no := fun _ => rfl
  have q3 : l[i].enc[10]? = some (.int l[i].dec.no) := rfl
  have q4 : ∀ h : 10 < l[i].enc.length, l[i].enc[10]'h = .int l[i].dec.no := fun _ => rfl
  by_cases hk : l[i].kind = 1
  ·rw [if_pos hk] at e1 e2
   rw [List.append_nil] at e2
   cases hlk : KM.look M l[i].ev.no with
   | none =>
    have n1 := h1.out.put (x := l[i].ev) hlk
    rw [← e1] at n1
    have k1 := Hid.mk n1
    have k2 : Hid (FstM y1d (k0y (l.take (i + 1))) N) := ⟨by rw [e2]; exact h2.out⟩
    clear e1 e2 n1 h1 h2
    have hput := KM.int_put Event.pv M l[i].ev.no
    repeat' (first 
     | (with_reducible refine Fresh.intro fun b hb => ?_) <;> (try simp -dsimp -implicitDefEqProofs [*] at hb)
     | (simp -dsimp -implicitDefEqProofs [*]))
    exact Next.intro (i + 1, M.put l[i].ev.no l[i].ev, N) ⟨by simp only; omega, k1, k2⟩ (by simp only; omega) (by simp) q5k
   | some y =>
    have n1 := h1.out.skip (x := l[i].ev) hlk
    rw [← e1] at n1
    have k1 := Hid.mk n1
    have k2 : Hid (FstM y1d (k0y (l.take (i + 1))) N) := ⟨by rw [e2]; exact h2.out⟩
    clear e1 e2 n1 h1 h2
    repeat' (first 
     | (with_reducible refine Fresh.intro fun b hb => ?_) <;> (try simp -dsimp -implicitDefEqProofs [*] at hb)
     | (simp -dsimp -implicitDefEqProofs [*]))
    exact Next.intro (i + 1, M, N) ⟨by simp only; omega, k1, k2⟩ (by simp only; omega) (by simp) q5k
  ·rw [if_neg hk] at e1 e2
   rw [List.append_nil] at e1
   cases hlk : KM.look N l[i].dec.no with
   | none =>
    have n1 := h2.out.put (x := l[i].dec) hlk
    rw [← e2] at n1
    have k1 := Hid.mk n1
    have k2 : Hid (FstM y1c (k6m (l.take (i + 1))) M) := ⟨by rw [e1]; exact h1.out⟩
    clear e1 e2 n1 h1 h2
    have hput := KM.int_put Decision.pv N l[i].dec.no
    repeat' (first 
     | (with_reducible refine Fresh.intro fun b hb => ?_) <;> (try simp -dsimp -implicitDefEqProofs [*] at hb)
     | (simp -dsimp -implicitDefEqProofs [*]))
    exact Next.intro (i + 1, M, N.put l[i].dec.no l[i].dec) ⟨by simp only; omega, k2, k1⟩ (by simp only; omega) (by simp) q5k
   | some y =>
    have n1 := h2.out.skip (x := l[i].dec) hlk
    rw [← e2] at n1
    have k1 := Hid.mk n1
    have k2 : Hid (FstM y1c (k6m (l.take (i + 1))) M) := ⟨by rw [e1]; exact h1.out⟩
    clear e1 e2 n1 h1 h2
    repeat' (first 
     | (with_reducible refine Fresh.intro fun b hb => ?_) <;> (try simp -dsimp -implicitDefEqProofs [*] at hb)
     | (simp -dsimp -implicitDefEqProofs [*]))
    exact Next.intro (i + 1, M, N) ⟨by simp only; omega, k2, k1⟩ (by simp only; omega) (by simp) q5k
 have hie : l.length = i := by omega
 subst hie
 rw [List.take_length] at h1 h2
 have lE : M.length = (k0z l).length := h1.out.len
 have lD : N.length = (k00 l).length := h2.out.len
 have aE : Hid (∀ x ∈ k0z l, KM.look M x.no = some x) := ⟨fun x hx => h1.out.at hx⟩
 have aD : Hid (∀ x ∈ k00 l, KM.look N x.no = some x) := ⟨fun x hx => h2.out.at hx⟩
 have bE := k6o l
 have bD := k6p l
 clear h1 h2
 generalize k0z l = A at *
 generalize k00 l = B at *
 have rA := Event.row_len A
 have rB := Decision.row_len B
 repeat' (simp -dsimp -implicitDefEqProofs [*])
 refine q44 (σ := Nat) (fun j => [(3, .ptr wb 0), (5, .val (.map (some m1))), (6, .val (.map (some m2))), (112, Event.lst false A), (113, .int A.length), (114, .int (j : Nat))]) (fun _ => [(m2, MDo N), (m1, MEo M), (wb, .arr T.apiWorld (zC.row (Event.lst false A) (Decision.lst false B)))]) (fun j => j ≤ A.length) (fun j => A.length - j) 0 (Nat.zero_le _) (by simp) (.refl _) ?_
 intro j hj
 have hwj := q46 (n := j) (by omega)
 by_cases hjl : j < A.length
 case pos =>
  have hlk := aE.out _ (List.getElem_mem hjl)
  repeat' (first 
   | (with_reducible refine Fresh.intro fun b hb => ?_) <;> (try simp -dsimp -implicitDefEqProofs [*] at hb)
   | (simp -dsimp -implicitDefEqProofs [*]))
  exact Next.intro (j + 1) (by omega) (by omega) (by simp) q5k
 have hje : A.length = j := by omega
 subst hje
 repeat' (simp -dsimp -implicitDefEqProofs [*])
 refine q44 (σ := Nat) (fun j => [(3, .ptr wb 0), (5, .val (.map (some m1))), (6, .val (.map (some m2))), (134, Decision.lst false B), (135, .int B.length), (136, .int (j : Nat))]) (fun _ => [(m2, MDo N), (m1, MEo M), (wb, .arr T.apiWorld (zC.row (Event.lst false A) (Decision.lst false B)))]) (fun j => j ≤ B.length) (fun j => B.length - j) 0 (Nat.zero_le _) (by simp) (.refl _) ?_
 intro j hj
 have hwj := q46 (n := j) (by omega)
 by_cases hjl : j < B.length
 case pos =>
  have hlk := aD.out _ (List.getElem_mem hjl)
  repeat' (first 
   | (with_reducible refine Fresh.intro fun b hb => ?_) <;> (try simp -dsimp -implicitDefEqProofs [*] at hb)
   | (simp -dsimp -implicitDefEqProofs [*]))
  exact Next.intro (j + 1) (by omega) (by omega) (by simp) q5k
 have hje : B.length = j := by omega
 subst hje
 repeat' (simp -dsimp -implicitDefEqProofs [*])
 exact .drop (st' := []) (fun _ _ h => by cases h) ⟨rfl, rfl⟩
open Go.ChangeShapes Go.WideShapes Go.ChangeAt Go.RowKit Go.Pv
set_option maxRecDepth 100000 in
theorem k23 (H : Type) (enc : TypeId × Value → H) (W : World) (base : Nat) (args : Array Value) (ds gs : List (DataW H)) (before : List MemPlace)
  (hval0 : ∀ (j : Nat) t v, Tryz.f8.params[j]? = some t → args[j]? = some v → Value.okWide Tryz.prog W .any base t v)
  (hW : DataW.Whole enc Tryz.prog Tryz.f8.params.toList Rows.partiesWorldSpec.vars false W args.toList ds gs before) :
  Calls Tryz.prog 8 args W fun e W' => ∃ v, e = .returned v ∧ Rows.partiesWorldSpec.post enc Tryz.prog Tryz.f8 false true false false W args v W' := by
 have hval : ∀ (j : Nat) t v, Tryz.f8.params[j]? = some t → args[j]? = some v → Value.okWide Tryz.prog W .any base t v := hval0
 have hW' := hW
 obtain ⟨p, q, hA0, hV, rfl, hfz, hnd⟩ := hW
 have hA : DataW.TrodAll enc Tryz.prog W 0 (fun _ => true) true Tryz.f8.params.toList args.toList ds p := hA0
 rw [Tryz.params8] at hA hval
 obtain ⟨v0, vs0, d0, ds0, p0, q0, hargs, rfl, rfl, h0, r0⟩ := trodAll_cons hA
 obtain ⟨rfl, rfl, rfl⟩ := trodAll_nil r0
 obtain rfl : args = #[v0] := by cases args; simp_all
 obtain ⟨rfl, rfl⟩ := trodVars_none hV
 have k0 := h0
 have lt0 : ∀ x ∈ p0, x.block < W.heap.size := by obtain ⟨m, hm⟩ := k0; exact DataW.trod_lt m _ _ _ hm
 obtain ⟨x0, g0, w0⟩ := Opens.argS (gl := []) j44 Tryz.underlying60 (hval 0 60 v0 rfl rfl) h0
 clear hA0 hval0
 refine ((_root_.Go.Proofs.YtmlmoaimjifpgaaGreat.H.q12).bridgeG (gl := []) (j5e x0) (w := W) (fun _ _ _ h => by cases h) (vs := [v0]) ⟨w0, trivial⟩).mono fun e W' ⟨he, bel⟩ => ?_
 subst he
 exact ⟨_, rfl, _, _, _, [], _, [], hW', trodAll_mk1 (shut_bool Tryz.underlying4 _), (trodAll_cons_mk (Go.RowKit.Below.trod k21 (by kernel_rfl) (of_decide_eq_true (by kernel_rfl)) k0 bel lt0) trodAll_mk0), rfl, bel.frame _, fun h => by cases h⟩
set_option maxRecDepth 100000 in
theorem k4h (os : Os) (started : os.Started) (H : Type) (enc : TypeId × Value → H) :
  ReturnsInHanded {} Tryz.checked os 8 .any (Rows.partiesWorldSpec.pre6 enc Tryz.prog Tryz.f8 Rows.partiesWorldRow.domain false) (Rows.partiesWorldSpec.post enc Tryz.prog Tryz.f8 false true false false) := by
 refine returnsInHanded_of_change (C := Tryz.checked) own started (by kernel_rfl) Tryz.func8
  (ChangeSpec.witness6 (enc := enc) (C := Tryz.checked) false ⟨#[], #[.agg #[.slice none 0 0]], []⟩ 8 (by kernel_rfl) (by kernel_rfl) (by kernel_rfl) (by kernel_rfl)) ?_
 intro W base args ds gs before hval hW _ _
 exact k23 H enc W base args ds gs before hval hW
theorem partiesWorld_holds : Rows.PartiesWorldSaid :=
 OpenClaim.holds_of_wide 8 Tryz.f8 rfl rfl rfl rfl rfl rfl rfl ⟨rfl, rfl, rfl, rfl, rfl⟩ rfl rfl rfl rfl rfl (by kernel_rfl) Tryz.func8 (by kernel_rfl)
  (of_decide_eq_true (by kernel_rfl)) (by unfold Func.isWrapper; first | (rw [if_pos (by decide +kernel)]; kernel_rfl) | (rw [if_neg (by decide +kernel)]; exact ⟨rfl, rfl⟩))
  (fun os started H enc _ => k4h os started H enc)
end Go.Proofs.YtmlmoaimjifpgaaGreat

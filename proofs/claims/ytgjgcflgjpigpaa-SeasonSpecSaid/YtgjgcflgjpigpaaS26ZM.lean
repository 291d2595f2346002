/- The records among scores. -/
import Derived.Test.YtgjgcflgjpigpaaS26ZK
namespace Go.Proofs.Ytgjgcflgjpigpaa
open Go.Pv
set_option maxRecDepth 100000
set_option maxHeartbeats 8000000
def lastNo (l : List Rec) (i : Nat) : Int := if i = 0 then -1 else (l.getD (i - 1) default).no
def ListedR (l : List Rec) : Prop := ∀ i (h : i < l.length), rightR l[i] (lastNo l i) = true
structure RecK (l : List Rec) (E : Int) (M : List Rec) : Prop where
  k1 : 4096 < l.length → E = 2 ∧ M = []
  k2 : l.length ≤ 4096 → ∀ i (h : i < l.length), rightR l[i] (lastNo l i) = false → E = 260 ∧ M = []
  k3 : l.length ≤ 4096 → ListedR l → E = 0 ∧ M = recs valR none (srt SortRec.key l)
open Classical in
noncomputable def recE (l : List Rec) : Int := if 4096 < l.length then 2 else if ListedR l then 0 else 260
noncomputable def recL (l : List Rec) : List Rec := if recE l = 0 then recs valR none (srt SortRec.key l) else []
theorem rec_k (l : List Rec) : RecK l (recE l) (recL l) := by
  have nz : recE l ≠ 0 → recL l = [] := fun h => by unfold recL; rw [if_neg h]
  refine ⟨fun h => ?_, fun h i hi hr => ?_, fun h hr => ?_⟩
  · have e : recE l = 2 := by unfold recE; rw [if_pos h]
    exact ⟨e, nz (by omega)⟩
  · have e : recE l = 260 := by
      unfold recE
      rw [if_neg (by omega), if_neg]
      intro hL
      have := hL i hi
      rw [hr] at this; cases this
    exact ⟨e, nz (by omega)⟩
  · have e : recE l = 0 := by unfold recE; rw [if_neg (by omega), if_pos hr]
    exact ⟨e, by unfold recL; rw [if_pos e]⟩
theorem right_ok {x : Rec} {last : Int} (h : rightR x last = true) : last + 1 ≤ x.no ∧ x.no ≤ 1048576 ∧ okR x.score = true := by
  simp only [rightR, btw, Bool.and_eq_true, decide_eq_true_eq] at h
  exact ⟨h.1.1, h.1.2, h.2.2.2⟩
theorem lastNo_succ {l : List Rec} {i : Nat} (h : i < l.length) : lastNo l (i + 1) = l[i].no := by
  unfold lastNo
  rw [if_neg (by omega)]
  simp [h]
theorem lastNo_ge {l : List Rec} : ∀ {i : Nat} (_ : i ≤ l.length) (_ : ∀ j (h : j < l.length), j < i → rightR l[j] (lastNo l j) = true), -1 ≤ lastNo l i ∧ lastNo l i ≤ 1048576
  | 0, _, _ => by unfold lastNo; rw [if_pos rfl]; omega
  | i + 1, hi, h => by
    rw [lastNo_succ (show i < l.length by omega)]
    have h1 := right_ok (h i (by omega) (by omega))
    have h2 := lastNo_ge (i := i) (by omega) fun j hj hji => h j hj (by omega)
    omega
theorem cmpAll_of {l : List Rec} (h : ∀ x ∈ l, okR x.score = true) (hf : ∀ x ∈ l, few6 x.score = true) : CmpAll l := fun x hx y hy b st hb => by
  obtain ⟨c, h1, -, h2, -⟩ := cmp6 (h x hx) (hf x hx) (h y hy) (hf y hy)
  have := less_spec x y b c h2 st hb
  have e : decide (c < 0) = decide (x.score.val < y.score.val) := decide_eq_decide.2 h1
  rwa [e] at this
theorem CmpAll.srt {l : List Rec} (h : CmpAll l) : CmpAll (srt SortRec.key l) := fun x hx y hy => h x (mem_srt.1 hx) y (mem_srt.1 hy)
theorem ListedR.ok {l : List Rec} (h : ListedR l) : ∀ x ∈ l, okR x.score = true := fun x hx => by
  obtain ⟨j, hj, rfl⟩ := List.mem_iff_getElem.1 hx
  exact (right_ok (h j hj)).2.2
theorem sRecords_spec (t : Bool) (l : List Rec) (hS : l.length ≤ 4096 → ∀ x ∈ l, x.score.Len) (hF : l.length ≤ 4096 → ∀ x ∈ l, few6 x.score = true) (st : Store) : Rets P F.season_Records [.list t (Rec.row l) l.length] st (.tuple [Rec.lst (recL l), .int (recE l)]) := by
  have k := rec_k l
  obtain ⟨E, hE⟩ : ∃ E, E = recE l := ⟨_, rfl⟩
  obtain ⟨M, hM⟩ : ∃ M, M = recL l := ⟨_, rfl⟩
  rw [← hE, ← hM] at k ⊢
  clear hE hM
  refine H.season_Records.view hmix rfl rfl ?_
  by_cases n1 : 4096 < l.length
  · obtain ⟨rfl, rfl⟩ := k.k1 n1
    have n1' : (4096 : Int) < l.length := by omega
    clear k
    repeat' (simp -dsimp -implicitDefEqProofs [*])
    exact .sees (.tuple2l (.nil0 _)) (RetView.drop (st' := st) (by repeat' (first | exact StLe.refl _ | (refine StLe_cons (by simp [*]; done) ?_) | (refine StLe_fresh (by simp [*]; done) ?_))) ⟨rfl, rfl⟩)
  have n1' : ¬ (4096 : Int) < l.length := by omega
  have hlt : l.length ≤ 4096 := by omega
  have kF := Hid.mk (k.k2 hlt)
  have kT := Hid.mk (k.k3 hlt)
  replace hF := Hid.mk (hF hlt)
  replace hS := Hid.mk (hS hlt)
  clear k n1
  repeat' (simp -dsimp -implicitDefEqProofs [*])
  refine xloop_for (fun n : Nat => [(0, .list t (Rec.row l) l.length), (4, .int (lastNo l n)), (15, .list t (Rec.row l) l.length), (16, .int l.length), (17, .int n)]) (fun _ => st) (fun n => n ≤ l.length ∧ Hid (∀ j (h : j < l.length), j < n → rightR l[j] (lastNo l j) = true)) (fun n => l.length - n) 0 ⟨Nat.zero_le _, ⟨fun j _ h => absurd h (by omega)⟩⟩ (by simp [lastNo]) (.refl _) ?_
  rintro n ⟨hn, hI⟩
  by_cases hnl : n < l.length
  · have hw := wrap_succ (n := n) (by omega)
    obtain ⟨g1, g2⟩ := lastNo_ge hn hI.out
    have cr := right_spec l[n] (hS.out _ (List.getElem_mem hnl)) (lastNo l n) g1 g2
    have kF := Hid.mk (kF.out n hnl)
    have hI2 : Hid (rightR l[n] (lastNo l n) = true → ∀ j (h : j < l.length), j < n + 1 → rightR l[j] (lastNo l j) = true) := ⟨fun h j hj h2 => if e : j = n then by subst e; exact h else hI.out j hj (by omega)⟩
    have hls : Hid (lastNo l (n + 1) = l[n].no) := ⟨lastNo_succ hnl⟩
    have s0 := Rec.row_sub l n hnl
    obtain ⟨x, hx⟩ : ∃ x, x = l[n] := ⟨_, rfl⟩
    rw [← hx] at cr kF hI2 hls s0
    have hn7 : n * 7 < l.length * 7 := by omega
    obtain ⟨z, hz⟩ : ∃ z, z = lastNo l n := ⟨_, rfl⟩
    rw [← hz] at cr kF hI2
    simp only [← hz]
    clear hI hx hS hF kT g1 g2 hz
    cases hr : rightR x z with
    | false =>
      rw [hr] at cr
      obtain ⟨rfl, rfl⟩ := kF.out hr
      clear kF hI2 hls hr
      repeat' (first 
       | (with_reducible refine Fresh.intro fun b hb => ?_) <;> (try simp -dsimp -implicitDefEqProofs [*] at hb)
       | (with_reducible refine Rets.xcall (cr _) ?_)
       | (simp -dsimp -implicitDefEqProofs [*]))
      exact .sees (.tuple2l (.nil0 _)) (RetView.drop (st' := st) (by repeat' (first | exact StLe.refl _ | (refine StLe_cons (by simp [*]; done) ?_) | (refine StLe_fresh (by simp [*]; done) ?_))) ⟨rfl, rfl⟩)
    | true =>
      rw [hr] at cr
      have hI3 := Hid.mk (hI2.out hr)
      clear kF hI2 hr
      repeat' (first 
       | (with_reducible refine Fresh.intro fun b hb => ?_) <;> (try simp -dsimp -implicitDefEqProofs [*] at hb)
       | (with_reducible refine Rets.xcall (cr _) ?_)
       | (simp -dsimp -implicitDefEqProofs [*]))
      exact Next.intro (n + 1) ⟨by omega, hI3⟩ (by omega) (by simp [hls.out]) (by repeat' (first | exact StLe.refl _ | (refine StLe_cons (by simp [*]; done) ?_) | (refine StLe_fresh (by simp [*]; done) ?_)))
  obtain rfl : n = l.length := by omega
  have hL : ListedR l := fun i hi => hI.out i hi hi
  have hc := cmpAll_of hL.ok hF.out
  obtain ⟨rfl, rfl⟩ := kT.out hL
  clear kT kF hI hF hL hS hnl hn
  repeat' (first 
   | (with_reducible refine Fresh.intro fun b hb => ?_) <;> (try simp -dsimp -implicitDefEqProofs [*] at hb)
   | (simp -dsimp -implicitDefEqProofs [*]))
  revert b; intro bk hbk
  refine xloop_for (fun i : Nat => [(0, .list t (Rec.row l) l.length), (7, .ptr bk 0), (8, lessF bk), (30, .int l.length), (31, .int i)]) (fun _ => (bk, bookO) :: st) (fun i => i ≤ l.length) (fun i => l.length - i) 0 (Nat.zero_le _) (by simp) (.refl _) ?_
  intro i hi
  by_cases hil : i < l.length
  · have hw := wrap_succ (n := i) (by omega)
    have si := Rec.row_sub l i hil
    have hxi := List.getElem_mem hil
    have hi7 : i * 7 < l.length * 7 := by omega
    obtain ⟨x, hx⟩ : ∃ x, x = l[i] := ⟨_, rfl⟩
    rw [← hx] at si hxi
    clear hx
    repeat' (simp -dsimp -implicitDefEqProofs [*])
    refine xloop_for (fun k : Nat => [(0, .list t (Rec.row l) l.length), (7, .ptr bk 0), (8, lessF bk), (9, .int i), (30, .int l.length), (31, .int i), (34, .int i), (35, .int k)]) (fun _ => (bk, bookO) :: st) (fun k => k ≤ i) (fun k => i - k) 0 (Nat.zero_le _) (by simp) (.refl _) ?_
    intro k hk
    by_cases hki : k < i
    · have hkl : k < l.length := by omega
      have hw2 := wrap_succ (n := k) (by omega)
      have sk := Rec.row_sub l k hkl
      have hxk := List.getElem_mem hkl
      have hk7 : k * 7 < l.length * 7 := by omega
      obtain ⟨y, hy⟩ : ∃ y, y = l[k] := ⟨_, rfl⟩
      rw [← hy] at sk hxk
      have cl := hc y hxk x hxi bk
      clear hy hc
      repeat' (first 
       | (with_reducible refine Rets.xcall (cl _ (by simp)) ?_)
       | (simp -dsimp -implicitDefEqProofs [*]))
      exact Next.intro (k + 1) (by omega) (by omega) (by simp) (by repeat' (first | exact StLe.refl _ | (refine StLe_cons (by simp [*]; done) ?_) | (refine StLe_fresh (by simp [*]; done) ?_)))
    · obtain rfl : k = i := by omega
      clear hc
      repeat' (simp -dsimp -implicitDefEqProofs [*])
      exact Next.intro (k + 1) (by omega) (by omega) (by simp) (by repeat' (first | exact StLe.refl _ | (refine StLe_cons (by simp [*]; done) ?_) | (refine StLe_fresh (by simp [*]; done) ?_)))
  obtain rfl : i = l.length := by omega
  clear hil hi
  repeat' (simp -dsimp -implicitDefEqProofs [*])
  refine xcall_post (cloneR_own t l (by omega) _) fun e s hq => ?_
  have hsl : (srt SortRec.key l).length = l.length := (srt_perm l).length_eq
  rcases hq with ⟨rfl, rfl, rfl⟩ | ⟨q, cap, C, hq, h1, h2, rfl, rfl⟩
  · repeat' (first 
     | (with_reducible refine Rets.xcall (sort0R _ _) ?_)
     | (with_reducible refine Rets.xcall (records_spec rfl (by simp)) ?_)
     | (simp -dsimp -implicitDefEqProofs [*]))
    refine xcall_post (collect_spec H.season_records_1.enters (records1_gives0 bk _) (by simp)) fun e s hq => ?_
    obtain ⟨rfl, rfl⟩ := hq
    repeat' (simp -dsimp -implicitDefEqProofs [*])
    exact RetView.drop (st' := st) (by repeat' (first | exact StLe.refl _ | (refine StLe_cons (by simp [*]; done) ?_) | (refine StLe_fresh (by simp [*]; done) ?_))) ⟨rfl, rfl⟩
  · have hqb := snew_ne hq (show sget ((bk, bookO) :: st) bk = some bookO by simp)
    repeat' (first 
     | (with_reducible refine Does.xcall (sortR_spec rfl (by omega) _) ?_)
     | (with_reducible refine Rets.xcall (records_spec rfl (by simp [*])) ?_)
     | (simp -dsimp -implicitDefEqProofs [*]))
    refine xcall_post (collect_spec H.season_records_1.enters (records1_gives (C := C) hsl (by omega) hq (by simp) hc.srt) ?_) fun e s hq => ?_
    · have := (recs_sublist (sc := valR) none (srt SortRec.key l)).length_le
      omega
    obtain ⟨rfl, rfl⟩ := hq
    repeat' (simp -dsimp -implicitDefEqProofs [*])
    exact RetView.drop (st' := st) (by repeat' (first | exact StLe.refl _ | (refine StLe_cons (by simp [*]; done) ?_) | (refine StLe_fresh (by simp [*]; done) ?_))) ⟨rfl, rfl⟩
end Go.Proofs.Ytgjgcflgjpigpaa

/- Open, Close. -/
import Derived.Test.YtbjfmedpaohpnaaS44D
namespace Go.Proofs.Ytbjfmedpaohpnaa
open Go.Pv
set_option maxRecDepth 100000
theorem place_spec (t : Bool) (l : List Review) (n : Int) (hok : ok l) (hl : l.length ≤ 1024) (st : Store) : Rets P F.reviews_place__apiReview_int [Review.lst t l, .int n, numF] st (.tuple [.int (pos l n), .bool (has l n)]) := by
  refine H.reviews_place__apiReview_int.pure hmix rfl rfl ?_
  repeat' (first
    | (with_reducible refine Fresh.intro fun b hb => ?_) <;> (try simp -dsimp -implicitDefEqProofs [*] at hb)
    | (with_reducible refine Lit.imm ?_)
    | ((with_reducible refine Grow.intro ?_ fun b cap hb hc1 hc2 => ?_); omega) <;> (try simp -dsimp -implicitDefEqProofs [*] at hb)
    | (with_reducible refine RetView.nil2 ?_)
    | (with_reducible refine RetView.nil1 ?_)
    | (with_reducible refine RetView.loose2 (t := true) ?_)
    | (with_reducible refine RetView.loose1 (t := true) ?_)
    | (with_reducible refine RetView.fz 1 ?_ ?_)
    | (with_reducible refine RetView.same ?_)
    | (with_reducible refine DrawLate.intro [] ?_)
    | (with_reducible refine Cls_and ?_ ?_)
    | (with_reducible exact Cls.self _ _)
    | (with_reducible refine Cls_same ?_)
    | (with_reducible refine Cls_in ?_ ?_)
    | (with_reducible refine Cls_fresh ?_ ?_)
    | (with_reducible refine And.intro (fun h => ?_) (fun h => ?_)) <;> (try (exfalso; omega))
    | (with_reducible refine And.intro (fun h => ?_) ?_) <;> (try (exfalso; omega))
    | ((with_reducible refine and_keep ?_ fun hk => ?_); omega)
    | (simp -dsimp -implicitDefEqProofs [*]))
  refine Rets.xcall (search_spec t l n hok hl b T.funcapiReviewint _ (by simp)) ?_
  repeat' (first
    | (with_reducible refine Fresh.intro fun b hb => ?_) <;> (try simp -dsimp -implicitDefEqProofs [*] at hb)
    | (with_reducible refine Lit.imm ?_)
    | ((with_reducible refine Grow.intro ?_ fun b cap hb hc1 hc2 => ?_); omega) <;> (try simp -dsimp -implicitDefEqProofs [*] at hb)
    | (with_reducible refine RetView.nil2 ?_)
    | (with_reducible refine RetView.nil1 ?_)
    | (with_reducible refine RetView.loose2 (t := true) ?_)
    | (with_reducible refine RetView.loose1 (t := true) ?_)
    | (with_reducible refine RetView.fz 1 ?_ ?_)
    | (with_reducible refine RetView.same ?_)
    | (with_reducible refine DrawLate.intro [] ?_)
    | (with_reducible refine Cls_and ?_ ?_)
    | (with_reducible exact Cls.self _ _)
    | (with_reducible refine Cls_same ?_)
    | (with_reducible refine Cls_in ?_ ?_)
    | (with_reducible refine Cls_fresh ?_ ?_)
    | (with_reducible refine And.intro (fun h => ?_) (fun h => ?_)) <;> (try (exfalso; omega))
    | (with_reducible refine And.intro (fun h => ?_) ?_) <;> (try (exfalso; omega))
    | ((with_reducible refine and_keep ?_ fun hk => ?_); omega)
    | (simp -dsimp -implicitDefEqProofs [*]))
theorem pos_le (l : List Review) (n : Int) : pos l n ≤ l.length := List.findIdx_le_length
theorem insert_empty (x : Review) (st : Store) : PCalls P F.slices_Insert__LapiReview_apiReview [.list true [] 0, .int (0 : Nat), .list true x.enc 1] st (InsQ [] 0 x st) := by
  refine H.slices_Insert__LapiReview_apiReview.view hmix rfl rfl ?_
  repeat' (first
    | (with_reducible refine Fresh.intro fun b hb => ?_) <;> (try simp -dsimp -implicitDefEqProofs [*] at hb)
    | (with_reducible refine Lit.imm ?_)
    | ((with_reducible refine Grow.intro ?_ fun b cap hb hc1 hc2 => ?_); omega) <;> (try simp -dsimp -implicitDefEqProofs [*] at hb)
    | (with_reducible refine RetView.nil2 ?_)
    | (with_reducible refine RetView.nil1 ?_)
    | (with_reducible refine RetView.loose2 (t := true) ?_)
    | (with_reducible refine RetView.loose1 (t := true) ?_)
    | (with_reducible refine RetView.fz 5 ?_ ?_)
    | (with_reducible refine RetView.same ?_)
    | (with_reducible refine DrawLate.intro [] ?_)
    | (with_reducible refine Cls_and ?_ ?_)
    | (with_reducible exact Cls.self _ _)
    | (with_reducible refine Cls_same ?_)
    | (with_reducible refine Cls_in ?_ ?_)
    | (with_reducible refine Cls_fresh ?_ ?_)
    | (with_reducible refine And.intro (fun h => ?_) (fun h => ?_)) <;> (try (exfalso; omega))
    | (with_reducible refine And.intro (fun h => ?_) ?_) <;> (try (exfalso; omega))
    | ((with_reducible refine and_keep ?_ fun hk => ?_); omega)
    | (simp -dsimp -implicitDefEqProofs [*]))
  refine ⟨?_, rfl⟩
  simp [ins]
def opened (no finding time : Int) : Review := ⟨no, finding, time, -1, 0⟩
def openN (l : List Review) (no finding time : Int) : Int :=
  if checkE l ≠ 0 then checkE l else if validE (opened no finding time) = false then 1 else if has l no then 141 else if l.length = 1024 then 2 else 0
def openL (l : List Review) (no finding time : Int) : List Review := if openN l no finding time = 0 then ins l (pos l no) (opened no finding time) else []
theorem fit_opened (no finding time : Int) : fit (opened no finding time) := by unfold fit opened I64; simp
theorem open_spec (t : Bool) (l : List Review) (hf : ∀ e ∈ l, fit e) (no finding time : Int) (st : Store) : Rets P F.reviews_Open [Review.lst t l, .int no, .int finding, .int time] st (.tuple [Review.lst false (openL l no finding time), .int (openN l no finding time)]) := by
  refine H.reviews_Open.view hmix rfl rfl ?_
  have hfo := fit_opened no finding time
  by_cases hc : checkE l = 0
  · obtain ⟨hl, hok⟩ := checkE_zero.1 hc
    have hfold : [PV.int no, PV.int finding, PV.int time, PV.int (-1), PV.int 0] = (opened no finding time).enc := rfl
    repeat' (first
      | (with_reducible refine Fresh.intro fun b hb => ?_) <;> (try simp -dsimp -implicitDefEqProofs [*] at hb)
      | (with_reducible refine Rets.xcall (check_spec _ _ hf _) ?_)
      | (with_reducible refine Rets.xsoft (check_spec _ _ hf _) ?_)
      | (with_reducible refine xlateCall_of (fun _ => check_spec _ _ hf _) ?_)
      | (with_reducible refine Rets.xcall (valid_spec _ hfo _) ?_)
      | (with_reducible refine Rets.xsoft (valid_spec _ hfo _) ?_)
      | (with_reducible refine xlateCall_of (fun _ => valid_spec _ hfo _) ?_)
      | (with_reducible refine Rets.xcall (place_spec _ _ _ hok hl _) ?_)
      | (with_reducible refine Rets.xsoft (place_spec _ _ _ hok hl _) ?_)
      | (with_reducible refine xlateCall_of (fun _ => place_spec _ _ _ hok hl _) ?_)
      | (with_reducible refine Lit.imm ?_)
      | ((with_reducible refine Grow.intro ?_ fun b cap hb hc1 hc2 => ?_); omega) <;> (try simp -dsimp -implicitDefEqProofs [*] at hb)
      | (with_reducible refine DrawLate.intro [] ?_)
      | (with_reducible refine Cls_and ?_ ?_)
      | (with_reducible exact Cls.self _ _)
      | (with_reducible refine Cls_same ?_)
      | (with_reducible refine Cls_in ?_ ?_)
      | (with_reducible refine Cls_fresh ?_ ?_)
      | (with_reducible refine And.intro (fun h => ?_) (fun h => ?_)) <;> (try (exfalso; omega))
      | (with_reducible refine And.intro (fun h => ?_) ?_) <;> (try (exfalso; omega))
      | ((with_reducible refine and_keep ?_ fun hk => ?_); omega)
      | (simp -dsimp -implicitDefEqProofs [hfold, *]))
    · refine .fresh1 hb (.nil2 (.same ⟨?_, rfl⟩))
      simp_all [openL, openN]
    · refine .fresh1 hb (.nil2 (.same ⟨?_, rfl⟩))
      have : l.length = 1024 := by omega
      simp_all [openL, openN]
    · have hres : PEnd.ret (.tuple [Review.lst false (ins l (pos l no) (opened no finding time)), .int 0]) = PEnd.ret (.tuple [Review.lst false (openL l no finding time), .int (openN l no finding time)]) := by
        have : ¬ l.length = 1024 := by omega
        simp_all [openL, openN]
      refine xcall_post (clone_own t l hl _) fun e s hq => ?_
      rcases hq with ⟨rfl, rfl, rfl⟩ | ⟨b2, cap, hb2, hc1, hc2, rfl, rfl⟩
      · repeat' (first
          | (with_reducible refine Fresh.intro fun b hb => ?_) <;> (try simp -dsimp -implicitDefEqProofs [*] at hb)
          | (with_reducible refine Lit.imm ?_)
          | ((with_reducible refine Grow.intro ?_ fun b cap hb hc1 hc2 => ?_); omega) <;> (try simp -dsimp -implicitDefEqProofs [*] at hb)
          | (with_reducible refine DrawLate.intro [] ?_)
          | (with_reducible refine Cls_and ?_ ?_)
          | (with_reducible exact Cls.self _ _)
          | (with_reducible refine Cls_same ?_)
          | (with_reducible refine Cls_in ?_ ?_)
          | (with_reducible refine Cls_fresh ?_ ?_)
          | (with_reducible refine And.intro (fun h => ?_) (fun h => ?_)) <;> (try (exfalso; omega))
          | (with_reducible refine And.intro (fun h => ?_) ?_) <;> (try (exfalso; omega))
          | ((with_reducible refine and_keep ?_ fun hk => ?_); omega)
          | (simp -dsimp -implicitDefEqProofs [*]))
        have h0 : pos [] no = 0 := rfl
        rw [h0] at hres ⊢
        refine xcall_post (insert_empty (opened no finding time) _) fun e s hq => ?_
        obtain ⟨rfl, rfl⟩ := hq
        repeat' (first
          | (with_reducible refine Fresh.intro fun b hb => ?_) <;> (try simp -dsimp -implicitDefEqProofs [*] at hb)
          | (with_reducible refine Lit.imm ?_)
          | ((with_reducible refine Grow.intro ?_ fun b cap hb hc1 hc2 => ?_); omega) <;> (try simp -dsimp -implicitDefEqProofs [*] at hb)
          | (with_reducible refine DrawLate.intro [] ?_)
          | (with_reducible refine Cls_and ?_ ?_)
          | (with_reducible exact Cls.self _ _)
          | (with_reducible refine Cls_same ?_)
          | (with_reducible refine Cls_in ?_ ?_)
          | (with_reducible refine Cls_fresh ?_ ?_)
          | (with_reducible refine And.intro (fun h => ?_) (fun h => ?_)) <;> (try (exfalso; omega))
          | (with_reducible refine And.intro (fun h => ?_) ?_) <;> (try (exfalso; omega))
          | ((with_reducible refine and_keep ?_ fun hk => ?_); omega)
          | (simp -dsimp -implicitDefEqProofs [*]))
        exact .fresh1 hb (.same ⟨hres, rfl⟩)
      · simp -dsimp -implicitDefEqProofs [*] at hb2
        repeat' (first
          | (with_reducible refine Fresh.intro fun b hb => ?_) <;> (try simp -dsimp -implicitDefEqProofs [*] at hb)
          | (with_reducible refine Lit.imm ?_)
          | ((with_reducible refine Grow.intro ?_ fun b cap hb hc1 hc2 => ?_); omega) <;> (try simp -dsimp -implicitDefEqProofs [*] at hb)
          | (with_reducible refine DrawLate.intro [] ?_)
          | (with_reducible refine Cls_and ?_ ?_)
          | (with_reducible exact Cls.self _ _)
          | (with_reducible refine Cls_same ?_)
          | (with_reducible refine Cls_in ?_ ?_)
          | (with_reducible refine Cls_fresh ?_ ?_)
          | (with_reducible refine And.intro (fun h => ?_) (fun h => ?_)) <;> (try (exfalso; omega))
          | (with_reducible refine And.intro (fun h => ?_) ?_) <;> (try (exfalso; omega))
          | ((with_reducible refine and_keep ?_ fun hk => ?_); omega)
          | (simp -dsimp -implicitDefEqProofs [*]))
        unfold ownE
        refine xcall_post (insert_own l hl (pos l no) (pos_le _ _) (opened no finding time) b2 cap hc1 hc2 (Review.row l ++ List.replicate ((cap - l.length) * 5) .any) (by simp; omega) ⟨_, rfl⟩ ((b, .arr T.apiReview (opened no finding time).enc) :: st) (by simp [*])) fun e s hq => ?_
        obtain ⟨rfl, rfl⟩ := hq
        repeat' (first
          | (with_reducible refine Fresh.intro fun b hb => ?_) <;> (try simp -dsimp -implicitDefEqProofs [*] at hb)
          | (with_reducible refine Lit.imm ?_)
          | ((with_reducible refine Grow.intro ?_ fun b cap hb hc1 hc2 => ?_); omega) <;> (try simp -dsimp -implicitDefEqProofs [*] at hb)
          | (with_reducible refine DrawLate.intro [] ?_)
          | (with_reducible refine Cls_and ?_ ?_)
          | (with_reducible exact Cls.self _ _)
          | (with_reducible refine Cls_same ?_)
          | (with_reducible refine Cls_in ?_ ?_)
          | (with_reducible refine Cls_fresh ?_ ?_)
          | (with_reducible refine And.intro (fun h => ?_) (fun h => ?_)) <;> (try (exfalso; omega))
          | (with_reducible refine And.intro (fun h => ?_) ?_) <;> (try (exfalso; omega))
          | ((with_reducible refine and_keep ?_ fun hk => ?_); omega)
          | (simp -dsimp -implicitDefEqProofs [*]))
        exact .fresh1 hb (.same ⟨hres, rfl⟩)
    · refine .fresh1 hb (.nil2 (.same ⟨?_, rfl⟩))
      simp_all [openL, openN]
  · repeat' (first
      | (with_reducible refine Fresh.intro fun b hb => ?_) <;> (try simp -dsimp -implicitDefEqProofs [*] at hb)
      | (with_reducible refine Rets.xcall (check_spec _ _ hf _) ?_)
      | (with_reducible refine Rets.xsoft (check_spec _ _ hf _) ?_)
      | (with_reducible refine xlateCall_of (fun _ => check_spec _ _ hf _) ?_)
      | (with_reducible refine Lit.imm ?_)
      | ((with_reducible refine Grow.intro ?_ fun b cap hb hc1 hc2 => ?_); omega) <;> (try simp -dsimp -implicitDefEqProofs [*] at hb)
      | (with_reducible refine DrawLate.intro [] ?_)
      | (with_reducible refine Cls_and ?_ ?_)
      | (with_reducible exact Cls.self _ _)
      | (with_reducible refine Cls_same ?_)
      | (with_reducible refine Cls_in ?_ ?_)
      | (with_reducible refine Cls_fresh ?_ ?_)
      | (with_reducible refine And.intro (fun h => ?_) (fun h => ?_)) <;> (try (exfalso; omega))
      | (with_reducible refine And.intro (fun h => ?_) ?_) <;> (try (exfalso; omega))
      | ((with_reducible refine and_keep ?_ fun hk => ?_); omega)
      | (simp -dsimp -implicitDefEqProofs [*]))
    refine .nil2 (.same ⟨?_, rfl⟩)
    simp_all [openL, openN]
/-- What Close makes of a review. -/
def shut (e : Review) (time verdict : Int) : Review := { e with closed := time, verdict := verdict }
def shut1 (e : Review) (time : Int) : Review := { e with closed := time }
def closeN (l : List Review) (no time verdict : Int) : Int :=
  if checkE l ≠ 0 then checkE l else
    match l[pos l no]? with
    | some e => if e.no = no ∧ e.closed = -1 ∧ 0 ≤ time ∧ validE (shut e time verdict) = true then 0 else 1
    | none => 1
def closeL (l : List Review) (no time verdict : Int) : List Review :=
  if closeN l no time verdict = 0 then
    match l[pos l no]? with
    | some e => l.set (pos l no) (shut e time verdict)
    | none => []
  else []
theorem has_iff {l : List Review} (hok : ok l) (n : Int) : has l n = true ↔ ∃ h : pos l n < l.length, l[pos l n].no = n := by
  have h := search_fin (i := pos l n) (n := n) hok (pos_le _ _) (fun k hk h => by
      have := List.not_of_lt_findIdx hk
      simpa using this) (fun k hk h => by
      rcases Nat.lt_or_ge (pos l n) l.length with hp | hp
      · have h1 : n ≤ l[pos l n].no := of_decide_eq_true (List.findIdx_getElem (xs := l) (p := fun e => decide (n ≤ e.no)) (w := (show List.findIdx (fun e => decide (n ≤ e.no)) l < l.length from hp)))
        rcases Nat.eq_or_lt_of_le hk with e | hlt
        · subst e; exact h1
        · have := sortedE hok _ _ hlt h hp
          omega
      · omega)
  rw [h.2]
  split
  · rename_i hp
    have : cmpI l[pos l n].no n = 0 ↔ l[pos l n].no = n := by unfold cmpI; split <;> (try split) <;> omega
    simp [this, hp]
  · rename_i hp
    simp [hp]
theorem close_spec (t : Bool) (l : List Review) (hf : ∀ e ∈ l, fit e) (no time verdict : Int) (hv : I64 verdict) (st : Store) : Rets P F.reviews_Close [Review.lst t l, .int no, .int time, .int verdict] st (.tuple [Review.lst false (closeL l no time verdict), .int (closeN l no time verdict)]) := by
  refine H.reviews_Close.view hmix rfl rfl ?_
  by_cases hc : checkE l = 0
  · obtain ⟨hl, hok⟩ := checkE_zero.1 hc
    by_cases hh : has l no = true
    · obtain ⟨hp, hno⟩ := (has_iff hok no).1 hh
      generalize hpos : pos l no = i at *
      by_cases hcl : l[i].closed = -1 ∧ 0 ≤ time
      · obtain ⟨hcl1, hcl2⟩ := hcl
        repeat' (first
          | (with_reducible refine Fresh.intro fun b hb => ?_) <;> (try simp -dsimp -implicitDefEqProofs [*] at hb)
          | (with_reducible refine Rets.xcall (check_spec _ _ hf _) ?_)
          | (with_reducible refine Rets.xsoft (check_spec _ _ hf _) ?_)
          | (with_reducible refine xlateCall_of (fun _ => check_spec _ _ hf _) ?_)
          | (with_reducible refine Rets.xcall (place_spec _ _ _ hok hl _) ?_)
          | (with_reducible refine Rets.xsoft (place_spec _ _ _ hok hl _) ?_)
          | (with_reducible refine xlateCall_of (fun _ => place_spec _ _ _ hok hl _) ?_)
          | (with_reducible refine Lit.imm ?_)
          | ((with_reducible refine Grow.intro ?_ fun b cap hb hc1 hc2 => ?_); omega) <;> (try simp -dsimp -implicitDefEqProofs [*] at hb)
          | (with_reducible refine DrawLate.intro [] ?_)
          | (with_reducible refine Cls_and ?_ ?_)
          | (with_reducible exact Cls.self _ _)
          | (with_reducible refine Cls_same ?_)
          | (with_reducible refine Cls_in ?_ ?_)
          | (with_reducible refine Cls_fresh ?_ ?_)
          | (with_reducible refine And.intro (fun h => ?_) (fun h => ?_)) <;> (try (exfalso; omega))
          | (with_reducible refine And.intro (fun h => ?_) ?_) <;> (try (exfalso; omega))
          | ((with_reducible refine and_keep ?_ fun hk => ?_); omega)
          | (simp -dsimp -implicitDefEqProofs [*]))
        · refine xcall_post (clone_own t l hl _) fun e s hq => ?_
          rcases hq with ⟨rfl, rfl, rfl⟩ | ⟨b, cap, hb, hc1, hc2, rfl, rfl⟩
          · simp at hp
          unfold ownE
          generalize hC : List.replicate ((cap - l.length) * 5) PV.any = C
          have hCl : C.length = (cap - l.length) * 5 := by rw [← hC]; simp
          have hs1 : (Review.row l ++ C).set (i * 5 + 3) (.int time) = Review.row (l.set i (shut1 l[i] time)) ++ C := own_setj Review.len hp (by omega) rfl
          have hs2 : (Review.row (l.set i (shut1 l[i] time)) ++ C).set (i * 5 + 4) (.int verdict) = Review.row (l.set i (shut l[i] time verdict)) ++ C := by
            have := own_setj (C := C) (l := l.set i (shut1 l[i] time)) (i := i) (j := 4) (v := .int verdict) (x' := shut l[i] time verdict) Review.len (by simpa using hp) (by omega) (by simp [Review.enc, shut, shut1])
            rw [List.set_set] at this
            exact this
          have hld : sub (Review.row (l.set i (shut l[i] time verdict)) ++ C) (i * 5) 5 = some (shut l[i] time verdict).enc := by
            have := own_sub (C := C) (l := l.set i (shut l[i] time verdict)) (i := i) Review.len (by simpa using hp)
            rw [List.getElem_set_self] at this
            exact this
          have hfs : fit (shut l[i] time verdict) := hv
          have hN : closeN l no time verdict = if validE (shut l[i] time verdict) then 0 else 1 := by
            simp [closeN, hc, hpos, hp, hno, hcl1, hcl2]
          have hL : closeL l no time verdict = if validE (shut l[i] time verdict) then l.set i (shut l[i] time verdict) else [] := by
            unfold closeL
            rw [hN]
            by_cases hva : validE (shut l[i] time verdict) = true <;> simp [hva, hpos, hp]
          rw [hN, hL]
          clear hN hL
          by_cases hva : validE (shut l[i] time verdict) = true
          · rw [if_pos hva, if_pos hva]
            have htk : (Review.row (l.set i (shut l[i] time verdict)) ++ C).take (l.length * 5) = Review.row (l.set i (shut l[i] time verdict)) := List.take_left' (by simp)
            repeat' (first
              | (with_reducible refine Fresh.intro fun b hb => ?_) <;> (try simp -dsimp -implicitDefEqProofs [*] at hb)
              | (with_reducible refine Rets.xcall (valid_spec _ hfs _) ?_)
              | (with_reducible refine Rets.xsoft (valid_spec _ hfs _) ?_)
              | (with_reducible refine xlateCall_of (fun _ => valid_spec _ hfs _) ?_)
              | (with_reducible refine Lit.imm ?_)
              | ((with_reducible refine Grow.intro ?_ fun b cap hb hc1 hc2 => ?_); omega) <;> (try simp -dsimp -implicitDefEqProofs [*] at hb)
              | (with_reducible refine RetView.nil2 ?_)
              | (with_reducible refine RetView.nil1 ?_)
              | (with_reducible refine RetView.loose2 (t := true) ?_)
              | (with_reducible refine RetView.loose1 (t := true) ?_)
              | (with_reducible refine RetView.fz 5 ?_ ?_)
              | (with_reducible refine RetView.same ?_)
              | (with_reducible refine DrawLate.intro [] ?_)
              | (with_reducible refine Cls_and ?_ ?_)
              | (with_reducible exact Cls.self _ _)
              | (with_reducible refine Cls_same ?_)
              | (with_reducible refine Cls_in ?_ ?_)
              | (with_reducible refine Cls_fresh ?_ ?_)
              | (with_reducible refine And.intro (fun h => ?_) (fun h => ?_)) <;> (try (exfalso; omega))
              | (with_reducible refine And.intro (fun h => ?_) ?_) <;> (try (exfalso; omega))
              | ((with_reducible refine and_keep ?_ fun hk => ?_); omega)
              | (simp -dsimp -implicitDefEqProofs [*]))
            all_goals trace_state
          · rw [if_neg hva, if_neg hva]
            repeat' (first
              | (with_reducible refine Fresh.intro fun b hb => ?_) <;> (try simp -dsimp -implicitDefEqProofs [*] at hb)
              | (with_reducible refine Rets.xcall (valid_spec _ hfs _) ?_)
              | (with_reducible refine Rets.xsoft (valid_spec _ hfs _) ?_)
              | (with_reducible refine xlateCall_of (fun _ => valid_spec _ hfs _) ?_)
              | (with_reducible refine Lit.imm ?_)
              | ((with_reducible refine Grow.intro ?_ fun b cap hb hc1 hc2 => ?_); omega) <;> (try simp -dsimp -implicitDefEqProofs [*] at hb)
              | (with_reducible refine DrawLate.intro [] ?_)
              | (with_reducible refine Cls_and ?_ ?_)
              | (with_reducible exact Cls.self _ _)
              | (with_reducible refine Cls_same ?_)
              | (with_reducible refine Cls_in ?_ ?_)
              | (with_reducible refine Cls_fresh ?_ ?_)
              | (with_reducible refine And.intro (fun h => ?_) (fun h => ?_)) <;> (try (exfalso; omega))
              | (with_reducible refine And.intro (fun h => ?_) ?_) <;> (try (exfalso; omega))
              | ((with_reducible refine and_keep ?_ fun hk => ?_); omega)
              | (simp -dsimp -implicitDefEqProofs [*]))
            exact .fresh1 hb (.nil2 (.same ⟨rfl, rfl⟩))
      · have hres : PEnd.ret (.tuple [Review.lst false [], .int 1]) = PEnd.ret (.tuple [Review.lst false (closeL l no time verdict), .int (closeN l no time verdict)]) := by
          have : closeN l no time verdict = 1 := by simp [closeN, hc, hpos, hp]; omega
          simp [closeL, this]
        repeat' (first
          | (with_reducible refine Fresh.intro fun b hb => ?_) <;> (try simp -dsimp -implicitDefEqProofs [*] at hb)
          | (with_reducible refine Rets.xcall (check_spec _ _ hf _) ?_)
          | (with_reducible refine Rets.xsoft (check_spec _ _ hf _) ?_)
          | (with_reducible refine xlateCall_of (fun _ => check_spec _ _ hf _) ?_)
          | (with_reducible refine Rets.xcall (place_spec _ _ _ hok hl _) ?_)
          | (with_reducible refine Rets.xsoft (place_spec _ _ _ hok hl _) ?_)
          | (with_reducible refine xlateCall_of (fun _ => place_spec _ _ _ hok hl _) ?_)
          | (with_reducible refine Lit.imm ?_)
          | ((with_reducible refine Grow.intro ?_ fun b cap hb hc1 hc2 => ?_); omega) <;> (try simp -dsimp -implicitDefEqProofs [*] at hb)
          | (with_reducible refine DrawLate.intro [] ?_)
          | (with_reducible refine Cls_and ?_ ?_)
          | (with_reducible exact Cls.self _ _)
          | (with_reducible refine Cls_same ?_)
          | (with_reducible refine Cls_in ?_ ?_)
          | (with_reducible refine Cls_fresh ?_ ?_)
          | (with_reducible refine And.intro (fun h => ?_) (fun h => ?_)) <;> (try (exfalso; omega))
          | (with_reducible refine And.intro (fun h => ?_) ?_) <;> (try (exfalso; omega))
          | ((with_reducible refine and_keep ?_ fun hk => ?_); omega)
          | (simp -dsimp -implicitDefEqProofs [*]))
        all_goals exact .nil2 (.same ⟨hres, rfl⟩)
    · have hres : PEnd.ret (.tuple [Review.lst false [], .int 1]) = PEnd.ret (.tuple [Review.lst false (closeL l no time verdict), .int (closeN l no time verdict)]) := by
        have : closeN l no time verdict = 1 := by
          have hno := mt (has_iff hok no).2 hh
          unfold closeN
          rw [if_neg (by simp [hc])]
          split
          · rename_i e he
            rw [List.getElem?_eq_some_iff] at he
            obtain ⟨h1, h2⟩ := he
            rw [if_neg (fun h => hno ⟨h1, by rw [h2]; exact h.1⟩)]
          · rfl
        simp [closeL, this]
      repeat' (first
        | (with_reducible refine Fresh.intro fun b hb => ?_) <;> (try simp -dsimp -implicitDefEqProofs [*] at hb)
        | (with_reducible refine Rets.xcall (check_spec _ _ hf _) ?_)
        | (with_reducible refine Rets.xsoft (check_spec _ _ hf _) ?_)
        | (with_reducible refine xlateCall_of (fun _ => check_spec _ _ hf _) ?_)
        | (with_reducible refine Rets.xcall (place_spec _ _ _ hok hl _) ?_)
        | (with_reducible refine Rets.xsoft (place_spec _ _ _ hok hl _) ?_)
        | (with_reducible refine xlateCall_of (fun _ => place_spec _ _ _ hok hl _) ?_)
        | (with_reducible refine Lit.imm ?_)
        | ((with_reducible refine Grow.intro ?_ fun b cap hb hc1 hc2 => ?_); omega) <;> (try simp -dsimp -implicitDefEqProofs [*] at hb)
        | (with_reducible refine DrawLate.intro [] ?_)
        | (with_reducible refine Cls_and ?_ ?_)
        | (with_reducible exact Cls.self _ _)
        | (with_reducible refine Cls_same ?_)
        | (with_reducible refine Cls_in ?_ ?_)
        | (with_reducible refine Cls_fresh ?_ ?_)
        | (with_reducible refine And.intro (fun h => ?_) (fun h => ?_)) <;> (try (exfalso; omega))
        | (with_reducible refine And.intro (fun h => ?_) ?_) <;> (try (exfalso; omega))
        | ((with_reducible refine and_keep ?_ fun hk => ?_); omega)
        | (simp -dsimp -implicitDefEqProofs [*]))
      all_goals exact .nil2 (.same ⟨hres, rfl⟩)
  · have hres : PEnd.ret (.tuple [Review.lst false [], .int (checkE l)]) = PEnd.ret (.tuple [Review.lst false (closeL l no time verdict), .int (closeN l no time verdict)]) := by
      simp_all [closeL, closeN]
    repeat' (first
      | (with_reducible refine Fresh.intro fun b hb => ?_) <;> (try simp -dsimp -implicitDefEqProofs [*] at hb)
      | (with_reducible refine Rets.xcall (check_spec _ _ hf _) ?_)
      | (with_reducible refine Rets.xsoft (check_spec _ _ hf _) ?_)
      | (with_reducible refine xlateCall_of (fun _ => check_spec _ _ hf _) ?_)
      | (with_reducible refine Lit.imm ?_)
      | ((with_reducible refine Grow.intro ?_ fun b cap hb hc1 hc2 => ?_); omega) <;> (try simp -dsimp -implicitDefEqProofs [*] at hb)
      | (with_reducible refine DrawLate.intro [] ?_)
      | (with_reducible refine Cls_and ?_ ?_)
      | (with_reducible exact Cls.self _ _)
      | (with_reducible refine Cls_same ?_)
      | (with_reducible refine Cls_in ?_ ?_)
      | (with_reducible refine Cls_fresh ?_ ?_)
      | (with_reducible refine And.intro (fun h => ?_) (fun h => ?_)) <;> (try (exfalso; omega))
      | (with_reducible refine And.intro (fun h => ?_) ?_) <;> (try (exfalso; omega))
      | ((with_reducible refine and_keep ?_ fun hk => ?_); omega)
      | (simp -dsimp -implicitDefEqProofs [*]))
    exact .nil2 (.same ⟨hres, rfl⟩)
end Go.Proofs.Ytbjfmedpaohpnaa

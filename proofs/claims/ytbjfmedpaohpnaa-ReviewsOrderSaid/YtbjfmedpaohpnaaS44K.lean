/- ReviewsOrder. -/
import Derived.Test.YtbjfmedpaohpnaaS44J
namespace Go.Proofs.Ytbjfmedpaohpnaa
open Go.Pv
set_option maxRecDepth 100000
set_option maxHeartbeats 4000000
structure Step where
  no : Int
  finding : Int
  time : Int
  verdict : Int
  deriving DecidableEq, Inhabited
def Step.enc (x : Step) : List PV := [.int x.no, .int x.finding, .int x.time, .int x.verdict]
abbrev Step.pv (x : Step) : PV := .agg x.enc
@[simp] theorem Step.len (x : Step) : x.enc.length = 4 := rfl
@[simp] theorem Step.subAll (x : Step) : sub x.enc 0 4 = some x.enc := rfl
@[simp] theorem Step.get0 (x : Step) : x.enc[0]? = some (.int x.no) := rfl
@[simp] theorem Step.getE0 (x : Step) (h : 0 < x.enc.length) : x.enc[0]'h = .int x.no := rfl
@[simp] theorem Step.set0 (x : Step) (v : Int) : List.set x.enc 0 (.int v) = (Step.mk v x.finding x.time x.verdict).enc := rfl
@[simp] theorem Step.get1 (x : Step) : x.enc[1]? = some (.int x.finding) := rfl
@[simp] theorem Step.getE1 (x : Step) (h : 1 < x.enc.length) : x.enc[1]'h = .int x.finding := rfl
@[simp] theorem Step.set1 (x : Step) (v : Int) : List.set x.enc 1 (.int v) = (Step.mk x.no v x.time x.verdict).enc := rfl
@[simp] theorem Step.get2 (x : Step) : x.enc[2]? = some (.int x.time) := rfl
@[simp] theorem Step.getE2 (x : Step) (h : 2 < x.enc.length) : x.enc[2]'h = .int x.time := rfl
@[simp] theorem Step.set2 (x : Step) (v : Int) : List.set x.enc 2 (.int v) = (Step.mk x.no x.finding v x.verdict).enc := rfl
@[simp] theorem Step.get3 (x : Step) : x.enc[3]? = some (.int x.verdict) := rfl
@[simp] theorem Step.getE3 (x : Step) (h : 3 < x.enc.length) : x.enc[3]'h = .int x.verdict := rfl
@[simp] theorem Step.set3 (x : Step) (v : Int) : List.set x.enc 3 (.int v) = (Step.mk x.no x.finding x.time v).enc := rfl
@[simp] theorem Step.fz (b : Nat) (o : PObj) (k : Nat) (x : Step) : fzps b o k x.enc = x.enc := rfl
theorem Step.fold (v0 v1 v2 v3 : Int) : [PV.int v0, PV.int v1, PV.int v2, PV.int v3] = (Step.mk v0 v1 v2 v3).enc := rfl
@[simp] theorem Step.fill (x y : Step) : setCells x.enc 0 y.enc = y.enc := rfl
@[simp] theorem Step.eq (x y : Step) : eqCells [.int, .int, .int, .int] x.enc y.enc = some (decide (x = y)) := by
  simp [Step.enc]
  cases x; cases y; simp [Step.mk.injEq]
@[simp] theorem Step.key (x : Step) : PV.vals? x.enc = some [.int .i64 x.no, .int .i64 x.finding, .int .i64 x.time, .int .i64 x.verdict] := rfl
def Step.row (l : List Step) : List PV := l.flatMap Step.enc
abbrev Step.lst (t : Bool) (l : List Step) : PV := .list t (Step.row l) l.length
@[simp] theorem Step.row_len (l : List Step) : (Step.row l).length = l.length * 4 := flat_length Step.enc 4 Step.len l
@[simp] theorem Step.row_nil : Step.row [] = [] := rfl
@[simp] theorem Step.row_cons (x : Step) (l : List Step) : Step.row (x :: l) = x.enc ++ Step.row l := rfl
theorem Step.row_append (l m : List Step) : Step.row (l ++ m) = Step.row l ++ Step.row m := by simp [Step.row]
@[simp] theorem Step.row_eq_nil (l : List Step) : Step.row l = [] ↔ l = [] := by
  constructor
  · intro h
    have := congrArg List.length h
    rw [Step.row_len] at this
    cases l with
    | nil => rfl
    | cons => simp at this
  · rintro rfl; rfl
@[simp] theorem Step.row_sub (l : List Step) (i : Nat) (h : i < l.length) : sub (Step.row l) (i * 4) 4 = some (l[i]).enc := flat_sub Step.enc 4 Step.len l i h
theorem Step.row_drop (l : List Step) (i : Nat) : (Step.row l).drop (i * 4) = Step.row (l.drop i) := flat_drop Step.enc 4 Step.len l i
theorem Step.row_take (l : List Step) (i : Nat) : (Step.row l).take (i * 4) = Step.row (l.take i) := flat_take Step.enc 4 Step.len l i
@[simp] theorem Step.row_getE0 (l : List Step) (i : Nat) (h : i * 4 < (Step.row l).length) : (Step.row l)[i * 4]'h = .int (l[i]'(by rw [Step.row_len] at h; omega)).no := by
  have hl : i < l.length := by rw [Step.row_len] at h; omega
  have := flat_get Step.enc 4 Step.len l i 0 hl (by omega)
  have h2 : (Step.row l)[i * 4]? = some (.int l[i].no) := this
  rw [List.getElem?_eq_getElem h] at h2
  exact Option.some.inj h2
@[simp] theorem Step.row_get0 (l : List Step) (i : Nat) (h : i < l.length) : (Step.row l)[i * 4]? = some (.int l[i].no) := flat_get Step.enc 4 Step.len l i 0 h (by omega)
@[simp] theorem Step.row_getE1 (l : List Step) (i : Nat) (h : i * 4 + 1 < (Step.row l).length) : (Step.row l)[i * 4 + 1]'h = .int (l[i]'(by rw [Step.row_len] at h; omega)).finding := by
  have hl : i < l.length := by rw [Step.row_len] at h; omega
  have := flat_get Step.enc 4 Step.len l i 1 hl (by omega)
  have h2 : (Step.row l)[i * 4 + 1]? = some (.int l[i].finding) := this
  rw [List.getElem?_eq_getElem h] at h2
  exact Option.some.inj h2
@[simp] theorem Step.row_get1 (l : List Step) (i : Nat) (h : i < l.length) : (Step.row l)[i * 4 + 1]? = some (.int l[i].finding) := flat_get Step.enc 4 Step.len l i 1 h (by omega)
@[simp] theorem Step.row_getE2 (l : List Step) (i : Nat) (h : i * 4 + 2 < (Step.row l).length) : (Step.row l)[i * 4 + 2]'h = .int (l[i]'(by rw [Step.row_len] at h; omega)).time := by
  have hl : i < l.length := by rw [Step.row_len] at h; omega
  have := flat_get Step.enc 4 Step.len l i 2 hl (by omega)
  have h2 : (Step.row l)[i * 4 + 2]? = some (.int l[i].time) := this
  rw [List.getElem?_eq_getElem h] at h2
  exact Option.some.inj h2
@[simp] theorem Step.row_get2 (l : List Step) (i : Nat) (h : i < l.length) : (Step.row l)[i * 4 + 2]? = some (.int l[i].time) := flat_get Step.enc 4 Step.len l i 2 h (by omega)
@[simp] theorem Step.row_getE3 (l : List Step) (i : Nat) (h : i * 4 + 3 < (Step.row l).length) : (Step.row l)[i * 4 + 3]'h = .int (l[i]'(by rw [Step.row_len] at h; omega)).verdict := by
  have hl : i < l.length := by rw [Step.row_len] at h; omega
  have := flat_get Step.enc 4 Step.len l i 3 hl (by omega)
  have h2 : (Step.row l)[i * 4 + 3]? = some (.int l[i].verdict) := this
  rw [List.getElem?_eq_getElem h] at h2
  exact Option.some.inj h2
@[simp] theorem Step.row_get3 (l : List Step) (i : Nat) (h : i < l.length) : (Step.row l)[i * 4 + 3]? = some (.int l[i].verdict) := flat_get Step.enc 4 Step.len l i 3 h (by omega)
theorem Step.row_set (l : List Step) (i : Nat) (x : Step) (h : i < l.length) : setCells (Step.row l) (i * 4) x.enc = Step.row (l.set i x) := flat_set Step.enc 4 Step.len l i x h
theorem Step.row_fz (b : Nat) (o : PObj) (k : Nat) (l : List Step) : fzps b o k (Step.row l) = Step.row l := flat_fz Step.enc Step.fz b o k l
attribute [simp] Step.row_fz

theorem openL_fit {l : List Review} (hf : ∀ e ∈ l, fit e) (no f t : Int) : ∀ e ∈ openL l no f t, fit e := by
  intro e he
  by_cases hn : openN l no f t = 0
  · rcases (mem_openL hn).1 he with rfl | he
    · exact fit_opened ..
    · exact hf e he
  · simp [openL, hn] at he
theorem closeL_fit {l : List Review} (hf : ∀ e ∈ l, fit e) (no t : Int) {v : Int} (hv : I64 v) : ∀ e ∈ closeL l no t v, fit e := by
  intro e he
  by_cases hn : closeN l no t v = 0
  · obtain ⟨hp, hc, h1, h2, h3, h4, h5⟩ := closeN_zero hn
    rw [h5] at he
    rcases List.mem_or_eq_of_mem_set he with he | rfl
    · exact hf e he
    · exact hv
  · simp [closeL, hn] at he
theorem openL_not {l : List Review} {no f t : Int} (hn : openN l no f t ≠ 0) : openL l no f t = [] := by simp [openL, hn]
theorem closeL_not {l : List Review} {no t v : Int} (hn : closeN l no t v ≠ 0) : closeL l no t v = [] := by simp [closeL, hn]
theorem order_facts {l : List Review} {a f t b g u : Int} (hl : l.length ≤ 30) (h1 : openN l a f t = 0) (h2 : openN l b g u = 0) :
    (a = b → openN (openL l a f t) b g u = 141) ∧ (a ≠ b → openN (openL l a f t) b g u = 0) := by
  obtain ⟨k1, k2, k3, k4⟩ := openN_zero.1 h2
  have hc := openL_check h1
  have hlen := openL_length h1
  constructor
  · rintro rfl
    have hh : has (openL l a f t) a = true := by
      unfold has
      rw [List.any_eq_true]
      exact ⟨_, (mem_openL h1).2 (.inl rfl), by simp [opened]⟩
    unfold openN
    rw [if_neg (by simp [hc]), if_neg (by simp [k2]), if_pos hh]
  · intro hab
    refine openN_zero.2 ⟨hc, k2, has_false.2 fun e he => ?_, by omega⟩
    rcases (mem_openL h1).1 he with rfl | he
    · exact hab
    · exact has_false.1 k3 e he
theorem order_same {l : List Review} {a f t b g u : Int} (h1 : openN l a f t = 0) (h2 : openN l b g u = 0) (h3 : openN (openL l a f t) b g u = 0) (h4 : openN (openL l b g u) a f t = 0) :
    openL (openL l a f t) b g u = openL (openL l b g u) a f t := by
  refine ok_ext (openL_ok h3).2 (openL_ok h4).2 fun x => ?_
  rw [mem_openL h3, mem_openL h1, mem_openL h4, mem_openL h2]
  constructor
  · rintro (h | h | h)
    · exact .inr (.inl h)
    · exact .inl h
    · exact .inr (.inr h)
  · rintro (h | h | h)
    · exact .inr (.inl h)
    · exact .inl h
    · exact .inr (.inr h)
theorem order_law (tt : Bool) (l : List Review) (hf : ∀ e ∈ l, fit e) (s t : Step) (st : Store) : Rets P F.podiumlaw44_ReviewsOrder [Review.lst tt l, s.pv, t.pv] st (.bool true) := by
  refine (H.podiumlaw44_ReviewsOrder).pure hmix rfl rfl ?_
  by_cases hl : (30 : Int) < (l.length : Int)
  · repeat' (first
      | (with_reducible refine Fresh.intro fun b hb => ?_) <;> (try simp -dsimp -implicitDefEqProofs [*] at hb)
      | (with_reducible refine Rets.xcall (sane_spec _) ?_)
      | (with_reducible refine Rets.xsoft (sane_spec _) ?_)
      | (with_reducible refine xlateCall_of (fun _ => sane_spec _) ?_)
      | (with_reducible refine Lit.imm ?_)
      | ((with_reducible refine Grow.intro ?_ fun b cap hb hc1 hc2 => ?_); omega) <;> (try simp -dsimp -implicitDefEqProofs [*] at hb)
      | (with_reducible refine DrawLate.intro [] ?_)
      | (with_reducible refine Cls_and ?_ ?_)
      | (with_reducible exact Cls.self _ _)
      | (with_reducible refine Cls_same ?_)
      | (with_reducible refine Cls_in ?_ ?_)
      | (with_reducible refine Cls_fresh ?_ ?_)
      | (with_reducible refine And.intro (fun h => ?_) (fun h => ?_)) <;> (try (exfalso; omega))
      | (with_reducible refine And.intro (fun h => ?_) ?_) <;> (try (exfalso; omega))
      | ((with_reducible refine and_keep ?_ fun hk => ?_); omega)
      | (simp -dsimp -implicitDefEqProofs [*]))
  have hl9 : l.length ≤ 30 := by omega
  by_cases hc : checkE l = 0
  · by_cases h1 : openN l s.no s.finding s.time = 0
    · by_cases h2 : openN l t.no t.finding t.time = 0
      · obtain ⟨k1, k2⟩ := order_facts hl9 h1 h2
        obtain ⟨k3, k4⟩ := order_facts hl9 h2 h1
        have f1 := openL_fit hf s.no s.finding s.time
        have f2 := openL_fit hf t.no t.finding t.time
        have o1 := open_spec tt l hf s.no s.finding s.time
        have o2 := open_spec tt l hf t.no t.finding t.time
        have o3 := open_spec false _ f1 t.no t.finding t.time
        have o4 := open_spec false _ f2 s.no s.finding s.time
        by_cases hno : s.no = t.no
        · have g1 := k1 hno
          have g2 := k3 hno.symm
          clear k1 k2 k3 k4
          rw [h1] at o1
          rw [h2] at o2
          rw [g1] at o3
          rw [g2] at o4
          clear h1 h2 g1 g2
          generalize openL l s.no s.finding s.time = A at *
          generalize openL l t.no t.finding t.time = B at *
          generalize openL A t.no t.finding t.time = C at *
          generalize openL B s.no s.finding s.time = D at *
          clear f1 f2
          rw [hno] at o1 o4
          repeat' (first
            | (with_reducible refine Fresh.intro fun b hb => ?_) <;> (try simp -dsimp -implicitDefEqProofs [*] at hb)
            | (with_reducible refine Rets.xcall (sane_spec _) ?_)
            | (with_reducible refine Rets.xsoft (sane_spec _) ?_)
            | (with_reducible refine xlateCall_of (fun _ => sane_spec _) ?_)
            | (with_reducible refine Rets.xcall (refCheck_spec ..) ?_)
            | (with_reducible refine Rets.xsoft (refCheck_spec ..) ?_)
            | (with_reducible refine xlateCall_of (fun _ => refCheck_spec ..) ?_)
            | (with_reducible refine Rets.xcall (o1 _) ?_)
            | (with_reducible refine Rets.xsoft (o1 _) ?_)
            | (with_reducible refine xlateCall_of (fun _ => o1 _) ?_)
            | (with_reducible refine Rets.xcall (o2 _) ?_)
            | (with_reducible refine Rets.xsoft (o2 _) ?_)
            | (with_reducible refine xlateCall_of (fun _ => o2 _) ?_)
            | (with_reducible refine Rets.xcall (o3 _) ?_)
            | (with_reducible refine Rets.xsoft (o3 _) ?_)
            | (with_reducible refine xlateCall_of (fun _ => o3 _) ?_)
            | (with_reducible refine Rets.xcall (o4 _) ?_)
            | (with_reducible refine Rets.xsoft (o4 _) ?_)
            | (with_reducible refine xlateCall_of (fun _ => o4 _) ?_)
            | (with_reducible refine Lit.imm ?_)
            | ((with_reducible refine Grow.intro ?_ fun b cap hb hc1 hc2 => ?_); omega) <;> (try simp -dsimp -implicitDefEqProofs [*] at hb)
            | (with_reducible refine DrawLate.intro [] ?_)
            | (with_reducible refine Cls_and ?_ ?_)
            | (with_reducible exact Cls.self _ _)
            | (with_reducible refine Cls_same ?_)
            | (with_reducible refine Cls_in ?_ ?_)
            | (with_reducible refine Cls_fresh ?_ ?_)
            | (with_reducible refine And.intro (fun h => ?_) (fun h => ?_)) <;> (try (exfalso; omega))
            | (with_reducible refine And.intro (fun h => ?_) ?_) <;> (try (exfalso; omega))
            | ((with_reducible refine and_keep ?_ fun hk => ?_); omega)
            | (simp -dsimp -implicitDefEqProofs [*]))
        · have g1 := k2 hno
          have g2 := k4 (fun e => hno e.symm)
          have hlen := openL_length g1
          have hlen1 := openL_length h1
          have hCD := order_same h1 h2 g1 g2
          clear k1 k2 k3 k4
          rw [h1] at o1
          rw [h2] at o2
          rw [g1, hCD] at o3
          rw [g2] at o4
          rw [hCD] at hlen
          clear h1 h2 g1 g2 hCD
          generalize openL l s.no s.finding s.time = A at *
          generalize openL l t.no t.finding t.time = B at *
          generalize openL B s.no s.finding s.time = D at *
          have hD : D.length ≤ 100000 := by omega
          clear f1 f2 hlen hlen1
          repeat' (first
            | (with_reducible refine Fresh.intro fun b hb => ?_) <;> (try simp -dsimp -implicitDefEqProofs [*] at hb)
            | (with_reducible refine Rets.xcall (sane_spec _) ?_)
            | (with_reducible refine Rets.xsoft (sane_spec _) ?_)
            | (with_reducible refine xlateCall_of (fun _ => sane_spec _) ?_)
            | (with_reducible refine Rets.xcall (refCheck_spec ..) ?_)
            | (with_reducible refine Rets.xsoft (refCheck_spec ..) ?_)
            | (with_reducible refine xlateCall_of (fun _ => refCheck_spec ..) ?_)
            | (with_reducible refine Rets.xcall (o1 _) ?_)
            | (with_reducible refine Rets.xsoft (o1 _) ?_)
            | (with_reducible refine xlateCall_of (fun _ => o1 _) ?_)
            | (with_reducible refine Rets.xcall (o2 _) ?_)
            | (with_reducible refine Rets.xsoft (o2 _) ?_)
            | (with_reducible refine xlateCall_of (fun _ => o2 _) ?_)
            | (with_reducible refine Rets.xcall (o3 _) ?_)
            | (with_reducible refine Rets.xsoft (o3 _) ?_)
            | (with_reducible refine xlateCall_of (fun _ => o3 _) ?_)
            | (with_reducible refine Rets.xcall (o4 _) ?_)
            | (with_reducible refine Rets.xsoft (o4 _) ?_)
            | (with_reducible refine xlateCall_of (fun _ => o4 _) ?_)
            | (with_reducible refine Rets.xcall (same_l _ _ D D hD rfl _) ?_)
            | (with_reducible refine Rets.xsoft (same_l _ _ D D hD rfl _) ?_)
            | (with_reducible refine xlateCall_of (fun _ => same_l _ _ D D hD rfl _) ?_)
            | (with_reducible refine Lit.imm ?_)
            | ((with_reducible refine Grow.intro ?_ fun b cap hb hc1 hc2 => ?_); omega) <;> (try simp -dsimp -implicitDefEqProofs [*] at hb)
            | (with_reducible refine DrawLate.intro [] ?_)
            | (with_reducible refine Cls_and ?_ ?_)
            | (with_reducible exact Cls.self _ _)
            | (with_reducible refine Cls_same ?_)
            | (with_reducible refine Cls_in ?_ ?_)
            | (with_reducible refine Cls_fresh ?_ ?_)
            | (with_reducible refine And.intro (fun h => ?_) (fun h => ?_)) <;> (try (exfalso; omega))
            | (with_reducible refine And.intro (fun h => ?_) ?_) <;> (try (exfalso; omega))
            | ((with_reducible refine and_keep ?_ fun hk => ?_); omega)
            | (simp -dsimp -implicitDefEqProofs [*]))
      · have e1 := openL_not h2
        repeat' (first
          | (with_reducible refine Fresh.intro fun b hb => ?_) <;> (try simp -dsimp -implicitDefEqProofs [*] at hb)
          | (with_reducible refine Rets.xcall (sane_spec _) ?_)
          | (with_reducible refine Rets.xsoft (sane_spec _) ?_)
          | (with_reducible refine xlateCall_of (fun _ => sane_spec _) ?_)
          | (with_reducible refine Rets.xcall (refCheck_spec ..) ?_)
          | (with_reducible refine Rets.xsoft (refCheck_spec ..) ?_)
          | (with_reducible refine xlateCall_of (fun _ => refCheck_spec ..) ?_)
          | (with_reducible refine Rets.xcall (open_spec _ _ hf _ _ _ _) ?_)
          | (with_reducible refine Rets.xsoft (open_spec _ _ hf _ _ _ _) ?_)
          | (with_reducible refine xlateCall_of (fun _ => open_spec _ _ hf _ _ _ _) ?_)
          | (with_reducible refine Lit.imm ?_)
          | ((with_reducible refine Grow.intro ?_ fun b cap hb hc1 hc2 => ?_); omega) <;> (try simp -dsimp -implicitDefEqProofs [*] at hb)
          | (with_reducible refine DrawLate.intro [] ?_)
          | (with_reducible refine Cls_and ?_ ?_)
          | (with_reducible exact Cls.self _ _)
          | (with_reducible refine Cls_same ?_)
          | (with_reducible refine Cls_in ?_ ?_)
          | (with_reducible refine Cls_fresh ?_ ?_)
          | (with_reducible refine And.intro (fun h => ?_) (fun h => ?_)) <;> (try (exfalso; omega))
          | (with_reducible refine And.intro (fun h => ?_) ?_) <;> (try (exfalso; omega))
          | ((with_reducible refine and_keep ?_ fun hk => ?_); omega)
          | (simp -dsimp -implicitDefEqProofs [*]))
    · have e1 := openL_not h1
      by_cases h2 : openN l t.no t.finding t.time = 0
      · repeat' (first
          | (with_reducible refine Fresh.intro fun b hb => ?_) <;> (try simp -dsimp -implicitDefEqProofs [*] at hb)
          | (with_reducible refine Rets.xcall (sane_spec _) ?_)
          | (with_reducible refine Rets.xsoft (sane_spec _) ?_)
          | (with_reducible refine xlateCall_of (fun _ => sane_spec _) ?_)
          | (with_reducible refine Rets.xcall (refCheck_spec ..) ?_)
          | (with_reducible refine Rets.xsoft (refCheck_spec ..) ?_)
          | (with_reducible refine xlateCall_of (fun _ => refCheck_spec ..) ?_)
          | (with_reducible refine Rets.xcall (open_spec _ _ hf _ _ _ _) ?_)
          | (with_reducible refine Rets.xsoft (open_spec _ _ hf _ _ _ _) ?_)
          | (with_reducible refine xlateCall_of (fun _ => open_spec _ _ hf _ _ _ _) ?_)
          | (with_reducible refine Lit.imm ?_)
          | ((with_reducible refine Grow.intro ?_ fun b cap hb hc1 hc2 => ?_); omega) <;> (try simp -dsimp -implicitDefEqProofs [*] at hb)
          | (with_reducible refine DrawLate.intro [] ?_)
          | (with_reducible refine Cls_and ?_ ?_)
          | (with_reducible exact Cls.self _ _)
          | (with_reducible refine Cls_same ?_)
          | (with_reducible refine Cls_in ?_ ?_)
          | (with_reducible refine Cls_fresh ?_ ?_)
          | (with_reducible refine And.intro (fun h => ?_) (fun h => ?_)) <;> (try (exfalso; omega))
          | (with_reducible refine And.intro (fun h => ?_) ?_) <;> (try (exfalso; omega))
          | ((with_reducible refine and_keep ?_ fun hk => ?_); omega)
          | (simp -dsimp -implicitDefEqProofs [*]))
      · have e2 := openL_not h2
        repeat' (first
          | (with_reducible refine Fresh.intro fun b hb => ?_) <;> (try simp -dsimp -implicitDefEqProofs [*] at hb)
          | (with_reducible refine Rets.xcall (sane_spec _) ?_)
          | (with_reducible refine Rets.xsoft (sane_spec _) ?_)
          | (with_reducible refine xlateCall_of (fun _ => sane_spec _) ?_)
          | (with_reducible refine Rets.xcall (refCheck_spec ..) ?_)
          | (with_reducible refine Rets.xsoft (refCheck_spec ..) ?_)
          | (with_reducible refine xlateCall_of (fun _ => refCheck_spec ..) ?_)
          | (with_reducible refine Rets.xcall (open_spec _ _ hf _ _ _ _) ?_)
          | (with_reducible refine Rets.xsoft (open_spec _ _ hf _ _ _ _) ?_)
          | (with_reducible refine xlateCall_of (fun _ => open_spec _ _ hf _ _ _ _) ?_)
          | (with_reducible refine Lit.imm ?_)
          | ((with_reducible refine Grow.intro ?_ fun b cap hb hc1 hc2 => ?_); omega) <;> (try simp -dsimp -implicitDefEqProofs [*] at hb)
          | (with_reducible refine DrawLate.intro [] ?_)
          | (with_reducible refine Cls_and ?_ ?_)
          | (with_reducible exact Cls.self _ _)
          | (with_reducible refine Cls_same ?_)
          | (with_reducible refine Cls_in ?_ ?_)
          | (with_reducible refine Cls_fresh ?_ ?_)
          | (with_reducible refine And.intro (fun h => ?_) (fun h => ?_)) <;> (try (exfalso; omega))
          | (with_reducible refine And.intro (fun h => ?_) ?_) <;> (try (exfalso; omega))
          | ((with_reducible refine and_keep ?_ fun hk => ?_); omega)
          | (simp -dsimp -implicitDefEqProofs [*]))
  · repeat' (first
      | (with_reducible refine Fresh.intro fun b hb => ?_) <;> (try simp -dsimp -implicitDefEqProofs [*] at hb)
      | (with_reducible refine Rets.xcall (sane_spec _) ?_)
      | (with_reducible refine Rets.xsoft (sane_spec _) ?_)
      | (with_reducible refine xlateCall_of (fun _ => sane_spec _) ?_)
      | (with_reducible refine Rets.xcall (refCheck_spec ..) ?_)
      | (with_reducible refine Rets.xsoft (refCheck_spec ..) ?_)
      | (with_reducible refine xlateCall_of (fun _ => refCheck_spec ..) ?_)
      | (with_reducible refine Lit.imm ?_)
      | ((with_reducible refine Grow.intro ?_ fun b cap hb hc1 hc2 => ?_); omega) <;> (try simp -dsimp -implicitDefEqProofs [*] at hb)
      | (with_reducible refine DrawLate.intro [] ?_)
      | (with_reducible refine Cls_and ?_ ?_)
      | (with_reducible exact Cls.self _ _)
      | (with_reducible refine Cls_same ?_)
      | (with_reducible refine Cls_in ?_ ?_)
      | (with_reducible refine Cls_fresh ?_ ?_)
      | (with_reducible refine And.intro (fun h => ?_) (fun h => ?_)) <;> (try (exfalso; omega))
      | (with_reducible refine And.intro (fun h => ?_) ?_) <;> (try (exfalso; omega))
      | ((with_reducible refine and_keep ?_ fun hk => ?_); omega)
      | (simp -dsimp -implicitDefEqProofs [*]))
end Go.Proofs.Ytbjfmedpaohpnaa

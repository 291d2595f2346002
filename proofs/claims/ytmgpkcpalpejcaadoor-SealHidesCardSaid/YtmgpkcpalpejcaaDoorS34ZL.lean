/- Shares are dealt. -/
import Derived.Test.YtmgpkcpalpejcaaDoorS34ZK
namespace Go.Proofs.YtmgpkcpalpejcaaDoor
open Go.Pv Go.Pv.Sha Go.Pv.Ip
set_option maxRecDepth 100000
set_option maxHeartbeats 4000000
structure Share where
  At : Int
  Value : Int
  deriving DecidableEq, Inhabited
def Share.enc (x : Share) : List PV := [.int x.At, .int x.Value]
abbrev Share.pv (x : Share) : PV := .agg x.enc
@[simp] theorem Share.len (x : Share) : x.enc.length = 2 := rfl
@[simp] theorem Share.subAll (x : Share) : sub x.enc 0 2 = some x.enc := rfl
@[simp] theorem Share.get0 (x : Share) : x.enc[0]? = some (.int x.At) := rfl
@[simp] theorem Share.getE0 (x : Share) (h : 0 < x.enc.length) : x.enc[0]'h = .int x.At := rfl
@[simp] theorem Share.set0 (x : Share) (v : Int) : List.set x.enc 0 (.int v) = (Share.mk v x.Value).enc := rfl
@[simp] theorem Share.get1 (x : Share) : x.enc[1]? = some (.int x.Value) := rfl
@[simp] theorem Share.getE1 (x : Share) (h : 1 < x.enc.length) : x.enc[1]'h = .int x.Value := rfl
@[simp] theorem Share.set1 (x : Share) (v : Int) : List.set x.enc 1 (.int v) = (Share.mk x.At v).enc := rfl
@[simp] theorem Share.fz (b : Nat) (o : PObj) (k : Nat) (x : Share) : fzps b o k x.enc = x.enc := rfl
theorem Share.fold (v0 v1 : Int) : [PV.int v0, PV.int v1] = (Share.mk v0 v1).enc := rfl
@[simp] theorem Share.fill (x y : Share) : setCells x.enc 0 y.enc = y.enc := rfl
@[simp] theorem Share.eq (x y : Share) : eqCells [.int, .int] x.enc y.enc = some (decide (x = y)) := by
  simp [Share.enc]
  cases x; cases y; simp [Share.mk.injEq]
@[simp] theorem Share.key (x : Share) : PV.vals? x.enc = some [.int .i64 x.At, .int .i64 x.Value] := rfl
def Share.row (l : List Share) : List PV := l.flatMap Share.enc
abbrev Share.lst (t : Bool) (l : List Share) : PV := .list t (Share.row l) l.length
@[simp] theorem Share.row_len (l : List Share) : (Share.row l).length = l.length * 2 := flat_length Share.enc 2 Share.len l
@[simp] theorem Share.row_nil : Share.row [] = [] := rfl
@[simp] theorem Share.row_cons (x : Share) (l : List Share) : Share.row (x :: l) = x.enc ++ Share.row l := rfl
theorem Share.row_append (l m : List Share) : Share.row (l ++ m) = Share.row l ++ Share.row m := by simp [Share.row]
@[simp] theorem Share.row_eq_nil (l : List Share) : Share.row l = [] ↔ l = [] := by
  constructor
  · intro h
    have := congrArg List.length h
    rw [Share.row_len] at this
    cases l with
    | nil => rfl
    | cons => simp at this
  · rintro rfl; rfl
@[simp] theorem Share.row_sub (l : List Share) (i : Nat) (h : i < l.length) : sub (Share.row l) (i * 2) 2 = some (l[i]).enc := flat_sub Share.enc 2 Share.len l i h
theorem Share.row_drop (l : List Share) (i : Nat) : (Share.row l).drop (i * 2) = Share.row (l.drop i) := flat_drop Share.enc 2 Share.len l i
theorem Share.row_take (l : List Share) (i : Nat) : (Share.row l).take (i * 2) = Share.row (l.take i) := flat_take Share.enc 2 Share.len l i
@[simp] theorem Share.row_getE0 (l : List Share) (i : Nat) (h : i * 2 < (Share.row l).length) : (Share.row l)[i * 2]'h = .int (l[i]'(by rw [Share.row_len] at h; omega)).At := by
  have hl : i < l.length := by rw [Share.row_len] at h; omega
  have := flat_get Share.enc 2 Share.len l i 0 hl (by omega)
  have h2 : (Share.row l)[i * 2]? = some (.int l[i].At) := this
  rw [List.getElem?_eq_getElem h] at h2
  exact Option.some.inj h2
@[simp] theorem Share.row_get0 (l : List Share) (i : Nat) (h : i < l.length) : (Share.row l)[i * 2]? = some (.int l[i].At) := flat_get Share.enc 2 Share.len l i 0 h (by omega)
@[simp] theorem Share.row_getE1 (l : List Share) (i : Nat) (h : i * 2 + 1 < (Share.row l).length) : (Share.row l)[i * 2 + 1]'h = .int (l[i]'(by rw [Share.row_len] at h; omega)).Value := by
  have hl : i < l.length := by rw [Share.row_len] at h; omega
  have := flat_get Share.enc 2 Share.len l i 1 hl (by omega)
  have h2 : (Share.row l)[i * 2 + 1]? = some (.int l[i].Value) := this
  rw [List.getElem?_eq_getElem h] at h2
  exact Option.some.inj h2
@[simp] theorem Share.row_get1 (l : List Share) (i : Nat) (h : i < l.length) : (Share.row l)[i * 2 + 1]? = some (.int l[i].Value) := flat_get Share.enc 2 Share.len l i 1 h (by omega)
theorem Share.row_set (l : List Share) (i : Nat) (x : Share) (h : i < l.length) : setCells (Share.row l) (i * 2) x.enc = Share.row (l.set i x) := flat_set Share.enc 2 Share.len l i x h
theorem Share.row_fz (b : Nat) (o : PObj) (k : Nat) (l : List Share) : fzps b o k (Share.row l) = Share.row l := flat_fz Share.enc Share.fz b o k l
attribute [simp] Share.row_fz

def sharesL (poly : List Int) (n : Nat) : List Share := (List.range n).map fun i : Nat => ⟨(i : Int) + 1, ev poly ((i : Int) + 1) % Qi⟩
theorem sharesL_len (poly : List Int) (n : Nat) : (sharesL poly n).length = n := by simp [sharesL]
theorem sharesL_get (poly : List Int) (n i : Nat) (h : i < n) : (sharesL poly n)[i]'(by rw [sharesL_len]; exact h) = ⟨(i : Int) + 1, ev poly ((i : Int) + 1) % Qi⟩ := by simp [sharesL]
theorem take_pre {α β : Type} {g : α → β} {l : List α} {i : Nat} (h : i < l.length) : (l.take i).map g ++ [g l[i]] <+: l.map g := by
  have e : (l.take i).map g ++ [g l[i]] = (l.take (i + 1)).map g := by rw [List.take_succ_eq_append_getElem h, List.map_append]; rfl
  rw [e]
  exact (List.take_prefix _ _).map g
theorem values1_gives (t : Bool) (poly : List Int) (hp : poly.length ≤ 1000) (n : Nat) (hn : n ≤ 24) : Gives1 P F.shares_values_1 [] [.iptr [.int (n : Int)] 0, .iptr [intLst t poly] 0] ((sharesL poly n).map Share.pv) := by
  intro σ S inv lp hround s hs
  refine H.shares_values_1.view hmix rfl rfl ?_
  have hv : ∀ x st, Rets P F.field_Value [intLst t poly, .int x] st (.int (ev poly x % Qi)) := fun x st => value_spec t poly hp x st
  repeat' (simp -dsimp -implicitDefEqProofs [*])
  refine xloop_for (fun y : Nat × σ => [(0, .func (.yield lp) [] []), (1, .iptr [.int (n : Int)] 0), (2, .iptr [intLst t poly] 0), (4, .int ((y.1 : Int) + 1))]) (fun y => S y.2)
    (fun y => y.1 ≤ n ∧ inv (((sharesL poly n).take y.1).map Share.pv) y.2) (fun y => n - y.1) (0, s) ⟨Nat.zero_le _, by simpa using hs⟩ (by simp) (.refl _) ?_
  rintro ⟨i, s⟩ ⟨hi, hs⟩
  simp only at hi hs
  have kl := sharesL_len poly n
  by_cases hin : i < n
  · have hg := sharesL_get poly n i hin
    have hpre := take_pre (g := Share.pv) (l := sharesL poly n) (i := i) (by omega)
    rw [hg] at hpre
    have hv1 := fun st => hv ((i : Int) + 1) st
    have hle : ((i : Int) + 1 ≤ n) := by omega
    have w1 : IntKind.i64.wrap ((i : Int) + 1 + 1) = (i : Int) + 1 + 1 := wrap_in (by omega) (by omega)
    repeat' (first 
     | (with_reducible refine Rets.xcall (hv1 _) ?_)
     | (simp -dsimp -implicitDefEqProofs [*]))
    refine xround_post (PRound.le (.refl _) (hround _ _ s hs hpre)) fun e st' hq => ?_
    obtain ⟨rfl, s', hs', rfl⟩ := hq
    have hs2 : inv (((sharesL poly n).take (i + 1)).map Share.pv) s' := by
      rw [List.take_succ_eq_append_getElem (by omega), hg, List.map_append]; exact hs'
    clear hs' hpre hs
    repeat' (simp -dsimp -implicitDefEqProofs [*])
    exact Next.intro (i + 1, s') ⟨by simp only; omega, hs2⟩ (by simp only; omega) (by simp) (.refl _)
  · have e : i = n := by omega
    subst e
    rw [List.take_of_length_le (by omega)] at hs
    repeat' (first 
     | (with_reducible refine And.intro (fun h => ?_) (fun h => ?_)) <;> (try (exfalso; omega))
     | (simp -dsimp -implicitDefEqProofs [*]))
    exact .same ⟨rfl, s, hs, rfl⟩
theorem appendSeq_spec {g : FuncId} {fs cs : List PV} {xs : List Share} (hent : Enters P g) (hy : Gives1 P g fs cs (xs.map Share.pv)) (hl : xs.length ≤ 1024) (st : Store) :
    Rets P F.slices_AppendSeq__LapiShare_apiShare [.nil, .func (.func g) fs cs] st (Share.lst false xs) := by
  refine H.slices_AppendSeq__LapiShare_apiShare.view hmix rfl rfl ?_
  repeat' (first 
   | (with_reducible refine Fresh.intro fun b hb => ?_) <;> (try simp -dsimp -implicitDefEqProofs [*] at hb)
   | (simp -dsimp -implicitDefEqProofs [*]))
  refine xrange_func hent fun key hkey lp hlp => ?_
  simp -dsimp -implicitDefEqProofs [*] at hlp
  refine xcall_post (hy (Option (Acc Share)) (fun a => accS T.apiShare ((lp, .loop key _ .ready none) :: (b, .arr T.LapiShare [accP a]) :: st) a)
    (fun pre a => accOk Share.row 2 ((lp, .arr 0 []) :: (b, .arr 0 []) :: st) a ∧ (accL a).map Share.pv = pre) lp ?_ none ⟨trivial, rfl⟩) ?_
  · rintro pre x a ⟨ha, hpre⟩ hpx
    obtain ⟨y, rfl, -⟩ := prefix_snoc_map hpre hpx
    have hlen := prefix_snoc hpx
    rw [← hpre] at hlen ⊢
    simp only [List.length_map] at hlen
    cases a with
    | none =>
      refine pround_walkS hmix hkey (by simp; rfl) rfl ?_
      clear hkey hy
      repeat' (first 
       | (with_reducible refine Fresh.intro fun b hb => ?_) <;> (try simp -dsimp -implicitDefEqProofs [*] at hb)
       | (with_reducible refine Lit.imm ?_)
       | (simp -dsimp -implicitDefEqProofs [*]))
      refine xappend_acc0 Share.row_len [y] (by simp) (by simp) (by omega) (by omega) fun a' ha' hl' hb' => ?_
      simp -dsimp -implicitDefEqProofs [*] at hb'
      have hl2 := hl'
      repeat' (simp -dsimp -implicitDefEqProofs [*])
      exact ⟨_, (by repeat' (first | exact StLe.refl _ | (refine StLe_cons (by simp [*]; done) ?_) | (refine StLe_fresh (by simp [*]; done) ?_))), some a', ⟨⟨ha', by simp [*]⟩, by simp_all⟩, rfl⟩
    | some a =>
      obtain ⟨ha, hb2⟩ := ha
      simp only [snew_cons] at hb2
      refine pround_walkS hmix hkey (by simp [*]; rfl) rfl ?_
      clear hkey hy
      repeat' (first 
       | (with_reducible refine Fresh.intro fun b hb => ?_) <;> (try simp -dsimp -implicitDefEqProofs [*] at hb)
       | (with_reducible refine Lit.imm ?_)
       | (simp -dsimp -implicitDefEqProofs [*]))
      simp only [accL_some] at hlen hpre
      refine xappend_acc Share.row_len Share.row_append ha (by simp [*]) [y] (by simp) (by simp) (by omega) fun a' ha' hl' hb' => ?_
      simp -dsimp -implicitDefEqProofs [*] at hb'
      have hl2 := hl'
      repeat' (simp -dsimp -implicitDefEqProofs [*])
      exact ⟨_, (by repeat' (first | exact StLe.refl _ | (refine StLe_cons (by simp [*]; done) ?_) | (refine StLe_fresh (by simp [*]; done) ?_))), some a', ⟨⟨ha', by simp [*]⟩, by simp_all⟩, rfl⟩
  · rintro e st' ⟨rfl, a, ⟨ha, hxs⟩, rfl⟩
    cases a with
    | none =>
      have : xs = [] := by simpa using hxs.symm
      subst this
      repeat' (first 
       | (with_reducible refine RetView.nil1 ?_)
       | (with_reducible refine RetView.fz 9 ?_ ?_)
       | (with_reducible refine RetView.same ?_)
       | (simp -dsimp -implicitDefEqProofs [*]))
    | some a =>
      obtain ⟨ha, hb2⟩ := ha
      simp only [snew_cons] at hb2
      have hxs : a.l = xs := (List.map_inj_right fun x y h => by cases x; cases y; simpa [Share.enc] using h).1 hxs
      subst hxs
      have h2 := ha.row
      have h3 := ha.le
      have h4 := ha.cap
      repeat' (first 
       | (with_reducible refine RetView.fz 2 ?_ ?_)
       | (with_reducible refine RetView.same ?_)
       | (simp -dsimp -implicitDefEqProofs [*]))
theorem collect_spec {g : FuncId} {fs cs : List PV} {xs : List Share} (hent : Enters P g) (hy : Gives1 P g fs cs (xs.map Share.pv)) (hl : xs.length ≤ 1024) (st : Store) :
    Rets P F.slices_Collect__apiShare [.func (.func g) fs cs] st (Share.lst false xs) := by
  refine H.slices_Collect__apiShare.pure hmix rfl rfl ?_
  repeat' (first 
   | (with_reducible refine Rets.xcall (appendSeq_spec hent hy hl _) ?_)
   | (simp -dsimp -implicitDefEqProofs [*]))
theorem valuesF_spec (t : Bool) (poly : List Int) (n : Int) (st : Store) : Rets P F.shares_values [intLst t poly, .int n] st (.func (.func F.shares_values_1) [] [.iptr [.int n] 0, .iptr [intLst t poly] 0]) := by
  refine H.shares_values.view hmix rfl rfl ?_
  repeat' (first 
   | (with_reducible refine Fresh.intro fun b hb => ?_) <;> (try simp -dsimp -implicitDefEqProofs [*] at hb)
   | (with_reducible refine RetView.fz 1 ?_ ?_)
   | (with_reducible refine RetView.same ?_)
   | (simp -dsimp -implicitDefEqProofs [*]))
theorem deal_spec (secret : Int) (hs : 0 ≤ secret ∧ secret < Qi) (t : Bool) (more : List Int) (n : Nat) (h1 : 1 ≤ n) (h2 : n ≤ 24) (hm : more.length < n) (st : Store) :
    Rets P F.shares_Deal [.int secret, intLst t more, .int (n : Int)] st (.tuple [Share.lst false (sharesL (secret :: more) n), .int 0]) := by
  refine H.shares_Deal.view hmix rfl rfl ?_
  have n1 : ¬ secret < 0 := by omega
  have n2 : ¬ 1073741789 ≤ secret := by unfold Qi at hs; omega
  have n3 : ¬ (n : Int) < 1 := by omega
  have n4 : ¬ (24 : Int) < n := by omega
  have n5 : ¬ (n : Int) ≤ more.length := by omega
  have hv := fun (q : Bool) => values1_gives q (secret :: more) (by simp; omega) n h2
  have hl : (sharesL (secret :: more) n).length ≤ 1024 := by rw [sharesL_len]; omega
  cases more with
  | nil =>
    have vf : ∀ st, Rets P F.shares_values [.list true [.int secret] 1, .int (n : Int)] st (.func (.func F.shares_values_1) [] [.iptr [.int (n : Int)] 0, .iptr [intLst true [secret]] 0]) := fun st => valuesF_spec true [secret] n st
    have hv1 := hv true
    clear hv
    repeat' (first 
     | (with_reducible refine Rets.xcall (vf _) ?_)
     | (with_reducible refine Rets.xcall (collect_spec H.shares_values_1.enters hv1 hl _) ?_)
     | (with_reducible refine Lit.imm ?_)
     | (with_reducible refine And.intro (fun h => ?_) (fun h => ?_)) <;> (try (exfalso; omega))
     | (simp -dsimp -implicitDefEqProofs [*]))
    all_goals exact .same ⟨rfl, rfl⟩
  | cons m0 more =>
    have hv1 := hv false
    have n6 : ¬ (n : Int) ≤ (more.length : Int) + 1 := by simp only [List.length_cons] at hm; omega
    clear hv n5
    repeat' (first 
     | (with_reducible refine Lit.imm ?_)
     | ((with_reducible refine Grow.intro ?_ fun b cap hb hc1 hc2 => ?_); omega) <;> (try simp -dsimp -implicitDefEqProofs [*] at hb)
     | (simp -dsimp -implicitDefEqProofs [*]))
    have e0 : ((PV.int secret :: (intRow (m0 :: more) ++ List.replicate (cap - (1 + (more.length + 1))) .any)).drop 0).take ((1 + (more.length + 1)) * 1) = intRow (secret :: m0 :: more) := by
      rw [List.drop_zero, Nat.mul_one, Nat.add_comm 1, List.take_succ_cons, List.take_left' (by simp [intRow])]
      rfl
    have e1 : Frzs b (.arr T.int (.int secret :: (intRow (m0 :: more) ++ List.replicate (cap - (1 + (more.length + 1))) .any))) [.own b 0 (1 + (more.length + 1)) cap, .int (n : Int)] [.list false (((PV.int secret :: (intRow (m0 :: more) ++ List.replicate (cap - (1 + (more.length + 1))) .any)).drop 0).take ((1 + (more.length + 1)) * 1)) (1 + (more.length + 1)), .int (n : Int)] :=
      .cons (.own _ _ _ _ _ 1 rfl hc1 hc2) (Frzs.refl _)
    rw [e0, Nat.add_comm 1 (more.length + 1)] at e1
    rw [Nat.add_comm 1 (more.length + 1)]
    refine xcall_post (PCalls.frz hb (.refl _) e1 (valuesF_spec false (secret :: m0 :: more) n st)) ?_
    rintro _ _ ⟨rfl, rfl⟩
    rw [xend_ret]
    clear e0 e1
    repeat' (first 
     | (with_reducible refine Rets.xcall (collect_spec H.shares_values_1.enters hv1 hl _) ?_)
     | (simp -dsimp -implicitDefEqProofs [*]))
    exact .same ⟨rfl, rfl⟩
end Go.Proofs.YtmgpkcpalpejcaaDoor
/- The law's inverse. -/
namespace Go.Proofs.YtmgpkcpalpejcaaDoor
open Go.Pv Go.Pv.Sha Go.Pv.Ip
set_option maxRecDepth 100000
set_option maxHeartbeats 4000000
theorem mulmodE {x y : Int} (hx : 0 ≤ x ∧ x ≤ Qi) (hy : 0 ≤ y ∧ y ≤ Qi) : IntKind.i64.wrap (x * y) = x * y ∧ (x * y).tmod 1073741789 = x * y % Qi ∧ IntKind.i64.wrap (x * y % Qi) = x * y % Qi := by
  have h := mulQ hx hy
  have m := mod_in (x * y)
  exact ⟨wrap_in (by omega) (by omega), tmodE _ h.1, wrap_in (by omega) (by unfold Qi at *; omega)⟩
theorem inverse_spec (n0 : Int) (h0 : 0 ≤ n0 ∧ n0 < Qi) (st : Store) : Rets P F.podiumlaw34_inverse [.int n0] st (.int (invF n0)) := by
  refine H.podiumlaw34_inverse.pure hmix rfl rfl ?_
  generalize hF : invF n0 = R
  have hF : invGo 31 1 n0 1073741787 = R := hF
  repeat' (simp -dsimp -implicitDefEqProofs [*])
  refine xloop_for (fun y : Nat × Int × Int × Int => [(0, .int y.2.2.1), (3, .int y.2.1), (4, .int y.2.2.2)]) (fun _ => st) (fun y => invGo y.1 y.2.1 y.2.2.1 y.2.2.2 = R ∧ (0 ≤ y.2.1 ∧ y.2.1 < Qi) ∧ (0 ≤ y.2.2.1 ∧ y.2.2.1 < Qi) ∧ 0 ≤ y.2.2.2 ∧ y.2.2.2 < 2 ^ y.1 ∧ y.2.2.2 < Qi) (fun y => y.1) (31, 1, n0, 1073741787) ⟨hF, (by decide : (0 : Int) ≤ 1 ∧ (1 : Int) < Qi), h0, (by decide : (0 : Int) ≤ 1073741787), (by decide : (1073741787 : Int) < 2 ^ 31), (by decide : (1073741787 : Int) < Qi)⟩ (by simp) (.refl _) ?_
  rintro ⟨f, c, n, k⟩ ⟨h1, hc, hn, hk, hk2, hk3⟩
  simp only at h1 hc hn hk hk2 hk3
  cases f with
  | zero =>
    have hk0 : k = 0 := by simp at hk2; omega
    subst hk0
    have : c = R := h1
    subst this
    clear hk2 hk3 hk h1
    repeat' (simp -dsimp -implicitDefEqProofs [*])
  | succ f =>
    rw [invGo] at h1
    by_cases hkp : 0 < k
    · rw [if_pos hkp] at h1
      obtain ⟨a1, a2, a3⟩ := mulmodE ⟨hc.1, by omega⟩ ⟨hn.1, by omega⟩
      obtain ⟨b1, b2, b3⟩ := mulmodE ⟨hn.1, by omega⟩ ⟨hn.1, by omega⟩
      have e1 : k.tmod 2 = k % 2 := Int.tmod_eq_emod_of_nonneg hk
      have e2 : k.tdiv 2 = k / 2 := Int.tdiv_eq_ediv_of_nonneg hk
      have w1 : IntKind.i64.wrap (k % 2) = k % 2 := wrap_in (by omega) (by omega)
      have w2 : IntKind.i64.wrap (k / 2) = k / 2 := wrap_in (by omega) (by unfold Qi at hk3; omega)
      have m1 := mod_in (c * n)
      have m2 := mod_in (n * n)
      have p2 : k / 2 < 2 ^ f := by rw [Int.pow_succ] at hk2; omega
      by_cases hodd : k % 2 = 1
      · rw [if_pos hodd] at h1
        have kk : Hid (invGo f (c * n % Qi) (n * n % Qi) (k / 2) = R) := ⟨h1⟩
        clear hk2 h1
        repeat' (simp -dsimp -implicitDefEqProofs [*])
        exact Next.intro (f, c * n % Qi, n * n % Qi, k / 2) ⟨kk.out, m1, m2, by simp only; omega, p2, by simp only; omega⟩ (by simp) (by simp) (.refl _)
      · rw [if_neg hodd] at h1
        have kk : Hid (invGo f c (n * n % Qi) (k / 2) = R) := ⟨h1⟩
        clear hk2 h1
        repeat' (simp -dsimp -implicitDefEqProofs [*])
        exact Next.intro (f, c, n * n % Qi, k / 2) ⟨kk.out, hc, m2, by simp only; omega, p2, by simp only; omega⟩ (by simp) (by simp) (.refl _)
    · have hk0 : k = 0 := by omega
      subst hk0
      rw [if_neg (by omega)] at h1
      subst h1
      clear hk2 hk3 hk hkp
      repeat' (simp -dsimp -implicitDefEqProofs [*])
end Go.Proofs.YtmgpkcpalpejcaaDoor

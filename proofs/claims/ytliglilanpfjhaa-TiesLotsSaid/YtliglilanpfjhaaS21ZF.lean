/- Entries that are wrong; comparing. -/
import Derived.Test.YtliglilanpfjhaaS21ZE
namespace Go.Proofs.Ytliglilanpfjhaa
open Go.Pv
set_option maxRecDepth 100000
set_option maxHeartbeats 8000000
section
variable {α : Type}
def idxG (p : α → Bool) (L : List α) : Int := if L.any p = true then (L.findIdx p : Nat) else -1
theorem idxG_found {p : α → Bool} {L : List α} {i : Nat} (hi : i < L.length) (h : ∀ j (hj : j < i), p (L[j]'(by omega)) = false) (hp : p L[i] = true) : idxG p L = i := by
  have h1 : L.any p = true := List.any_eq_true.2 ⟨_, List.getElem_mem hi, hp⟩
  have h2 : L.findIdx p = i := by
    rw [List.findIdx_eq hi]
    exact ⟨hp, fun j hj => by simpa using h j hj⟩
  unfold idxG
  rw [if_pos h1, h2]
theorem idxG_none {p : α → Bool} {L : List α} (h : ∀ j (hj : j < L.length), p L[j] = false) : idxG p L = -1 := by
  have h1 : ¬ L.any p = true := by
    rw [List.any_eq_true]
    rintro ⟨x, hx, hp⟩
    obtain ⟨j, hj, rfl⟩ := List.mem_iff_getElem.1 hx
    rw [h j hj] at hp
    cases hp
  unfold idxG
  rw [if_neg h1]
theorem idxG_pos (p : α → Bool) (L : List α) : decide (0 ≤ idxG p L) = L.any p := by
  unfold idxG
  cases h : L.any p <;> simp
end
theorem idxR_spec (f : PV) (g : FuncId) (fs : List PV) (hfn : f = .func (.func g) fs []) (p : Rw → Bool) (L : List Rw) (hf : ∀ d ∈ L, ∀ st, Rets P g (fs ++ [d.pv]) st (.bool (p d))) (hL : L.length ≤ 100000) (st : Store) : Rets P F.slices_IndexFunc__LapiRatio_apiRatio [Rw.lst L, f] st (.int (idxG p L)) := by
  subst hfn
  refine H.slices_IndexFunc__LapiRatio_apiRatio.view hmix rfl rfl ?_
  repeat' (simp -dsimp -implicitDefEqProofs [*])
  refine xloop_for (fun n : Nat => [(0, Rw.lst L), (1, .func (.func g) fs []), (7, .int L.length), (8, .int n)]) (fun _ => st) (fun n => n ≤ L.length ∧ Hid (∀ j (hj : j < n) (hl : j < L.length), p L[j] = false)) (fun n => L.length - n) 0 ⟨Nat.zero_le _, ⟨fun j hj => absurd hj (by omega)⟩⟩ (by simp) (.refl _) ?_
  rintro n ⟨hn, he2⟩
  by_cases hnl : n < L.length
  · have hw := wrap_succ (n := n) (by omega)
    have hn4 : n * 4 < L.length * 4 := by omega
    have hf1 := hf L[n] (List.getElem_mem hnl)
    have hi : Hid (p L[n] = true → idxG p L = n) := ⟨fun hp => idxG_found hnl (fun j hj => he2.out j hj (by omega)) hp⟩
    have hno : Hid (p L[n] = false → ∀ j (hj : j < n + 1) (hl : j < L.length), p L[j] = false) := ⟨fun hp j hj hl => if h : j = n then by subst h; exact hp else he2.out j (by omega) hl⟩
    clear hf he2
    cases hp : p L[n] with
    | true =>
      rw [hp] at hf1
      have e := hi.out hp
      rw [e]
      clear hp hi hno
      repeat' (first 
       | (with_reducible refine Rets.xcall (hf1 _) ?_)
       | (simp -dsimp -implicitDefEqProofs [*]))
      exact .same ⟨rfl, rfl⟩
    | false =>
      rw [hp] at hf1
      have e : Hid _ := ⟨hno.out hp⟩
      clear hp hi hno
      repeat' (first 
       | (with_reducible refine Rets.xcall (hf1 _) ?_)
       | (simp -dsimp -implicitDefEqProofs [*]))
      exact Next.intro (n + 1) ⟨by omega, e⟩ (by omega) (by simp) (by repeat' (first | exact StLe.refl _ | (refine StLe_cons (by simp [*]; done) ?_) | (refine StLe_fresh (by simp [*]; done) ?_)))
  · have e : n = L.length := by omega
    subst e
    have hi : Hid (idxG p L = -1) := ⟨idxG_none fun j hj => he2.out j hj hj⟩
    rw [hi.out]
    clear hf he2
    repeat' (simp -dsimp -implicitDefEqProofs [*])
    exact .same ⟨rfl, rfl⟩
theorem contR_spec (f : PV) (g : FuncId) (fs : List PV) (hfn : f = .func (.func g) fs []) (p : Rw → Bool) (L : List Rw) (hf : ∀ d ∈ L, ∀ st, Rets P g (fs ++ [d.pv]) st (.bool (p d))) (hL : L.length ≤ 100000) (st : Store) : Rets P F.slices_ContainsFunc__LapiRatio_apiRatio [Rw.lst L, f] st (.bool (L.any p)) := by
  have hi := idxR_spec f g fs hfn p L hf hL
  have e := idxG_pos p L
  rw [← e]
  obtain ⟨v, hv⟩ : ∃ v, v = idxG p L := ⟨_, rfl⟩
  rw [← hv] at hi ⊢
  subst hfn
  clear hv e hf
  refine H.slices_ContainsFunc__LapiRatio_apiRatio.pure hmix rfl rfl ?_
  repeat' (first 
   | (with_reducible refine Rets.xcall (hi _) ?_)
   | (simp -dsimp -implicitDefEqProofs [*]))
theorem idxY_spec (f : PV) (g : FuncId) (fs : List PV) (hfn : f = .func (.func g) fs []) (p : Ky → Bool) (L : List Ky) (hf : ∀ d ∈ L, ∀ st, Rets P g (fs ++ [d.pv]) st (.bool (p d))) (hL : L.length ≤ 100000) (st : Store) : Rets P F.slices_IndexFunc__LapiKeyed_apiKeyed [Ky.lst L, f] st (.int (idxG p L)) := by
  subst hfn
  refine H.slices_IndexFunc__LapiKeyed_apiKeyed.view hmix rfl rfl ?_
  repeat' (simp -dsimp -implicitDefEqProofs [*])
  refine xloop_for (fun n : Nat => [(0, Ky.lst L), (1, .func (.func g) fs []), (7, .int L.length), (8, .int n)]) (fun _ => st) (fun n => n ≤ L.length ∧ Hid (∀ j (hj : j < n) (hl : j < L.length), p L[j] = false)) (fun n => L.length - n) 0 ⟨Nat.zero_le _, ⟨fun j hj => absurd hj (by omega)⟩⟩ (by simp) (.refl _) ?_
  rintro n ⟨hn, he2⟩
  by_cases hnl : n < L.length
  · have hw := wrap_succ (n := n) (by omega)
    have hn4 : n * 10 < L.length * 10 := by omega
    have hf1 := hf L[n] (List.getElem_mem hnl)
    have hi : Hid (p L[n] = true → idxG p L = n) := ⟨fun hp => idxG_found hnl (fun j hj => he2.out j hj (by omega)) hp⟩
    have hno : Hid (p L[n] = false → ∀ j (hj : j < n + 1) (hl : j < L.length), p L[j] = false) := ⟨fun hp j hj hl => if h : j = n then by subst h; exact hp else he2.out j (by omega) hl⟩
    clear hf he2
    cases hp : p L[n] with
    | true =>
      rw [hp] at hf1
      have e := hi.out hp
      rw [e]
      clear hp hi hno
      repeat' (first 
       | (with_reducible refine Rets.xcall (hf1 _) ?_)
       | (simp -dsimp -implicitDefEqProofs [*]))
      exact .same ⟨rfl, rfl⟩
    | false =>
      rw [hp] at hf1
      have e : Hid _ := ⟨hno.out hp⟩
      clear hp hi hno
      repeat' (first 
       | (with_reducible refine Rets.xcall (hf1 _) ?_)
       | (simp -dsimp -implicitDefEqProofs [*]))
      exact Next.intro (n + 1) ⟨by omega, e⟩ (by omega) (by simp) (by repeat' (first | exact StLe.refl _ | (refine StLe_cons (by simp [*]; done) ?_) | (refine StLe_fresh (by simp [*]; done) ?_)))
  · have e : n = L.length := by omega
    subst e
    have hi : Hid (idxG p L = -1) := ⟨idxG_none fun j hj => he2.out j hj hj⟩
    rw [hi.out]
    clear hf he2
    repeat' (simp -dsimp -implicitDefEqProofs [*])
    exact .same ⟨rfl, rfl⟩
theorem contY_spec (f : PV) (g : FuncId) (fs : List PV) (hfn : f = .func (.func g) fs []) (p : Ky → Bool) (L : List Ky) (hf : ∀ d ∈ L, ∀ st, Rets P g (fs ++ [d.pv]) st (.bool (p d))) (hL : L.length ≤ 100000) (st : Store) : Rets P F.slices_ContainsFunc__LapiKeyed_apiKeyed [Ky.lst L, f] st (.bool (L.any p)) := by
  have hi := idxY_spec f g fs hfn p L hf hL
  have e := idxG_pos p L
  rw [← e]
  obtain ⟨v, hv⟩ : ∃ v, v = idxG p L := ⟨_, rfl⟩
  rw [← hv] at hi ⊢
  subst hfn
  clear hv e hf
  refine H.slices_ContainsFunc__LapiKeyed_apiKeyed.pure hmix rfl rfl ?_
  repeat' (first 
   | (with_reducible refine Rets.xcall (hi _) ?_)
   | (simp -dsimp -implicitDefEqProofs [*]))
/-- The keys that make an order. -/
def Keys (l : List Ke) : Prop := ∀ k ∈ l, kOk k.kind = true
/-- Is an entry wrong? -/
def wrongK (l : List Ke) (x : Ky) : Bool := l.any (fun k => !hasK k x) || !x.good
theorem wrong_spec (l : List Ke) (hk : Keys l) (hl : l.length ≤ 100000) (x : Ky) (hx : x.Len) (st : Store) : Rets P F.ties_order_wrong [.agg (ordC l), x.pv] st (.bool (wrongK l x)) := by
  have c1 := odd_spec10 x.score hx.score
  have c2 := contR_spec (fn0 F.ties_odd) F.ties_odd [] rfl (fun r => !r.good) x.totals (fun d hd st => odd_spec10 d (hx.totals d hd) st) hx.lt
  have c3 := contR_spec (fn0 F.ties_odd) F.ties_odd [] rfl (fun r => !r.good) x.prev (fun d hd st => odd_spec10 d (hx.prev d hd) st) hx.lp
  have eg : x.good = (x.score.good && (!x.totals.any (fun r => !r.good) && !x.prev.any (fun r => !r.good))) := by
    unfold Ky.good
    rw [List.all_eq_not_any_not, List.all_eq_not_any_not]
  obtain ⟨v1, hv1⟩ : ∃ v, v = x.score.good := ⟨_, rfl⟩
  obtain ⟨v2, hv2⟩ : ∃ v, v = x.totals.any (fun r => !r.good) := ⟨_, rfl⟩
  obtain ⟨v3, hv3⟩ : ∃ v, v = x.prev.any (fun r => !r.good) := ⟨_, rfl⟩
  rw [← hv1] at c1 eg
  rw [← hv2] at c2 eg
  rw [← hv3] at c3 eg
  have kW : Hid (wrongK l x = (l.any (fun k => !hasK k x) || !x.good)) := ⟨rfl⟩
  rw [eg] at kW
  clear hv1 hv2 hv3 eg
  obtain ⟨w, hw⟩ : ∃ w, w = wrongK l x := ⟨_, rfl⟩
  rw [← hw] at kW ⊢
  clear hw
  have hrl : (hasRow l).length = l.length := by simp [hasRow]
  refine H.ties_order_wrong.view hmix rfl rfl ?_
  unfold ordC
  repeat' (first 
   | (with_reducible refine Fresh.intro fun b hb => ?_) <;> (try simp -dsimp -implicitDefEqProofs [*] at hb)
   | (simp -dsimp -implicitDefEqProofs [*]))
  rename_i b5 h5
  revert b; intro b6 h6
  refine xloop_for (fun n : Nat => [(3, .ptr b6 0), (8, .list false (hasRow l) l.length), (9, .int l.length), (10, .int n)]) (fun _ => (b6, .arr T.apiKeyed x.enc) :: st) (fun n => n ≤ l.length ∧ Hid (∀ j (hj : j < n) (hl : j < l.length), hasK l[j] x = true)) (fun n => l.length - n) 0 ⟨Nat.zero_le _, ⟨fun j hj => absurd hj (by omega)⟩⟩ (by simp) ?_ ?_
  · exact (by repeat' (first | exact StLe.refl _ | (refine StLe_cons (by simp [*]; done) ?_) | (refine StLe_fresh (by simp [*]; done) ?_)))
  rintro n ⟨hn, he2⟩
  have h6 := h6.2
  clear h5
  by_cases hnl : n < l.length
  · have ww := wrap_succ (n := n) (by omega)
    have hg : ∀ h, (hasRow l)[n]'h = hasC l[n] := fun h => by simp [hasRow]
    have hs := has_spec l[n] x (hk _ (List.getElem_mem hnl))
    have hhit : Hid (hasK l[n] x = false → w = true) := ⟨fun h => by
      rw [kW.out]
      have : l.any (fun k => !hasK k x) = true := List.any_eq_true.2 ⟨_, List.getElem_mem hnl, by rw [h]; rfl⟩
      rw [this]; rfl⟩
    have hno : Hid (hasK l[n] x = true → ∀ j (hj : j < n + 1) (hl : j < l.length), hasK l[j] x = true) := ⟨fun hp j hj hl => if h : j = n then by subst h; exact hp else he2.out j (by omega) hl⟩
    clear kW he2 c1 c2 c3 hk
    unfold hasC at hg
    obtain ⟨v, hv⟩ : ∃ v, v = hasK l[n] x := ⟨_, rfl⟩
    rw [← hv] at hs hhit hno
    obtain ⟨A, hA⟩ : ∃ A, A = kC l[n].kind := ⟨_, rfl⟩
    obtain ⟨B, hB⟩ : ∃ A, A = l[n].enc := ⟨_, rfl⟩
    rw [← hA, ← hB] at hs hg
    clear hv hA hB
    cases v with
    | true =>
      repeat' (first 
       | (with_reducible refine Rets.xcall (hs _) ?_)
       | (simp -dsimp -implicitDefEqProofs [*]))
      exact Next.intro (n + 1) ⟨by omega, ⟨hno.out rfl⟩⟩ (by omega) (by simp) (by repeat' (first | exact StLe.refl _ | (refine StLe_cons (by simp [*]; done) ?_) | (refine StLe_fresh (by simp [*]; done) ?_)))
    | false =>
      have e := hhit.out rfl
      subst e
      clear hhit hno
      repeat' (first 
       | (with_reducible refine Rets.xcall (hs _) ?_)
       | (simp -dsimp -implicitDefEqProofs [*]))
      exact RetView.drop (st' := st) (by repeat' (first | exact StLe.refl _ | (refine StLe_cons (by simp [*]; done) ?_) | (refine StLe_fresh (by simp [*]; done) ?_))) ⟨rfl, rfl⟩
  · have e : n = l.length := by omega
    subst e
    have hh : l.any (fun k => !hasK k x) = false := by
      rw [List.any_eq_false]
      intro k hk
      obtain ⟨j, hj, rfl⟩ := List.mem_iff_getElem.1 hk
      rw [he2.out j hj hj]; simp
    have e2 : w = (!(v1 && (!v2 && !v3))) := by rw [kW.out, hh]; rfl
    subst e2
    clear hh kW he2 hk
    cases v1 <;> cases v2 <;> cases v3
    all_goals
      repeat' (first 
       | (with_reducible refine Rets.xcall (c1 _) ?_)
       | (with_reducible refine Rets.xcall (c2 _) ?_)
       | (with_reducible refine Rets.xcall (c3 _) ?_)
       | (simp -dsimp -implicitDefEqProofs [*]))
      exact RetView.drop (st' := st) (by repeat' (first | exact StLe.refl _ | (refine StLe_cons (by simp [*]; done) ?_) | (refine StLe_fresh (by simp [*]; done) ?_))) ⟨rfl, rfl⟩
end Go.Proofs.Ytliglilanpfjhaa
/- Comparing entries. -/
namespace Go.Proofs.Ytliglilanpfjhaa
open Go.Pv
set_option maxRecDepth 100000
set_option maxHeartbeats 8000000
/-- What is compared, the lesser being first. -/
def vec (l : List Ke) (x : Ky) : List Rat := -x.score.val :: l.map fun k => keyV k x
theorem vec_len (l : List Ke) (x : Ky) : (vec l x).length = l.length + 1 := by simp [vec]
theorem right_has {l : List Ke} {x : Ky} (h : wrongK l x = false) : (∀ k ∈ l, hasK k x = true) ∧ x.good = true := by
  unfold wrongK at h
  simp only [Bool.or_eq_false_iff, Bool.not_eq_false'] at h
  refine ⟨fun k hk => ?_, h.2⟩
  have := List.any_eq_false.1 h.1 k hk
  simpa using this
theorem lexc_at {l m : List Rat} {i : Nat} (h1 : i < l.length) (h2 : i < m.length) : lexc (l.drop i) (m.drop i) i = if cmpR l[i] m[i] = 0 then lexc (l.drop (i + 1)) (m.drop (i + 1)) (i + 1) else (cmpR l[i] m[i], (i : Int)) := by
  rw [List.drop_eq_getElem_cons h1, List.drop_eq_getElem_cons h2, lexc_cons]
theorem lexc_end {l m : List Rat} {i : Nat} (h1 : l.length ≤ i) : lexc (l.drop i) (m.drop i) i = (0, -1) := by
  rw [List.drop_of_length_le h1]
  cases m.drop i <;> rfl
theorem ordCompare_spec (l : List Ke) (hk : Keys l) (hl : l.length ≤ 100000) (a d : Ky) (ha : wrongK l a = false) (hb : wrongK l d = false) (st : Store) :
    Rets P F.ties_order_compare [.agg (ordC l), a.pv, d.pv] st (.tuple [.int (lexc (vec l a) (vec l d) 0).1, .int (lexc (vec l a) (vec l d) 0).2]) := by
  obtain ⟨ka, ga⟩ := right_has ha
  obtain ⟨kb, gb⟩ := right_has hb
  have cs := score_spec a d ga gb
  have cf := fun k hm => first_spec k a d (hk k hm) (ka k hm) (kb k hm) ga gb
  have hat : Hid (∀ i (h1 : i < (vec l a).length) (h2 : i < (vec l d).length) (h3 : i < (firstRow l).length), ∃ g cap, (firstRow l)[i]'h3 = .func (.func g) [] cap ∧ ∀ st, Rets P g (a.pv :: d.pv :: cap) st (.int (cmpR (vec l a)[i] (vec l d)[i]))) := ⟨fun i h1 h2 h3 => by
    cases i with
    | zero => exact ⟨_, _, rfl, cs⟩
    | succ j =>
      have hj : j < l.length := by rw [vec_len] at h1; omega
      refine ⟨F.ties_plain_3, [.iptr (kC l[j].kind) 0, .iptr l[j].enc 0], by simp [firstRow, firstC], fun st => ?_⟩
      have := cf l[j] (List.getElem_mem hj) st
      simpa [vec] using this⟩
  clear cs cf ka kb ga gb ha hb hk
  have la := vec_len l a
  have lb := vec_len l d
  obtain ⟨va, hva⟩ : ∃ v, v = vec l a := ⟨_, rfl⟩
  obtain ⟨vb, hvb⟩ : ∃ v, v = vec l d := ⟨_, rfl⟩
  rw [← hva, ← hvb] at hat ⊢
  rw [← hva] at la
  rw [← hvb] at lb
  clear hva hvb
  have lr : (firstRow l).length = l.length + 1 := by simp [firstRow]
  obtain ⟨F1, hF1⟩ : ∃ v, v = firstRow l := ⟨_, rfl⟩
  obtain ⟨H1, hH1⟩ : ∃ v, v = hasRow l := ⟨_, rfl⟩
  unfold ordC
  rw [← hF1] at lr hat ⊢
  rw [← hH1]
  clear hF1 hH1
  obtain ⟨r, hr⟩ : ∃ r, r = lexc va vb 0 := ⟨_, rfl⟩
  have kR : Hid (r = lexc va vb 0) := ⟨hr⟩
  rw [← hr]
  clear hr
  obtain ⟨N, hN⟩ : ∃ N, N = l.length + 1 := ⟨_, rfl⟩
  have eN : (l.length : Int) + 1 = N := by omega
  have lN : N ≤ 100001 := by omega
  rw [← hN] at la lb lr ⊢
  clear hN hl eN
  refine H.ties_order_compare.view hmix rfl rfl ?_
  repeat' (first 
   | (with_reducible refine Fresh.intro fun b hb => ?_) <;> (try simp -dsimp -implicitDefEqProofs [*] at hb)
   | (simp -dsimp -implicitDefEqProofs [*]))
  rename_i b3 h3 b4 h4
  revert b; intro b5 h5
  refine xloop_for (fun n : Nat => [(4, .ptr b4 0), (5, .ptr b5 0), (12, .list false F1 N), (13, .int N), (14, .int n)]) (fun _ => (b5, .arr T.apiKeyed d.enc) :: (b4, .arr T.apiKeyed a.enc) :: st) (fun n => n ≤ N ∧ Hid (r = lexc (va.drop n) (vb.drop n) n)) (fun n => N - n) 0 ⟨Nat.zero_le _, ⟨kR.out⟩⟩ (by simp) ?_ ?_
  · exact StLe_same (StLe_same (.fresh h3))
  rintro n ⟨hn, hI⟩
  have n5 : snew st b5 := h5.2.2
  have n4 : snew st b4 := h4.2
  have n45 : ¬ b4 = b5 ∧ ¬ b5 = b4 := ⟨h5.1.1, h5.1.2⟩
  clear h3 h4 h5 kR
  by_cases hnl : n < N
  · have ww := wrap_succ (n := n) (by omega)
    obtain ⟨g, cap, hg, hc⟩ := hat.out n (by omega) (by omega) (by omega)
    have hg : ∀ h, F1[n]'h = .func (.func g) [] cap := fun h => hg
    have hs : Hid (r = if cmpR (va[n]'(by omega)) (vb[n]'(by omega)) = 0 then lexc (va.drop (n + 1)) (vb.drop (n + 1)) (n + 1) else (cmpR (va[n]'(by omega)) (vb[n]'(by omega)), (n : Int))) := ⟨by rw [hI.out]; exact lexc_at (by omega) (by omega)⟩
    obtain ⟨c, hcc⟩ : ∃ c, c = cmpR (va[n]'(by omega)) (vb[n]'(by omega)) := ⟨_, rfl⟩
    rw [← hcc] at hc hs
    clear hcc hat hI
    by_cases hc0 : c = 0
    · subst hc0
      have hs2 : Hid (r = lexc (va.drop (n + 1)) (vb.drop (n + 1)) (n + 1)) := ⟨by rw [hs.out, if_pos rfl]⟩
      clear hs
      repeat' (first 
       | (with_reducible refine Rets.xcall (hc _) ?_)
       | (simp -dsimp -implicitDefEqProofs [*]))
      exact Next.intro (n + 1) ⟨by omega, hs2⟩ (by omega) (by simp) (by repeat' (first | exact StLe.refl _ | (refine StLe_cons (by simp [*]; done) ?_) | (refine StLe_fresh (by simp [*]; done) ?_)))
    · have hs2 : r = (c, (n : Int)) := by rw [hs.out, if_neg hc0]
      subst hs2
      clear hs
      repeat' (first 
       | (with_reducible refine Rets.xcall (hc _) ?_)
       | (simp -dsimp -implicitDefEqProofs [*]))
      exact RetView.drop (st' := st) (by repeat' (first | exact StLe.refl _ | (refine StLe_cons (by simp [*]; done) ?_) | (refine StLe_fresh (by simp [*]; done) ?_))) ⟨rfl, rfl⟩
  · have e : n = N := by omega
    have hs2 : r = (0, -1) := by rw [hI.out]; exact lexc_end (by omega)
    subst hs2
    subst e
    clear hI hat
    repeat' (simp -dsimp -implicitDefEqProofs [*])
    exact RetView.drop (st' := st) (by repeat' (first | exact StLe.refl _ | (refine StLe_cons (by simp [*]; done) ?_) | (refine StLe_fresh (by simp [*]; done) ?_))) ⟨rfl, rfl⟩
/-- What Compare answers. -/
def cmpE (l : List Ke) (a b : Ky) : Int := if ((decide ((okKeys l).length = l.length) && decide (l.length ≤ 32)) && (!wrongK (okKeys l) a && !wrongK (okKeys l) b)) = true then 0 else 210
def cmpA (l : List Ke) (a b : Ky) : Int × Int := if cmpE l a b = 0 then lexc (vec (okKeys l) a) (vec (okKeys l) b) 0 else (0, 0)
theorem okKeys_keys (l : List Ke) : Keys (okKeys l) := fun k hk => by
  have key : ∀ m : List Ke, ∀ k ∈ m.takeWhile (fun k => kOk k.kind), kOk k.kind = true := by
    intro m
    induction m with
    | nil => intro k hk; simp at hk
    | cons y m ih =>
      intro k hk
      rw [List.takeWhile_cons] at hk
      split at hk
      · rename_i hy
        rcases List.mem_cons.1 hk with rfl | hk
        · exact hy
        · exact ih k hk
      · simp at hk
  exact key l k hk
theorem okKeys_le (l : List Ke) : (okKeys l).length ≤ l.length := (List.takeWhile_sublist _).length_le
@[simp] theorem ordC_sub (l : List Ke) : sub (ordC l) 0 2 = some (ordC l) := rfl
@[simp] theorem ordC_len (l : List Ke) : (ordC l).length = 2 := rfl
theorem compareT_spec (l : List Ke) (hl : l.length ≤ 100000) (a d : Ky) (ha : a.Len) (hd : d.Len) (st : Store) :
    Rets P F.ties_Compare [Ke.lst l, a.pv, d.pv] st (.tuple [.int (cmpA l a d).1, .int (cmpA l a d).2, .int (cmpE l a d)]) := by
  have cp := plain_spec l hl
  have c1 := wrong_spec (okKeys l) (okKeys_keys l) (by have := okKeys_le l; omega) a ha
  have c2 := wrong_spec (okKeys l) (okKeys_keys l) (by have := okKeys_le l; omega) d hd
  have cc := ordCompare_spec (okKeys l) (okKeys_keys l) (by have := okKeys_le l; omega) a d
  unfold cmpA cmpE
  obtain ⟨r, hr⟩ : ∃ r, r = lexc (vec (okKeys l) a) (vec (okKeys l) d) 0 := ⟨_, rfl⟩
  obtain ⟨v0, h0⟩ : ∃ v, v = (decide ((okKeys l).length = l.length) && decide (l.length ≤ 32)) := ⟨_, rfl⟩
  obtain ⟨v1, h1⟩ : ∃ v, v = wrongK (okKeys l) a := ⟨_, rfl⟩
  obtain ⟨v2, h2⟩ : ∃ v, v = wrongK (okKeys l) d := ⟨_, rfl⟩
  rw [← h0] at cp ⊢
  rw [← h1] at c1 cc ⊢
  rw [← h2] at c2 cc ⊢
  rw [← hr] at cc ⊢
  obtain ⟨O, hO⟩ : ∃ O, O = ordC (okKeys l) := ⟨_, rfl⟩
  have lO : O.length = 2 := by rw [hO]; rfl
  have sO : sub O 0 2 = some O := by rw [hO]; rfl
  have aO : setCells [.nil, .nil] 0 O = O := setCells_all O _ lO
  rw [← hO] at cp c1 c2 cc
  clear h0 h1 h2 hr hO
  cases v0 with
  | false =>
    clear c1 c2 cc
    refine H.ties_Compare.view hmix rfl rfl ?_
    repeat' (first 
     | (with_reducible refine Fresh.intro fun b hb => ?_) <;> (try simp -dsimp -implicitDefEqProofs [*] at hb)
     | (with_reducible refine Rets.xcall (cp _) ?_)
     | (simp -dsimp -implicitDefEqProofs [*]))
    exact RetView.drop (st' := st) (by repeat' (first | exact StLe.refl _ | (refine StLe_cons (by simp [*]; done) ?_) | (refine StLe_fresh (by simp [*]; done) ?_))) ⟨rfl, rfl⟩
  | true =>
    cases v1 with
    | true =>
      clear c2 cc
      refine H.ties_Compare.view hmix rfl rfl ?_
      repeat' (first 
       | (with_reducible refine Fresh.intro fun b hb => ?_) <;> (try simp -dsimp -implicitDefEqProofs [*] at hb)
       | (with_reducible refine Rets.xcall (cp _) ?_)
       | (with_reducible refine Rets.xcall (c1 _) ?_)
       | (simp -dsimp -implicitDefEqProofs [*]))
      exact RetView.drop (st' := st) (by repeat' (first | exact StLe.refl _ | (refine StLe_cons (by simp [*]; done) ?_) | (refine StLe_fresh (by simp [*]; done) ?_))) ⟨rfl, rfl⟩
    | false =>
      cases v2 with
      | true =>
        clear cc
        refine H.ties_Compare.view hmix rfl rfl ?_
        repeat' (first 
         | (with_reducible refine Fresh.intro fun b hb => ?_) <;> (try simp -dsimp -implicitDefEqProofs [*] at hb)
         | (with_reducible refine Rets.xcall (cp _) ?_)
         | (with_reducible refine Rets.xcall (c1 _) ?_)
         | (with_reducible refine Rets.xcall (c2 _) ?_)
         | (simp -dsimp -implicitDefEqProofs [*]))
        exact RetView.drop (st' := st) (by repeat' (first | exact StLe.refl _ | (refine StLe_cons (by simp [*]; done) ?_) | (refine StLe_fresh (by simp [*]; done) ?_))) ⟨rfl, rfl⟩
      | false =>
        have cc := cc rfl rfl
        refine H.ties_Compare.view hmix rfl rfl ?_
        repeat' (first 
         | (with_reducible refine Fresh.intro fun b hb => ?_) <;> (try simp -dsimp -implicitDefEqProofs [*] at hb)
         | (with_reducible refine Rets.xcall (cp _) ?_)
         | (with_reducible refine Rets.xcall (c1 _) ?_)
         | (with_reducible refine Rets.xcall (c2 _) ?_)
         | (with_reducible refine Rets.xcall (cc _) ?_)
         | (simp -dsimp -implicitDefEqProofs [*]))
        exact RetView.drop (st' := st) (by repeat' (first | exact StLe.refl _ | (refine StLe_cons (by simp [*]; done) ?_) | (refine StLe_fresh (by simp [*]; done) ?_))) ⟨rfl, rfl⟩
end Go.Proofs.Ytliglilanpfjhaa

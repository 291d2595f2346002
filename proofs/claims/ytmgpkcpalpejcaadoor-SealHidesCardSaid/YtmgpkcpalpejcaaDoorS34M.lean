/- Encodings by the reference. -/
import Derived.Test.YtmgpkcpalpejcaaDoorS34K
namespace Go.Proofs.YtmgpkcpalpejcaaDoor
open Go.Pv Go.Pv.Sha
set_option maxRecDepth 100000
set_option maxHeartbeats 4000000
/-- A literal that grows. -/
theorem xappend_lit {α : Type} {row : List α → List PV} {k : Nat} (hrl : ∀ l, (row l).length = l.length * k) (hra : ∀ l m, row (l ++ m) = row l ++ row m) {T : TypeId} {bytes : Nat} {st : Store} {K : PV → Store → Prop}
    (ys xs : List α) {new : List PV} {m n : Nat} (hn : ys.length = n) (hnew : row xs = new) (hm : xs.length = m) (hm0 : 0 < m) (hsz : (n + m) * bytes ≤ 140737488355328)
    (h : ∀ o' : Option (Acc α), accOk row k st o' → accL o' = ys ++ xs → K (accP o') (accS T st o')) : xappend T bytes k (.list true (row ys) n) new m st K := by
  have h1 : xappend T bytes k .nil (row ys ++ new) (n + m) st K := xappend_acc0 hrl (ys ++ xs) (by rw [hra, hnew]) (by rw [List.length_append, hn, hm]) (by omega) (by simpa using hsz) fun a' ha' hl' hb' => h (some a') ⟨ha', hb'⟩ (by simpa using hl')
  rw [xappend_nil] at h1
  rw [xappend_list]
  exact ⟨fun h => absurd h (by omega), fun _ => ⟨rfl, by rw [hrl, hn], h1.2 (by omega)⟩⟩
theorem numE_pos (n : Nat) : 0 < (numE n).length := by
  by_cases h : n < 128
  · rw [numE_lt h]; simp
  · rw [numE_ge h]; simp
theorem refNumeral (u : Nat) : u < 18446744073709551616 → ∀ st, Rets P F.podiumref01_numeral [.val (.int .u64 (u : Int))] st (byteLst false (numE u)) := by
  induction u using Nat.strongRecOn with
  | ind u ih =>
    intro hu st
    refine H.podiumref01_numeral.view hmix rfl rfl ?_
    have hb := wrap_byte u
    by_cases h128 : u < 128
    · have h : (u : Int) < 128 := by omega
      rw [numE_lt h128]
      generalize BitVec.ofNat 8 u = x at *
      repeat' (first 
       | (with_reducible refine Lit.imm ?_)
       | (simp -dsimp -implicitDefEqProofs [*]))
      exact .loose1 (.same ⟨rfl, rfl⟩)
    · have h : ¬ (u : Int) < 128 := by omega
      have ih' := fun st => ih (u / 128) (by omega) (by omega) st
      clear ih hb
      obtain ⟨v, hv⟩ : ∃ v, u / 128 = v := ⟨_, rfl⟩
      obtain ⟨r, hr⟩ : ∃ r, u % 128 = r := ⟨_, rfl⟩
      have hr1 : (u : Int) % 128 = r := by omega
      have hr2 : (u : Int).tmod 128 = r := by rw [Int.tmod_eq_emod_of_nonneg (by omega)]; omega
      have hv1 : (u : Int) / 128 = v := by omega
      have w1 : IntKind.u64.wrap (v : Int) = v := u64_in (by omega) (by omega)
      have w2 : IntKind.u64.wrap ((r : Int) + 128) = (r : Int) + 128 := u64_in (by omega) (by omega)
      have w3 : IntKind.u64.wrap (r : Int) = r := u64_in (by omega) (by omega)
      have hb : PV.val (.int .u8 (IntKind.u8.wrap ((r : Int) + 128))) = bv (BitVec.ofNat 8 (r + 128)) := wrap_byte (r + 128)
      rw [numE_ge h128, hr, hv]
      rw [hv] at ih'
      have hnl := numE_len10 (n := v) (by omega)
      have hnp := numE_pos v
      clear hv hr
      generalize BitVec.ofNat 8 (r + 128) = x at *
      generalize numE v = E at *
      repeat' (first 
       | (with_reducible refine Rets.xcall (ih' _) ?_)
       | (with_reducible refine Lit.imm ?_)
       | (simp -dsimp -implicitDefEqProofs [-xappend_list, *]))
      refine xappend_lit (bytes := 1) (n := 1) byteRow_len byteRow_append [x] E rfl rfl rfl hnp (by omega) fun o ho hol => ?_
      have kl : Hid (accL o = x :: E) := ⟨hol⟩
      clear hol
      repeat' (simp -dsimp -implicitDefEqProofs [-xappend_list, *])
      exact RetView.accP1 rfl ho (.same ⟨by rw [kl.out], rfl⟩)
theorem refUnsigned (n : Nat) (hn : n < 1000000000000) (st : Store) : Rets P F.podiumref01_unsigned [.int (n : Int)] st (.val (.int .u64 ((2 * n : Nat) : Int))) := by
  refine H.podiumref01_unsigned.pure hmix rfl rfl ?_
  have h1 : IntKind.u64.wrap (n : Int) = n := u64_in (by omega) (by omega)
  have h2 : IntKind.u64.wrap (2 * (n : Int)) = 2 * (n : Int) := u64_in (by omega) (by omega)
  repeat' (simp -dsimp -implicitDefEqProofs [*])
theorem refEncInt (n : Nat) (hn : n < 1000000000000) (st : Store) : Rets P F.podiumref01_encode [.agg (intV n)] st (byteLst false (1#8 :: numE (2 * n))) := by
  refine H.podiumref01_encode.view hmix rfl rfl ?_
  have hu := fun st => refUnsigned n hn st
  have hm := fun st => refNumeral (2 * n) (by omega) st
  have hnl := numE_len10 (n := 2 * n) (by omega)
  have hnp := numE_pos (2 * n)
  have e : ((2 * n : Nat) : Int) = 2 * (n : Int) := by omega
  rw [e] at hu hm
  generalize numE (2 * n) = E at *
  repeat' (first 
   | (with_reducible refine Fresh.intro fun b hb => ?_) <;> (try simp -dsimp -implicitDefEqProofs [*] at hb)
   | (with_reducible refine Rets.xcall (hu _) ?_)
   | (with_reducible refine Rets.xcall (hm _) ?_)
   | (with_reducible refine Lit.imm ?_)
   | (simp -dsimp -implicitDefEqProofs [-xappend_list, *]))
  refine xappend_lit (bytes := 1) (n := 1) byteRow_len byteRow_append [1#8] E rfl rfl rfl hnp (by omega) fun o ho hol => ?_
  have kl : Hid (accL o = 1#8 :: E) := ⟨hol⟩
  clear hol
  repeat' (simp -dsimp -implicitDefEqProofs [-xappend_list, *])
  exact RetView.accP1 rfl ho (.drop (by repeat' (first | exact StLe.refl _ | (refine StLe_cons (by simp [*]; done) ?_) | (refine StLe_fresh (by simp [*]; done) ?_))) ⟨by rw [kl.out], rfl⟩)
theorem refEncText (x : ByteArray) (hx : x.size ≤ 1000) (st : Store) : Rets P F.podiumref01_encode [.agg (textV x)] st (byteLst false (2#8 :: (numE x.size ++ strB x))) := by
  refine H.podiumref01_encode.view hmix rfl rfl ?_
  have hm := fun st => refNumeral x.size (by omega) st
  have hsz : IntKind.u64.wrap (x.size : Int) = (x.size : Int) := u64_in (by omega) (by omega)
  have hnl := numE_len10 (n := x.size) (by omega)
  have hnp := numE_pos x.size
  generalize numE x.size = E at *
  repeat' (first 
   | (with_reducible refine Fresh.intro fun b hb => ?_) <;> (try simp -dsimp -implicitDefEqProofs [*] at hb)
   | (with_reducible refine Rets.xcall (hm _) ?_)
   | (with_reducible refine DrawLate.intro [] ?_)
   | (simp -dsimp -implicitDefEqProofs [-xappend_list, *]))
  refine xappend_lit (bytes := 1) (n := 1) byteRow_len byteRow_append [2#8] E rfl rfl rfl hnp (by omega) fun o ho hol => ?_
  have kl : Hid (accL o = 2#8 :: E) := ⟨hol⟩
  clear hol
  refine ⟨Cls_acc ho (Cls.self _ _), ?_⟩
  repeat' (simp -dsimp -implicitDefEqProofs [-xappend_list, *])
  refine xappend_accP0 byteRow_len byteRow_append o ho (strB x) (strCells_eq x).symm (strB_len x) (by rw [kl.out]; simp; omega) fun o3 ho3 hl3 => ?_
  have kl3 : Hid (accL o3 = 2#8 :: (E ++ strB x)) := ⟨by rw [hl3, kl.out]; simp⟩
  clear hl3 kl
  refine ⟨Cls_acc ho3 (Cls.self _ _), ?_⟩
  repeat' (simp -dsimp -implicitDefEqProofs [-xappend_list, *])
  exact RetView.accP1 rfl ho3 (.drop (by repeat' (first | exact StLe.refl _ | (refine StLe_cons (by simp [*]; done) ?_) | (refine StLe_fresh (by simp [*]; done) ?_))) ⟨by rw [kl3.out], rfl⟩)
theorem refEncList (l : List Wv) (hl : l.length ≤ 100) (hB : ∀ v ∈ l, v.B.length ≤ 2000) (hok : ∀ v ∈ l, ∀ st, Rets P F.podiumref01_encode [.agg v.row] st (byteLst false v.B)) (st : Store) : Rets P F.podiumref01_encode [.agg (listV (l.flatMap Wv.row) l.length)] st (byteLst false (3#8 :: (numE l.length ++ l.flatMap Wv.B))) := by
  refine H.podiumref01_encode.view hmix rfl rfl ?_
  have hm := fun st => refNumeral l.length (by omega) st
  have hsz : IntKind.u64.wrap (l.length : Int) = (l.length : Int) := u64_in (by omega) (by omega)
  have hnl := numE_len10 (n := l.length) (by omega)
  have hnp := numE_pos l.length
  generalize numE l.length = E at *
  repeat' (first 
   | (with_reducible refine Fresh.intro fun b hb => ?_) <;> (try simp -dsimp -implicitDefEqProofs [*] at hb)
   | (with_reducible refine Rets.xcall (hm _) ?_)
   | (with_reducible refine Lit.imm ?_)
   | (simp -dsimp -implicitDefEqProofs [-xappend_list, *]))
  refine xappend_lit (bytes := 1) (n := 1) byteRow_len byteRow_append [3#8] E rfl rfl rfl hnp (by omega) fun o ho hol => ?_
  have kl : Hid (accL o = 3#8 :: E) := ⟨hol⟩
  clear hol hm hsz
  repeat' (simp -dsimp -implicitDefEqProofs [-xappend_list, *])
  have hgb : sget ((b, .arr T.apiValue (listV (l.flatMap Wv.row) l.length)) :: st) b = some (.arr T.apiValue (listV (l.flatMap Wv.row) l.length)) := by simp
  have hns : snew st b := ‹_›
  have hle : ∀ q : Option (Acc (BitVec 8)), accOk byteRow 1 ((b, .arr T.apiValue (listV (l.flatMap Wv.row) l.length)) :: st) q → RetView .ret (accP q) (accS T.uint8 ((b, .arr T.apiValue (listV (l.flatMap Wv.row) l.length)) :: st) q) (fun e s => e = .ret (byteLst false (accL q)) ∧ s = st) := fun q hq => RetView.accP1 rfl hq (.drop (.fresh hns) ⟨rfl, rfl⟩)
  have kle : Hid (∀ q : Option (Acc (BitVec 8)), accOk byteRow 1 ((b, .arr T.apiValue (listV (l.flatMap Wv.row) l.length)) :: st) q → RetView .ret (accP q) (accS T.uint8 ((b, .arr T.apiValue (listV (l.flatMap Wv.row) l.length)) :: st) q) (fun e s => e = .ret (byteLst false (accL q)) ∧ s = st)) := ⟨hle⟩
  clear hle hns
  have hlrow : ∃ rows, l.flatMap Wv.row = rows ∧ rows.length = l.length * 4 := ⟨_, rfl, flat_length (enc := Wv.row) (k := 4) (fun _ => rfl) l⟩
  obtain ⟨rows, hrows, hfl⟩ := hlrow
  rw [hrows] at hgb kle ho
  rw [hrows]
  generalize hst1 : (b, PObj.arr T.apiValue (listV rows l.length)) :: st = st1 at *
  have kok : Hid (∀ v ∈ l, ∀ st, Rets P F.podiumref01_encode [.agg v.row] st (byteLst false v.B)) := ⟨hok⟩
  have kB : Hid (∀ v ∈ l, v.B.length ≤ 2000) := ⟨hB⟩
  have krows : Hid (l.flatMap Wv.row = rows) := ⟨hrows⟩
  clear hok hB hst1 hrows
  refine xloop_for (fun y : Nat × Option (Acc (BitVec 8)) => [(1, .ptr b 0), (3, accP y.2), (4, .int (y.1 : Nat))]) (fun y => accS T.uint8 st1 y.2) (fun y => y.1 ≤ l.length ∧ accOk byteRow 1 st1 y.2 ∧ accL y.2 = 3#8 :: (E ++ (l.take y.1).flatMap Wv.B)) (fun y => l.length - y.1) (0, o) ⟨by omega, ho, by rw [kl.out]; simp⟩ (by simp) (.refl _) ?_
  clear kl ho
  clear o
  rintro ⟨i, q⟩ ⟨hi, hq, hql⟩
  simp only at hi hq hql
  have kl : Hid (accL q = 3#8 :: (E ++ (l.take i).flatMap Wv.B)) := ⟨hql⟩
  clear hql
  have hgq := sget_acc (T := T.uint8) hq hgb
  by_cases hil : i < l.length
  · have hv := kok.out l[i] (List.getElem_mem hil)
    have hs := flat_sub (enc := Wv.row) (k := 4) (fun _ => rfl) l i hil
    rw [krows.out] at hs
    have kT : Hid ((l.take (i + 1)).flatMap Wv.B = (l.take i).flatMap Wv.B ++ l[i].B) := ⟨by rw [List.take_succ_eq_append_getElem hil, List.flatMap_append, List.flatMap_cons, List.flatMap_nil, List.append_nil]⟩
    have hwi := wrap_succ (n := i) (by omega)
    have hb2 := kB.out l[i] (List.getElem_mem hil)
    have hlq : (accL q).length ≤ 1000000 := by
      rw [kl.out]
      have h1 := flatB_len (l.take i) fun v hv => kB.out v (List.mem_of_mem_take hv)
      simp only [List.length_append, List.length_cons, List.length_take] at h1 ⊢
      omega
    generalize l[i] = v at *
    repeat' (first 
     | (with_reducible refine Rets.xcall (hv _) ?_)
     | (simp -dsimp -implicitDefEqProofs [-xappend_list, *]))
    refine xappend_accP0 byteRow_len byteRow_append q hq v.B rfl rfl (by omega) fun q2 hq2 hl2 => ?_
    have kl2 : Hid (accL q2 = 3#8 :: (E ++ (l.take (i + 1)).flatMap Wv.B)) := ⟨by rw [hl2, kl.out, kT.out]; simp⟩
    clear hl2 kl
    repeat' (simp -dsimp -implicitDefEqProofs [-xappend_list, *])
    exact Next.intro (i + 1, q2) ⟨by simp only; omega, hq2, kl2.out⟩ (by simp only; omega) (by simp) (by repeat' (first | exact StLe.refl _ | (refine StLe_cons (by simp [*]; done) ?_) | (refine StLe_fresh (by simp [*]; done) ?_)))
  · have e : i = l.length := by omega
    subst e
    have kl2 : Hid (accL q = 3#8 :: (E ++ l.flatMap Wv.B)) := ⟨by rw [kl.out, List.take_length]⟩
    have hend := kle.out q hq
    clear kl
    rw [kl2.out] at hend
    repeat' (simp -dsimp -implicitDefEqProofs [-xappend_list, *])
end Go.Proofs.YtmgpkcpalpejcaaDoor
/- Encodings by the reference: values that are well-formed. -/
namespace Go.Proofs.YtmgpkcpalpejcaaDoor
open Go.Pv Go.Pv.Sha
set_option maxRecDepth 100000
set_option maxHeartbeats 4000000
def DepthN (D : Nat) (st : Store) (e : PEnd) (s : Store) : Prop := ∃ d : Nat, d ≤ D ∧ e = .ret (.int (d : Int)) ∧ s = st
theorem refFormedInt (n : Nat) (st : Store) : Rets P F.podiumref01_Formed [.agg (intV n)] st (.bool true) := by
  refine H.podiumref01_Formed.pure hmix rfl rfl ?_
  repeat' (first 
   | (with_reducible refine Fresh.intro fun b hb => ?_) <;> (try simp -dsimp -implicitDefEqProofs [*] at hb)
   | (simp -dsimp -implicitDefEqProofs [*]))
theorem refFormedText (x : ByteArray) (st : Store) : Rets P F.podiumref01_Formed [.agg (textV x)] st (.bool true) := by
  refine H.podiumref01_Formed.pure hmix rfl rfl ?_
  repeat' (first 
   | (with_reducible refine Fresh.intro fun b hb => ?_) <;> (try simp -dsimp -implicitDefEqProofs [*] at hb)
   | (simp -dsimp -implicitDefEqProofs [*]))
theorem refDepthInt (n : Nat) (st : Store) : PCalls P F.podiumref01_Depth [.agg (intV n)] st (DepthN 0 st) := by
  refine H.podiumref01_Depth.view hmix rfl rfl ?_
  repeat' (first 
   | (with_reducible refine Fresh.intro fun b hb => ?_) <;> (try simp -dsimp -implicitDefEqProofs [*] at hb)
   | (simp -dsimp -implicitDefEqProofs [*]))
  exact .drop (by repeat' (first | exact StLe.refl _ | (refine StLe_cons (by simp [*]; done) ?_) | (refine StLe_fresh (by simp [*]; done) ?_))) ⟨0, Nat.le_refl _, rfl, rfl⟩
theorem refDepthText (x : ByteArray) (st : Store) : PCalls P F.podiumref01_Depth [.agg (textV x)] st (DepthN 0 st) := by
  refine H.podiumref01_Depth.view hmix rfl rfl ?_
  repeat' (first 
   | (with_reducible refine Fresh.intro fun b hb => ?_) <;> (try simp -dsimp -implicitDefEqProofs [*] at hb)
   | (simp -dsimp -implicitDefEqProofs [*]))
  exact .drop (by repeat' (first | exact StLe.refl _ | (refine StLe_cons (by simp [*]; done) ?_) | (refine StLe_fresh (by simp [*]; done) ?_))) ⟨0, Nat.le_refl _, rfl, rfl⟩
theorem refFormedList (l : List Wv) (hl : l.length ≤ 100) (st : Store) (hf : ∀ v ∈ l, ∀ st, Rets P F.podiumref01_Formed [.agg v.row] st (.bool true)) : Rets P F.podiumref01_Formed [.agg (listV (l.flatMap Wv.row) l.length)] st (.bool true) := by
  refine H.podiumref01_Formed.pure hmix rfl rfl ?_
  have hfl := flat_length (enc := Wv.row) (k := 4) (fun _ => rfl) l
  have hs := fun i h => flat_sub (enc := Wv.row) (k := 4) (fun _ => rfl) l i h
  generalize l.flatMap Wv.row = rows at *
  repeat' (first 
   | (with_reducible refine Fresh.intro fun b hb => ?_) <;> (try simp -dsimp -implicitDefEqProofs [*] at hb)
   | (simp -dsimp -implicitDefEqProofs [*]))
  refine xloop_for (fun i : Nat => [(1, .ptr b 0), (3, .int (i : Nat))]) (fun _ => (b, .arr T.apiValue (listV rows l.length)) :: st) (fun i => i ≤ l.length) (fun i => l.length - i) 0 (by omega) (by simp) (.refl _) ?_
  intro i hi
  by_cases hil : i < l.length
  · have hv := hf l[i] (List.getElem_mem hil)
    have hs' := hs i hil
    clear hs
    have hwi := wrap_succ (n := i) (by omega)
    generalize l[i] = v at *
    repeat' (first 
     | (with_reducible refine Rets.xcall (hv _) ?_)
     | (simp -dsimp -implicitDefEqProofs [*]))
    exact Next.intro (i + 1) (by omega) (by omega) (by simp) (by repeat' (first | exact StLe.refl _ | (refine StLe_cons (by simp [*]; done) ?_) | (refine StLe_fresh (by simp [*]; done) ?_)))
  · have e : i = l.length := by omega
    subst e
    repeat' (simp -dsimp -implicitDefEqProofs [*])
theorem refDepthList (D : Nat) (hD : D ≤ 10) (l : List Wv) (hl : l.length ≤ 100) (st : Store) (hf : ∀ v ∈ l, ∀ st, PCalls P F.podiumref01_Depth [.agg v.row] st (DepthN D st)) :
    PCalls P F.podiumref01_Depth [.agg (listV (l.flatMap Wv.row) l.length)] st (DepthN (D + 1) st) := by
  refine H.podiumref01_Depth.view hmix rfl rfl ?_
  have hfl := flat_length (enc := Wv.row) (k := 4) (fun _ => rfl) l
  have hs := fun i h => flat_sub (enc := Wv.row) (k := 4) (fun _ => rfl) l i h
  generalize l.flatMap Wv.row = rows at *
  repeat' (first 
   | (with_reducible refine Fresh.intro fun b hb => ?_) <;> (try simp -dsimp -implicitDefEqProofs [*] at hb)
   | (simp -dsimp -implicitDefEqProofs [*]))
  refine xloop_for (fun y : Nat × Nat => [(1, .ptr b 0), (3, .int (y.2 : Nat)), (4, .int (y.1 : Nat))]) (fun _ => (b, .arr T.apiValue (listV rows l.length)) :: st) (fun y => y.1 ≤ l.length ∧ y.2 ≤ D) (fun y => l.length - y.1) (0, 0) ⟨by omega, by omega⟩ (by simp) (.refl _) ?_
  rintro ⟨i, d⟩ ⟨hi, hd⟩
  simp only at hi hd
  by_cases hil : i < l.length
  · have hv := hf l[i] (List.getElem_mem hil)
    have hs' := hs i hil
    clear hs hf
    have hwi := wrap_succ (n := i) (by omega)
    generalize l[i] = v at *
    repeat' (simp -dsimp -implicitDefEqProofs [*])
    refine xcall_post (hv _) ?_
    rintro e s2 ⟨d2, hd2, rfl, rfl⟩
    rw [xend_ret]
    clear hv
    by_cases hdd : d < d2
    · repeat' (simp -dsimp -implicitDefEqProofs [*])
      exact Next.intro (i + 1, d2) ⟨by simp only; omega, hd2⟩ (by simp only; omega) (by simp) (by repeat' (first | exact StLe.refl _ | (refine StLe_cons (by simp [*]; done) ?_) | (refine StLe_fresh (by simp [*]; done) ?_)))
    · repeat' (simp -dsimp -implicitDefEqProofs [*])
      exact Next.intro (i + 1, d) ⟨by simp only; omega, hd⟩ (by simp only; omega) (by simp) (by repeat' (first | exact StLe.refl _ | (refine StLe_cons (by simp [*]; done) ?_) | (refine StLe_fresh (by simp [*]; done) ?_)))
  · have e : i = l.length := by omega
    subst e
    have hwd := wrap_succ (n := d) (by omega)
    repeat' (simp -dsimp -implicitDefEqProofs [*])
    exact .drop (by repeat' (first | exact StLe.refl _ | (refine StLe_cons (by simp [*]; done) ?_) | (refine StLe_fresh (by simp [*]; done) ?_))) ⟨d + 1, by omega, by simp, rfl⟩
end Go.Proofs.YtmgpkcpalpejcaaDoor

/- Commitments as values, by the program. -/
import Derived.Test.YtmgpkcpalpejcaaDoorS34O
namespace Go.Proofs.YtmgpkcpalpejcaaDoor
open Go.Pv Go.Pv.Sha
set_option maxRecDepth 100000
set_option maxHeartbeats 4000000
abbrev wvRow (l : List Wv) : List PV := l.flatMap Wv.row
theorem wvRow_len (l : List Wv) : (wvRow l).length = l.length * 4 := flat_length (enc := Wv.row) (k := 4) (fun _ => rfl) l
theorem wvRow_append (l m : List Wv) : wvRow (l ++ m) = wvRow l ++ wvRow m := by simp [wvRow]
abbrev anyInts (l : List Nat) : List PV := l.map fun n : Nat => .iface T.int (.int (n : Int))
inductive Item : PV → Wv → Prop
  | int (n : Nat) : Item (.iface T.int (.int (n : Int))) (intW n)
  | text (x : ByteArray) : Item (.iface T.string (.str x)) (textW x)
  | ints (t : Bool) (l : List Nat) (h0 : 0 < l.length) (hl : l.length ≤ 100) (h : ∀ st, Rets P F.seal_values [.list false (anyInts l) l.length] st (.agg (intsW l).row)) : Item (.iface T.Lint (.list t (l.map fun n : Nat => .int (n : Int)) l.length)) (intsW l)
theorem anyInts_len (l : List Nat) : (anyInts l).length = l.length * 1 := by simp [anyInts]
theorem anyInts_append (l m : List Nat) : anyInts (l ++ m) = anyInts l ++ anyInts m := by simp [anyInts]
theorem Cls.sub {st0 st : Store} {M M' : List Nat} (h : Cls st0 M st) (hs : ∀ c ∈ M, c ∈ M') : Cls st0 M' st := fun c hc => h c fun hm => hc (hs c hm)
theorem Cls.trans' {a b c : Store} {M : List Nat} (h : Cls a M b) (k : Cls b M c) : Cls a M c := fun x hx o ho => k x hx o (h x hx o ho)
theorem Cls_un {α : Type} {T : TypeId} {st : Store} (o : Option (Acc α)) : Cls (accS T st o) (accB o) st := by
  cases o with
  | none => exact Cls.self _ _
  | some a =>
    intro c hc y hy
    have h : ¬ c = a.b := by simpa [accB] using hc
    have h2 : ¬ a.b = c := fun e => h e.symm
    simpa [accS, sget, h, h2] using hy
theorem values_spec (t : Bool) (l : List (PV × Wv)) (h0 : 0 < l.length) (h1 : l.length ≤ 100) (hI : ∀ x ∈ l, Item x.1 x.2) (st : Store) : Rets P F.seal_values [.list t (l.map (·.1)) l.length] st (.agg (listW (l.map (·.2))).row) := by
  refine H.seal_values.view hmix rfl rfl ?_
  repeat' (first 
   | (with_reducible refine Fresh.intro fun b hb => ?_) <;> (try simp -dsimp -implicitDefEqProofs [*] at hb)
   | (simp -dsimp -implicitDefEqProofs [-xappend_list, *]))
  refine xloop_for (fun y : Nat × Option (Acc Wv) => [(2, .ptr b 0), (12, .list t (l.map (·.1)) l.length), (13, .int l.length), (14, .int (y.1 : Nat))]) (fun y => (b, .arr T.apiValue [.int 3, .int 0, noStr, accP y.2]) :: accS T.apiValue st y.2) (fun y => y.1 ≤ l.length ∧ accOk wvRow 4 st y.2 ∧ snew (accS T.apiValue st y.2) b ∧ accL y.2 = (l.take y.1).map (·.2)) (fun y => l.length - y.1) (0, none) ⟨by omega, trivial, by simpa using ‹snew st b›, rfl⟩ (by simp) (.refl _) ?_
  rintro ⟨i, o⟩ ⟨hi, ho, hb', hol⟩
  simp only at hi ho hb' hol
  have kl : Hid (accL o = (l.take i).map (·.2)) := ⟨hol⟩
  clear hol
  by_cases hil : i < l.length
  · have hit := hI l[i] (List.getElem_mem hil)
    have hg : (l.map (·.1))[i]? = some l[i].1 := by simp [hil]
    have hwi := wrap_succ (n := i) (by omega)
    have kT : Hid ((l.take (i + 1)).map (·.2) = (l.take i).map (·.2) ++ [l[i].2]) := ⟨by rw [List.take_succ_eq_append_getElem hil, List.map_append]; rfl⟩
    have hlen : (l.map (·.1)).length = l.length := by simp
    have kn : Hid (((accL o).length + 1) * 56 ≤ 140737488355328) := ⟨by rw [kl.out, List.length_map, List.length_take]; omega⟩
    have ne1 : ¬ T.string = T.int := by decide
    have ne2 : ¬ T.Lint = T.int := by decide
    have ne3 : ¬ T.string = T.Lint := by decide
    clear hI
    generalize l.map (·.1) = ps at *
    have hgE : ∀ h : i < ps.length, ps[i]'h = l[i].1 := fun h => by rw [List.getElem?_eq_getElem h] at hg; exact Option.some.inj hg
    generalize l[i].1 = p at *
    generalize l[i].2 = w at *
    cases hit with
    | int n =>
      repeat' (first 
       | (with_reducible refine Lit.imm ?_)
       | (simp -dsimp -implicitDefEqProofs [-xappend_list, *]))
      refine xappend_box wvRow_len wvRow_append o ho hb' [intW n] rfl rfl (by omega) (by have := kn.out; omega) fun o' ho' hol' => ?_
      have kl' : Hid (accL o' = (l.take (i + 1)).map (·.2)) := ⟨by rw [hol', kl.out, kT.out]⟩
      clear hol' kl kT kn
      cases o' with
      | none => exact absurd (congrArg List.length kl'.out) (by simp; omega)
      | some a =>
        simp only [accP_some, accS_some, accOk_some, accL_some] at ho' kl' ⊢
        obtain ⟨ha, hab⟩ := ho'
        have hns := (accB_new hb').2
        clear hb' ho
        obtain ⟨⟨hab1, hab2⟩, hab3⟩ := hab
        repeat' (simp -dsimp -implicitDefEqProofs [-xappend_list, *])
        exact Next.intro (i + 1, some a) ⟨by simp only; omega, ⟨ha, hab3⟩, ⟨⟨hab2, hab1⟩, hns⟩, kl'.out⟩ (by simp only; omega) (by simp) (by repeat' (first | exact StLe.refl _ | (refine StLe_cons (by simp [*]; done) ?_) | (refine StLe_fresh (by simp [*]; done) ?_)))
    | text x =>
      repeat' (first 
       | (with_reducible refine Lit.imm ?_)
       | (simp -dsimp -implicitDefEqProofs [-xappend_list, *]))
      refine xappend_box wvRow_len wvRow_append o ho hb' [textW x] rfl rfl (by omega) (by have := kn.out; omega) fun o' ho' hol' => ?_
      have kl' : Hid (accL o' = (l.take (i + 1)).map (·.2)) := ⟨by rw [hol', kl.out, kT.out]⟩
      clear hol' kl kT kn
      cases o' with
      | none => exact absurd (congrArg List.length kl'.out) (by simp; omega)
      | some a =>
        simp only [accP_some, accS_some, accOk_some, accL_some] at ho' kl' ⊢
        obtain ⟨ha, hab⟩ := ho'
        have hns := (accB_new hb').2
        clear hb' ho
        obtain ⟨⟨hab1, hab2⟩, hab3⟩ := hab
        repeat' (simp -dsimp -implicitDefEqProofs [-xappend_list, *])
        exact Next.intro (i + 1, some a) ⟨by simp only; omega, ⟨ha, hab3⟩, ⟨⟨hab2, hab1⟩, hns⟩, kl'.out⟩ (by simp only; omega) (by simp) (by repeat' (first | exact StLe.refl _ | (refine StLe_cons (by simp [*]; done) ?_) | (refine StLe_fresh (by simp [*]; done) ?_)))
    | ints u m hm0 hm hr =>
      repeat' (simp -dsimp -implicitDefEqProofs [-xappend_list, *])
      obtain ⟨hnb, hns⟩ := accB_new hb'
      have hgb : sget ((b, .arr T.apiValue [.int 3, .int 0, noStr, accP o]) :: accS T.apiValue st o) b = some (.arr T.apiValue [.int 3, .int 0, noStr, accP o]) := by simp
      generalize hST : (b, PObj.arr T.apiValue [.int 3, .int 0, noStr, accP o]) :: accS T.apiValue st o = ST at *
      refine xloop_for (fun y : Nat × Option (Acc Nat) => [(2, .ptr b 0), (12, .list t ps l.length), (13, .int l.length), (14, .int (i : Nat)), (7, accP y.2), (32, .list u (m.map fun n : Nat => .int (n : Int)) m.length), (33, .int m.length), (34, .int (y.1 : Nat))]) (fun y => accS T.interface ST y.2) (fun y => y.1 ≤ m.length ∧ accOk anyInts 1 ST y.2 ∧ accL y.2 = m.take y.1) (fun y => m.length - y.1) (0, none) ⟨by omega, trivial, rfl⟩ (by simp) (.refl _) ?_
      rintro ⟨j, q⟩ ⟨hj, hq, hql⟩
      simp only at hj hq hql
      have kq : Hid (accL q = m.take j) := ⟨hql⟩
      clear hql
      by_cases hjm : j < m.length
      · have hg2 : (m.map fun n : Nat => PV.int (n : Int))[j]? = some (.int (m[j] : Nat)) := by simp [hjm]
        have hwj := wrap_succ (n := j) (by omega)
        have kT2 : Hid (m.take (j + 1) = m.take j ++ [m[j]]) := ⟨List.take_succ_eq_append_getElem hjm⟩
        have hlen2 : (m.map fun n : Nat => PV.int (n : Int)).length = m.length := by simp
        generalize (m.map fun n : Nat => PV.int (n : Int)) = ms at *
        have hgE2 : ∀ h : j < ms.length, ms[j]'h = .int (m[j] : Nat) := fun h => by rw [List.getElem?_eq_getElem h] at hg2; exact Option.some.inj hg2
        generalize m[j] = v at *
        have hn2 : Hid (((accL q).length + 1) * 16 ≤ 140737488355328) := ⟨by rw [kq.out, List.length_take]; omega⟩
        repeat' (first 
         | (with_reducible refine Lit.imm ?_)
         | (simp -dsimp -implicitDefEqProofs [-xappend_list, *]))
        refine xappend_accP0 anyInts_len anyInts_append q hq [v] rfl rfl (by have := hn2.out; simpa using this) fun q' hq' hl' => ?_
        have kq' : Hid (accL q' = m.take (j + 1)) := ⟨by rw [hl', kq.out, kT2.out]⟩
        clear hl' kq kT2
        repeat' (simp -dsimp -implicitDefEqProofs [-xappend_list, *])
        exact Next.intro (j + 1, q') ⟨by simp only; omega, hq', kq'.out⟩ (by simp only; omega) (by simp) (by repeat' (first | exact StLe.refl _ | (refine StLe_cons (by simp [*]; done) ?_) | (refine StLe_fresh (by simp [*]; done) ?_)))
      · have e : j = m.length := by omega
        subst e
        rw [List.take_length] at kq
        cases q with
        | none => exact absurd (congrArg List.length kq.out) (by simp; omega)
        | some z =>
        simp only [accOk_some, accL_some] at hq kq
        obtain ⟨hz, hzb⟩ := hq
        have hbz : ¬ b = z.b := (snew_ne hzb hgb).2
        have hbz2 : ¬ z.b = b := (snew_ne hzb hgb).1
        have hM : ¬ b ∈ z.b :: accB o := by simp [hbz, hnb]
        repeat' (simp -dsimp -implicitDefEqProofs [-xappend_list, *])
        refine DrawLate.by (Cls ((z.b, .arr T.interface z.R) :: ST) (z.b :: accB o)) (Cls.self _ _) ?_
        have kr : Hid (∀ st, Rets P F.seal_values [.list false (anyInts z.l) z.l.length] st (.agg [.int 3, .int 0, noStr, .list false ((m.map intW).flatMap Wv.row) (m.map intW).length])) := ⟨by rw [kq.out]; exact hr⟩
        have kw : Hid ([.int 3, .int 0, noStr, .list false ((m.map intW).flatMap Wv.row) (m.map intW).length] = wvRow [intsW m]) := ⟨rfl⟩
        clear hr
        generalize (m.map intW).flatMap Wv.row = wr at *
        generalize (m.map intW).length = wn at *
        repeat' (simp -dsimp -implicitDefEqProofs [-xappend_list, *])
        refine xcall_frz hzb (.refl _) (.cons (Frz.acc hz) .nil) (kr.out _) ?_
        rw [xend_ret]
        have hc1 : Cls ((z.b, .arr T.interface z.R) :: ST) (z.b :: accB o) ST := Cls.sub (Cls_un (T := T.interface) (some z)) (by simp [accB])
        refine ⟨hc1, ?_⟩
        subst hST
        repeat' (simp -dsimp -implicitDefEqProofs [-xappend_list, *])
        refine xappend_box wvRow_len wvRow_append o ho hb' [intsW m] kw.out.symm rfl (by omega) (by have := kn.out; omega) fun o' ho' hol' => ?_
        refine ⟨Cls.trans' hc1 (Cls_acc ho' (Cls.sub (Cls_box o) (fun c hc => List.mem_cons_of_mem _ hc))), ?_⟩
        have kl' : Hid (accL o' = (l.take (i + 1)).map (·.2)) := ⟨by rw [hol', kl.out, kT.out]⟩
        clear hol' kl kT kn hc1 kr kw
        cases o' with
        | none => exact absurd (congrArg List.length kl'.out) (by simp; omega)
        | some a =>
          simp only [accP_some, accS_some, accOk_some, accL_some] at ho' kl' ⊢
          obtain ⟨ha, hab⟩ := ho'
          clear hb' ho
          obtain ⟨⟨hab1, hab2⟩, hab3⟩ := hab
          repeat' (simp -dsimp -implicitDefEqProofs [-xappend_list, *])
          exact Next.intro (i + 1, some a) ⟨by simp only; omega, ⟨ha, hab3⟩, ⟨⟨hab2, hab1⟩, hns⟩, kl'.out⟩ (by simp only; omega) (by simp) (by repeat' (first | exact StLe.refl _ | (refine StLe_cons (by simp [*]; done) ?_) | (refine StLe_fresh (by simp [*]; done) ?_)))
  · have e : i = l.length := by omega
    subst e
    repeat' (simp -dsimp -implicitDefEqProofs [-xappend_list, *])
    rw [List.take_length] at kl
    cases o with
    | none => exact absurd (congrArg List.length kl.out) (by simp; omega)
    | some a =>
      simp only [accOk_some, accL_some] at ho kl
      refine .fresh1 hb' (RetView.freeze (.agg [.int 3, .int 0, noStr, .list false (wvRow a.l) a.l.length]) ho.2 (.agg (.cons (.refl _) (.cons (.refl _) (.cons (.refl _) (.cons (Frz.acc ho.1) .nil))))) (.same ⟨?_, rfl⟩))
      rw [kl.out]
      rfl
end Go.Proofs.YtmgpkcpalpejcaaDoor

/- Encodings by the program: texts and lists. -/
import Derived.Test.YtmgpkcpalpejcaaDoorS34H
namespace Go.Proofs.YtmgpkcpalpejcaaDoor
open Go.Pv Go.Pv.Sha
set_option maxRecDepth 100000
set_option maxHeartbeats 4000000
theorem sget_acc {α : Type} {row : List α → List PV} {k : Nat} {T : TypeId} {b : Nat} {x : PObj} {st : Store} {o : Option (Acc α)} (h : accOk row k st o) (hg : sget st b = some x) : sget (accS T st o) b = some x := by
  cases o with
  | none => exact hg
  | some a =>
    have := snew_ne h.2 hg
    simp [accS, sget, this, hg]
theorem sget_put {b c : Nat} {x y : PObj} {st : Store} (hb : snew st c) (hg : sget st b = some x) : sget ((c, y) :: st) b = some x := by
  have := snew_ne hb hg
  simp [this, hg]
theorem writeText_spec (s : ByteArray) (hs : s.size ≤ 1000) (o : Option (Acc (BitVec 8))) (st : Store) (ho : accOk byteRow 1 st o) (hol : (accL o).length ≤ 1000000) : PCalls P F.codec_newWriter_2 [accP o, .agg (textV s)] (accS T.uint8 st o) (Grown st (accL o ++ (2#8 :: (numE s.size ++ strB s)))) := by
  refine H.codec_newWriter_2.view hmix rfl rfl ?_
  have hsz : IntKind.u64.wrap (s.size : Int) = (s.size : Int) := u64_in (by omega) (by omega)
  repeat' (first 
   | (with_reducible refine Fresh.intro fun b hb => ?_) <;> (try simp -dsimp -implicitDefEqProofs [*] at hb)
   | (simp -dsimp -implicitDefEqProofs [-xappend_list, *]))
  revert b
  intro b hb
  obtain ⟨hnb, hns⟩ := accB_new hb
  refine DrawLate.by (Cls ((b, .arr T.apiValue (textV s)) :: accS T.uint8 st o) (accB o)) (Cls.self _ _) ?_
  repeat' (simp -dsimp -implicitDefEqProofs [-xappend_list, *])
  refine xappend_box byteRow_len byteRow_append o ho hb [2#8] rfl rfl (by omega) (by omega) fun o1 ho1 hl1 => ?_
  have hcl := Cls_acc (T := T.uint8) ho1 (Cls_box (T := T.uint8) (b := b) (x := .arr T.apiValue (textV s)) (st := st) o)
  refine ⟨hcl, ?_⟩
  clear hcl
  have kl : Hid (accL o1 = accL o ++ [2#8]) := ⟨hl1⟩
  clear hl1
  repeat' (simp -dsimp -implicitDefEqProofs [-xappend_list, *])
  refine xcall_post (numeral_spec s.size (by omega) o1 _ ho1 (by rw [kl.out]; simp; omega)) ?_
  rintro e st2 ⟨o2, ho2, hl2, rfl, rfl⟩
  rw [xend_ret]
  have kl2 : Hid (accL o2 = accL o ++ 2#8 :: numE s.size) := ⟨by rw [hl2, kl.out]; simp⟩
  clear hl2 kl
  have hcl := Cls_acc (T := T.uint8) ho2 (Cls_box (T := T.uint8) (b := b) (x := .arr T.apiValue (textV s)) (st := st) o)
  refine ⟨hcl, ?_⟩
  clear hcl
  repeat' (simp -dsimp -implicitDefEqProofs [-xappend_list, *])
  have hn10 := numE_len10 (n := s.size) (by omega)
  refine xappend_accP0 byteRow_len byteRow_append o2 ho2 (strB s) (strCells_eq s).symm (strB_len s) (by rw [kl2.out]; simp; omega) fun o3 ho3 hl3 => ?_
  have kl3 : Hid (accL o3 = accL o ++ 2#8 :: (numE s.size ++ strB s)) := ⟨by rw [hl3, kl2.out]; simp⟩
  clear hl3 kl2
  have hcl := Cls_acc (T := T.uint8) ho3 (Cls_box (T := T.uint8) (b := b) (x := .arr T.apiValue (textV s)) (st := st) o)
  refine ⟨hcl, ?_⟩
  clear hcl
  repeat' (simp -dsimp -implicitDefEqProofs [-xappend_list, *])
  exact .drop (StLe.box o3 hns) ⟨o3, accOk.unbox ho3, kl3.out, rfl, rfl⟩
def wtab (c : PV) : List PV := [.val .nilFunc, .func (.func F.codec_newWriter_1) [] [], .func (.func F.codec_newWriter_2) [] [], .func (.func F.codec_newWriter_3) [] [c]]
abbrev wcap (tab : List PV) : PV := .iptr [.iptr tab 0] 0
structure Wv where
  k : Nat
  c1 : PV
  c2 : PV
  c3 : PV
  B : List (BitVec 8)
abbrev Wv.row (v : Wv) : List PV := [.int (v.k : Int), v.c1, v.c2, v.c3]
structure Wv.Ok (M : Nat) (tab : List PV) (v : Wv) : Prop where
  k : v.k < 4
  B : v.B.length ≤ 2000
  run : ∃ g cs, tab[v.k]? = some (.func (.func g) [] cs) ∧ ∀ (o : Option (Acc (BitVec 8))) (st : Store), accOk byteRow 1 st o → (accL o).length ≤ M →
    PCalls P g ([accP o, .agg v.row] ++ cs) (accS T.uint8 st o) (Grown st (accL o ++ v.B))
theorem flatB_len : ∀ l : List Wv, (∀ v ∈ l, v.B.length ≤ 2000) → (l.flatMap Wv.B).length ≤ l.length * 2000
  | [], _ => by simp
  | v :: l, h => by
    have h1 := flatB_len l fun u hu => h u (List.mem_cons_of_mem _ hu)
    have h2 := h v List.mem_cons_self
    simp only [List.flatMap_cons, List.length_append, List.length_cons]
    omega
theorem accOk.box {α : Type} {row : List α → List PV} {k : Nat} {T : TypeId} {b : Nat} {x : PObj} {st : Store} {o : Option (Acc α)} (hb : snew (accS T st o) b) (h : accOk row k st o) : accOk row k ((b, x) :: st) o := by
  cases o with
  | none => trivial
  | some a => exact ⟨h.1, ⟨hb.1.symm, h.2⟩⟩
theorem StLe.rebox {α : Type} {T : TypeId} {b : Nat} {x : PObj} {st : Store} {o : Option (Acc α)} (hb : snew (accS T st o) b) : StLe (accS T ((b, x) :: st) o) ((b, x) :: accS T st o) := by
  cases o with
  | none => exact .refl _
  | some a => exact .swap hb.1.1
theorem writeList_spec (M : Nat) (hM : M ≤ 500000) (tab : List PV) (l : List Wv) (hl : l.length ≤ 100) (hok : ∀ v ∈ l, v.Ok (M + 210000) tab) (o : Option (Acc (BitVec 8))) (st : Store) (ho : accOk byteRow 1 st o) (hol : (accL o).length ≤ M) :
    PCalls P F.codec_newWriter_3 [accP o, .agg (listV (l.flatMap Wv.row) l.length), wcap tab] (accS T.uint8 st o) (Grown st (accL o ++ (3#8 :: (numE l.length ++ l.flatMap Wv.B)))) := by
  refine H.codec_newWriter_3.view hmix rfl rfl ?_
  have hsz : IntKind.u64.wrap (l.length : Int) = (l.length : Int) := u64_in (by omega) (by omega)
  repeat' (first 
   | (with_reducible refine Fresh.intro fun b hb => ?_) <;> (try simp -dsimp -implicitDefEqProofs [*] at hb)
   | (simp -dsimp -implicitDefEqProofs [-xappend_list, *]))
  revert b
  intro b hb
  obtain ⟨hnb, hns⟩ := accB_new hb
  refine DrawLate.by (Cls ((b, .arr T.apiValue (listV (l.flatMap Wv.row) l.length)) :: accS T.uint8 st o) (accB o)) (Cls.self _ _) ?_
  repeat' (simp -dsimp -implicitDefEqProofs [-xappend_list, *])
  generalize hrow : listV (l.flatMap Wv.row) l.length = RV
  refine xappend_box byteRow_len byteRow_append o ho hb [3#8] rfl rfl (by omega) (by omega) fun o1 ho1 hl1 => ?_
  have hcl := Cls_acc (T := T.uint8) ho1 (Cls_box (T := T.uint8) (b := b) (x := .arr T.apiValue RV) (st := st) o)
  refine ⟨hcl, ?_⟩
  clear hcl
  have kl : Hid (accL o1 = accL o ++ [3#8]) := ⟨hl1⟩
  clear hl1
  repeat' (simp -dsimp -implicitDefEqProofs [-xappend_list, *])
  refine xcall_post (numeral_spec l.length (by omega) o1 _ ho1 (by rw [kl.out]; simp; omega)) ?_
  rintro e st2 ⟨o2, ho2, hl2, rfl, rfl⟩
  rw [xend_ret]
  have kl2 : Hid (accL o2 = accL o ++ 3#8 :: numE l.length) := ⟨by rw [hl2, kl.out]; simp⟩
  clear hl2 kl
  have hcl := Cls_acc (T := T.uint8) ho2 (Cls_box (T := T.uint8) (b := b) (x := .arr T.apiValue RV) (st := st) o)
  refine ⟨hcl, ?_⟩
  clear hcl
  subst hrow
  have hgb := sget_acc (T := T.uint8) ho2 (b := b) (x := .arr T.apiValue (listV (l.flatMap Wv.row) l.length)) (by simp)
  repeat' (simp -dsimp -implicitDefEqProofs [-xappend_list, *])
  clear hgb
  have hle : ∀ q : Option (Acc (BitVec 8)), StLe (accS T.uint8 st q) (accS T.uint8 ((b, .arr T.apiValue (listV (l.flatMap Wv.row) l.length)) :: st) q) := fun q => StLe.box q hns
  have hub : ∀ q : Option (Acc (BitVec 8)), accOk byteRow 1 ((b, .arr T.apiValue (listV (l.flatMap Wv.row) l.length)) :: st) q → accOk byteRow 1 st q := fun q => accOk.unbox
  generalize (b, PObj.arr T.apiValue (listV (l.flatMap Wv.row) l.length)) :: st = st1 at *
  have kf : Hid ((∀ q, StLe (accS T.uint8 st q) (accS T.uint8 st1 q)) ∧ ∀ q, accOk byteRow 1 st1 q → accOk byteRow 1 st q) := ⟨hle, hub⟩
  clear hle hub hnb hns hb
  have kok : Hid (∀ v ∈ l, v.Ok (M + 210000) tab) := ⟨hok⟩
  clear hok
  refine xloop_for (fun y : Nat × Option (Acc (BitVec 8)) => [(0, accP y.2), (2, wcap tab), (17, .list false (l.flatMap Wv.row) l.length), (18, .int l.length), (19, .int (y.1 : Nat))]) (fun y => accS T.uint8 st1 y.2) (fun y => y.1 ≤ l.length ∧ accOk byteRow 1 st1 y.2 ∧ accL y.2 = accL o ++ 3#8 :: (numE l.length ++ (l.take y.1).flatMap Wv.B)) (fun y => l.length - y.1) (0, o2) ⟨by omega, ho2, by rw [kl2.out]; simp⟩ (by simp) (.refl _) ?_
  clear kl2 ho2
  clear o2
  rintro ⟨i, q⟩ ⟨hi, hq, hql⟩
  simp only at hi hq hql
  have kl : Hid (accL q = accL o ++ 3#8 :: (numE l.length ++ (l.take i).flatMap Wv.B)) := ⟨hql⟩
  clear hql
  by_cases hil : i < l.length
  · have hv := kok.out l[i] (List.getElem_mem hil)
    have hs := flat_sub (enc := Wv.row) (k := 4) (fun _ => rfl) l i hil
    have kB : Hid ((l.take (i + 1)).flatMap Wv.B = (l.take i).flatMap Wv.B ++ l[i].B) := ⟨by rw [List.take_succ_eq_append_getElem hil, List.flatMap_append, List.flatMap_cons, List.flatMap_nil, List.append_nil]⟩
    have hfl := flat_length (enc := Wv.row) (k := 4) (fun _ => rfl) l
    have hwi := wrap_succ (n := i) (by omega)
    obtain ⟨hk, hB, g, cs, htab, hrun⟩ := hv
    have kr : Hid (∀ (o : Option (Acc (BitVec 8))) (st : Store), accOk byteRow 1 st o → (accL o).length ≤ M + 210000 →
      PCalls P g ([accP o, .agg l[i].row] ++ cs) (accS T.uint8 st o) (Grown st (accL o ++ l[i].B))) := ⟨hrun⟩
    clear hrun
    generalize l[i] = v at *
    obtain ⟨k, c1, c2, c3, B⟩ := v
    simp only [Wv.row] at hk htab hB hs
    generalize hrows : l.flatMap Wv.row = rows at *
    repeat' (first 
     | (with_reducible refine Fresh.intro fun b hb => ?_) <;> (try simp -dsimp -implicitDefEqProofs [*] at hb)
     | (simp -dsimp -implicitDefEqProofs [-xappend_list, *]))
    revert b
    intro x hx
    obtain ⟨hnb, hns⟩ := accB_new hx
    refine DrawLate.by (Cls ((x, .arr T.apiValue [.int (k : Int), c1, c2, c3]) :: accS T.uint8 st1 q) (accB q)) (Cls.self _ _) ?_
    repeat' (first 
     | ((with_reducible refine and_keep ?_ fun hk => ?_); omega)
     | (simp -dsimp -implicitDefEqProofs [-xappend_list, *]))
    have hlq : (accL q).length ≤ M + 210000 := by
      rw [kl.out]
      have h1 := flatB_len (l.take i) fun v hv => (kok.out v (List.mem_of_mem_take hv)).B
      have h2 := numE_len10 (n := l.length) (by omega)
      simp only [List.length_append, List.length_cons, List.length_take] at h1 ⊢
      omega
    refine xcall_post (PCalls.le (StLe.rebox hx) (kr.out q ((x, .arr T.apiValue [.int (k : Int), c1, c2, c3]) :: st1) (accOk.box hx hq) hlq)) ?_
    rintro e st2 ⟨q2, hq2, hl2, rfl, rfl⟩
    rw [xend_ret]
    have kl2 : Hid (accL q2 = accL o ++ 3#8 :: (numE l.length ++ (l.take (i + 1)).flatMap Wv.B)) := ⟨by rw [hl2, kl.out, kB.out]; simp⟩
    clear hl2 kl hlq kr kB
    have hcl := Cls_acc (T := T.uint8) hq2 (Cls_box (T := T.uint8) (b := x) (x := .arr T.apiValue [.int (k : Int), c1, c2, c3]) (st := st1) q)
    refine ⟨hcl, ?_⟩
    clear hcl
    have hle := StLe.box (T := T.uint8) (x := .arr T.apiValue [.int (k : Int), c1, c2, c3]) q2 hns
    repeat' (simp -dsimp -implicitDefEqProofs [-xappend_list, *])
    exact Next.intro (i + 1, q2) ⟨by simp only; omega, accOk.unbox hq2, kl2.out⟩ (by simp only; omega) (by simp) (by simpa using hle)
  · have e : i = l.length := by omega
    subst e
    have kl2 : Hid (accL q = accL o ++ 3#8 :: (numE l.length ++ l.flatMap Wv.B)) := ⟨by rw [kl.out, List.take_length]⟩
    clear kl
    repeat' (simp -dsimp -implicitDefEqProofs [-xappend_list, *])
    exact .drop (kf.out.1 q) ⟨q, kf.out.2 q hq, kl2.out, rfl, rfl⟩
end Go.Proofs.YtmgpkcpalpejcaaDoor

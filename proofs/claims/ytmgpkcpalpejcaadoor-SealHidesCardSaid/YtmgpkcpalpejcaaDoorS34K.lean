/- Encodings by the program: values that are well-formed. -/
import Derived.Test.YtmgpkcpalpejcaaDoorS34J
namespace Go.Proofs.YtmgpkcpalpejcaaDoor
open Go.Pv Go.Pv.Sha
set_option maxRecDepth 100000
set_option maxHeartbeats 4000000
def FormedN (D : Nat) (st : Store) (e : PEnd) (s : Store) : Prop := ∃ d : Nat, d ≤ D ∧ e = .ret (.tuple [.int (d : Int), .bool true]) ∧ s = st
theorem formedInt (n : Nat) (st : Store) : PCalls P F.codec_formed [.agg (intV n)] st (FormedN 0 st) := by
  refine H.codec_formed.view hmix rfl rfl ?_
  by_cases hn : n = 0
  · subst hn
    repeat' (first 
     | (with_reducible refine Fresh.intro fun b hb => ?_) <;> (try simp -dsimp -implicitDefEqProofs [*] at hb)
     | (simp -dsimp -implicitDefEqProofs [*]))
    exact .drop (by repeat' (first | exact StLe.refl _ | (refine StLe_cons (by simp [*]; done) ?_) | (refine StLe_fresh (by simp [*]; done) ?_))) ⟨0, Nat.le_refl _, rfl, rfl⟩
  · have hn' : ¬ (n : Int) = 0 := by omega
    repeat' (first 
     | (with_reducible refine Fresh.intro fun b hb => ?_) <;> (try simp -dsimp -implicitDefEqProofs [*] at hb)
     | (simp -dsimp -implicitDefEqProofs [*]))
    exact .drop (by repeat' (first | exact StLe.refl _ | (refine StLe_cons (by simp [*]; done) ?_) | (refine StLe_fresh (by simp [*]; done) ?_))) ⟨0, Nat.le_refl _, rfl, rfl⟩
theorem formedText (x : ByteArray) (st : Store) : PCalls P F.codec_formed [.agg (textV x)] st (FormedN 0 st) := by
  refine H.codec_formed.view hmix rfl rfl ?_
  by_cases hx : x = ⟨#[]⟩
  · subst hx
    repeat' (first 
     | (with_reducible refine Fresh.intro fun b hb => ?_) <;> (try simp -dsimp -implicitDefEqProofs [*] at hb)
     | (simp -dsimp -implicitDefEqProofs [*]))
    exact .drop (by repeat' (first | exact StLe.refl _ | (refine StLe_cons (by simp [*]; done) ?_) | (refine StLe_fresh (by simp [*]; done) ?_))) ⟨0, Nat.le_refl _, rfl, rfl⟩
  · repeat' (first 
     | (with_reducible refine Fresh.intro fun b hb => ?_) <;> (try simp -dsimp -implicitDefEqProofs [*] at hb)
     | (simp -dsimp -implicitDefEqProofs [*]))
    exact .drop (by repeat' (first | exact StLe.refl _ | (refine StLe_cons (by simp [*]; done) ?_) | (refine StLe_fresh (by simp [*]; done) ?_))) ⟨0, Nat.le_refl _, rfl, rfl⟩
theorem formedList (D : Nat) (l : List Wv) (hl0 : 0 < l.length) (hl : l.length ≤ 100) (hD : D ≤ 10) (st : Store) (hf : ∀ v ∈ l, ∀ st, PCalls P F.codec_formed [.agg v.row] st (FormedN D st)) : PCalls P F.codec_formed [.agg (listV (l.flatMap Wv.row) l.length)] st (FormedN (D + 1) st) := by
  refine H.codec_formed.view hmix rfl rfl ?_
  have h0' : ¬ (l.length : Int) = 0 := by omega
  repeat' (first 
   | (with_reducible refine Fresh.intro fun b hb => ?_) <;> (try simp -dsimp -implicitDefEqProofs [*] at hb)
   | (simp -dsimp -implicitDefEqProofs [*]))
  refine xloop_for (fun y : Nat × Nat => [(2, .int (y.2 : Nat)), (55, .list false (l.flatMap Wv.row) l.length), (56, .int l.length), (57, .int (y.1 : Nat))]) (fun _ => st) (fun y => y.1 ≤ l.length ∧ y.2 ≤ D) (fun y => l.length - y.1) (0, 0) ⟨by omega, by omega⟩ (by simp) (by repeat' (first | exact StLe.refl _ | (refine StLe_cons (by simp [*]; done) ?_) | (refine StLe_fresh (by simp [*]; done) ?_))) ?_
  rintro ⟨i, d⟩ ⟨hi, hd⟩
  simp only at hi hd
  by_cases hil : i < l.length
  · have hv := hf l[i] (List.getElem_mem hil)
    have hs := flat_sub (enc := Wv.row) (k := 4) (fun _ => rfl) l i hil
    have hfl := flat_length (enc := Wv.row) (k := 4) (fun _ => rfl) l
    have hwi := wrap_succ (n := i) (by omega)
    generalize l[i] = v at *
    generalize hrows : l.flatMap Wv.row = rows at *
    repeat' (first 
     | (with_reducible refine Fresh.intro fun b hb => ?_) <;> (try simp -dsimp -implicitDefEqProofs [*] at hb)
     | (simp -dsimp -implicitDefEqProofs [*]))
    refine xcall_post (hv _) ?_
    rintro e s2 ⟨d2, hd2, rfl, rfl⟩
    rw [xend_ret]
    clear hv
    by_cases hdd : d < d2
    · repeat' (simp -dsimp -implicitDefEqProofs [*])
      exact Next.intro (i + 1, d2) ⟨by simp only; omega, hd2⟩ (by simp only; omega) (by simp) (by repeat' (first | exact StLe.refl _ | (refine StLe_cons (by simp [*]; done) ?_) | (refine StLe_fresh (by simp [*]; done) ?_)))
    · repeat' (simp -dsimp -implicitDefEqProofs [*])
      exact Next.intro (i + 1, d) ⟨by simp only; omega, hd⟩ (by simp only; omega) (by simp) (by repeat' (first | exact StLe.refl _ | (refine StLe_cons (by simp [*]; done) ?_) | (refine StLe_fresh (by simp [*]; done) ?_)))
  · have e : i = l.length := by omega
    subst e
    have hwd := wrap_succ (n := d) (by omega)
    repeat' (simp -dsimp -implicitDefEqProofs [*])
    exact .same ⟨d + 1, by omega, by simp, rfl⟩
end Go.Proofs.YtmgpkcpalpejcaaDoor
/- Encodings by the program: Encode. -/
namespace Go.Proofs.YtmgpkcpalpejcaaDoor
open Go.Pv Go.Pv.Sha
set_option maxRecDepth 100000
set_option maxHeartbeats 4000000
theorem codecCheck_spec (c0 c1 c2 c3 : PV) (D : Nat) (hD : D ≤ 16) (st : Store) (hf : ∀ st, PCalls P F.codec_formed [.agg [c0, c1, c2, c3]] st (FormedN D st)) : Rets P F.codec_Check [.agg [c0, c1, c2, c3]] st (.int 0) := by
  refine H.codec_Check.pure hmix rfl rfl ?_
  repeat' (first 
   | (with_reducible refine Fresh.intro fun b hb => ?_) <;> (try simp -dsimp -implicitDefEqProofs [*] at hb)
   | (simp -dsimp -implicitDefEqProofs [*]))
  refine xcall_post (hf _) ?_
  rintro e s ⟨d, hd, rfl, rfl⟩
  rw [xend_ret]
  clear hf
  have h16 : ¬ (16 : Int) < d := by omega
  repeat' (simp -dsimp -implicitDefEqProofs [*])
theorem Frozen.mono {I I' : Imm} {b : Nat} {o : PObj} (h : Frozen I b o) (hle : I.le I') : Frozen I' b o := by
  obtain ⟨r, h1, h2⟩ := h
  exact ⟨r, hle _ _ h1, orep_mono hle h2⟩
/-- Two objects that lead into one another are frozen. -/
theorem Sees.freeze2 {b c : Nat} {o x : PObj} {p q : PV} {st : Store} (hn : snew ((c, x) :: st) b) (hm : snew st c) (hf : ∀ I, Frozen I b o → Frozen I c x → ∀ v, vrep I p v → vrep I q v) : Sees p ((b, o) :: (c, x) :: st) q st := ⟨fun I w v h1 h2 => by
  obtain ⟨I1, h3, h4, h5⟩ := h1.freeze hn
  obtain ⟨I2, h6, h7, h8⟩ := h4.freeze hm
  exact ⟨I2, Imm.le_trans h3 h6, h7, hf I2 (Frozen.mono h5 h6) h8 v (vrep_mono h6 _ _ (vrep_mono h3 _ _ h2))⟩⟩
theorem Frz.wtab {b : Nat} {o : PObj} {c d : PV} (h : Frz b o c d) : Frzs b o (wtab c) (wtab d) :=
  .cons (.refl _) (.cons (.refl _) (.cons (.refl _) (.cons (.func _ .nil (.cons h .nil)) .nil)))
theorem newWriter_spec (st : Store) : PCalls P F.codec_newWriter [] st (fun e s => ∃ c, e = .ret (.iptr (wtab (wcap (wtab (wcap (wtab c))))) 0) ∧ s = st) := by
  refine H.codec_newWriter.view hmix rfl rfl ?_
  repeat' (first 
   | (with_reducible refine Fresh.intro fun b hb => ?_) <;> (try simp -dsimp -implicitDefEqProofs [*] at hb)
   | (simp -dsimp -implicitDefEqProofs [*]))
  revert b
  intro w hw
  revert b
  intro p hp hw
  have e1 : Frz p (.arr T.codecwriter_2 (wtab (.ptr w 0))) (.ptr p 0) (.iptr (wtab (.ptr w 0)) 0) := .ptr _ _ 0 rfl
  have e2 : Frz w (.arr T.codecwriter [.ptr p 0]) (.ptr w 0) (.iptr [.ptr p 0] 0) := .ptr _ _ 0 rfl
  refine .sees (Sees.freeze2 (q := .iptr (wtab (wcap (wtab (wcap (wtab (.ptr w 0)))))) 0) hw hp fun I fw fp v h0 => ?_) (.same ⟨⟨_, rfl⟩, rfl⟩)
  have h1 := Frz.vrep fp e1 h0
  have h2 := Frz.vrep fw (.iptr 0 (Frz.wtab e2)) h1
  have h3 := Frz.vrep fp (.iptr 0 (Frz.wtab (.iptr 0 (.cons e1 .nil)))) h2
  have h4 := Frz.vrep fw (.iptr 0 (Frz.wtab (.iptr 0 (.cons (.iptr 0 (Frz.wtab e2)) .nil)))) h3
  exact Frz.vrep fp (.iptr 0 (Frz.wtab (.iptr 0 (.cons (.iptr 0 (Frz.wtab (.iptr 0 (.cons e1 .nil)))) .nil)))) h4
theorem encode_spec (l : List Wv) (hl0 : 0 < l.length) (hl : l.length ≤ 100) (D : Nat) (hD : D ≤ 10) (hok : ∀ c, ∀ v ∈ l, v.Ok 210000 (wtab (wcap (wtab c)))) (hf : ∀ v ∈ l, ∀ st, PCalls P F.codec_formed [.agg v.row] st (FormedN D st)) (st : Store) :
    Rets P F.codec_Encode [.agg (listV (l.flatMap Wv.row) l.length)] st (.tuple [byteLst false (3#8 :: (numE l.length ++ l.flatMap Wv.B)), .int 0]) := by
  refine H.codec_Encode.view hmix rfl rfl ?_
  have hc := fun st => codecCheck_spec (.int 3) (.int 0) noStr (.list false (l.flatMap Wv.row) l.length) (D + 1) (by omega) st (fun st => formedList D l hl0 hl hD st hf)
  repeat' (first 
   | (with_reducible refine Fresh.intro fun b hb => ?_) <;> (try simp -dsimp -implicitDefEqProofs [*] at hb)
   | (with_reducible refine Rets.xcall (hc _) ?_)
   | (simp -dsimp -implicitDefEqProofs [-xappend_list, *]))
  clear hc
  refine DrawLate.by (Cls ((b, .arr T.apiValue (listV (l.flatMap Wv.row) l.length)) :: st) []) (Cls.self _ _) ?_
  repeat' (simp -dsimp -implicitDefEqProofs [-xappend_list, *])
  refine xcall_post (newWriter_spec _) ?_
  rintro e s2 ⟨c, rfl, rfl⟩
  rw [xend_ret]
  refine ⟨Cls.self _ _, ?_⟩
  have hok' := hok c
  clear hok
  have htab : (wtab (wcap (wtab (wcap (wtab c)))))[3]? = some (.func (.func F.codec_newWriter_3) [] [wcap (wtab (wcap (wtab c)))]) := rfl
  have kok : Hid (∀ v ∈ l, v.Ok 210000 (wtab (wcap (wtab c)))) := ⟨hok'⟩
  clear hok'
  generalize wtab (wcap (wtab c)) = tab at *
  generalize wtab (wcap tab) = tab3 at *
  repeat' (simp -dsimp -implicitDefEqProofs [-xappend_list, *])
  have hB := flatB_len l fun v hv => (kok.out v hv).B
  have hn := numE_len10 (n := l.length) (by omega)
  refine xcall_post (writeList_spec 0 (by omega) tab l hl (fun v hv => by simpa using kok.out v hv) none ((b, .arr T.apiValue (listV (l.flatMap Wv.row) l.length)) :: st) trivial (by simp)) ?_
  rintro e s2 ⟨o, ho, hol, rfl, rfl⟩
  rw [xend_ret]
  simp only [accL_none, List.nil_append] at hol
  refine ⟨Cls_acc ho (Cls.self _ _), ?_⟩
  have kl : Hid (accL o = 3#8 :: (numE l.length ++ l.flatMap Wv.B)) := ⟨hol⟩
  clear hol kok htab hf
  repeat' (simp -dsimp -implicitDefEqProofs [-xappend_list, *])
  exact RetView.accP2 (row := byteRow) rfl ho (.drop (by repeat' (first | exact StLe.refl _ | (refine StLe_cons (by simp [*]; done) ?_) | (refine StLe_fresh (by simp [*]; done) ?_))) ⟨by rw [kl.out], rfl⟩)
end Go.Proofs.YtmgpkcpalpejcaaDoor

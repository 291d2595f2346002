/- The order of entries. -/
import Derived.Test.YtliglilanpfjhaaS21ZO
namespace Go.Proofs.Ytliglilanpfjhaa
open Go.Pv
set_option maxRecDepth 100000
set_option maxHeartbeats 8000000
def row3 (X0 X1 X2 : List PV) : List PV := [X0, X1, X2].flatten
def row2 (X0 X1 : List PV) : List PV := [X0, X1].flatten
@[simp high] theorem fill3 (X0 X1 X2 : List PV) (h0 : X0.length = 10) (h1 : X1.length = 10) (h2 : X2.length = 10) :
    fillPV ((.int 0) :: (.bool false) :: .nil :: (.bool false) :: .nil :: .nil :: .nil :: (.int 0) :: (.int 0) :: (.int 0) :: (.int 0) :: (.bool false) :: .nil :: (.bool false) :: .nil :: .nil :: .nil :: (.int 0) :: (.int 0) :: (.int 0) :: (.int 0) :: (.bool false) :: .nil :: (.bool false) :: .nil :: .nil :: .nil :: (.int 0) :: (.int 0) :: (.int 0) :: []) [(0, 10, .agg X0), (10, 10, .agg X1), (20, 10, .agg X2)] = some (row3 X0 X1 X2) :=
  fill_cat0 (k := 10) [X0, X1, X2] _ (by simp [h0, h1, h2]) (by simp)
@[simp high] theorem fill2 (X0 X1 : List PV) (h0 : X0.length = 10) (h1 : X1.length = 10) :
    fillPV ((.int 0) :: (.bool false) :: .nil :: (.bool false) :: .nil :: .nil :: .nil :: (.int 0) :: (.int 0) :: (.int 0) :: (.int 0) :: (.bool false) :: .nil :: (.bool false) :: .nil :: .nil :: .nil :: (.int 0) :: (.int 0) :: (.int 0) :: []) [(0, 10, .agg X0), (10, 10, .agg X1)] = some (row2 X0 X1) :=
  fill_cat0 (k := 10) [X0, X1] _ (by simp [h0, h1]) (by simp)
structure Rt (l : List Ke) (L : List Ky) : Prop where
  ok : okKeys l = l
  len : l.length ≤ 32
  right : ∀ x ∈ L, wrongK l x = false
  lens : ∀ x ∈ L, Ky.Len x
  few : L.length ≤ 12
theorem rightL_iff {l : List Ke} {L : List Ky} (h : rightL l L = true) : Rt l L := by
  simp only [rightL, Bool.and_eq_true, List.all_eq_true, Bool.not_eq_true', plainK, fewK, decide_eq_true_eq] at h
  obtain ⟨h1, ⟨h2, h3⟩, ⟨⟨h4, h5⟩, h6⟩⟩ := h
  exact ⟨okKeys_len.1 h2, h3, h1, fun x hx => fewY_len (h6 x hx), h5⟩
theorem Rt.cmpE {l : List Ke} {L : List Ky} (h : Rt l L) {a d : Ky} (ha : a ∈ L) (hd : d ∈ L) : cmpE l a d = 0 := by
  unfold Go.Proofs.Ytliglilanpfjhaa.cmpE
  rw [h.ok, h.right a ha, h.right d hd, decide_eq_true rfl, decide_eq_true h.len]
  rfl
theorem Rt.comp {l : List Ke} {L : List Ky} (h : Rt l L) {a d : Ky} (ha : a ∈ L) (hd : d ∈ L) (st : Store) : Rets P F.ties_Compare [Ke.lst l, a.pv, d.pv] st (.tuple [.int (lexc (vec l a) (vec l d) 0).1, .int (lexc (vec l a) (vec l d) 0).2, .int 0]) := by
  have := compareT_spec l (by have := h.len; omega) a d (h.lens a ha) (h.lens d hd) st
  have e := h.cmpE ha hd
  unfold cmpA at this
  rw [e, h.ok, if_pos rfl] at this
  exact this
theorem right3_spec (l : List Ke) (hl : l.length ≤ 9223372036854775807) (a d c : Ky) (ha : a.Wide) (hd : d.Wide) (hc : c.Wide) (st : Store) : Rets P F.podiumlaw21_right [Ke.lst l, .list true (row3 a.enc d.enc c.enc) 3] st (.bool (rightL l [a, d, c])) :=
  lawRight_spec l hl true [a, d, c] (by simp) (by simp [ha, hd, hc]) st
theorem right2_spec (l : List Ke) (hl : l.length ≤ 9223372036854775807) (a d : Ky) (ha : a.Wide) (hd : d.Wide) (st : Store) : Rets P F.podiumlaw21_right [Ke.lst l, .list true (row2 a.enc d.enc) 2] st (.bool (rightL l [a, d])) :=
  lawRight_spec l hl true [a, d] (by simp) (by simp [ha, hd]) st
end Go.Proofs.Ytliglilanpfjhaa

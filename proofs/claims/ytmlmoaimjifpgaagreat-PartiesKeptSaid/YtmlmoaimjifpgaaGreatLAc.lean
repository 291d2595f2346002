/- A list that is being built, amid other objects of the store. -/
import Derived.Test.YtmlmoaimjifpgaaGreatLFr
import Derived.Test.YtmlmoaimjifpgaaGreatLVf
import Derived.Test.YtmlmoaimjifpgaaGreatLBx
namespace Go.Pv
theorem k3d {c : Nat} : ∀ {pre st : q43}, q5s (pre ++ st) c ↔ q5s pre c ∧ q5s st c
 | [], st => by simp [q5s]
 | (b, o) :: pre, st => by
  rw [List.cons_append]
  show (¬b = c ∧ ¬c = b) ∧ q5s (pre ++ st) c ↔ ((¬b = c ∧ ¬c = b) ∧ q5s pre c) ∧ q5s st c
  rw [k3d (pre := pre)]
  exact ⟨fun ⟨a, b, c⟩ => ⟨⟨a, b⟩, c⟩, fun ⟨⟨a, b⟩, c⟩ => ⟨a, b, c⟩⟩
theorem k7q {c : Nat} : ∀ {pre st : q43}, q5s pre c → q5p (pre ++ st) c = q5p st c
 | [], _, _ => rfl
 | (b, o) :: pre, st, h => by
  simp only [q5s] at h
  rw [List.cons_append]
  simp only [q5p, if_neg h.1.1]
  exact k7q h.2
theorem z9u {c : Nat} : ∀ {pre st : q43}, q5s pre c → k1x c (pre ++ st) = pre ++ k1x c st
 | [], _, _ => rfl
 | (b, o) :: pre, st, h => by
  simp only [q5s] at h
  rw [List.cons_append]
  simp only [k1x, if_neg h.1.1]
  rw [z9u h.2, List.cons_append]
@[simp] theorem y3a {α : Type} (o : Option (Acc α)) : (q69 o).cells = some [q69 o] := by cases o <;> rfl
theorem StLe.mid {b : Nat} {o : PObj} {pre st : q43} (h : q5s pre b) : StLe (pre ++ (b, o) :: st) ((b, o) :: (pre ++ st)) := fun d y hd => by
 by_cases h1 : b = d
 ·subst h1
  rw [k7q h] at hd
  simpa [q5p] using hd
 ·simp only [q5p, if_neg h1]
  induction pre with
  | nil => simpa [q5p, h1] using hd
  | cons x pre ih =>
   obtain ⟨c, z⟩ := x
   simp only [q5s] at h
   rw [List.cons_append] at hd ⊢
   simp only [q5p] at hd ⊢
   split
   ·rename_i e; rw [if_pos e] at hd; exact hd
   ·rename_i e; rw [if_neg e] at hd; exact ih h.2 hd
theorem StLe.dim {b : Nat} {o : PObj} {pre st : q43} (h : q5s pre b) : StLe ((b, o) :: (pre ++ st)) (pre ++ (b, o) :: st) := fun d y hd => by
 by_cases h1 : b = d
 ·subst h1
  rw [k7q h]
  simpa [q5p] using hd
 ·simp only [q5p, if_neg h1] at hd
  induction pre with
  | nil => simpa [q5p, h1] using hd
  | cons x pre ih =>
   obtain ⟨c, z⟩ := x
   simp only [q5s] at h
   rw [List.cons_append] at hd ⊢
   simp only [q5p] at hd ⊢
   split
   ·rename_i e; rw [if_pos e] at hd; exact hd
   ·rename_i e; rw [if_neg e] at hd; exact ih h.2 hd
section
variable {α : Type} {row : List α → List PV} {k : Nat}
def q8a (pre : q43) (o : Option (Acc α)) : Prop := ∀ a, o = some a → q5s pre a.b
theorem accOk.app {pre st : q43} {o : Option (Acc α)} : accOk row k (pre ++ st) o ↔ accOk row k st o ∧ q8a pre o := by
 cases o with
 | none => exact ⟨fun _ => ⟨trivial, fun a h => by cases h⟩, fun _ => trivial⟩
 | some a =>
  constructor
  ·rintro ⟨h1, h2⟩
   rw [k3d] at h2
   exact ⟨⟨h1, h2.2⟩, fun b hb => by cases hb; exact h2.1⟩
  ·rintro ⟨⟨h1, h2⟩, h3⟩
   exact ⟨h1, k3d.2 ⟨h3 a rfl, h2⟩⟩
theorem StLe.accMid {T : TypeId} {pre st : q43} {o : Option (Acc α)} (h : q8a pre o) : StLe (pre ++ accS T st o) (accS T (pre ++ st) o) := by
 cases o with
 | none => exact .refl _
 | some a => exact StLe.mid (h a rfl)
theorem StLe.accDim {T : TypeId} {pre st : q43} {o : Option (Acc α)} (h : q8a pre o) : StLe (accS T (pre ++ st) o) (pre ++ accS T st o) := by
 cases o with
 | none => exact .refl _
 | some a => exact StLe.dim (h a rfl)
theorem k2s (hrl : ∀ l, (row l).length = l.length * k) (hra : ∀ l m, row (l ++ m) = row l ++ row m) {T : TypeId} {bytes : Nat} {pre st : q43} {K : PV → q43 → Prop}
  (o : Option (Acc α)) (ho : accOk row k st o) (hp : q8a pre o) (xs : List α) {new : List PV} {m : Nat} (hnew : row xs = new) (hm : xs.length = m) (hm0 : 0 < m) (hsz : ((q5m o).length + m) * bytes ≤ 140737488355328)
  (h : ∀ o' : Option (Acc α), accOk row k (pre ++ st) o' → q5m o' = q5m o ++ xs → K (q69 o') (accS T (pre ++ st) o')) : q6o T bytes k (q69 o) new m (pre ++ accS T st o) K := by
 cases o with
 | none =>
  refine q81 hrl xs hnew hm hm0 (by simpa using hsz) fun a' ha' hl' hb' => ?_
  exact h (some a') ⟨ha', hb'⟩ (by simpa using hl')
 | some a =>
  obtain ⟨ha, hb⟩ := ho
  have hpa := hp a rfl
  have hg : q5p (pre ++ accS T st (some a)) a.b = some (.arr T a.R) := by
   rw [k7q hpa]
   simp
  refine q8o hrl hra ha hg xs hnew hm hsz fun a' ha' hl' hb' => ?_
  have e : k1x a.b (pre ++ accS T st (some a)) = pre ++ st := by
   rw [z9u hpa]
   simp [q7e hb]
  rw [e] at hb' ⊢
  exact h (some a') ⟨ha', hb'⟩ hl'
theorem RetView.accF {T : TypeId} {st0 st : q43} {o : Option (Acc α)} {c : PV → PEnd} {Q : PEnd → q43 → Prop} {p : PV} (q : PV) (ho : accOk row k st o) (hs : StLe (accS T st o) st0) (h0 : o = none → PLe p q) (h1 : ∀ a, o = some a → Frz a.b (.arr T a.R) p q)
  (h : RetView c q st Q) : RetView c p st0 Q := by
 cases o with
 | none => exact RetView.sees (Sees.drop hs) (RetView.sees ⟨fun I _ v a b => ⟨I, I.le_refl, a, h0 rfl I v b⟩⟩ h)
 | some a => exact RetView.sees (Sees.drop hs) (RetView.freeze q ho.2 (h1 a rfl) h)
end
theorem Frzs.app {b : Nat} {o : PObj} : ∀ {ps qs rs us : List PV}, Frzs b o ps qs → Frzs b o rs us → Frzs b o (ps ++ rs) (qs ++ us)
 | _, _, _, _, .nil, h => h
 | _, _, _, _, .cons h t, h2 => .cons h (Frzs.app t h2)
theorem PsLe.app : ∀ {ps qs rs us : List PV}, PsLe ps qs → PsLe rs us → PsLe (ps ++ rs) (qs ++ us)
 | [], [], _, _, _, h => h
 | _ :: _, _ :: _, _, _, ⟨a, b⟩, h => ⟨a, PsLe.app b h⟩
 | [], _ :: _, _, _, h, _ => nomatch h
 | _ :: _, [], _, _, h, _ => nomatch h
section
variable {α : Type} {row : List α → List PV} {k : Nat} {T : TypeId} {P : Program} {g : FuncId} {ps : List PV}
theorem PCalls.amid {pre st : q43} {o : Option (Acc α)} (ho : accOk row k st o) (hp : q8a pre o) {Q : Option (Acc α) → PEnd → Prop}
  (h : ∀ st, accOk row k st o → PCalls P g ps (accS T st o) fun e s => ∃ o', accOk row k st o' ∧ Q o' e ∧ s = accS T st o') :
  PCalls P g ps (pre ++ accS T st o) fun e s => ∃ o', accOk row k st o' ∧ q8a pre o' ∧ Q o' e ∧ s = pre ++ accS T st o' := by
 refine PCalls.le (StLe.accDim hp) (PCalls.shrink (PCalls.mono (h (pre ++ st) (accOk.app.2 ⟨ho, hp⟩)) fun e s hs => ?_))
 obtain ⟨o', h1, h2, rfl⟩ := hs
 obtain ⟨h3, h4⟩ := accOk.app.1 h1
 exact ⟨_, StLe.accMid h4, o', h3, h4, h2, rfl⟩
end
section
variable {α β : Type} {row : List α → List PV} {k : Nat} {row' : List β → List PV} {k' : Nat} {T T' : TypeId}
abbrev S3 (T T' : TypeId) (w : Nat) (W : PObj) (a : Option (Acc α)) (b : Option (Acc β)) (st : q43) : q43 := (w, W) :: accS T' (accS T st a) b
structure Ok3 (row : List α → List PV) (k : Nat) (row' : List β → List PV) (k' : Nat) (T T' : TypeId) (w : Nat) (a : Option (Acc α)) (b : Option (Acc β)) (st : q43) : Prop where
 oa : accOk row k st a
 ob : accOk row' k' (accS T st a) b
 ow : q5s (accS T' (accS T st a) b) w
def j14 (T' : TypeId) (w : Nat) (W : PObj) (b : Option (Acc β)) : q43 := (w, W) :: accS T' [] b
theorem k3e (T' : TypeId) (w : Nat) (W : PObj) (b : Option (Acc β)) (st : q43) : j14 T' w W b ++ st = (w, W) :: accS T' st b := by cases b <;> rfl
theorem z9v (T' : TypeId) (b : Option (Acc β)) (st : q43) : accS T' [] b ++ st = accS T' st b := by cases b <;> rfl
theorem Ok3.pre {w : Nat} {W : PObj} {a : Option (Acc α)} {b : Option (Acc β)} {st : q43} (h : Ok3 row k row' k' T T' w a b st) : q8a (j14 T' w W b) a := fun x hx => by
 subst hx
 have hw := h.ow
 have hb := h.ob
 cases b with
 | none =>
  simp only [k0u, q5r, q5s] at hw
  exact ⟨⟨fun e => hw.1.2 e, fun e => hw.1.1 e⟩, trivial⟩
 | some y =>
  simp only [q5r, q5s] at hw
  have h2 := hb.2
  simp only [q5r, q5s] at h2
  exact ⟨⟨hw.2.1.2, hw.2.1.1⟩, ⟨h2.1.2, h2.1.1⟩, trivial⟩
theorem Ok3.parts {w : Nat} {a : Option (Acc α)} {b : Option (Acc β)} {st : q43} (h : Ok3 row k row' k' T T' w a b st) : accOk row' k' st b ∧ q5s (accS T' st b) w := by
 have hw := h.ow
 have hb := h.ob
 cases a with
 | none => exact ⟨hb, hw⟩
 | some x =>
  cases b with
  | none =>
   simp only [k0u, q5r, q5s] at hw
   exact ⟨trivial, hw.2⟩
  | some y =>
   simp only [q5r, q5s] at hw
   have h2 := hb.2
   simp only [q5r, q5s] at h2
   exact ⟨⟨hb.1, h2.2⟩, hw.1, hw.2.2⟩
theorem Ok3.of {w : Nat} {W : PObj} {a : Option (Acc α)} {b : Option (Acc β)} {st : q43} (ha : accOk row k st a) (hp : q8a (j14 T' w W b) a) (h : accOk row' k' st b ∧ q5s (accS T' st b) w) : Ok3 row k row' k' T T' w a b st := by
 obtain ⟨hb, hw⟩ := h
 cases a with
 | none => exact ⟨ha, hb, hw⟩
 | some x =>
  have hx := hp x rfl
  cases b with
  | none =>
   simp only [j14, k0u, q5s] at hx
   exact ⟨ha, trivial, ⟨⟨hx.1.2, hx.1.1⟩, hw⟩⟩
  | some y =>
   simp only [j14, q5r, q5s] at hx
   simp only [q5r, q5s] at hw
   exact ⟨ha, ⟨hb.1, ⟨hx.2.1.2, hx.2.1.1⟩, hb.2⟩, ⟨hw.1, ⟨hx.1.2, hx.1.1⟩, hw.2⟩⟩
theorem Ok3.callA {w : Nat} {W : PObj} {a : Option (Acc α)} {b : Option (Acc β)} {st : q43} {P : Program} {g : FuncId} {ps : List PV} {Q : Option (Acc α) → PEnd → Prop} (h : Ok3 row k row' k' T T' w a b st)
  (hq : ∀ st, accOk row k st a → PCalls P g ps (accS T st a) fun e s => ∃ o', accOk row k st o' ∧ Q o' e ∧ s = accS T st o') :
  PCalls P g ps (S3 T T' w W a b st) fun e s => ∃ a', Ok3 row k row' k' T T' w a' b st ∧ Q a' e ∧ s = (w, W) :: accS T' (accS T st a') b := by
 have e1 := k3e T' w W b
 unfold S3
 rw [← e1]
 refine PCalls.mono (PCalls.amid h.oa h.pre hq) fun e s hs => ?_
 obtain ⟨o', h1, h2, h3, rfl⟩ := hs
 exact ⟨o', Ok3.of h1 h2 h.parts, h3, e1 _⟩
theorem Ok3.callB {w : Nat} {W : PObj} {a : Option (Acc α)} {b : Option (Acc β)} {st : q43} {P : Program} {g : FuncId} {ps : List PV} {Q : Option (Acc β) → PEnd → Prop} (h : Ok3 row k row' k' T T' w a b st)
  (hq : ∀ st, accOk row' k' st b → PCalls P g ps (accS T' st b) fun e s => ∃ o', accOk row' k' st o' ∧ Q o' e ∧ s = accS T' st o') :
  PCalls P g ps (S3 T T' w W a b st) fun e s => ∃ b', Ok3 row k row' k' T T' w a b' st ∧ Q b' e ∧ s = (w, W) :: accS T' (accS T st a) b' := by
 have hp : q8a [(w, W)] b := fun x hx => by
  subst hx
  have := h.ow
  simp only [q5r, q5s] at this
  exact ⟨⟨this.1.2, this.1.1⟩, trivial⟩
 refine PCalls.mono (PCalls.amid (pre := [(w, W)]) h.ob hp hq) fun e s hs => ?_
 obtain ⟨o', h1, h2, h3, rfl⟩ := hs
 refine ⟨o', ⟨h.oa, h1, ?_⟩, h3, rfl⟩
 have hw := h.ow
 cases o' with
 | none =>
  cases b with
  | none => exact hw
  | some y => exact hw.2
 | some z =>
  have hz := h2 z rfl
  simp only [q5s] at hz
  refine ⟨⟨hz.1.2, hz.1.1⟩, ?_⟩
  cases b with
  | none => exact hw
  | some y => exact hw.2
theorem Ok3.appA (hrl : ∀ l, (row l).length = l.length * k) (hra : ∀ l m, row (l ++ m) = row l ++ row m) {w q : Nat} {W N : PObj} {a : Option (Acc α)} {b : Option (Acc β)} {st : q43} {K : PV → q43 → Prop} {bytes : Nat} (h : Ok3 row k row' k' T T' w a b st)
  (hq : q5s (S3 T T' w W a b st) q) (xs : List α) {new : List PV} {m : Nat} (hnew : row xs = new) (hm : xs.length = m) (hm0 : 0 < m) (hsz : ((q5m a).length + m) * bytes ≤ 140737488355328)
  (hk : ∀ a' st', Ok3 row k row' k' T T' w a' b st → q5m a' = q5m a ++ xs → q5p st' w = some W → (∀ X, StLe (S3 T T' w X a' b st) (q71 st' w X)) → K (q69 a') st') : q6o T bytes k (q69 a) new m ((q, N) :: S3 T T' w W a b st) K := by
 have e1 := k3e T' w W b
 have hp := h.pre (W := W)
 have hqa : q8a ((q, N) :: j14 T' w W b) a := fun x hx => by
  refine ⟨?_, hp x hx⟩
  subst hx
  unfold S3 at hq
  rw [← e1, k3d] at hq
  have := hq.2
  simp only [q5r, q5s] at this
  exact ⟨this.1.2, this.1.1⟩
 have e2 : (q, N) :: S3 T T' w W a b st = ((q, N) :: j14 T' w W b) ++ accS T st a := by
  unfold S3
  rw [← e1, List.cons_append]
 rw [e2]
 refine k2s hrl hra a h.oa hqa xs hnew hm hm0 hsz fun a' ha' hl' => ?_
 obtain ⟨h1, h2⟩ := accOk.app.1 ha'
 have h3 : q8a (j14 T' w W b) a' := fun x hx => (h2 x hx).2
 have hok : Ok3 row k row' k' T T' w a' b st := Ok3.of h1 h3 h.parts
 refine hk a' _ hok hl' ?_ fun X => ?_
 ·have : q5p ((q, N) :: j14 T' w W b ++ st) w = some W := by
   rw [List.cons_append, e1]
   have h4 : ¬ q = w := by
    unfold S3 at hq
    simp only [q5s] at hq
    exact hq.1.2
   simp [q5p, h4]
  cases a' with
  | none => exact this
  | some x =>
   have h5 := (h2 x rfl).2.1
   simp only [q5r, q5p]
   rw [if_neg h5.2]
   exact this
 ·have h4 : ¬ q = w := by
   unfold S3 at hq
   simp only [q5s] at hq
   exact hq.1.2
  have hset : q71 (accS T ((q, N) :: j14 T' w W b ++ st) a') w X = accS T ((q, N) :: j14 T' w X b ++ st) a' := by
   rw [List.cons_append, e1, List.cons_append, k3e]
   cases a' with
   | none => simp [q71, h4]
   | some x =>
    have h5 := (h2 x rfl).2.1
    simp [q71, h4, h5.2]
  rw [hset]
  unfold S3
  rw [← k3e]
  have h7 : q8a (j14 T' w X b) a' := fun x hx => h3 x hx
  refine (StLe.accMid h7).trans ?_
  cases a' with
  | none =>
   refine StLe.fresh ?_
   rw [k3e]
   unfold S3 at hq
   have hq2 := hq
   simp only [q5s] at hq2 ⊢
   refine ⟨hq2.1, ?_⟩
   have := hq2.2
   rw [← z9v, k3d] at this ⊢
   refine ⟨this.1, ?_⟩
   cases a with
   | none => exact this.2
   | some y => exact this.2.2
  | some x =>
   refine q6s (StLe.fresh ?_)
   rw [k3e]
   unfold S3 at hq
   have hq2 := hq
   simp only [q5s] at hq2 ⊢
   refine ⟨hq2.1, ?_⟩
   have := hq2.2
   rw [← z9v, k3d] at this ⊢
   refine ⟨this.1, ?_⟩
   cases a with
   | none => exact this.2
   | some y => exact this.2.2
theorem Ok3.appB (hrl : ∀ l, (row' l).length = l.length * k') (hra : ∀ l m, row' (l ++ m) = row' l ++ row' m) {w q : Nat} {W N : PObj} {a : Option (Acc α)} {b : Option (Acc β)} {st : q43} {K : PV → q43 → Prop} {bytes : Nat} (h : Ok3 row k row' k' T T' w a b st)
  (hq : q5s (S3 T T' w W a b st) q) (xs : List β) {new : List PV} {m : Nat} (hnew : row' xs = new) (hm : xs.length = m) (hm0 : 0 < m) (hsz : ((q5m b).length + m) * bytes ≤ 140737488355328)
  (hk : ∀ b' st', Ok3 row k row' k' T T' w a b' st → q5m b' = q5m b ++ xs → q5p st' w = some W → (∀ X, StLe (S3 T T' w X a b' st) (q71 st' w X)) → K (q69 b') st') : q6o T' bytes k' (q69 b) new m ((q, N) :: S3 T T' w W a b st) K := by
 have hw := h.ow
 have hp : q8a ((q, N) :: [(w, W)]) b := fun x hx => by
  subst hx
  simp only [q5r, q5s] at hw
  simp only [q5r, q5s] at hq
  exact ⟨⟨hq.2.1.2, hq.2.1.1⟩, ⟨hw.1.2, hw.1.1⟩, trivial⟩
 refine k2s (pre := (q, N) :: [(w, W)]) hrl hra b h.ob hp xs hnew hm hm0 hsz fun b' hb' hl' => ?_
 obtain ⟨h1, h2⟩ := accOk.app.1 hb'
 have hqw : ¬ q = w := by
  simp only [q5s] at hq
  exact hq.1.2
 have hqs : q5s (accS T st a) q := by
  simp only [q5s] at hq
  cases b with
  | none => exact hq.2
  | some y => exact hq.2.2
 have hws : q5s (accS T st a) w := by
  cases b with
  | none => exact hw
  | some y => exact hw.2
 refine hk b' _ ⟨h.oa, h1, ?_⟩ hl' ?_ fun X => ?_
 ·cases b' with
  | none => exact hws
  | some z =>
   have hz := (h2 z rfl).2.1
   exact ⟨⟨hz.2, hz.1⟩, hws⟩
 ·cases b' with
  | none => simp [q5p, hqw]
  | some z =>
   have hz := (h2 z rfl).2.1
   simp [q5p, hqw, hz.2]
 ·cases b' with
  | none =>
   simp only [k0u, List.cons_append, List.nil_append, q71, if_neg hqw, if_true, S3]
   exact StLe.fresh ⟨⟨fun e => hqw e.symm, hqw⟩, hqs⟩
  | some z =>
   have hz := h2 z rfl
   simp only [q5s] at hz
   simp only [q5r, List.cons_append, List.nil_append, q71, if_neg hqw, if_neg hz.2.1.2, if_true, S3]
   exact (StLe.swap hz.2.1.1).trans (q6s (StLe.fresh ⟨⟨fun e => hqw e.symm, hqw⟩, hqs⟩))
end
section
variable {α : Type} {row : List α → List PV} {k : Nat} {T : TypeId} {b : Nat} {x : PObj} {st : q43} {o : Option (Acc α)}
theorem k7r (ho : accOk row k ((b, x) :: st) o) : q5p (accS T ((b, x) :: st) o) b = some x := by
 cases o with
 | none => simp [q5p]
 | some a =>
  have := ho.2.1
  simp [q5p, this.2]
theorem z2s (ho : accOk row k ((b, x) :: st) o) (y : PObj) : q71 (accS T ((b, x) :: st) o) b y = accS T ((b, y) :: st) o := by
 cases o with
 | none => simp [q71]
 | some a =>
  have := ho.2.1
  simp [q71, this.2]
theorem accOk.rebox {y : PObj} (ho : accOk row k ((b, x) :: st) o) : accOk row k ((b, y) :: st) o := by
 cases o with
 | none => trivial
 | some a => exact ho
theorem StLe.acc {st0 : q43} (ho : accOk row k st o) (h : StLe st0 st) : StLe st0 (accS T st o) := by
 cases o with
 | none => exact h
 | some a => exact h.trans (.fresh ho.2)
end
end Go.Pv

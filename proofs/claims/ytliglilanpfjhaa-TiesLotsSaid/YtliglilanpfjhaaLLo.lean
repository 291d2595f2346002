/- Loops, rows of structs. -/
import Derived.Test.YtliglilanpfjhaaLLib
import Derived.IntWalk
import Derived.Test.YtliglilanpfjhaaLSc0
import Derived.Laws.Externs
namespace Go.Pv

/-- The next round's head. -/
def Next {σ : Type} (E : σ → Env) (S : σ → Store) (inv : σ → Prop) (μ : σ → Nat) (x : σ) (s1 : PS) (_ : Tok (E, S, inv, μ, x) := ⟨⟩) : Prop := ∃ y, inv y ∧ μ y < μ x ∧ View s1 ⟨E y, S y⟩
theorem Next.intro {σ : Type} {E : σ → Env} {S : σ → Store} {inv : σ → Prop} {μ : σ → Nat} {x : σ} {e : Env} {st : Store} (y : σ) (hi : inv y) (hm : μ y < μ x) (he : ∀ q ∈ E y, eget e q.1 = q.2) (hs : StLe (S y) st) : Next E S inv μ x ⟨e, st⟩ :=
  ⟨y, hi, hm, View.weak he hs⟩
/-- A loop by what stands at its rounds' heads. -/
theorem xloop_for {P : Program} {c : MCode} {Q : MPost} {e : Env} {st : Store} {σ : Type} (E : σ → Env) (S : σ → Store) (inv : σ → Prop) (μ : σ → Nat) (x0 : σ) (h0 : inv x0)
    (he : ∀ q ∈ E x0, eget e q.1 = q.2) (hs : StLe (S x0) st)
    (h : ∀ x, inv x → xwp P c (fun e s => xthen (fun s1 => Next E S inv μ x s1) Q e s) ⟨E x, S x⟩) : xloop P c Q ⟨e, st⟩ := by
  refine ⟨fun n s => ∃ x, inv x ∧ μ x = n ∧ s = ⟨E x, S x⟩, ⟨μ x0, ⟨E x0, S x0⟩, View.weak he hs, x0, h0, rfl, rfl⟩, ?_⟩
  rintro n s ⟨x, hx, rfl, rfl⟩
  have hh := h x hx
  have e1 : (fun e s => xthen (fun s1 => Next E S inv μ x s1) Q e s) = mthen (fun s1 => Next E S inv μ x s1) Q := rfl
  have e2 : (fun s1 => Next E S inv μ x s1) = (fun s1 => ∃ m, m < μ x ∧ ∃ s', View s1 s' ∧ ∃ y, inv y ∧ μ y = m ∧ s' = ⟨E y, S y⟩) := by
    funext s1
    refine propext ⟨fun ⟨y, h1, h2, h3⟩ => ⟨μ y, h2, _, h3, y, h1, rfl, rfl⟩, fun ⟨m, h1, s', h2, y, h3, h4, h5⟩ => ?_⟩
    subst h4; subst h5
    exact ⟨y, h3, h1, h2⟩
  rw [e1, e2] at hh
  exact hh

/-! ### What arguments may be taken to be -/
def Sound (ps : List PV) (st : Store) : Prop := ∃ I w vs, SRep I st w ∧ vreps I ps vs
theorem Has.enters {P : Program} {g : FuncId} {m : MFunc} (h : Has P g m) : Enters P g := by
  obtain ⟨fn, h1, h2, h3⟩ := h
  refine ⟨fn, h1, h2, ?_⟩
  unfold convFunc at h3
  split at h3
  · rename_i c hc; rw [hc]; rfl
  · cases h3
theorem Has.sound {P : Program} {g : FuncId} {m : MFunc} (h : Has P g m) {ps : List PV} {st : Store} {Q : PEnd → Store → Prop} (hk : Sound ps st → PCalls P g ps st Q) : PCalls P g ps st Q :=
  .inl ⟨h.enters, fun I w vs h1 h2 => by
    rcases hk ⟨I, w, vs, h1, h2⟩ with hk | hk
    · exact hk.out I w vs h1 h2
    · obtain ⟨v, w', h3, -⟩ := hk.out I w vs h1 h2
      rw [callFunc_run h.enters] at h3
      cases h3⟩
theorem vreps_mem {I : Imm} : ∀ {ps : List PV} {vs : List Value} {p : PV}, vreps I ps vs → p ∈ ps → ∃ v, vrep I p v
  | [], _, _, _, h => by simp at h
  | _ :: _, [], _, h, _ => by simp [vreps] at h
  | q :: ps, v :: vs, p, h, hm => by
    simp only [vreps] at h
    rcases List.mem_cons.1 hm with rfl | hm
    · exact ⟨v, h.1⟩
    · exact vreps_mem h.2 hm
theorem Sound.list_le {ps : List PV} {st : Store} (h : Sound ps st) {t : Bool} {cs : List PV} {n : Nat} (hm : PV.list t cs n ∈ ps) : n ≤ 9223372036854775807 := by
  obtain ⟨I, w, vs, -, hv⟩ := h
  obtain ⟨v, hv⟩ := vreps_mem hv hm
  simp only [vrep] at hv
  obtain ⟨a, cap, us, -, h1, h2, -⟩ := hv
  unfold maxLen at h2
  omega

/-! ### Rows of structs -/
section
variable {α : Type} (enc : α → List PV) (k : Nat)
theorem flat_length (hk : ∀ x, (enc x).length = k) : ∀ l : List α, (l.flatMap enc).length = l.length * k
  | [] => by simp
  | x :: l => by simp [flat_length hk l, hk, Nat.succ_mul, Nat.add_comm]
theorem flat_drop (hk : ∀ x, (enc x).length = k) : ∀ (l : List α) (i : Nat), (l.flatMap enc).drop (i * k) = (l.drop i).flatMap enc
  | [], i => by simp
  | x :: l, 0 => by simp
  | x :: l, i + 1 => by
    have e : (i + 1) * k = (enc x).length + i * k := by rw [hk, Nat.succ_mul, Nat.add_comm]
    rw [List.flatMap_cons, e, List.drop_append, List.drop_succ_cons]
    simp only [Nat.add_sub_cancel_left, List.drop_eq_nil_of_le (Nat.le_add_right _ _), List.nil_append]
    exact flat_drop hk l i
theorem flat_take (hk : ∀ x, (enc x).length = k) : ∀ (l : List α) (i : Nat), (l.flatMap enc).take (i * k) = (l.take i).flatMap enc
  | [], i => by simp
  | x :: l, 0 => by simp
  | x :: l, i + 1 => by
    have e : (i + 1) * k = (enc x).length + i * k := by rw [hk, Nat.succ_mul, Nat.add_comm]
    rw [List.flatMap_cons, e, List.take_append, List.take_succ_cons, List.flatMap_cons]
    simp only [Nat.add_sub_cancel_left, List.take_of_length_le (Nat.le_add_right _ _)]
    rw [flat_take hk l i]
theorem flat_sub (hk : ∀ x, (enc x).length = k) (l : List α) (i : Nat) (h : i < l.length) : sub (l.flatMap enc) (i * k) k = some (enc l[i]) := by
  have hl := flat_length enc k hk l
  have h1 : i * k + k ≤ l.length * k := by rw [← Nat.succ_mul]; exact Nat.mul_le_mul_right k h
  rw [sub_eq, if_pos (by rw [hl]; exact h1), flat_drop enc k hk, List.drop_eq_getElem_cons h, List.flatMap_cons]
  rw [List.take_append_of_le_length (by rw [hk]; exact Nat.le_refl _), List.take_of_length_le (by rw [hk]; exact Nat.le_refl _)]
theorem flat_get (hk : ∀ x, (enc x).length = k) (l : List α) (i j : Nat) (h : i < l.length) (hj : j < k) : (l.flatMap enc)[i * k + j]? = (enc l[i])[j]? := by
  rw [← List.getElem?_drop, flat_drop enc k hk, List.drop_eq_getElem_cons h, List.flatMap_cons, List.getElem?_append_left (by rw [hk]; exact hj)]
end
end Go.Pv
/- What is behind a return may be seen as never written any more: rows, maps, variables are frozen. -/
namespace Go.Pv
variable {P : Program}

mutual
/-- q is p, but that what leads into the object o at b is read as what is there, for good. -/
inductive Frz (b : Nat) (o : PObj) : PV → PV → Prop
  | refl (p : PV) : Frz b o p p
  | own (T : TypeId) (cs : List PV) (off n cap k : Nat) (ho : o = .arr T cs) (h1 : n ≤ cap) (h2 : cap ≤ 9223372036854775807) : Frz b o (.own b off n cap) (.list false ((cs.drop off).take (n * k)) n)
  | ptr (T : TypeId) (cs : List PV) (off : Nat) (ho : o = .arr T cs) : Frz b o (.ptr b off) (.iptr cs off)
  | map (ks : List Value) (vs : List PV) (ho : o = .map ks vs) : Frz b o (.val (.map (some b))) (.imap ks vs)
  | agg {ps qs : List PV} (h : Frzs b o ps qs) : Frz b o (.agg ps) (.agg qs)
  | tuple {ps qs : List PV} (h : Frzs b o ps qs) : Frz b o (.tuple ps) (.tuple qs)
  | list {ps qs : List PV} (t : Bool) (n : Nat) (h : Frzs b o ps qs) : Frz b o (.list t ps n) (.list t qs n)
  | imap {ps qs : List PV} (ks : List Value) (h : Frzs b o ps qs) : Frz b o (.imap ks ps) (.imap ks qs)
  | iptr {ps qs : List PV} (off : Nat) (h : Frzs b o ps qs) : Frz b o (.iptr ps off) (.iptr qs off)
  | func {ps qs rs us : List PV} (fn : Fn) (h : Frzs b o ps qs) (h2 : Frzs b o rs us) : Frz b o (.func fn ps rs) (.func fn qs us)
  | iface {p q : PV} (T : TypeId) (h : Frz b o p q) : Frz b o (.iface T p) (.iface T q)
inductive Frzs (b : Nat) (o : PObj) : List PV → List PV → Prop
  | nil : Frzs b o [] []
  | cons {p q : PV} {ps qs : List PV} (h : Frz b o p q) (t : Frzs b o ps qs) : Frzs b o (p :: ps) (q :: qs)
end
theorem Frzs.refl {b : Nat} {o : PObj} : ∀ ps : List PV, Frzs b o ps ps
  | [] => .nil
  | p :: ps => .cons (.refl p) (Frzs.refl ps)

/-- The object, among what is never written. -/
def Frozen (I : Imm) (b : Nat) (o : PObj) : Prop := ∃ r, I b = some r ∧ orep I o r

mutual
theorem Frz.vrep {I : Imm} {b : Nat} {o : PObj} (hI : Frozen I b o) : ∀ {p q : PV} {v : Value}, Frz b o p q → vrep I p v → vrep I q v
  | _, _, _, .refl _, hv => hv
  | _, _, v, .own T cs off n cap k ho h1 h2, hv => by
    subst ho
    obtain ⟨r, hr, vs, rfl, hc⟩ := hI
    simp only [Go.Pv.vrep] at hv ⊢
    subst hv
    refine ⟨_, cap, (vs.drop off).take (n * k), rfl, h1, by unfold maxLen; exact h2, by simp, vcells_take _ (vcells_drop _ hc), .inr ⟨b, off, rfl, _, T, _, hr, fun j u hj => ?_⟩⟩
    rw [List.getElem?_take] at hj
    split at hj
    · rw [List.getElem?_drop] at hj; simpa using hj
    · cases hj
  | _, _, v, .ptr T cs off ho, hv => by
    subst ho
    obtain ⟨r, hr, vs, rfl, hc⟩ := hI
    simp only [Go.Pv.vrep] at hv ⊢
    subst hv
    exact ⟨b, 0, vs, by simp, hc, _, T, _, hr, fun j u hj => by simpa using hj⟩
  | _, _, v, .map ks vs ho, hv => by
    subst ho
    obtain ⟨r, hr, es, clock, rfl, h1, h2, -⟩ := hI
    simp only [Go.Pv.vrep] at hv ⊢
    subst hv
    exact ⟨b, es, clock, rfl, hr, h1, h2⟩
  | _, _, v, .agg h, hv => by
    simp only [Go.Pv.vrep] at hv ⊢
    obtain ⟨vs, h1, h2⟩ := hv
    exact ⟨vs, h1, Frzs.vcells hI h h2⟩
  | _, _, v, .tuple h, hv => by
    simp only [Go.Pv.vrep] at hv ⊢
    obtain ⟨vs, h1, h2⟩ := hv
    exact ⟨vs, h1, Frzs.vreps hI h h2⟩
  | _, _, v, .list t n h, hv => by
    simp only [Go.Pv.vrep] at hv ⊢
    obtain ⟨a, cap, vs, h1, h2, h3, h4, h5, h6⟩ := hv
    exact ⟨a, cap, vs, h1, h2, h3, h4, Frzs.vcells hI h h5, h6⟩
  | _, _, v, .imap ks h, hv => by
    simp only [Go.Pv.vrep] at hv ⊢
    obtain ⟨r, es, clock, h1, h2, h3, h4⟩ := hv
    exact ⟨r, es, clock, h1, h2, h3, Frzs.vreps hI h h4⟩
  | _, _, v, .iptr off h, hv => by
    simp only [Go.Pv.vrep] at hv ⊢
    obtain ⟨c, o', vs, h1, h2, h3⟩ := hv
    exact ⟨c, o', vs, h1, Frzs.vcells hI h h2, h3⟩
  | _, _, v, .func fn h h2, hv => by
    simp only [Go.Pv.vrep] at hv ⊢
    obtain ⟨us, vs, h3, h4, h5⟩ := hv
    exact ⟨us, vs, h3, Frzs.vreps hI h h4, Frzs.vreps hI h2 h5⟩
  | _, _, v, .iface T h, hv => by
    simp only [Go.Pv.vrep] at hv ⊢
    obtain ⟨u, h1, h2⟩ := hv
    exact ⟨u, h1, Frz.vrep hI h h2⟩
theorem Frzs.vreps {I : Imm} {b : Nat} {o : PObj} (hI : Frozen I b o) : ∀ {ps qs : List PV} {vs : List Value}, Frzs b o ps qs → vreps I ps vs → vreps I qs vs
  | _, _, _, .nil, hv => hv
  | _, _, [], .cons _ _, hv => by simp [Go.Pv.vreps] at hv
  | _, _, _ :: _, .cons h t, hv => by
    simp only [Go.Pv.vreps] at hv ⊢
    exact ⟨Frz.vrep hI h hv.1, Frzs.vreps hI t hv.2⟩
theorem Frzs.vcells {I : Imm} {b : Nat} {o : PObj} (hI : Frozen I b o) : ∀ {ps qs : List PV} {vs : List Value}, Frzs b o ps qs → vcells I ps vs → vcells I qs vs
  | _, _, _, .nil, hv => hv
  | _, _, [], .cons _ _, hv => by simp [Go.Pv.vcells] at hv
  | _, _, _ :: _, .cons h t, hv => by
    simp only [Go.Pv.vcells] at hv ⊢
    exact ⟨⟨Frz.vrep hI h hv.1.1, hv.1.2⟩, Frzs.vcells hI t hv.2⟩
end

theorem SRep.freeze {I : Imm} {st : Store} {w : World} {b : Nat} {o : PObj} (h : SRep I ((b, o) :: st) w) (hn : snew st b) : ∃ I', I.le I' ∧ SRep I' st w ∧ Frozen I' b o := by
  obtain ⟨hI, r, hr, ho⟩ := h.objs b o (by simp [sget])
  have hle : I.le (I.add b r) := by
    intro c x hc
    unfold Imm.add
    rw [if_neg (by rintro rfl; rw [hI] at hc; cases hc)]
    exact hc
  refine ⟨I.add b r, hle, ⟨fun c x hc => ?_, fun c x hc => ?_, h.keys.2⟩, r, by simp [Imm.add], orep_mono hle ho⟩
  · unfold Imm.add at hc
    split at hc
    · rename_i e; subst e; cases hc; exact hr
    · exact h.imm c x hc
  · have hne : c ≠ b := by rintro rfl; rw [snew_get hn] at hc; cases hc
    obtain ⟨h1, r', h2, h3⟩ := h.objs c x (by simp only [sget]; rw [if_neg (fun e : b = c => hne e.symm)]; exact hc)
    refine ⟨by simp [Imm.add, hne, h1], r', h2, orep_mono hle h3⟩

theorem Sees.freeze {b : Nat} {o : PObj} {p q : PV} {st : Store} (hn : snew st b) (hf : Frz b o p q) : Sees p ((b, o) :: st) q st := ⟨fun I w v h1 h2 => by
  obtain ⟨I', h3, h4, h5⟩ := h1.freeze hn
  exact ⟨I', h3, h4, hf.vrep h5 (vrep_mono h3 _ _ h2)⟩⟩
theorem RetView.sees {c : PV → PEnd} {p q : PV} {st st' : Store} {Q : PEnd → Store → Prop} (hs : Sees p st q st') (h : RetView c q st' Q) : RetView c p st Q := by
  obtain ⟨p', st'', h1, h2⟩ := h
  exact ⟨p', st'', hs.trans h1, h2⟩
theorem RetView.freeze {c : PV → PEnd} {b : Nat} {o : PObj} {p : PV} (q : PV) {st : Store} {Q : PEnd → Store → Prop} (hn : snew st b) (hf : Frz b o p q) (h : RetView c q st Q) : RetView c p ((b, o) :: st) Q := .sees (.freeze hn hf) h

/-- The same, reckoned out: 'k': the cells of an element. -/
def fzv (b : Nat) (o : PObj) (k : Nat) : Value → PV
  | .slice (some ⟨c, off, none⟩) n cap =>
    if c = b ∧ n ≤ cap ∧ cap ≤ 9223372036854775807 then
      match o with
      | .arr _ cs => .list false ((cs.drop off).take (n * k)) n
      | _ => .own c off n cap
    else .own c off n cap
  | .pointer (some ⟨c, off, none⟩) =>
    if c = b then
      match o with
      | .arr _ cs => .iptr cs off
      | _ => .ptr c off
    else .ptr c off
  | .map (some c) =>
    if c = b then
      match o with
      | .map ks vs => .imap ks vs
      | _ => .val (.map (some c))
    else .val (.map (some c))
  | v => .val v
mutual
def fzp (b : Nat) (o : PObj) (k : Nat) : PV → PV
  | .any => .any
  | .val v => fzv b o k v
  | .agg cs => .agg (fzps b o k cs)
  | .tuple cs => .tuple (fzps b o k cs)
  | .list t cs n => .list t (fzps b o k cs) n
  | .iptr cs off => .iptr (fzps b o k cs) off
  | .imap ks vs => .imap ks (fzps b o k vs)
  | .func fn cs ds => .func fn (fzps b o k cs) (fzps b o k ds)
  | .iface T p => .iface T (fzp b o k p)
def fzps (b : Nat) (o : PObj) (k : Nat) : List PV → List PV
  | [] => []
  | p :: ps => fzp b o k p :: fzps b o k ps
end
theorem fzv_spec (b : Nat) (o : PObj) (k : Nat) (v : Value) : Frz b o (.val v) (fzv b o k v) := by
  unfold fzv
  split
  · split
    · rename_i h
      obtain ⟨rfl, h1, h2⟩ := h
      split
      · exact .own _ _ _ _ _ _ rfl h1 h2
      · exact .refl _
    · exact .refl _
  · split
    · rename_i h
      subst h
      split
      · exact .ptr _ _ _ rfl
      · exact .refl _
    · exact .refl _
  · split
    · rename_i h
      subst h
      split
      · exact .map _ _ rfl
      · exact .refl _
    · exact .refl _
  · exact .refl _
mutual
theorem fzp_spec (b : Nat) (o : PObj) (k : Nat) : ∀ p : PV, Frz b o p (fzp b o k p)
  | .any => by simp only [fzp]; exact .refl _
  | .val v => by simp only [fzp]; exact fzv_spec b o k v
  | .agg cs => by simp only [fzp]; exact .agg (fzps_spec b o k cs)
  | .tuple cs => by simp only [fzp]; exact .tuple (fzps_spec b o k cs)
  | .list t cs n => by simp only [fzp]; exact .list t n (fzps_spec b o k cs)
  | .iptr cs off => by simp only [fzp]; exact .iptr off (fzps_spec b o k cs)
  | .imap ks vs => by simp only [fzp]; exact .imap ks (fzps_spec b o k vs)
  | .func fn cs ds => by simp only [fzp]; exact .func fn (fzps_spec b o k cs) (fzps_spec b o k ds)
  | .iface T p => by simp only [fzp]; exact .iface T (fzp_spec b o k p)
theorem fzps_spec (b : Nat) (o : PObj) (k : Nat) : ∀ ps : List PV, Frzs b o ps (fzps b o k ps)
  | [] => by simp only [fzps]; exact .nil
  | p :: ps => by simp only [fzps]; exact .cons (fzp_spec b o k p) (fzps_spec b o k ps)
end
theorem RetView.fz {c : PV → PEnd} {b : Nat} {o : PObj} {p : PV} (k : Nat) {st : Store} {Q : PEnd → Store → Prop} (hn : snew st b) (h : RetView c (fzp b o k p) st Q) : RetView c p ((b, o) :: st) Q := .freeze _ hn (fzp_spec b o k p) h
section
variable (b c off n cap k : Nat) (o : PObj) (T : TypeId) (cs ds : List PV) (ks : List Value) (p : PV)
@[simp] theorem fzp_int (kk : IntKind) (x : Int) : fzp b o k (.val (.int kk x)) = .val (.int kk x) := rfl
@[simp] theorem fzp_bool (x : Bool) : fzp b o k (.val (.bool x)) = .val (.bool x) := rfl
@[simp] theorem fzp_str (x : ByteArray) : fzp b o k (.val (.string x)) = .val (.string x) := rfl
@[simp] theorem fzp_nil (n c : Nat) : fzp b o k (.val (.slice none n c)) = .val (.slice none n c) := rfl
@[simp] theorem fzp_nilIface : fzp b o k (.val .nilIface) = .val .nilIface := rfl
@[simp] theorem fzp_nilFunc : fzp b o k (.val .nilFunc) = .val .nilFunc := rfl
@[simp] theorem fzp_nilMap : fzp b o k (.val (.map none)) = .val (.map none) := rfl
@[simp] theorem fzp_agg : fzp b o k (.agg cs) = .agg (fzps b o k cs) := rfl
@[simp] theorem fzp_tuple : fzp b o k (.tuple cs) = .tuple (fzps b o k cs) := rfl
@[simp] theorem fzp_list (t : Bool) : fzp b o k (.list t cs n) = .list t (fzps b o k cs) n := rfl
@[simp] theorem fzp_iptr : fzp b o k (.iptr cs n) = .iptr (fzps b o k cs) n := rfl
@[simp] theorem fzp_imap : fzp b o k (.imap ks cs) = .imap ks (fzps b o k cs) := rfl
@[simp] theorem fzp_func (fn : Fn) : fzp b o k (.func fn cs ds) = .func fn (fzps b o k cs) (fzps b o k ds) := rfl
@[simp] theorem fzp_iface : fzp b o k (.iface T p) = .iface T (fzp b o k p) := rfl
@[simp] theorem fzps_nil : fzps b o k [] = [] := rfl
@[simp] theorem fzps_cons : fzps b o k (p :: cs) = fzp b o k p :: fzps b o k cs := rfl
@[simp] theorem fzp_own : fzp b (.arr T cs) k (.val (.slice (some ⟨c, off, none⟩) n cap)) = if c = b ∧ n ≤ cap ∧ cap ≤ 9223372036854775807 then .list false ((cs.drop off).take (n * k)) n else .own c off n cap := rfl
@[simp] theorem fzp_own_map (vs : List PV) : fzp b (.map ks vs) k (.val (.slice (some ⟨c, off, none⟩) n cap)) = .own c off n cap := by
  simp only [fzp, fzv]; split <;> rfl
@[simp] theorem fzp_ptr : fzp b (.arr T cs) k (.val (.pointer (some ⟨c, off, none⟩))) = if c = b then .iptr cs off else .ptr c off := rfl
@[simp] theorem fzp_ptr_map (vs : List PV) : fzp b (.map ks vs) k (.val (.pointer (some ⟨c, off, none⟩))) = .ptr c off := by
  simp only [fzp, fzv]; split <;> rfl
@[simp] theorem fzp_map (vs : List PV) : fzp b (.map ks vs) k (.val (.map (some c))) = if c = b then .imap ks vs else .val (.map (some c)) := rfl
@[simp] theorem fzp_map_arr : fzp b (.arr T cs) k (.val (.map (some c))) = .val (.map (some c)) := by
  simp only [fzp, fzv]; split <;> rfl
end
/-- Plain values hold nothing to be frozen. -/
def PV.plain : PV → Bool
  | .val (.int _ _) | .val (.bool _) | .val (.string _) => true
  | _ => false
theorem fzps_plain (b : Nat) (o : PObj) (k : Nat) : ∀ {ps : List PV}, (∀ p ∈ ps, p.plain = true) → fzps b o k ps = ps
  | [], _ => rfl
  | p :: ps, h => by
    rw [fzps_cons, fzps_plain b o k fun q hq => h q (by simp [hq])]
    congr 1
    have := h p (by simp)
    unfold PV.plain at this
    split at this <;> first | rfl | cases this

theorem fzps_append (b : Nat) (o : PObj) (k : Nat) : ∀ ps qs : List PV, fzps b o k (ps ++ qs) = fzps b o k ps ++ fzps b o k qs
  | [], _ => rfl
  | p :: ps, qs => by simp [fzps_append b o k ps qs]
theorem flat_fz {α : Type} (enc : α → List PV) (h : ∀ b o k x, fzps b o k (enc x) = enc x) (b : Nat) (o : PObj) (k : Nat) : ∀ l : List α, fzps b o k (l.flatMap enc) = l.flatMap enc
  | [] => rfl
  | x :: l => by rw [List.flatMap_cons, fzps_append, h, flat_fz enc h b o k l]
theorem setCells_append_right {α : Type} : ∀ (ps us vs : List α) (n : Nat), setCells (us ++ vs) (us.length + n) ps = us ++ setCells vs n ps
  | [], _, _, _ => rfl
  | p :: ps, us, vs, n => by
    simp only [setCells]
    rw [List.set_append_right _ _ (by omega), Nat.add_sub_cancel_left, Nat.add_assoc, setCells_append_right ps us (vs.set n p) (n + 1)]
theorem setCells_append_left {α : Type} : ∀ (ps us vs : List α) (n : Nat), n + ps.length ≤ us.length → setCells (us ++ vs) n ps = setCells us n ps ++ vs
  | [], _, _, _, _ => rfl
  | p :: ps, us, vs, n, h => by
    simp only [List.length_cons] at h
    simp only [setCells]
    rw [List.set_append_left _ _ (by omega), setCells_append_left ps (us.set n p) vs (n + 1) (by simp; omega)]
theorem setCells_all {α : Type} : ∀ (ps us : List α), ps.length = us.length → setCells us 0 ps = ps := by
  intro ps us h
  have key : ∀ (ps us pre : List α), ps.length = us.length → setCells (pre ++ us) pre.length ps = pre ++ ps := by
    intro ps
    induction ps with
    | nil => intro us pre h; cases us <;> simp_all [setCells]
    | cons p ps ih =>
      intro us pre h
      cases us with
      | nil => simp at h
      | cons u us =>
        simp only [setCells]
        have e : (pre ++ u :: us).set pre.length p = (pre ++ [p]) ++ us := by simp
        rw [e]
        have := ih us (pre ++ [p]) (by simpa using h)
        simp only [List.length_append, List.length_cons, List.length_nil] at this
        rw [Nat.zero_add] at this
        rw [this]
        simp
  have := key ps us [] h
  simpa using this
attribute [simp] setCells_all
theorem setCells_two {α : Type} (A Y x B : List α) (h : x.length + B.length ≤ Y.length) :
    (setCells (setCells (A ++ Y) (A.length + x.length) B) A.length x).take (A.length + x.length + B.length) = A ++ x ++ B ∧
    (setCells (setCells (A ++ Y) A.length x) (A.length + x.length) B).take (A.length + x.length + B.length) = A ++ x ++ B := by
  obtain ⟨Y1, Y2, rfl, hY1⟩ : ∃ Y1 Y2, Y = Y1 ++ Y2 ∧ Y1.length = x.length := ⟨Y.take x.length, Y.drop x.length, (List.take_append_drop ..).symm, by rw [List.length_take]; omega⟩
  rw [List.length_append] at h
  have e0 : ∀ Z : List α, setCells (A ++ Z) A.length x = A ++ setCells Z 0 x := fun Z => by
    have := setCells_append_right x A Z 0
    simpa using this
  have e1 : ∀ Z : List α, setCells (Y1 ++ Z) x.length B = Y1 ++ setCells Z 0 B := fun Z => by
    have := setCells_append_right B Y1 Z 0
    rw [hY1] at this
    simpa using this
  have e2 : ∀ Z : List α, setCells (Y1 ++ Z) 0 x = x ++ Z := fun Z => by
    rw [setCells_append_left _ _ _ _ (by omega), setCells_all _ _ hY1.symm]
  have e3 : ∀ Z : List α, setCells (x ++ Z) x.length B = x ++ setCells Z 0 B := fun Z => by
    have := setCells_append_right B x Z 0
    simpa using this
  have tk : ∀ D : List α, (A ++ (x ++ (B ++ D))).take (A.length + x.length + B.length) = A ++ x ++ B := fun D => by
    have : A ++ (x ++ (B ++ D)) = (A ++ x ++ B) ++ D := by simp
    rw [this, List.take_left' (by simp; omega)]
  have e4 : setCells Y2 0 B = B ++ Y2.drop B.length := by
    rw [setCells_split B Y2 0 (by omega)]
    simp
  constructor
  · rw [setCells_append_right, e1, e0, e2, e4]
    exact tk _
  · rw [e0, e2, setCells_append_right, e3, e4]
    exact tk _
theorem flat_set {α : Type} (enc : α → List PV) (k : Nat) (hk : ∀ x, (enc x).length = k) : ∀ (l : List α) (i : Nat) (x : α), i < l.length → setCells (l.flatMap enc) (i * k) (enc x) = (l.set i x).flatMap enc
  | [], i, x, h => by simp at h
  | y :: l, 0, x, _ => by
    rw [Nat.zero_mul, List.flatMap_cons, setCells_append_left _ _ _ _ (by rw [hk, hk]; omega), setCells_all _ _ (by rw [hk, hk])]
    rfl
  | y :: l, i + 1, x, h => by
    have e : (i + 1) * k = (enc y).length + i * k := by rw [hk, Nat.succ_mul, Nat.add_comm]
    rw [List.flatMap_cons, e, setCells_append_right, flat_set enc k hk l i x (by simpa using h)]
    rfl

@[simp] theorem sub_nil0 : sub [] 0 0 = some [] := rfl
theorem sdel_of_new {b : Nat} : ∀ {st : Store}, snew st b → sdel b st = st
  | [], _ => rfl
  | (c, o) :: st, h => by
    simp only [snew] at h
    simp only [sdel, if_neg h.1.1, sdel_of_new h.2]
attribute [simp] sdel length_setCells
@[simp] theorem sdel_new {b : Nat} {st : Store} (h : snew st b) : sdel b st = st := sdel_of_new h
theorem Cls_and {st0 st : Store} {M : List Nat} {b : Prop} (h : Cls st0 M st) (k : b) : Cls st0 M st ∧ b := ⟨h, k⟩
theorem and_keep {a b : Prop} (h : a) (k : a → b) : a ∧ b := ⟨h, k h⟩
@[simp] theorem StLe_self (st : Store) : StLe st st := StLe.refl st
@[simp] theorem StLe_fresh {st st' : Store} {b : Nat} {o : PObj} (hn : snew st' b) (h : StLe st st') : StLe st ((b, o) :: st') := h.trans (.fresh hn)
@[simp] theorem StLe_same {st st' : Store} {b : Nat} {o : PObj} (h : StLe st st') : StLe ((b, o) :: st) ((b, o) :: st') := fun c x hx => by
  simp only [sget] at hx ⊢
  split
  · rename_i e; rw [if_pos e] at hx; exact hx
  · rename_i e; rw [if_neg e] at hx; exact h c x hx

theorem Sees.nil (st : Store) : Sees .nil st (.list true [] 0) st := ⟨fun I w v h1 h2 => ⟨I, I.le_refl, h1, by
  simp only [vrep] at h2 ⊢
  subst h2
  exact ⟨none, 0, [], rfl, Nat.le_refl _, by unfold maxLen; omega, fun _ => rfl, by simp [vcells], .inl rfl⟩⟩⟩
theorem Sees.loose {t : Bool} {cs : List PV} {n : Nat} (st : Store) : Sees (.list t cs n) st (.list false cs n) st := ⟨fun I w v h1 h2 => ⟨I, I.le_refl, h1, by
  simp only [vrep] at h2 ⊢
  obtain ⟨a, cap, vs, h3, h4, h5, -, h6, h7⟩ := h2
  exact ⟨a, cap, vs, h3, h4, h5, by simp, h6, h7⟩⟩⟩
theorem Sees.tuple2l {p q r : PV} {st st' : Store} (h : Sees p st q st') : Sees (.tuple [p, r]) st (.tuple [q, r]) st' := ⟨fun I w v h1 h2 => by
  simp only [vrep] at h2
  obtain ⟨vs, rfl, h3⟩ := h2
  cases vs with
  | nil => simp [vreps] at h3
  | cons a vs =>
    simp only [vreps] at h3
    obtain ⟨I', h6, h7, h8⟩ := h.out I w a h1 h3.1
    refine ⟨I', h6, h7, ?_⟩
    simp only [vrep]
    exact ⟨a :: vs, rfl, by simp only [vreps]; exact ⟨h8, vreps_mono h6 _ _ h3.2⟩⟩⟩
theorem Sees.nil0 (st : Store) : Sees .nil st (.list false [] 0) st := (Sees.nil st).trans (Sees.loose st)
theorem RetView.nil1 {c : PV → PEnd} {st : Store} {Q : PEnd → Store → Prop} (h : RetView c (.list false [] 0) st Q) : RetView c .nil st Q := .sees (.nil0 st) h
theorem RetView.nil2 {c : PV → PEnd} {r : PV} {st : Store} {Q : PEnd → Store → Prop} (h : RetView c (.tuple [.list false [] 0, r]) st Q) : RetView c (.tuple [.nil, r]) st Q := .sees (.tuple2l (.nil0 st)) h
theorem RetView.loose2 {c : PV → PEnd} {t : Bool} {cs : List PV} {n : Nat} {r : PV} {st : Store} {Q : PEnd → Store → Prop} (h : RetView c (.tuple [.list false cs n, r]) st Q) : RetView c (.tuple [.list t cs n, r]) st Q := .sees (.tuple2l (.loose st)) h
theorem RetView.loose1 {c : PV → PEnd} {t : Bool} {cs : List PV} {n : Nat} {st : Store} {Q : PEnd → Store → Prop} (h : RetView c (.list false cs n) st Q) : RetView c (.list t cs n) st Q := .sees (.loose st) h
theorem xcall_post {P : Program} {g : FuncId} {ps : List PV} {st : Store} {R Q : PEnd → Store → Prop} (h : PCalls P g ps st R) (k : ∀ e s, R e s → Q e s) : xcall P g ps st Q := PCalls.mono h k
@[simp low] theorem StLe_cons {st st' : Store} {b : Nat} {o : PObj} (hb : sget st' b = some o) (h : StLe st st') : StLe ((b, o) :: st) st' := fun c x hx => by
  simp only [sget] at hx
  split at hx
  · rename_i e; subst e; cases hx; exact hb
  · exact h c x hx
theorem row_grown {k n m cap : Nat} {cs new : List PV} (h1 : cs.length = n * k) (h2 : new.length = m * k) (h3 : n + m ≤ cap) :
    (cs ++ new ++ List.replicate ((cap - (n + m)) * k) PV.any).length = cap * k ∧ (cs ++ new ++ List.replicate ((cap - (n + m)) * k) PV.any).take ((n + m) * k) = cs ++ new := by
  have e : (n + m) * k + (cap - (n + m)) * k = cap * k := by rw [← Nat.add_mul]; congr 1; omega
  have e2 : (n + m) * k = n * k + m * k := Nat.add_mul ..
  constructor
  · simp only [List.length_append, List.length_replicate, h1, h2]; omega
  · rw [List.take_left' (by simp only [List.length_append, h1, h2]; omega)]
/-- 'append' to a row of one's own, by what its first cells are. -/
theorem xappend_row {T : TypeId} {bytes k : Nat} {new : List PV} {m : Nat} {st : Store} {K : PV → Store → Prop} {b n cap : Nat} (R : List PV) {cs : List PV} (hb : sget st b = some (.arr T R)) (hR : R.length = cap * k) (hcs : R.take (n * k) = cs) (hn : n ≤ cap) (hc : cap ≤ 9223372036854775807)
    (hnew : new.length = m * k) (hsz : (n + m) * bytes ≤ 140737488355328)
    (h : ∀ b' cap' R', snew (sdel b st) b' → n + m ≤ cap' → cap' ≤ 9223372036854775807 → R'.length = cap' * k → R'.take ((n + m) * k) = cs ++ new → K (.own b' 0 (n + m) cap') ((b', .arr T R') :: sdel b st)) : xappend T bytes k (.own b 0 n cap) new m st K := by
  refine xappend_own hb hR hn hc (.intro hsz fun b' cap' h1 h2 h3 => ?_)
  have hl : (R.take (n * k)).length = n * k := by rw [List.length_take, hR]; exact Nat.min_eq_left (Nat.mul_le_mul_right k hn)
  obtain ⟨g1, g2⟩ := row_grown hl hnew h2
  exact h b' cap' _ h1 h2 h3 g1 (by rw [g2, hcs])
theorem xappend_rowN {T : TypeId} {bytes k : Nat} {new : List PV} {m : Nat} {st : Store} {K : PV → Store → Prop} (hm : 0 < m)
    (hnew : new.length = m * k) (hsz : m * bytes ≤ 140737488355328)
    (h : ∀ b' cap' R', snew st b' → m ≤ cap' → cap' ≤ 9223372036854775807 → R'.length = cap' * k → R'.take (m * k) = new → K (.own b' 0 m cap') ((b', .arr T R') :: st)) : xappend T bytes k .nil new m st K := by
  rw [xappend_nil]
  refine ⟨fun e => by omega, fun _ => .intro hsz fun b' cap' h1 h2 h3 => ?_⟩
  have := row_grown (k := k) (n := 0) (m := m) (cap := cap') (cs := []) (by simp) hnew (by omega)
  simp only [List.nil_append, Nat.zero_add] at this
  exact h b' cap' _ h1 h2 h3 this.1 this.2
/-- A list that is being built in a row of one's own. -/
structure Acc (α : Type) where
  l : List α
  b : Nat
  cap : Nat
  R : List PV
structure Acc.Ok {α : Type} (row : List α → List PV) (k : Nat) (a : Acc α) : Prop where
  le : a.l.length ≤ a.cap
  cap : a.cap ≤ 9223372036854775807
  len : a.R.length = a.cap * k
  row : a.R.take (a.l.length * k) = row a.l
theorem Acc.Ok.nil {α : Type} {row : List α → List PV} {k : Nat} (h : row [] = []) (b : Nat) : (Acc.mk [] b 0 [] : Acc α).Ok row k := ⟨Nat.le_refl _, by simp, by simp, by simp [h]⟩
/-- A list that is being built: nil at first. -/
def accP {α : Type} : Option (Acc α) → PV
  | none => .nil
  | some a => .own a.b 0 a.l.length a.cap
def accS {α : Type} (T : TypeId) (st : Store) : Option (Acc α) → Store
  | none => st
  | some a => (a.b, .arr T a.R) :: st
def accL {α : Type} : Option (Acc α) → List α
  | none => []
  | some a => a.l
def accOk {α : Type} (row : List α → List PV) (k : Nat) (st : Store) : Option (Acc α) → Prop
  | none => True
  | some a => a.Ok row k ∧ snew st a.b
section
variable {α : Type} (T : TypeId) (st : Store) (a : Acc α) (row : List α → List PV) (k : Nat)
@[simp] theorem accP_none : accP (none : Option (Acc α)) = .nil := rfl
@[simp] theorem accP_some : accP (some a) = .own a.b 0 a.l.length a.cap := rfl
@[simp] theorem accS_none : accS T st (none : Option (Acc α)) = st := rfl
@[simp] theorem accS_some : accS T st (some a) = (a.b, .arr T a.R) :: st := rfl
@[simp] theorem accL_none : accL (none : Option (Acc α)) = [] := rfl
@[simp] theorem accL_some : accL (some a) = a.l := rfl
@[simp] theorem accOk_none : accOk row k st (none : Option (Acc α)) = True := rfl
@[simp] theorem accOk_some : accOk row k st (some a) = (a.Ok row k ∧ snew st a.b) := rfl
end
theorem xappend_acc {α : Type} {row : List α → List PV} {k : Nat} (hrl : ∀ l, (row l).length = l.length * k) (hra : ∀ l m, row (l ++ m) = row l ++ row m) {a : Acc α} (ha : a.Ok row k) {T : TypeId} {bytes : Nat} {st : Store} {K : PV → Store → Prop}
    (hb : sget st a.b = some (.arr T a.R)) (xs : List α) {new : List PV} {m : Nat} (hnew : row xs = new) (hm : xs.length = m) (hsz : (a.l.length + m) * bytes ≤ 140737488355328)
    (h : ∀ a' : Acc α, a'.Ok row k → a'.l = a.l ++ xs → snew (sdel a.b st) a'.b → K (.own a'.b 0 a'.l.length a'.cap) ((a'.b, .arr T a'.R) :: sdel a.b st)) : xappend T bytes k (.own a.b 0 a.l.length a.cap) new m st K := by
  subst hnew; subst hm
  refine xappend_row a.R hb ha.len ha.row ha.le ha.cap (hrl _) hsz fun b' cap' R' h1 h2 h3 h4 h5 => ?_
  have := h ⟨a.l ++ xs, b', cap', R'⟩ ⟨by simpa using h2, h3, h4, by simpa [hra] using h5⟩ rfl h1
  simpa using this
theorem xappend_acc0 {α : Type} {row : List α → List PV} {k : Nat} (hrl : ∀ l, (row l).length = l.length * k) {T : TypeId} {bytes : Nat} {st : Store} {K : PV → Store → Prop}
    (xs : List α) {new : List PV} {m : Nat} (hnew : row xs = new) (hm : xs.length = m) (hpos : 0 < m) (hsz : m * bytes ≤ 140737488355328)
    (h : ∀ a' : Acc α, a'.Ok row k → a'.l = xs → snew st a'.b → K (.own a'.b 0 a'.l.length a'.cap) ((a'.b, .arr T a'.R) :: st)) : xappend T bytes k .nil new m st K := by
  subst hnew; subst hm
  refine xappend_rowN hpos (hrl _) hsz fun b' cap' R' h1 h2 h3 h4 h5 => ?_
  exact h ⟨xs, b', cap', R'⟩ ⟨h2, h3, h4, h5⟩ rfl h1
/-- A contract, by views of what is behind the return. -/
theorem Has.view (hmix : P.follows .mixedOrders = true) {g : FuncId} {m : MFunc} (h : Has P g m) {nt np : Nat} {rs : List MRes} {c : MCode} (hm : m = ⟨nt, np, rs, c⟩) {ps : List PV} {st : Store} {Q : PEnd → Store → Prop} (hlen : ps.length = np)
    (hw : xwp P c (fun e s => xret rs (fun q st' => RetView .ret q st' Q) (fun q st' => RetView .panic q st' Q) e s) ⟨initEnv 0 ps, st⟩) : PCalls P g ps st Q :=
  h.walk hmix hm hlen (R := fun q st' => RetView .ret q st' Q) (E := fun q st' => RetView .panic q st' Q) (fun _ _ h => h) (fun _ _ h => h) hw
/-! ### Keys -/
theorem kidx_enc {α : Type} [DecidableEq α] (kp : KP) (enc : α → Value) (h : ∀ x y, eqCells kp.2 (keyCells kp.1 (enc x)) (keyCells kp.1 (enc y)) = some (decide (x = y))) (x : α) : ∀ l : List α, kidx kp (enc x) (l.map enc) = some (l.findIdx? (fun y => decide (x = y)))
  | [] => rfl
  | y :: l => by
    rw [List.map_cons, kidx_cons, h, kidx_enc kp enc h x l, List.findIdx?_cons]
    by_cases e : x = y <;> simp [e]
@[simp] theorem kstep_dec (p : Prop) [Decidable p] (r : Option Nat) : kstep (some (decide p)) (some r) = some (if p then some 0 else r.map (· + 1)) := by
  by_cases h : p <;> simp [h]
@[simp] theorem omap_ite (p : Prop) [Decidable p] (a b : Option Nat) : Option.map (· + 1) (if p then a else b) = if p then a.map (· + 1) else b.map (· + 1) := by
  split <;> rfl
@[simp] theorem xlook_ite (p : Prop) [Decidable p] (a b : Option Nat) (vs : List PV) (z : PV) (ok : Bool) (K : PV → Prop) : xlook (some (if p then a else b)) vs z ok K = ((p → xlook (some a) vs z ok K) ∧ (¬ p → xlook (some b) vs z ok K)) := by
  by_cases h : p <;> simp [h]
/-- The middle of two places, as Go's searches reckon it. -/
theorem mid_eq {i j : Nat} (h : i + j ≤ 9223372036854775807) : IntKind.i64.wrap (((i : Int) + j).fdiv (2 ^ min 1 IntKind.u64.bits)) = ((i + j) / 2 : Nat) := by
  have e : (2 : Int) ^ min 1 IntKind.u64.bits = 2 := rfl
  have e2 : ((i : Int) + j).fdiv 2 = ((i + j) / 2 : Nat) := by
    rw [Int.fdiv_eq_ediv_of_nonneg _ (by omega)]
    omega
  rw [e, e2]
  exact IntWalk.i64_in _ ⟨by omega, by omega⟩
theorem u64_in {n : Int} (h0 : 0 ≤ n) (h1 : n ≤ 18446744073709551615) : IntKind.u64.wrap n = n := by
  simp [IntKind.wrap, IntKind.bits, IntKind.signed]; omega
theorem wrap_nat {n : Nat} (h : n ≤ 9223372036854775807) : IntKind.i64.wrap (n : Int) = n := IntWalk.i64_in n ⟨by omega, by omega⟩
theorem wrap_succ {n : Nat} (h : n < 9223372036854775807) : IntKind.i64.wrap ((n : Int) + 1) = (n : Int) + 1 := IntWalk.i64_in _ ⟨by omega, by omega⟩
/-- By whether something is known. -/
def optK {α : Type} (o : Option α) (A : α → Prop) (B : Prop) (_ : Tok (A, B) := ⟨⟩) : Prop :=
  match o with
  | some a => A a
  | none => B
@[simp] theorem optK_some {α : Type} (a : α) (A : α → Prop) (B : Prop) : optK (some a) A B = A a := rfl
@[simp] theorem optK_none {α : Type} (A : α → Prop) (B : Prop) : optK none A B = B := rfl
theorem wrap_in {n : Int} (h1 : -9223372036854775808 ≤ n) (h2 : n ≤ 9223372036854775807) : IntKind.i64.wrap n = n := IntWalk.i64_in n ⟨h1, h2⟩
end Go.Pv
/- What the library's slices.overlaps answers of a list that is never written and a row of one's own: false. -/
namespace Go.Pv
universe u
variable {P : Program}

theorem two_slices {m : Array Value → Sort u} (a b : Option Addr) (la ca lb cb : Nat) (h1 : (a : Option Addr) → (la ca : Nat) → (b : Option Addr) → (lb cb : Nat) → m #[.slice a la ca, .slice b lb cb]) (h2 : (x : Array Value) → m x) :
    Extern.SlicesOverlaps.overlaps.match_4 m #[.slice a la ca, .slice b lb cb] h1 h2 = h1 a la ca b lb cb := rfl
theorem run_overlaps_own (w : World) (tS tR e : TypeId) (ht : P.underlying tS = some (.slice e)) (size : Nat) (hz : ∀ w, (Go.sizeOf e).run P w = .ok size w)
    (a : Option Addr) (b : Addr) (la ca lb cb : Nat) (hne : la ≠ 0 → ∃ a', a = some a' ∧ a'.block ≠ b.block ∧ ∃ tA kA, w.shape? a'.block = some (tA, kA) ∧ kA ≠ 0) (tB : TypeId) (kB : Nat)
    (hsb : w.shape? b.block = some (tB, kB)) (hfb : w.frozen? b = false) (hfe : w.frozen? { block := b.block, off := kB } = false) :
    (Extern.SlicesOverlaps.overlaps #[tS, tS] #[tR] #[.slice a la ca, .slice (some b) lb cb]).run P w = .ok (.bool false) w := by
  unfold Extern.SlicesOverlaps.overlaps
  rw [two_slices]
  cases a with
  | none => simp [run_underlying ht, hz]
  | some a =>
    by_cases h0 : la = 0 ∨ lb = 0 ∨ size = 0
    · simp [run_underlying ht, hz, h0]
    · obtain ⟨a', h1, h2, tA, kA, hsa, hkA⟩ := hne (fun h => h0 (.inl h))
      obtain rfl := Option.some.inj h1
      have hnb : (a.block != b.block) = true := by simpa using h2
      have hnb' : (a.block == b.block) = false := by simpa using h2
      cases kA with
      | zero => exact absurd rfl hkA
      | succ kA =>
        cases hfa : w.frozen? a <;> cases hfe' : w.frozen? { block := a.block, off := kA + 1 } <;>
          simp [run_underlying ht, hz, h0, hnb, hnb', frozen, noView, viewAt, mayBeOne, stringish, shape, Sem.run, hsa, hsb, hfb, hfe, hfa, hfe']

theorem shape_cells {w : World} {b : Nat} {arr : Array Value} {T : TypeId} {fz : Nat × Nat} (h : w.heap[b]? = some (.cells arr T fz)) : w.shape? b = some (T, arr.size) := by
  simp [World.shape?, h]
theorem overlaps_own {g : FuncId} {fn : Func} (hf : P.funcs[g]? = some fn) (hname : (fn.name == "runtime.NumGoroutine") = false) (hb : fn.body.isNone = true) (hn : Extern.findNext fn = none) {tS tR e : TypeId}
    (he : Extern.find fn = some (Extern.SlicesOverlaps.overlaps #[tS, tS] #[tR])) (ht : P.underlying tS = some (.slice e)) {k : Nat} {ag : Bool} (hl : lay P e = some (k, ag)) (hk : 0 < k)
    {st : Store} {t : Bool} {cs : List PV} {n b off n' cap : Nat} {T : TypeId} {row : List PV} (hcs : cs.length = n * k) (hg : sget st b = some (.arr T row)) :
    Rets P g [.list t cs n, .own b off n' cap] st (.bool false) := by
  refine .inr ⟨fun I w vs hs hv => ?_⟩
  cases vs with
  | nil => simp [vreps] at hv
  | cons v1 vs =>
    cases vs with
    | nil => simp [vreps] at hv
    | cons v2 vs =>
      cases vs with
      | cons => simp [vreps] at hv
      | nil =>
        simp only [vreps, vrep, and_true] at hv
        obtain ⟨⟨a, cap1, us, rfl, h1, h2, h3, h4, h5⟩, rfl⟩ := hv
        obtain ⟨hI, r, hr, ws, rfl, hc⟩ := hs.objs b _ hg
        refine ⟨.bool false, w, ?_, I, st, I.le_refl, Calm.refl w, hs, .bool false, vrep_val, rfl, rfl⟩
        rw [run_callFunc_extern hf hname hb hn he]
        have := run_overlaps_own w tS tR e ht k (lay_size hl) a ⟨b, off, none⟩ n cap1 n' cap (fun hn0 => by
          rcases h5 with rfl | ⟨b1, off1, rfl, arr, T1, fz, hI1, hrow⟩
          · have := vcells_length h4
            rw [hcs, List.length_nil] at this
            have h9 : 0 < n * k := Nat.mul_pos (by omega) hk
            omega
          · refine ⟨_, rfl, fun e => ?_, T1, arr.size, shape_cells (hs.imm _ _ hI1), ?_⟩
            · simp only at e; subst e; rw [hI] at hI1; cases hI1
            · have hul := vcells_length h4
              have : 0 < us.length := by rw [← hul, hcs]; exact Nat.mul_pos (by omega) hk
              have h6 := hrow 0 us[0] (by simp [this])
              intro h0
              have := (Array.getElem?_eq_some_iff.1 h6).1
              omega) T ws.length (by simpa using shape_cells hr) (by simp [World.frozen?, hr]) (by simp [World.frozen?, hr])
        simp only [this]
        rfl
end Go.Pv
/- Arguments seen otherwise. -/
namespace Go.Pv
/-- What stands for the one stands for the other. -/
def PLe (p q : PV) : Prop := ∀ I v, vrep I p v → vrep I q v
theorem PLe.refl (p : PV) : PLe p p := fun _ _ h => h
theorem PLe.trans {p q r : PV} (h : PLe p q) (k : PLe q r) : PLe p r := fun I v hv => k I v (h I v hv)
theorem PLe.nil : PLe .nil (.list true [] 0) := fun I v h2 => by
  simp only [vrep] at h2 ⊢
  subst h2
  exact ⟨none, 0, [], rfl, Nat.le_refl _, by unfold maxLen; omega, fun _ => rfl, by simp [vcells], .inl rfl⟩
theorem PLe.loose {t : Bool} {cs : List PV} {n : Nat} : PLe (.list t cs n) (.list false cs n) := fun I v h2 => by
  simp only [vrep] at h2 ⊢
  obtain ⟨a, cap, vs, h3, h4, h5, -, h6, h7⟩ := h2
  exact ⟨a, cap, vs, h3, h4, h5, by simp, h6, h7⟩
def PsLe : List PV → List PV → Prop
  | [], [] => True
  | p :: ps, q :: qs => PLe p q ∧ PsLe ps qs
  | _, _ => False
theorem PsLe.refl : ∀ ps : List PV, PsLe ps ps
  | [] => trivial
  | p :: ps => ⟨.refl p, PsLe.refl ps⟩
theorem PsLe.vreps : ∀ {ps qs : List PV} (_ : PsLe ps qs) (I : Imm) (vs : List Value), vreps I ps vs → vreps I qs vs
  | [], [], _, _, _, h => h
  | _ :: _, _ :: _, _, _, [], h => by simp [Go.Pv.vreps] at h
  | _ :: _, _ :: _, hw, I, v :: vs, h => by
    simp only [Go.Pv.vreps] at h ⊢
    exact ⟨hw.1 I v h.1, PsLe.vreps hw.2 I vs h.2⟩
theorem PCalls.args {P : Program} {g : FuncId} {ps qs : List PV} {st : Store} {Q : PEnd → Store → Prop} (hw : PsLe ps qs) (h : PCalls P g qs st Q) : PCalls P g ps st Q :=
  h.imp (fun h => ⟨h.enters, fun I w vs h1 h2 => h.out I w vs h1 (hw.vreps I vs h2)⟩) (fun h => ⟨fun I w vs h1 h2 => h.out I w vs h1 (hw.vreps I vs h2)⟩)
theorem Rets.args {P : Program} {g : FuncId} {ps qs : List PV} {st : Store} {p : PV} (hw : PsLe ps qs) (h : Rets P g qs st p) : Rets P g ps st p := PCalls.args hw h
theorem Rets.nil0 {P : Program} {g : FuncId} {ps : List PV} {st : Store} {p : PV} (h : Rets P g (.list true [] 0 :: ps) st p) : Rets P g (.nil :: ps) st p := Rets.args (ps := .nil :: ps) (qs := .list true [] 0 :: ps) (show PsLe (.nil :: ps) (.list true [] 0 :: ps) from ⟨PLe.nil, PsLe.refl _⟩) h
end Go.Pv

/- The reading of the operations that give one value is right: the remaining cases, and all of them together. -/
import Derived.Test.YtliglilanpfjhaaLSn2
import Derived.Laws.Slices
import Derived.Laws.Append
import Derived.Laws.BytesString
set_option linter.unusedSimpArgs false
namespace Go.Pv
variable {P : Program}

theorem asInt?_spec {I : Imm} {p : PV} {v : Value} {n : Int} (h : asInt? p = some n) (hv : vrep I p v) : ∃ k, v = .int k n := by
  unfold asInt? at h
  split at h
  · simp only [Option.some.injEq] at h; subst h; simp only [vrep] at hv; exact ⟨_, hv⟩
  · cases h

theorem asList_spec {I : Imm} {p : PV} {v : Value} {t : Bool} {cs : List PV} {n : Nat} (h : p.asList = some (t, cs, n)) (hv : vrep I p v) :
    ∃ a cap vs, v = .slice a n cap ∧ n ≤ cap ∧ cap ≤ maxLen ∧ (t = true → cap = n) ∧ vcells I cs vs ∧ (vs = [] ∨ ∃ b off, a = some ⟨b, off, none⟩ ∧ I.row b off vs) := by
  unfold PV.asList at h
  split at h
  · simp only [Option.some.injEq, Prod.mk.injEq] at h
    obtain ⟨rfl, rfl, rfl⟩ := h
    simpa only [vrep] using hv
  · simp only [Option.some.injEq, Prod.mk.injEq] at h
    obtain ⟨rfl, rfl, rfl⟩ := h
    simp only [vrep] at hv
    exact ⟨none, 0, [], hv, Nat.le_refl _, by unfold maxLen; omega, fun _ => rfl, by simp [vcells], .inl rfl⟩
  · cases h

/-- What is loaded from the source of an append or a copy. -/
theorem src_sound {I : Imm} {st : Store} {w : World} (hs : SRep I st w) {k : Nat} {p : PV} {v : Value} (hv : vrep I p v) {cs : List PV} {m : Nat} (h : srcCells k st p = some (cs, m)) :
    ∃ vs : List Value, vcells I cs vs ∧ vs.length = m * k ∧ (∀ w1, (Builtin.lenOf v).run P w1 = .ok m w1) ∧
      ∀ w1, w1.heap = w.heap → ∀ j, j ≤ m → (Builtin.firstCells k j v).run P w1 = .ok (vs.take (j * k)).toArray w1 := by
  have loads : ∀ (vs : List Value) (b off n cap : Nat), vs.length = m * k → (∀ j u, vs[j]? = some u → w.cell? ⟨b, off + j, none⟩ = some u) →
      ∀ w1, w1.heap = w.heap → ∀ j, j ≤ m → (Builtin.firstCells k j (.slice (some ⟨b, off, none⟩) n cap)).run P w1 = .ok (vs.take (j * k)).toArray w1 := by
    intro vs b off n cap hl hc w1 hw j hj
    have hlj : (vs.take (j * k)).length = j * k := by
      rw [List.length_take, hl]
      exact Nat.min_eq_left (Nat.mul_le_mul_right k hj)
    refine run_firstCells_some w1 k j _ n cap _ hlj fun i u hu => ?_
    rw [addr_add]
    have hcell : w1.cell? ⟨b, off + i, none⟩ = w.cell? ⟨b, off + i, none⟩ := by simp [World.cell?, hw]
    rw [hcell]
    rw [List.getElem?_take] at hu
    split at hu
    · exact hc i u hu
    · cases hu
  unfold srcCells at h
  split at h
  · rename_i t cs' n
    split at h
    · rename_i hlen
      simp only [Option.some.injEq, Prod.mk.injEq] at h
      obtain ⟨rfl, rfl⟩ := h
      simp only [vrep] at hv
      obtain ⟨a, cap, vs, rfl, -, -, -, hc, ha⟩ := hv
      have hlv : vs.length = n * k := by rw [← vcells_length hc]; exact hlen
      refine ⟨vs, hc, hlv, fun w1 => rfl, fun w1 hw j hj => ?_⟩
      rcases ha with rfl | ⟨b, off, rfl, arr, T, fz, hI, hrow⟩
      · have h0 : j * k = 0 := by
          have h1 : n * k = 0 := by simpa using hlv.symm
          have := Nat.mul_le_mul_right k hj
          omega
        cases a with
        | none => simpa using run_firstCells_none (P := P) w1 k j n cap
        | some a =>
          have := run_firstCells_some (P := P) w1 k j a n cap [] (by simp [h0]) (by simp)
          simpa using this
      · exact loads vs b off n cap hlv (fun i u hu => by rw [cell_row (hs.imm _ _ hI)]; exact hrow i u hu) w1 hw j hj
    · cases h
  · simp only [Option.some.injEq, Prod.mk.injEq] at h
    obtain ⟨rfl, rfl⟩ := h
    simp only [vrep] at hv
    subst hv
    refine ⟨[], by simp [vcells], by simp, fun w1 => rfl, fun w1 _ j hj => ?_⟩
    simpa using run_firstCells_none (P := P) w1 k j 0 0
  · rename_i b off n cap
    split at h
    · rename_i T row hb
      split at h
      · rename_i hfit
        simp only [Option.some.injEq, Prod.mk.injEq] at h
        obtain ⟨rfl, rfl⟩ := h
        simp only [vrep] at hv
        subst hv
        obtain ⟨hI, r, hw0, vs, rfl, hcv⟩ := hs.objs b _ hb
        have hl := vcells_length hcv
        have hlv : ((vs.drop off).take (n * k)).length = n * k := by
          rw [List.length_take, List.length_drop]; omega
        refine ⟨(vs.drop off).take (n * k), vcells_take _ (vcells_drop _ hcv), hlv, fun w1 => rfl, fun w1 hw j hj => ?_⟩
        refine loads _ b off n cap hlv (fun i u hu => ?_) w1 hw j hj
        rw [cell_row hw0]
        rw [List.getElem?_take] at hu
        split at hu
        · rw [List.getElem?_drop] at hu
          simpa using hu
        · cases hu
      · cases h
    · cases h
  · rename_i s
    split at h
    · rename_i hk
      subst hk
      simp only [Option.some.injEq, Prod.mk.injEq] at h
      obtain ⟨rfl, rfl⟩ := h
      simp only [vrep] at hv
      subst hv
      refine ⟨s.data.toList.map fun b => .int .u8 b.toNat, ?_, by simp, fun w1 => rfl, fun w1 _ j hj => ?_⟩
      · have : (s.data.toList.map fun b => (PV.val (.int .u8 b.toNat))) = (s.data.toList.map fun b => Value.int .u8 b.toNat).map .val := by simp
        rw [this]
        exact vcells_val (List.all_eq_true.2 fun v hv => by obtain ⟨b, -, rfl⟩ := List.mem_map.1 hv; rfl)
      · simp only [Builtin.firstCells, Sem.run_pure, Nat.mul_one]
        congr 1
        apply Array.ext'
        simp
    · cases h
  · cases h

theorem bytesOf?_spec : ∀ {cs : List PV} {bs : List UInt8} {I : Imm} {vs : List Value}, bytesOf? cs = some bs → vcells I cs vs → vs = bs.map fun b => .int .u8 b.toNat
  | [], bs, I, vs, h, hv => by
    simp only [bytesOf?, Option.some.injEq] at h
    subst h
    cases vs with
    | nil => rfl
    | cons => simp [vcells] at hv
  | p :: cs, bs, I, vs, h, hv => by
    unfold bytesOf? at h
    split at h
    · rename_i h0; cases h0
    · rename_i n ps h0
      obtain ⟨rfl, rfl⟩ := List.cons.inj h0
      split at h
      · rename_i hn
        simp only [Option.map_eq_some_iff] at h
        obtain ⟨bs', h1, rfl⟩ := h
        cases vs with
        | nil => simp [vcells] at hv
        | cons w ws =>
          simp only [vcells, vrep] at hv
          rw [hv.1.1, bytesOf?_spec h1 hv.2]
          simp only [List.map_cons, List.cons.injEq, Value.int.injEq, true_and, and_true]
          rw [UInt8.toNat_ofNat_of_lt' (by show n.toNat < 256; omega)]
          omega
      · cases h
    · cases h
theorem strOf_sound {s d e : TypeId} {a : Bool} (hs0 : P.underlying s = some (.slice e)) (hd : P.underlying d = some .string) (he : P.underlying e = some (.int .u8)) (_hl : lay P e = some (1, a))
    {I : Imm} {st : Store} {w : World} (hs : SRep I st w) {p : PV} {v : Value} (hv : vrep I p v) {cs : List PV} {m : Nat} (h : srcCells 1 st p = some (cs, m)) {bs : List UInt8} (hb : bytesOf? cs = some bs) :
    (convert s d v).run P w = .ok (.string ⟨bs.toArray⟩) w := by
  obtain ⟨vs, h1, h2, h3, h4⟩ := src_sound (P := P) hs hv h
  obtain rfl := bytesOf?_spec hb h1
  have hf := h4 w rfl m (Nat.le_refl m)
  simp only [Nat.mul_one, List.length_map] at h2
  rw [List.take_of_length_le (by simp; omega)] at hf
  have hl := h3 w
  have fold : ∀ (l : List UInt8) (r : ByteArray), (l.map fun b => (b.toNat : Int)).foldl (fun r n => r.push (UInt8.ofNat n.toNat)) r = ⟨(r.data.toList ++ l).toArray⟩ := by
    intro l
    induction l with
    | nil => intro r; simp
    | cons b l ih =>
      intro r
      simp only [List.map_cons, List.foldl_cons]
      rw [ih]
      congr 1
      apply Array.ext'
      simp [ByteArray.push]
  cases v with
  | slice ad n cap =>
    simp only [Builtin.lenOf, Sem.run_pure, Result.ok.injEq, and_true] at hl
    subst hl
    rw [run_convert_bytes_string w s d e _ _ _ hs0 he hd]
    cases ad with
    | none =>
      simp only [Builtin.firstCells, Sem.run_pure, Result.ok.injEq, and_true] at hf
      have hn : bs = [] := by
        cases bs with
        | nil => rfl
        | cons b bs => simp at hf
      subst hn
      rfl
    | some ad =>
      simp only [Builtin.firstCells, Nat.mul_one] at hf
      have := run_bytesToString (P := P) w ad n cap (bs.map fun b => (b.toNat : Int)) (by rw [hf]; simp [Function.comp_def])
      rw [this, fold]
      rfl
  | string st' =>
    simp only [Builtin.lenOf, Sem.run_pure, Result.ok.injEq, and_true] at hl
    subst hl
    simp only [Builtin.firstCells, Sem.run_pure, Result.ok.injEq, and_true] at hf
    have hx : st' = ⟨bs.toArray⟩ := by
      have hf' : st'.data.toList.map (fun b => Value.int .u8 b.toNat) = bs.map fun b => Value.int .u8 b.toNat := by
        have := congrArg Array.toList hf
        simpa using this
      have inj : ∀ (l m : List UInt8), (l.map (fun b => Value.int .u8 b.toNat) = m.map fun b => Value.int .u8 b.toNat) → l = m := by
        intro l
        induction l with
        | nil => intro m h; cases m with | nil => rfl | cons => simp at h
        | cons b l ih =>
          intro m h
          cases m with
          | nil => simp at h
          | cons c m =>
            simp only [List.map_cons, List.cons.injEq, Value.int.injEq, true_and] at h
            have h1 : b.toNat = c.toNat := by omega
            rw [UInt8.toNat_inj.1 h1, ih m h.2]
      have := inj _ _ hf'
      apply ByteArray.ext
      apply Array.ext'
      simp [this]
    subst hx
    simp [convert, run_underlying hs0, run_underlying hd]
  | _ => simp [Builtin.lenOf, Sem.run, stuck] at hl
theorem index_sound {k : Nat} {e t : TypeId} {a : Bool} (hu : P.underlying t = some (.slice e)) (hl : lay P e = some (k, a)) {mx mi : MX} {ρ : MX → PV} {st : Store} {K : PV → Prop}
    (hk : mval (.indexAddr k mx mi) ρ st K) : ∃ p, K p ∧ ∀ I w v vi, vrep I (ρ mx) v → vrep I (ρ mi) vi → ∃ u, (Instr.indexAt t v vi).run P w = .ok u w ∧ vrep I p u := by
  simp only [mval] at hk
  split at hk
  · exact hk.elim
  · rename_i j hj
    split at hk
    · rename_i tt cs n hlist
      obtain ⟨h0, h1, h2, hK⟩ := hk
      refine ⟨_, hK, fun I w v vi hv hvi => ?_⟩
      obtain ⟨kk, rfl⟩ := asInt?_spec hj hvi
      obtain ⟨ad, cap, vs, rfl, _, _, _, hc, hrow⟩ := asList_spec hlist hv
      have hne : vs ≠ [] := by
        rintro rfl
        have := vcells_length hc
        simp at this
        subst this
        simp at h2
      obtain ⟨b, off, rfl, hr⟩ := hrow.resolve_left hne
      refine ⟨.pointer (some ⟨b, off + j.toNat * k, none⟩), ?_, by simp only [vrep]; exact ⟨b, off, vs, rfl, hc, hr⟩⟩
      simp only [Instr.indexAt, asIntOf, Sem.run_bind, Sem.run_pure, Result.andThen_ok, run_underlying hu]
      rw [if_pos ⟨h0, h1⟩]
      simp [lay_size hl, addr_add]
    · split at hk
      · rename_i b off n cap hx
        obtain ⟨h0, h1, hK⟩ := hk
        refine ⟨_, hK, fun I w v vi hv hvi => ?_⟩
        obtain ⟨kk, rfl⟩ := asInt?_spec hj hvi
        rw [hx] at hv
        simp only [vrep] at hv
        subst hv
        refine ⟨.pointer (some ⟨b, off + j.toNat * k, none⟩), ?_, vrep_val⟩
        simp only [Instr.indexAt, asIntOf, Sem.run_bind, Sem.run_pure, Result.andThen_ok, run_underlying hu]
        rw [if_pos ⟨h0, h1⟩]
        simp [lay_size hl, addr_add]
      · exact hk.elim

theorem indexArr_sound {n k : Nat} {e t : TypeId} {a : Bool} (hu : P.underlying t = some (.array n e)) (hl : lay P e = some (k, a)) {mx mi : MX} {ρ : MX → PV} {st : Store} {K : PV → Prop}
    (hk : mval (.indexArr n k mx mi) ρ st K) : ∃ p, K p ∧ ∀ I w v vi, vrep I (ρ mx) v → vrep I (ρ mi) vi → ∃ u, (Instr.indexAt t v vi).run P w = .ok u w ∧ vrep I p u := by
  simp only [mval] at hk
  split at hk
  · exact hk.elim
  · rename_i j hj
    split at hk
    · rename_i cs off hx
      obtain ⟨h0, h1, hK⟩ := hk
      refine ⟨_, hK, fun I w v vi hv hvi => ?_⟩
      obtain ⟨kk, rfl⟩ := asInt?_spec hj hvi
      rw [hx] at hv
      simp only [vrep] at hv
      obtain ⟨b, o, vs, rfl, hc, hr⟩ := hv
      refine ⟨.pointer (some ⟨b, o + off + j.toNat * k, none⟩), ?_, by simp only [vrep]; exact ⟨b, o, vs, by rw [Nat.add_assoc], hc, hr⟩⟩
      simp only [Instr.indexAt, asIntOf, Sem.run_bind, Sem.run_pure, Result.andThen_ok, run_underlying hu, Instr.sureAddr]
      rw [if_pos ⟨h0, h1⟩]
      simp [lay_size hl, addr_add]
    · rename_i b off hx
      obtain ⟨h0, h1, hK⟩ := hk
      refine ⟨_, hK, fun I w v vi hv hvi => ?_⟩
      obtain ⟨kk, rfl⟩ := asInt?_spec hj hvi
      rw [hx] at hv
      simp only [vrep] at hv
      subst hv
      refine ⟨.pointer (some ⟨b, off + j.toNat * k, none⟩), ?_, vrep_val⟩
      simp only [Instr.indexAt, asIntOf, Sem.run_bind, Sem.run_pure, Result.andThen_ok, run_underlying hu, Instr.sureAddr]
      rw [if_pos ⟨h0, h1⟩]
      simp [lay_size hl, addr_add]
    · exact hk.elim

/-- A part of a composite value. -/
theorem part_sound {T k : Nat} {agg : Bool} (hl : lay P T = some (k, agg)) {cs : List PV} {off : Nat} {K : PV → Prop}
    (hk : if agg = true then ∃ ps, sub cs off k = some ps ∧ K (.agg ps) else ∃ p, cs[off]? = some p ∧ K p) :
    ∃ p, K p ∧ ∀ I w vs, vcells I cs vs → ∃ u, (part T vs.toArray off).run P w = .ok u w ∧ vrep I p u := by
  cases agg with
  | true =>
    simp only [if_true] at hk
    obtain ⟨ps, hp, hK⟩ := hk
    refine ⟨_, hK, fun I w vs hc => ?_⟩
    obtain ⟨h1, h2, h3⟩ := sub_spec hc hp
    refine ⟨.agg ((vs.drop off).take k).toArray, ?_, by simp only [vrep]; exact ⟨_, rfl, h1⟩⟩
    simp only [part, Sem.run_bind, lay_agg hl, Result.andThen_ok, if_true, lay_size hl, Sem.run_pure]
    congr 2
    apply Array.ext'
    simp [List.take_drop, Nat.add_comm]
  | false =>
    simp only [Bool.false_eq_true, if_false] at hk
    obtain ⟨p, hp, hK⟩ := hk
    refine ⟨p, hK, fun I w vs hc => ?_⟩
    obtain ⟨u, hu, hpu, _⟩ := vcells_get hc hp
    refine ⟨u, ?_, hpu⟩
    simp [part, lay_agg hl, hu]

/-! ### Slices of slices, of strings -/
theorem bound_run {k : IntKind} {i : Int} {y : Nat} (h0 : 0 ≤ i) (h1 : i ≤ y) (code : BoundsCode) (w : World) : (Instr.sliceBound (.int k i) y code).run P w = .ok i.toNat w := by
  simp [Instr.sliceBound, asIntOf, h0, h1]
theorem addr_map (a : Option Addr) (b off n : Nat) (h : a = some ⟨b, off, none⟩) : a.map (·.add n) = some ⟨b, off + n, none⟩ := by
  subst h; simp [addr_add]

theorem row_drop {I : Imm} {b off : Nat} {vs : List Value} (d : Nat) (h : I.row b off vs) : I.row b (off + d) (vs.drop d) := by
  obtain ⟨arr, T, fz, h1, h2⟩ := h
  refine ⟨arr, T, fz, h1, fun j v hj => ?_⟩
  rw [List.getElem?_drop] at hj
  rw [Nat.add_assoc]
  exact h2 _ _ hj
theorem row_take {I : Imm} {b off : Nat} {vs : List Value} (d : Nat) (h : I.row b off vs) : I.row b off (vs.take d) := by
  obtain ⟨arr, T, fz, h1, h2⟩ := h
  refine ⟨arr, T, fz, h1, fun j v hj => ?_⟩
  rw [List.getElem?_take] at hj
  split at hj
  · exact h2 _ _ hj
  · cases hj

theorem sliceRow {I : Imm} {cs : List PV} {vs : List Value} {a : Option Addr} {l h n cap k : Nat} (hlh : l ≤ h) (hhn : h ≤ n) (hnc : n ≤ cap) (hcm : cap ≤ maxLen)
    (hc : vcells I cs vs) (hrow : vs = [] ∨ ∃ b off, a = some ⟨b, off, none⟩ ∧ I.row b off vs) :
    ∀ cs', cs' = (cs.take (h * k)).drop (l * k) → vrep I (.list false cs' (h - l)) (.slice (if cap = l then a else a.map (·.add (l * k))) (h - l) (cap - l)) := by
  rintro _ rfl
  simp only [vrep]
  refine ⟨_, _, (vs.take (h * k)).drop (l * k), rfl, by omega, by omega, by simp, vcells_drop _ (vcells_take _ hc), ?_⟩
  rcases hrow with rfl | ⟨b, off, rfl, hr⟩
  · simp
  · by_cases hcl : cap = l
    · left
      have : h = l := by omega
      subst this
      simp
    · right
      rw [if_neg hcl]
      exact ⟨b, off + l * k, addr_map _ b off _ rfl, row_drop _ (row_take _ hr)⟩

/-- A bound that is told, and the value that it is. -/
def BRel (o : Option Int) (v : Option Value) : Prop := (o = none ∧ v = none) ∨ ∃ k n, o = some n ∧ v = some (.int k n)
theorem bnd_spec {I : Imm} {ρ : MX → PV} {ev : Operand → Value} {oy : Option Operand} {m : Option MX} {l : Option Int} (hc : convOpt oy = some m) (hb : bnd ρ m = some l) (hx : ∀ y, oy = some y → ∀ m, convX y = some m → vrep I (ρ m) (ev y)) :
    BRel l (oy.map ev) := by
  cases oy with
  | none =>
    simp only [convOpt, Option.some.injEq] at hc
    subst hc
    simp only [bnd, Option.some.injEq] at hb
    exact .inl ⟨hb.symm, rfl⟩
  | some y =>
    simp only [convOpt, Option.map_eq_some_iff] at hc
    obtain ⟨m', h1, rfl⟩ := hc
    simp only [bnd, Option.map_eq_some_iff] at hb
    obtain ⟨n, h2, rfl⟩ := hb
    obtain ⟨k, h3⟩ := asInt?_spec h2 (hx y rfl m' h1)
    exact .inr ⟨k, n, rfl, by simp [h3]⟩
theorem run_bounds {isSlice : Bool} {len cap : Nat} {lo hi mx : Option Int} {vl vh vm : Option Value} (hl : BRel lo vl) (hh : BRel hi vh) (hm : BRel mx vm) (h0 : mx.isSome = true → hi.isSome = true)
    (h1 : 0 ≤ lo.getD 0) (h2 : lo.getD 0 ≤ hi.getD len) (h3 : hi.getD len ≤ mx.getD cap) (h4 : mx.getD cap ≤ cap) (w : World) :
    (Instr.sliceBounds isSlice len cap vl vh vm).run P w = .ok ((lo.getD 0).toNat, (hi.getD len).toNat, (mx.getD cap).toNat) w := by
  rcases hl with ⟨rfl, rfl⟩ | ⟨kl, l, rfl, rfl⟩ <;> rcases hh with ⟨rfl, rfl⟩ | ⟨kh, h, rfl, rfl⟩ <;> rcases hm with ⟨rfl, rfl⟩ | ⟨km, m, rfl, rfl⟩ <;>
    simp only [Option.getD_some, Option.getD_none, Option.isSome_some, Option.isSome_none, forall_const, reduceCtorEq, Bool.false_eq_true, false_implies, imp_false, not_true_eq_false] at h0 h1 h2 h3 h4 ⊢
  all_goals simp only [Instr.sliceBounds, Sem.run_bind, Sem.run_pure, Result.andThen_ok, Int.toNat_natCast, Int.toNat_zero]
  · rw [bound_run (by omega) (by omega)]; rfl
  · rw [bound_run (by omega) (by omega)]; simp only [Result.andThen_ok]; rw [bound_run (by omega) (by omega)]; rfl
  · rw [bound_run (by omega) (by omega)]; rfl
  · rw [bound_run (by omega) (by omega)]; simp only [Result.andThen_ok, Sem.run_pure]; rw [bound_run (by omega) (by omega)]; rfl
  · rw [bound_run (by omega) (by omega)]; simp only [Result.andThen_ok]; rw [bound_run (by omega) (by omega)]; simp only [Result.andThen_ok]; rw [bound_run (by omega) (by omega)]; rfl
theorem run_slice' {t e : TypeId} {k : Nat} {ag : Bool} (hu : P.underlying t = some (.slice e)) (hla : lay P e = some (k, ag)) {a : Option Addr} {len cap : Nat} {lo hi mx : Option Int} {vl vh vm : Option Value} (hl : BRel lo vl) (hh : BRel hi vh) (hm : BRel mx vm) (h0 : mx.isSome = true → hi.isSome = true)
    (h1 : 0 ≤ lo.getD 0) (h2 : lo.getD 0 ≤ hi.getD len) (h3 : hi.getD len ≤ mx.getD cap) (h4 : mx.getD cap ≤ cap) (w : World) :
    (Instr.sliceAt t (.slice a len cap) vl vh vm).run P w = .ok (.slice (if (mx.getD cap).toNat = (lo.getD 0).toNat then a else a.map (·.add ((lo.getD 0).toNat * k))) ((hi.getD len).toNat - (lo.getD 0).toNat) ((mx.getD cap).toNat - (lo.getD 0).toNat)) w := by
  simp only [Instr.sliceAt, Instr.slice, Sem.run_bind, run_underlying hu, Result.andThen_ok, run_bounds hl hh hm h0 h1 h2 h3 h4 w, lay_size hla, Sem.run_pure]
theorem run_sliceArr' {t e : TypeId} {n k : Nat} {ag : Bool} (hu : P.underlying t = some (.array n e)) (hla : lay P e = some (k, ag)) {a : Addr} {lo hi mx : Option Int} {vl vh vm : Option Value} (hl : BRel lo vl) (hh : BRel hi vh) (hm : BRel mx vm) (h0 : mx.isSome = true → hi.isSome = true)
    (h1 : 0 ≤ lo.getD 0) (h2 : lo.getD 0 ≤ hi.getD n) (h3 : hi.getD n ≤ mx.getD n) (h4 : mx.getD n ≤ n) (w : World) :
    (Instr.sliceAt t (.pointer (some a)) vl vh vm).run P w = .ok (.slice (some (if (mx.getD n).toNat = (lo.getD 0).toNat then a else a.add ((lo.getD 0).toNat * k))) ((hi.getD n).toNat - (lo.getD 0).toNat) ((mx.getD n).toNat - (lo.getD 0).toNat)) w := by
  simp only [Instr.sliceAt, Instr.sureAddr, Sem.run_bind, run_underlying hu, Sem.run_pure, Result.andThen_ok, run_bounds hl hh hm h0 h1 h2 h3 h4 w, lay_size hla]

theorem sliceList {I : Imm} {cs : List PV} {vs : List Value} {a : Option Addr} {l h m n cap k : Nat} {t : Bool} (hlh : l ≤ h) (_hhn : h ≤ n) (hhm : h ≤ m) (hmc : m ≤ cap) (_hnc : n ≤ cap) (hcm : cap ≤ maxLen) (ht : t = true → m = h)
    (hc : vcells I cs vs) (hrow : vs = [] ∨ ∃ b off, a = some ⟨b, off, none⟩ ∧ I.row b off vs) :
    vrep I (.list t ((cs.take (h * k)).drop (l * k)) (h - l)) (.slice (if m = l then a else a.map (·.add (l * k))) (h - l) (m - l)) := by
  simp only [vrep]
  refine ⟨_, _, (vs.take (h * k)).drop (l * k), rfl, by omega, by omega, fun e => by have := ht e; omega, vcells_drop _ (vcells_take _ hc), ?_⟩
  rcases hrow with rfl | ⟨b, off, rfl, hr⟩
  · simp
  · by_cases hcl : m = l
    · left
      have : h = l := by omega
      subst this
      simp
    · right
      rw [if_neg hcl]
      exact ⟨b, off + l * k, addr_map _ b off _ rfl, row_drop _ (row_take _ hr)⟩
theorem own_bounds {b off n cap k : Nat} {lo hi mx : Option Int} {K : PV → Prop} (hk : ownSlice k b off n cap lo hi mx K) :
    (mx.isSome = true → hi.isSome = true) ∧ 0 ≤ lo.getD 0 ∧ lo.getD 0 ≤ hi.getD n ∧ hi.getD n ≤ mx.getD cap ∧ mx.getD cap ≤ cap ∧
      ∃ p, K p ∧ ∀ I, vrep I p (.slice (some (if (mx.getD cap).toNat = (lo.getD 0).toNat then ⟨b, off, none⟩ else (⟨b, off, none⟩ : Addr).add ((lo.getD 0).toNat * k))) ((hi.getD n).toNat - (lo.getD 0).toNat) ((mx.getD cap).toNat - (lo.getD 0).toNat)) := by
  obtain ⟨h0, h1, h2, h3, h4⟩ := hk
  cases lo with
  | none =>
    refine ⟨h0, by simp, by simpa using h1, h2, h3, _, h4, fun I => ?_⟩
    simp only [vrep, Option.getD_none, Int.toNat_zero, Nat.sub_zero, Nat.zero_mul]
    congr 2
    split <;> simp [Addr.add]
  | some l =>
    obtain ⟨h5, h6, h7, h8⟩ := h4
    simp only [Option.getD_some]
    refine ⟨h0, h5, h6, h2, h3, ?_⟩
    by_cases hlm : l = mx.getD cap
    · refine ⟨_, h7 hlm, fun I => ?_⟩
      have e1 : (hi.getD ↑n).toNat - l.toNat = 0 := by omega
      have e2 : (mx.getD ↑cap).toNat - l.toNat = 0 := by omega
      rw [e1, e2]
      simp only [vrep]
      exact ⟨_, 0, [], rfl, Nat.le_refl _, by unfold maxLen; omega, fun _ => rfl, by simp [vcells], .inl rfl⟩
    · refine ⟨_, h8 (by omega), fun I => ?_⟩
      rw [if_neg (by omega), addr_add]
      simp only [vrep]
theorem slice_sound {t e : TypeId} {k : Nat} {ag : Bool} (hu : P.underlying t = some (.slice e)) (hl : lay P e = some (k, ag)) {p : PV} {lo hi mx : Option Int} {K : PV → Prop} (hk : slicePV k p lo hi mx K) :
    ∃ q, K q ∧ ∀ I w v vl vh vm, vrep I p v → BRel lo vl → BRel hi vh → BRel mx vm → ∃ u, (Instr.sliceAt t v vl vh vm).run P w = .ok u w ∧ vrep I q u := by
  unfold slicePV at hk
  split at hk
  · rename_i hnil
    unfold isNil0 at hnil
    split at hnil
    · rename_i h
      obtain ⟨h0, hK⟩ := hk
      simp only [Option.getD_some] at h0
      subst h0
      refine ⟨_, hK, fun I w v vl vh vm hv h1 h2 h3 => ?_⟩
      simp only [vrep] at hv
      subst hv
      refine ⟨_, run_slice' hu hl h1 h2 h3 (by simp) (by simp) (by simp) (by simp) (by simp) w, ?_⟩
      simp [vrep]
    · cases hnil
  rename_i hnotNil
  clear hnotNil
  split at hk
  · rename_i tt cs n hlist
    have nonneg : ∀ {I : Imm} {w : World} {v : Value} {vl vh vm : Option Value} {t' : Bool}, vrep I p v → BRel lo vl → BRel hi vh → BRel mx vm → (mx.isSome = true → hi.isSome = true) → 0 ≤ lo.getD 0 → lo.getD 0 ≤ hi.getD n → hi.getD n ≤ n → hi.getD n ≤ mx.getD n → mx.getD n ≤ n → (hi.isSome = true) →
        (t' = true → mx = hi) →
        ∃ u, (Instr.sliceAt t v vl vh vm).run P w = .ok u w ∧ vrep I (.list t' ((cs.take ((hi.getD n).toNat * k)).drop ((lo.getD 0).toNat * k)) ((hi.getD n).toNat - (lo.getD 0).toNat)) u := by
      intro I w v vl vh vm t' hv h1 h2 h3 h4 h5 h6 h7 h8 h9 h10 ht
      obtain ⟨ad, cap, vs, rfl, hnc, hcm, htt, hc, hrow⟩ := asList_spec hlist hv
      have hmc : mx.getD (cap : Int) ≤ cap := by
        cases mx with
        | none => simp
        | some m => simp only [Option.getD_some] at h9 ⊢; omega
      have hhm : hi.getD (n : Int) ≤ mx.getD (cap : Int) := by
        cases mx with
        | none => simp only [Option.getD_none]; omega
        | some m => simpa using h8
      refine ⟨_, run_slice' hu hl h1 h2 h3 h4 h5 h6 hhm hmc w, ?_⟩
      refine sliceList (by omega) (by omega) (by omega) (by omega) hnc hcm ?_ hc hrow
      intro e
      have := ht e
      subst this
      cases mx with
      | none => simp at h10
      | some m => simp
    unfold listSlice at hk
    split at hk
    · refine ⟨_, hk, fun I w v vl vh vm hv h1 h2 h3 => ?_⟩
      obtain ⟨ad, cap, vs, rfl, hnc, hcm, htt, hc, hrow⟩ := asList_spec hlist hv
      refine ⟨_, run_slice' hu hl h1 h2 h3 (by simp) (by simp) (by simp) (by simp; omega) (by simp) w, ?_⟩
      have e : ∀ a : Option Addr, (if (Option.getD (α := Int) none cap).toNat = (Option.getD (α := Int) none 0).toNat then a else a.map (·.add ((Option.getD (α := Int) none 0).toNat * k))) = a := by
        intro a
        cases a <;> simp [Addr.add]
      rw [e]
      simpa using hv
    · rename_i l
      obtain ⟨h0, h1, hck, hK⟩ := hk
      refine ⟨_, hK, fun I w v vl vh vm hv g1 g2 g3 => ?_⟩
      obtain ⟨ad, cap, vs, rfl, hnc, hcm, htt, hc, hrow⟩ := asList_spec hlist hv
      refine ⟨_, run_slice' hu hl g1 g2 g3 (by simp) (by simpa using h0) (by simpa using h1) (by simp; omega) (by simp) w, ?_⟩
      simp only [Option.getD_none, Option.getD_some, Int.toNat_natCast, vrep]
      refine ⟨_, _, vs.drop (l.toNat * k), rfl, by omega, by omega, fun ht => by have := htt ht; omega, vcells_drop _ hc, ?_⟩
      rcases hrow with rfl | ⟨b, off, rfl, hr⟩
      · simp
      · by_cases hcl : cap = l.toNat
        · rw [if_pos hcl]
          left
          have : l.toNat = n := by omega
          rw [this]
          exact List.drop_eq_nil_of_le (by rw [← vcells_length hc]; exact hck)
        · right
          rw [if_neg hcl]
          exact ⟨b, off + l.toNat * k, addr_map _ b off _ rfl, row_drop _ hr⟩
    · obtain ⟨h0, h1, hK⟩ := hk
      refine ⟨_, hK, fun I w v vl vh vm hv g1 g2 g3 => ?_⟩
      obtain ⟨u, h2, h3⟩ := nonneg (t' := false) (w := w) hv g1 g2 g3 (by simp) (by simp) (by simpa using h0) (by simpa using h1) (by simpa using h1) (by simp) rfl (by simp)
      exact ⟨u, h2, by simpa using h3⟩
    · obtain ⟨h0, h1, h1', hK⟩ := hk
      refine ⟨_, hK, fun I w v vl vh vm hv g1 g2 g3 => ?_⟩
      obtain ⟨u, h2, h3⟩ := nonneg (t' := false) (w := w) hv g1 g2 g3 (by simp) (by simpa using h0) (by simpa using h1) (by simpa using h1') (by simpa using h1') (by simp) rfl (by simp)
      exact ⟨u, h2, by simpa using h3⟩
    · rename_i h m
      obtain ⟨h0, h1, h1', hK⟩ := hk
      refine ⟨_, hK, fun I w v vl vh vm hv g1 g2 g3 => ?_⟩
      obtain ⟨u, h2, h3⟩ := nonneg (t' := decide (h = m)) (w := w) hv g1 g2 g3 (by simp) (by simp) (by simpa using h0) (by simp; omega) (by simpa using h1) (by simpa using h1') rfl (by simpa using fun e => e.symm)
      exact ⟨u, h2, by simpa using h3⟩
    · rename_i l h m
      obtain ⟨h0, h1, h1', h1'', hK⟩ := hk
      refine ⟨_, hK, fun I w v vl vh vm hv g1 g2 g3 => ?_⟩
      obtain ⟨u, h2, h3⟩ := nonneg (t' := decide (h = m)) (w := w) hv g1 g2 g3 (by simp) (by simpa using h0) (by simpa using h1) (by simp; omega) (by simpa using h1') (by simpa using h1'') rfl (by simpa using fun e => e.symm)
      exact ⟨u, h2, by simpa using h3⟩
    · exact hk.elim
  · split at hk
    · rename_i b off n cap
      obtain ⟨h0, h1, h2, h3, h4, q, hK, hq⟩ := own_bounds hk
      refine ⟨q, hK, fun I w v vl vh vm hv g1 g2 g3 => ?_⟩
      simp only [vrep] at hv
      subst hv
      refine ⟨_, run_slice' hu hl g1 g2 g3 h0 h1 h2 h3 h4 w, ?_⟩
      have := hq I
      split at this <;> rename_i hc
      · rw [if_pos hc]; exact this
      · rw [if_neg hc]; exact this
    · exact hk.elim
theorem sliceArr_sound {t e : TypeId} {n k : Nat} {ag : Bool} (hu : P.underlying t = some (.array n e)) (hl : lay P e = some (k, ag)) {p : PV} {lo hi mx : Option Int} {K : PV → Prop} (hk : sliceArrPV n k p lo hi mx K) :
    ∃ q, K q ∧ ∀ I w v vl vh vm, vrep I p v → BRel lo vl → BRel hi vh → BRel mx vm → ∃ u, (Instr.sliceAt t v vl vh vm).run P w = .ok u w ∧ vrep I q u := by
  unfold sliceArrPV at hk
  split at hk
  · rename_i cs off
    obtain ⟨h0, h1, h2, h3, h4, h5, hK⟩ := hk
    refine ⟨_, hK, fun I w v vl vh vm hv g1 g2 g3 => ?_⟩
    simp only [vrep] at hv
    obtain ⟨b, o, vs, rfl, hc, hr⟩ := hv
    refine ⟨_, run_sliceArr' hu hl g1 g2 g3 h0 h1 h2 h3 h4 w, ?_⟩
    simp only [vrep]
    refine ⟨_, _, (vs.drop (off + (lo.getD 0).toNat * k)).take (((hi.getD n).toNat - (lo.getD 0).toNat) * k), rfl, by omega, by unfold maxLen; omega, fun e => ?_, vcells_take _ (vcells_drop _ hc), ?_⟩
    · have : hi.getD n = mx.getD n := by simpa using e
      rw [this]
    · by_cases hcl : (mx.getD n).toNat = (lo.getD 0).toNat
      · left
        have : (hi.getD n).toNat - (lo.getD 0).toNat = 0 := by omega
        rw [this]; simp
      · right
        rw [if_neg hcl, addr_add]
        refine ⟨b, _, rfl, row_take _ ?_⟩
        rw [Nat.add_assoc]
        exact row_drop _ hr
  · rename_i b off
    obtain ⟨h0, h1, h2, h3, h4, q, hK, hq⟩ := own_bounds hk
    refine ⟨q, hK, fun I w v vl vh vm hv g1 g2 g3 => ?_⟩
    simp only [vrep] at hv
    subst hv
    exact ⟨_, run_sliceArr' hu hl g1 g2 g3 h0 h1 h2 h3 h4 w, hq I⟩
  · exact hk.elim
theorem sliceStr_sound {t : TypeId} (hu : P.underlying t = some .string) {s : ByteArray} {lo hi : Option Int} {K : PV → Prop} (hk : sliceStrPV s lo hi K) :
    ∃ q, K q ∧ ∀ I w vl vh, BRel lo vl → BRel hi vh → ∃ u, (Instr.sliceAt t (.string s) vl vh none).run P w = .ok u w ∧ vrep I q u := by
  have key : ∀ (w : World) (vl vh : Option Value), BRel lo vl → BRel hi vh → 0 ≤ lo.getD 0 → lo.getD 0 ≤ hi.getD s.size → hi.getD s.size ≤ s.size →
      (Instr.sliceAt t (.string s) vl vh none).run P w = .ok (.string (s.extract (lo.getD 0).toNat (hi.getD s.size).toNat)) w := by
    intro w vl vh g1 g2 h1 h2 h3
    have := run_bounds (P := P) (isSlice := false) (len := s.size) (cap := s.size) g1 g2 (.inl ⟨rfl, rfl⟩) (by simp) h1 h2 (by simpa using h3) (by simp) w
    simp only [Instr.sliceAt, Instr.slice, Sem.run_bind, run_underlying hu, Result.andThen_ok, Option.isSome_none, Bool.false_eq_true, if_false, Sem.run_pure, this]
  unfold sliceStrPV at hk
  split at hk
  · obtain ⟨h0, h1, hK⟩ := hk
    exact ⟨_, hK, fun I w vl vh g1 g2 => ⟨_, key w vl vh g1 g2 (by simpa using h0) (by simpa using h1) (by simp), by simp [vrep]⟩⟩
  · obtain ⟨h0, h1, hK⟩ := hk
    exact ⟨_, hK, fun I w vl vh g1 g2 => ⟨_, key w vl vh g1 g2 (by simp) (by simpa using h0) (by simpa using h1), by simp [vrep]⟩⟩
  · obtain ⟨h0, h1, h1', hK⟩ := hk
    exact ⟨_, hK, fun I w vl vh g1 g2 => ⟨_, key w vl vh g1 g2 (by simpa using h0) (by simpa using h1) (by simpa using h1'), by simp [vrep]⟩⟩
  · exact hk.elim

theorem ta1 {t xt : TypeId} {d : TypeDesc} (hu : P.underlying t = some d) (hni : ∀ ms, d ≠ .interface ms) (ok : Bool) (y : Value) (w : World) :
    (Instr.typeAssert (.iface t y) xt t ok).run P w = .ok (if ok = true then .tuple #[y, .bool true] else y) w := by
  unfold Instr.typeAssert
  simp only [Sem.run_bind, run_underlying hu, Result.andThen_ok]
  cases d with
  | interface ms => exact (hni ms rfl).elim
  | _ => simp
theorem ta2 {t u xt : TypeId} {d : TypeDesc} (hu : P.underlying t = some d) (hni : ∀ ms, d ≠ .interface ms) (hut : u ≠ t) {i : TypeInfo} {z : Value} (hi : P.info? t = some i) (hz : i.zero = some z) (y : Value) (w : World) :
    (Instr.typeAssert (.iface u y) xt t true).run P w = .ok (.tuple #[z, .bool false]) w := by
  unfold Instr.typeAssert
  simp only [Sem.run_bind, run_underlying hu, Result.andThen_ok]
  cases d with
  | interface ms => exact (hni ms rfl).elim
  | _ => simp [hut, run_zeroValue' hi hz]
theorem ta3 {t xt : TypeId} {d : TypeDesc} (hu : P.underlying t = some d) (hni : ∀ ms, d ≠ .interface ms) {i : TypeInfo} {z : Value} (hi : P.info? t = some i) (hz : i.zero = some z) (w : World) :
    (Instr.typeAssert .nilIface xt t true).run P w = .ok (.tuple #[z, .bool false]) w := by
  unfold Instr.typeAssert
  simp only [Sem.run_bind, run_underlying hu, Result.andThen_ok]
  cases d with
  | interface ms => exact (hni ms rfl).elim
  | _ => simp [run_zeroValue' hi hz]

/-! ### All of them -/
theorem val_sound {op : Op} {m : MVal} {ρ : MX → PV} {st : Store} {K : PV → Prop} (hm : convVal P op = some m) (hk : mval m ρ st K) : ∃ p, K p ∧ Gives P op ρ st p := by
  cases op with
  | move x =>
    simp only [convVal, Option.map_eq_some_iff] at hm
    obtain ⟨mx, hx, rfl⟩ := hm
    exact ⟨_, hk, gives_still fun I w ev o ho hs hxr => ⟨ev x, by simp [execOp, ho], hxr x (by simp [Op.operands]) mx hx⟩⟩
  | assign x =>
    simp only [convVal, Option.map_eq_some_iff] at hm
    obtain ⟨mx, hx, rfl⟩ := hm
    exact ⟨_, hk, gives_still fun I w ev o ho hs hxr => ⟨ev x, by simp [execOp, ho], hxr x (by simp [Op.operands]) mx hx⟩⟩
  | pick c a b =>
    simp only [convVal] at hm
    split at hm
    · rename_i mc ma mb hc ha hb
      simp only [Option.some.injEq] at hm
      subst hm
      simp only [mval] at hk
      split at hk
      · rename_i t ht
        cases t with
        | true =>
          refine ⟨_, hk.1 rfl, gives_still fun I w ev o ho hs hxr => ⟨ev a, ?_, hxr a (by simp [Op.operands]) ma ha⟩⟩
          have h := hxr c (by simp [Op.operands]) mc hc
          rw [ht] at h
          simp only [vrep] at h
          simp [execOp, ho, h, asBool]
        | false =>
          refine ⟨_, hk.2 rfl, gives_still fun I w ev o ho hs hxr => ⟨ev b, ?_, hxr b (by simp [Op.operands]) mb hb⟩⟩
          have h := hxr c (by simp [Op.operands]) mc hc
          rw [ht] at h
          simp only [vrep] at h
          simp [execOp, ho, h, asBool]
      · exact hk.elim
    · cases hm
  | build t parts => exact build_sound hm hk
  | buildSlice t len parts => exact buildSlice_sound hm hk
  | load t x =>
    simp only [convVal] at hm
    split at hm
    · rename_i k a mx hl hx
      simp only [Option.some.injEq] at hm
      subst hm
      obtain ⟨p, hK, h⟩ := load_sound hl hk
      refine ⟨p, hK, gives_still fun I w ev o ho hs hxr => ?_⟩
      obtain ⟨u, h1, h2⟩ := h I w _ hs (hxr x (by simp [Op.operands]) mx hx)
      exact ⟨u, by simp [execOp, ho, h1], h2⟩
    · cases hm
  | nilCheck x =>
    simp only [convVal, Option.map_eq_some_iff] at hm
    obtain ⟨mx, hx, rfl⟩ := hm
    simp only [mval] at hk
    split at hk
    · rename_i cs off hp
      refine ⟨_, hk, gives_still fun I w ev o ho hs hxr => ?_⟩
      have h := hxr x (by simp [Op.operands]) mx hx
      rw [hp] at h
      refine ⟨ev x, ?_, h⟩
      simp only [vrep] at h
      obtain ⟨b, o', vs, h1, _⟩ := h
      simp [execOp, ho, h1]
    · rename_i a hp
      refine ⟨_, hk, gives_still fun I w ev o ho hs hxr => ?_⟩
      have h := hxr x (by simp [Op.operands]) mx hx
      rw [hp] at h
      refine ⟨ev x, ?_, h⟩
      simp only [vrep] at h
      simp [execOp, ho, h]
    · rename_i f fs cs hp
      refine ⟨_, hk, gives_still fun I w ev o ho hs hxr => ?_⟩
      have h := hxr x (by simp [Op.operands]) mx hx
      rw [hp] at h
      refine ⟨ev x, ?_, h⟩
      simp only [vrep] at h
      obtain ⟨us, vs, h1, _⟩ := h
      simp [execOp, ho, h1]
    · rename_i f fs cs hp
      refine ⟨_, hk, gives_still fun I w ev o ho hs hxr => ?_⟩
      have h := hxr x (by simp [Op.operands]) mx hx
      rw [hp] at h
      refine ⟨ev x, ?_, h⟩
      simp only [vrep] at h
      obtain ⟨us, vs, h1, _⟩ := h
      simp [execOp, ho, h1]
    · exact hk.elim
  | binOp op t x y u =>
    simp only [convVal] at hm
    split at hm
    · cases hm
    rename_i hnil
    split at hm
    · rename_i hbt
      have hud : P.underlying t = some .bool := by
        unfold isBoolT at hbt
        split at hbt
        · assumption
        · cases hbt
      have key : ∀ (neg : Bool) (mx my : MX), (op = if neg then .neq else .eql) → convX x = some mx → convX y = some my → mval (.eqBool neg mx my) ρ st K → ∃ p, K p ∧ Gives P (.binOp op t x y u) ρ st p := by
        intro neg mx my hop hx hy hk
        simp only [mval] at hk
        split at hk
        · rename_i a b ha hb
          refine ⟨_, hk, gives_still fun I w ev o ho hs hxr => ⟨_, ?_, vrep_val⟩⟩
          have h1 := hxr x (by simp [Op.operands]) mx hx
          have h2 := hxr y (by simp [Op.operands]) my hy
          rw [ha] at h1
          rw [hb] at h2
          simp only [vrep] at h1 h2
          have hg : ∀ w : World, (eqGuard op t x y (.bool a) (.bool b)).run P w = .ok () w := by
            intro w
            unfold eqGuard
            split <;> rfl
          have he : ∀ w : World, (Op.equal t (.bool a) (.bool b)).run P w = .ok (a == b) w := by
            intro w
            have hd : ∀ d : Nat, (Op.equalIn (d + 1) t (.bool a) (.bool b)).run P w = .ok (a == b) w := by
              intro d
              simp [Op.equalIn, run_underlying hud]
            exact hd 9999
          simp only [execOp, ho, h1, h2, Sem.run_bind, hg, Result.andThen_ok]
          cases neg with
          | false =>
            simp only [Bool.false_eq_true, if_false] at hop
            subst hop
            simp only [binOp, Sem.run_bind, he, Result.andThen_ok, Sem.run_pure]
            rfl
          | true =>
            simp only [if_true] at hop
            subst hop
            simp only [binOp, Sem.run_bind, he, Result.andThen_ok, Sem.run_pure]
            rfl
        · exact hk.elim
      split at hm
      · rename_i mx my hx hy
        simp only [Option.some.injEq] at hm
        subst hm
        exact key false mx my rfl hx hy hk
      · rename_i mx my hx hy
        simp only [Option.some.injEq] at hm
        subst hm
        exact key true mx my rfl hx hy hk
      · cases hm
    split at hm
    · rename_i mx my k hx hy hl
      simp only [Option.some.injEq] at hm
      subst hm
      obtain ⟨r, hK, h⟩ := bin_sound (P := P) (T := t) hk
      refine ⟨r, hK, gives_still fun I w ev o ho hs hxr => ?_⟩
      obtain ⟨u, h1, h2⟩ := h I w _ _ x y (hxr x (by simp [Op.operands]) mx hx) (hxr y (by simp [Op.operands]) my hy)
      refine ⟨u, ?_, h2⟩
      simp only [execOp, ho]
      simp only [Sem.run_bind] at h1 ⊢
      rw [h1]
      rfl
    · rename_i mx my k hx hy hl
      have key : ∀ (neg : Bool), (op = if neg then .neq else .eql) → ∀ ks, eqOK P t = some ks → mval (.eqAgg neg ks mx my) ρ st K → ∃ p, K p ∧ Gives P (.binOp op t x y u) ρ st p := by
        intro neg hop ks hok hk
        simp only [mval] at hk
        split at hk
        · rename_i cs ds hcs hds
          obtain ⟨b, hb, hK⟩ := hk
          refine ⟨_, hK, gives_still fun I w ev o ho hs hxr => ⟨_, ?_, vrep_val⟩⟩
          have h1 := hxr x (by simp [Op.operands]) mx hx
          have h2 := hxr y (by simp [Op.operands]) my hy
          rw [hcs] at h1
          rw [hds] at h2
          simp only [vrep] at h1 h2
          obtain ⟨us, hu, hcu⟩ := h1
          obtain ⟨vs, hv, hcv⟩ := h2
          obtain ⟨hg, he⟩ := eqAgg_run hok (eqCells_leaf hcu hcv hb) (w := w)
          simp only [execOp, ho, hu, hv, Sem.run_bind]
          cases neg with
          | false =>
            simp only [Bool.false_eq_true, if_false] at hop
            subst hop
            simp only [hg, Result.andThen_ok, binOp, Sem.run_bind, he, Sem.run_pure]
            rfl
          | true =>
            simp only [if_true] at hop
            subst hop
            simp only [hg, Result.andThen_ok, binOp, Sem.run_bind, he, Sem.run_pure]
            rfl
        · exact hk.elim
      split at hm
      · simp only [Option.map_eq_some_iff] at hm
        obtain ⟨ks, hok, rfl⟩ := hm
        exact key false rfl ks hok hk
      · simp only [Option.map_eq_some_iff] at hm
        obtain ⟨ks, hok, rfl⟩ := hm
        exact key true rfl ks hok hk
      · cases hm
    · cases hm
  | unOp op t x =>
    simp only [convVal, Option.map_eq_some_iff] at hm
    obtain ⟨mx, hx, rfl⟩ := hm
    simp only [mval] at hk
    split at hk
    · rename_i k n hp
      refine ⟨_, hk, gives_still fun I w ev o ho hs hxr => ?_⟩
      have h := hxr x (by simp [Op.operands]) mx hx
      rw [hp] at h
      simp only [vrep] at h
      refine ⟨_, ?_, vrep_val⟩
      simp [execOp, ho, h, Op.unary, Op.intArith]
    · rename_i b hp
      refine ⟨_, hk, gives_still fun I w ev o ho hs hxr => ?_⟩
      have h := hxr x (by simp [Op.operands]) mx hx
      rw [hp] at h
      simp only [vrep] at h
      refine ⟨_, ?_, vrep_val⟩
      simp [execOp, ho, h, Op.unary]
    · rename_i k n hp
      refine ⟨_, hk, gives_still fun I w ev o ho hs hxr => ?_⟩
      have h := hxr x (by simp [Op.operands]) mx hx
      rw [hp] at h
      simp only [vrep] at h
      refine ⟨_, ?_, vrep_val⟩
      simp [execOp, ho, h, Op.unary, Op.intBits]
    · exact hk.elim
  | convert s d x =>
    simp only [convVal] at hm
    split at hm
    · rename_i k' k mx h1 h2 hx
      simp only [Option.some.injEq] at hm
      subst hm
      simp only [mval] at hk
      split at hk
      · rename_i k0 n hp
        refine ⟨_, hk, gives_still fun I w ev o ho hs hxr => ?_⟩
        have h := hxr x (by simp [Op.operands]) mx hx
        rw [hp] at h
        simp only [vrep] at h
        refine ⟨_, ?_, vrep_val⟩
        simp [execOp, ho, h, convert, run_underlying h1, run_underlying h2, Conv.intToInt]
      · exact hk.elim
    · rename_i e mx h1 h2 hx
      split at hm
      · rename_i a he hl
        simp only [Option.some.injEq] at hm
        subst hm
        simp only [mval] at hk
        split at hk
        · rename_i cs m hsrc
          split at hk
          · rename_i bs hbs
            refine ⟨_, hk, gives_still fun I w ev o ho hs hxr => ⟨_, ?_, vrep_val⟩⟩
            have h := hxr x (by simp [Op.operands]) mx hx
            simp [execOp, ho, strOf_sound h1 h2 he hl hs h hsrc hbs]
          · exact hk.elim
        · exact hk.elim
      · cases hm
    · cases hm
  | makeInterface t x =>
    simp only [convVal] at hm
    split at hm
    · cases hm
    · rename_i d mx hni hu hx
      simp only [Option.some.injEq] at hm
      subst hm
      refine ⟨_, hk, gives_still fun I w ev o ho hs hxr => ⟨.iface t (ev x), ?_, ?_⟩⟩
      · simp only [execOp, ho, Instr.makeInterface, Sem.run_bind, run_underlying hu, Result.andThen_ok]
        cases d <;> first | rfl | exact (hni _ rfl).elim
      · simp only [vrep]
        exact ⟨_, rfl, hxr x (by simp [Op.operands]) mx hx⟩
    · cases hm
  | makeFunc fn fs cs =>
    simp only [convVal] at hm
    split at hm
    · rename_i mf mc hf hc
      simp only [Option.some.injEq] at hm
      subst hm
      refine ⟨_, hk, gives_still fun I w ev o ho hs hxr => ⟨.func fn (fs.map ev) (cs.map ev), ?_, ?_⟩⟩
      · simp [execOp, ho, Instr.makeFunc]
      · simp only [vrep]
        refine ⟨fs.toList.map ev, cs.toList.map ev, by congr 1 <;> (apply Array.ext'; simp), xreps (fun y hy => hxr y ?_) hf, xreps (fun y hy => hxr y ?_) hc⟩
        · simp only [Op.operands, Array.toList_append, List.mem_append]; exact .inl hy
        · simp only [Op.operands, Array.toList_append, List.mem_append]; exact .inr hy
    · cases hm
  | fieldAddr s x f =>
    simp only [convVal] at hm
    split at hm
    · rename_i fields mx hu hx
      split at hm
      · rename_i fd hf
        split at hm
        · rename_i k a hl
          split at hm
          · cases hm
          · rename_i hk0
            simp only [Option.some.injEq] at hm
            subst hm
            have run : ∀ (w : World) (b o : Nat), (Instr.fieldAt s (.pointer (some ⟨b, o, none⟩)) f).run P w = .ok (.pointer (some ⟨b, o + fd.offset, none⟩)) w := by
              intro w b o
              simp [Instr.fieldAt, run_underlying hu, hf, Instr.sureAddr, fieldPlace, lay_size hl, hk0, addr_add]
            simp only [mval] at hk
            split at hk
            · rename_i cs k0 hp
              refine ⟨_, hk, gives_still fun I w ev o ho hs hxr => ?_⟩
              have h := hxr x (by simp [Op.operands]) mx hx
              rw [hp] at h
              simp only [vrep] at h
              obtain ⟨b, o', vs, h1, h2, h3⟩ := h
              refine ⟨.pointer (some ⟨b, o' + k0 + fd.offset, none⟩), ?_, ?_⟩
              · simp only [execOp, ho, h1, Sem.run_bind, run]; rfl
              · simp only [vrep]; exact ⟨b, o', vs, by rw [Nat.add_assoc], h2, h3⟩
            · rename_i b k0 hp
              refine ⟨_, hk, gives_still fun I w ev o ho hs hxr => ?_⟩
              have h := hxr x (by simp [Op.operands]) mx hx
              rw [hp] at h
              simp only [vrep] at h
              refine ⟨_, ?_, vrep_val⟩
              simp only [execOp, ho, h, Sem.run_bind, run]; rfl
            · exact hk.elim
        · cases hm
      · cases hm
    · cases hm
  | field t x f =>
    simp only [convVal] at hm
    split at hm
    · rename_i fields mx hu hx
      split at hm
      · rename_i fd hf
        split at hm
        · rename_i k a hl
          simp only [Option.some.injEq] at hm
          subst hm
          simp only [mval] at hk
          split at hk
          · rename_i cs hp
            obtain ⟨p, hK, h⟩ := part_sound hl hk
            refine ⟨p, hK, gives_still fun I w ev o ho hs hxr => ?_⟩
            have h0 := hxr x (by simp [Op.operands]) mx hx
            rw [hp] at h0
            simp only [vrep] at h0
            obtain ⟨vs, h1, h2⟩ := h0
            obtain ⟨u, h3, h4⟩ := h I w vs h2
            refine ⟨u, ?_, h4⟩
            simp [execOp, ho, h1, Instr.field, run_underlying hu, hf, asAgg, h3]
          · exact hk.elim
        · cases hm
      · cases hm
    · cases hm
  | indexAddr t x i =>
    simp only [convVal] at hm
    split at hm
    · rename_i e mx mi hu hx hi
      simp only [Option.map_eq_some_iff] at hm
      obtain ⟨⟨k, a⟩, hl, rfl⟩ := hm
      obtain ⟨p, hK, h⟩ := index_sound hu hl hk
      refine ⟨p, hK, gives_still fun I w ev o ho hs hxr => ?_⟩
      obtain ⟨u, h1, h2⟩ := h I w _ _ (hxr x (by simp [Op.operands]) mx hx) (hxr i (by simp [Op.operands]) mi hi)
      exact ⟨u, by simp [execOp, ho, h1], h2⟩
    · rename_i n e mx mi hu hx hi
      simp only [Option.map_eq_some_iff] at hm
      obtain ⟨⟨k, a⟩, hl, rfl⟩ := hm
      obtain ⟨p, hK, h⟩ := indexArr_sound hu hl hk
      refine ⟨p, hK, gives_still fun I w ev o ho hs hxr => ?_⟩
      obtain ⟨u, h1, h2⟩ := h I w _ _ (hxr x (by simp [Op.operands]) mx hx) (hxr i (by simp [Op.operands]) mi hi)
      exact ⟨u, by simp [execOp, ho, h1], h2⟩
    · cases hm
  | index t x i =>
    simp only [convVal] at hm
    split at hm
    · rename_i n e mx mi hu hx hi
      simp only [Option.map_eq_some_iff] at hm
      obtain ⟨⟨k, a⟩, hl, rfl⟩ := hm
      simp only [mval] at hk
      split at hk
      · rename_i j cs hj hp
        obtain ⟨h0, h1, hk⟩ := hk
        obtain ⟨p, hK, h⟩ := part_sound hl hk
        refine ⟨p, hK, gives_still fun I w ev o ho hs hxr => ?_⟩
        obtain ⟨kk, hvi⟩ := asInt?_spec hj (hxr i (by simp [Op.operands]) mi hi)
        have hv := hxr x (by simp [Op.operands]) mx hx
        rw [hp] at hv
        simp only [vrep] at hv
        obtain ⟨vs, hvx, hc⟩ := hv
        obtain ⟨u, h3, h4⟩ := h I w vs hc
        refine ⟨u, ?_, h4⟩
        simp [execOp, ho, hvi, hvx, Instr.index, asIntOf, run_underlying hu, h0, h1, lay_size hl, h3]
      · exact hk.elim
    · rename_i mx mi hu hx hi
      simp only [Option.some.injEq] at hm
      subst hm
      simp only [mval] at hk
      split at hk
      · rename_i j s hj hp
        obtain ⟨h0, c, hc, hK⟩ := hk
        refine ⟨_, hK, gives_still fun I w ev o ho hs hxr => ⟨_, ?_, vrep_val⟩⟩
        obtain ⟨kk, hvi⟩ := asInt?_spec hj (hxr i (by simp [Op.operands]) mi hi)
        have hv := hxr x (by simp [Op.operands]) mx hx
        rw [hp] at hv
        simp only [vrep] at hv
        simp [execOp, ho, hvi, hv, Instr.index, asIntOf, run_underlying hu, h0, hc]
      · exact hk.elim
    · cases hm
  | slice t x lo hi mx =>
    simp only [convVal] at hm
    split at hm
    · rename_i e mxx mlo mhi mmx hu hx hlo hhi hmx
      simp only [Option.map_eq_some_iff] at hm
      obtain ⟨⟨k, a⟩, hl, rfl⟩ := hm
      simp only [mval] at hk
      split at hk
      · rename_i l h m h1 h2 h3
        obtain ⟨p, hK, hh⟩ := slice_sound hu hl hk
        refine ⟨p, hK, gives_still fun I w ev o ho hs hxr => ?_⟩
        obtain ⟨u, g1, g2⟩ := hh I w (ev x) _ _ _ (hxr x (by simp [Op.operands]) mxx hx) (bnd_spec hlo h1 (fun y hy => hxr y (by simp [Op.operands, hy]))) (bnd_spec hhi h2 (fun y hy => hxr y (by simp [Op.operands, hy]))) (bnd_spec hmx h3 (fun y hy => hxr y (by simp [Op.operands, hy])))
        exact ⟨u, by simp [execOp, ho, g1], g2⟩
      · exact hk.elim
    · rename_i n e mxx mlo mhi mmx hu hx hlo hhi hmx
      simp only [Option.map_eq_some_iff] at hm
      obtain ⟨⟨k, a⟩, hl, rfl⟩ := hm
      simp only [mval] at hk
      split at hk
      · rename_i l h m h1 h2 h3
        obtain ⟨p, hK, hh⟩ := sliceArr_sound hu hl hk
        refine ⟨p, hK, gives_still fun I w ev o ho hs hxr => ?_⟩
        obtain ⟨u, g1, g2⟩ := hh I w (ev x) _ _ _ (hxr x (by simp [Op.operands]) mxx hx) (bnd_spec hlo h1 (fun y hy => hxr y (by simp [Op.operands, hy]))) (bnd_spec hhi h2 (fun y hy => hxr y (by simp [Op.operands, hy]))) (bnd_spec hmx h3 (fun y hy => hxr y (by simp [Op.operands, hy])))
        exact ⟨u, by simp [execOp, ho, g1], g2⟩
      · exact hk.elim
    · rename_i mxx mlo mhi hu hx hlo hhi hmx
      simp only [Option.some.injEq] at hm
      subst hm
      have hmn : mx = none := by
        cases mx with
        | none => rfl
        | some y => simp only [convOpt, Option.map_eq_some_iff] at hmx; obtain ⟨_, _, h⟩ := hmx; cases h
      subst hmn
      simp only [mval] at hk
      split at hk
      · rename_i l h s h1 h2 hs0
        obtain ⟨p, hK, hh⟩ := sliceStr_sound hu hk
        refine ⟨p, hK, gives_still fun I w ev o ho hs hxr => ?_⟩
        have hv := hxr x (by simp [Op.operands]) mxx hx
        rw [hs0] at hv
        simp only [vrep] at hv
        obtain ⟨u, g1, g2⟩ := hh I w _ _ (bnd_spec hlo h1 (fun y hy => hxr y (by simp [Op.operands, hy]))) (bnd_spec hhi h2 (fun y hy => hxr y (by simp [Op.operands, hy])))
        exact ⟨u, by simp [execOp, ho, hv, g1], g2⟩
      · exact hk.elim
    · cases hm
  | lookup t x i ok =>
    simp only [convVal] at hm
    split at hm
    · rename_i kt et mx mi hu hx hi
      split at hm
      · rename_i kp info hkp hinfo
        split at hm
        · rename_i z hz
          split at hm
          · rename_i hzc
            simp only [Option.some.injEq] at hm
            subst hm
            simp only [mval] at hk
            split at hk
            · rename_i ks vs kv h1 h2
              obtain ⟨hf, hk⟩ := hk
              split at hk
              · rename_i j hj
                obtain ⟨pr, hpr, hK⟩ := hk
                refine ⟨_, hK, gives_still fun I w ev o ho hs hxr => ?_⟩
                obtain ⟨u, g1, g2⟩ := lookup_sound hu hkp hinfo hz hzc hs (hxr x (by simp [Op.operands]) mx hx) (hxr i (by simp [Op.operands]) mi hi) h1 h2 hf (r := some j) hj ok hpr
                exact ⟨u, by simp [execOp, ho, g1], by simpa using g2⟩
              · rename_i hj
                refine ⟨_, hk, gives_still fun I w ev o ho hs hxr => ?_⟩
                obtain ⟨u, g1, g2⟩ := lookup_sound hu hkp hinfo hz hzc hs (hxr x (by simp [Op.operands]) mx hx) (hxr i (by simp [Op.operands]) mi hi) h1 h2 hf (r := none) hj ok (pr := pvOf z) rfl
                exact ⟨u, by simp [execOp, ho, g1], by simpa using g2⟩
              · exact hk.elim
            · exact hk.elim
          · cases hm
        · cases hm
      · cases hm
    · cases hm
  | extract x i =>
    simp only [convVal, Option.map_eq_some_iff] at hm
    obtain ⟨mx, hx, rfl⟩ := hm
    simp only [mval] at hk
    split at hk
    · rename_i ps hp
      obtain ⟨p, hi, hK⟩ := hk
      refine ⟨p, hK, gives_still fun I w ev o ho hs hxr => ?_⟩
      have hv := hxr x (by simp [Op.operands]) mx hx
      rw [hp] at hv
      simp only [vrep] at hv
      obtain ⟨vs, hvx, hc⟩ := hv
      obtain ⟨u, h1, h2⟩ := vreps_get hc hi
      exact ⟨u, by simp [execOp, ho, hvx, Instr.extract, h1], h2⟩
    · exact hk.elim
  | typeAssert x xt t ok =>
    simp only [convVal] at hm
    split at hm
    · cases hm
    · rename_i d i mx hni hu hi hx
      split at hm
      · rename_i z hz
        split at hm
        · rename_i hok
          simp only [Option.some.injEq] at hm
          subst hm
          have hni' : ∀ ms, d ≠ .interface ms := fun ms h => hni ms h
          have hzr : ∀ I, vrep I (.tuple [pvOf z, .bool false]) (.tuple #[z, .bool false]) := by
            intro I
            simp only [vrep]
            exact ⟨[z, .bool false], rfl, by simp only [vreps]; exact ⟨pvOf_spec hok, vrep_val, trivial⟩⟩
          simp only [mval] at hk
          split at hk
          · rename_i U p hp
            split at hk
            · rename_i hUT
              subst hUT
              cases ok with
              | true =>
                simp only [if_true] at hk
                refine ⟨_, hk, gives_still fun I w ev o ho hs hxr => ?_⟩
                have hv := hxr x (by simp [Op.operands]) mx hx
                rw [hp] at hv
                simp only [vrep] at hv
                obtain ⟨y, h1, h2⟩ := hv
                refine ⟨.tuple #[y, .bool true], ?_, by simp only [vrep]; exact ⟨[y, .bool true], rfl, by simp only [vreps]; exact ⟨h2, vrep_val, trivial⟩⟩⟩
                simp only [execOp, ho, Sem.run_bind, h1]
                rw [ta1 hu hni']
                simp
              | false =>
                simp only [Bool.false_eq_true, if_false] at hk
                refine ⟨_, hk, gives_still fun I w ev o ho hs hxr => ?_⟩
                have hv := hxr x (by simp [Op.operands]) mx hx
                rw [hp] at hv
                simp only [vrep] at hv
                obtain ⟨y, h1, h2⟩ := hv
                refine ⟨y, ?_, h2⟩
                simp only [execOp, ho, Sem.run_bind, h1]
                rw [ta1 hu hni']
                simp
            · rename_i hUT
              obtain ⟨rfl, hK⟩ := hk
              refine ⟨_, hK, gives_still fun I w ev o ho hs hxr => ⟨_, ?_, hzr I⟩⟩
              have hv := hxr x (by simp [Op.operands]) mx hx
              rw [hp] at hv
              simp only [vrep] at hv
              obtain ⟨y, h1, h2⟩ := hv
              simp only [execOp, ho, Sem.run_bind, h1]
              rw [ta2 hu hni' hUT hi hz]
              simp
          · rename_i hp
            obtain ⟨rfl, hK⟩ := hk
            refine ⟨_, hK, gives_still fun I w ev o ho hs hxr => ⟨_, ?_, hzr I⟩⟩
            have hv := hxr x (by simp [Op.operands]) mx hx
            rw [hp] at hv
            simp only [vrep] at hv
            simp only [execOp, ho, Sem.run_bind, hv]
            rw [ta3 hu hni' hi hz]
            simp
          · exact hk.elim
        · cases hm
      · cases hm
    · cases hm
  | call c =>
    obtain ⟨callee, args, ats⟩ := c
    cases callee with
    | value f => simp [convVal] at hm
    | invoke r n => simp [convVal] at hm
    | builtin b =>
      have hres : ∀ (ev : Operand → Value) (o : Oper) (w : World), o.op = .call ⟨.builtin b, args, ats⟩ → (execOp ev o).run P w = (builtin b ats o.type (args.map fun | .const _ => true | _ => false) (args.map ev)).run P w := by
        intro ev o w ho
        simp [execOp, ho, resolve, invoke]
        rfl
      cases b with
      | len =>
        simp only [convVal] at hm
        split at hm
        · rename_i x t hargs hat
          obtain rfl : args = #[x] := by rw [← Array.toArray_toList (xs := args), hargs]
          have run1 : ∀ (w : World) (ev : Operand → Value) (o : Oper), o.op = .call ⟨.builtin .len, #[x], ats⟩ → (execOp ev o).run P w = ((Builtin.len_ ats o.type #[ev x]).run P w).andThen fun v w' => .ok (.value v) w' := by
            intro w ev o ho
            rw [hres ev o w ho]
            simp [builtin]
          have hmem : ∀ {I : Imm} {ev : Operand → Value}, XRep I ρ ev (Op.call ⟨.builtin .len, #[x], ats⟩).operands.toList → ∀ m, convX x = some m → vrep I (ρ m) (ev x) :=
            fun h m hm => h x (by simp [Op.operands, Call.operands]) m hm
          split at hm
          · rename_i e mx hu hx
            simp only [Option.some.injEq] at hm
            subst hm
            have runs : ∀ (w : World) (ty : TypeId) (a : Option Addr) (n c : Nat), (Builtin.len_ ats ty #[.slice a n c]).run P w = .ok (.int .i64 n) w := by
              intro w ty a n c
              simp [Builtin.len_, hat, run_underlying hu, goInt]
            simp only [mval] at hk
            split at hk
            · rename_i tt cs n hlist
              refine ⟨_, hk, gives_still fun I w ev o ho hs hxr => ⟨_, ?_, vrep_val⟩⟩
              obtain ⟨a, cap, vs, h1, _⟩ := asList_spec hlist (hmem hxr mx hx)
              rw [run1 w ev o ho, h1, runs]
              rfl
            · split at hk
              · rename_i a n c hp
                refine ⟨_, hk, gives_still fun I w ev o ho hs hxr => ⟨_, ?_, vrep_val⟩⟩
                have hv := hmem hxr mx hx
                rw [hp] at hv
                simp only [vrep] at hv
                rw [run1 w ev o ho, hv, runs]
                rfl
              · exact hk.elim
          · rename_i kt et mx hu hx
            simp only [Option.some.injEq] at hm
            subst hm
            have runs : ∀ (w : World) (ty : TypeId) (r : Nat) (es : Array MapEntry) (cl : Nat), w.heap[r]? = some (.map es cl) → (Builtin.len_ ats ty #[.map (some r)]).run P w = .ok (.int .i64 es.size) w := by
              intro w ty r es cl h
              simp [Builtin.len_, hat, run_underlying hu, goInt, getObj, Sem.run, h]
            have run0 : ∀ (w : World) (ty : TypeId), (Builtin.len_ ats ty #[.map none]).run P w = .ok (.int .i64 0) w := by
              intro w ty
              simp [Builtin.len_, hat, run_underlying hu, goInt]
            simp only [mval] at hk
            split at hk
            · rename_i ks ps hp
              refine ⟨_, hk, gives_still fun I w ev o ho hs hxr => ⟨_, ?_, vrep_val⟩⟩
              have hv := hmem hxr mx hx
              rw [hp] at hv
              simp only [vrep] at hv
              obtain ⟨r, es, cl, h1, h2, h3, h4⟩ := hv
              rw [run1 w ev o ho, h1, runs w _ r es cl (hs.imm _ _ h2)]
              have : es.size = ks.length := by rw [← h3]; simp
              rw [this]
              rfl
            · rename_i hp
              refine ⟨_, hk, gives_still fun I w ev o ho hs hxr => ⟨_, ?_, vrep_val⟩⟩
              have hv := hmem hxr mx hx
              rw [hp] at hv
              simp only [vrep] at hv
              rw [run1 w ev o ho, hv, run0]
              rfl
            · rename_i b hp
              split at hk
              · rename_i ks ps hb
                refine ⟨_, hk, gives_still fun I w ev o ho hs hxr => ⟨_, ?_, vrep_val⟩⟩
                have hv := hmem hxr mx hx
                rw [hp] at hv
                simp only [vrep] at hv
                obtain ⟨_, r, hw, es, cl, rfl, h3, _⟩ := hs.objs b _ hb
                rw [run1 w ev o ho, hv, runs w _ b es cl hw]
                have : es.size = ks.length := by rw [← h3]; simp
                rw [this]
                rfl
              · exact hk.elim
            · exact hk.elim
          · rename_i mx hu hx
            simp only [Option.some.injEq] at hm
            subst hm
            simp only [mval] at hk
            split at hk
            · rename_i sv hp
              refine ⟨_, hk, gives_still fun I w ev o ho hs hxr => ⟨_, ?_, vrep_val⟩⟩
              have hv := hmem hxr mx hx
              rw [hp] at hv
              simp only [vrep] at hv
              rw [run1 w ev o ho, hv]
              simp [Builtin.len_, hat, run_underlying hu, goInt]
            · exact hk.elim
          · cases hm
        · cases hm
      | cap =>
        simp only [convVal] at hm
        split at hm
        · rename_i x t hargs hat
          obtain rfl : args = #[x] := by rw [← Array.toArray_toList (xs := args), hargs]
          split at hm
          · rename_i e mx hu hx
            simp only [Option.some.injEq] at hm
            subst hm
            have runs : ∀ (w : World) (ty : TypeId) (a : Option Addr) (n c : Nat), (Builtin.cap_ ats ty #[.slice a n c]).run P w = .ok (.int .i64 c) w := by
              intro w ty a n c
              simp [Builtin.cap_, hat, run_underlying hu, goInt]
            have hmem : ∀ {I : Imm} {ev : Operand → Value}, XRep I ρ ev (Op.call ⟨.builtin .cap, #[x], ats⟩).operands.toList → ∀ m, convX x = some m → vrep I (ρ m) (ev x) :=
              fun h m hm => h x (by simp [Op.operands, Call.operands]) m hm
            simp only [mval] at hk
            split at hk
            · rename_i a n c hp
              refine ⟨_, hk, gives_still fun I w ev o ho hs hxr => ⟨_, ?_, vrep_val⟩⟩
              have hv := hmem hxr mx hx
              rw [hp] at hv
              simp only [vrep] at hv
              rw [hres ev o w ho]
              simp [builtin, hv, runs]
            · rename_i cs n hp
              refine ⟨_, hk, gives_still fun I w ev o ho hs hxr => ⟨_, ?_, vrep_val⟩⟩
              have hv := hmem hxr mx hx
              rw [hp] at hv
              simp only [vrep] at hv
              obtain ⟨a, cap, vs, h1, h2, h3, h4, h5⟩ := hv
              rw [h4 trivial] at h1
              rw [hres ev o w ho]
              simp [builtin, h1, runs]
            · exact hk.elim
          · cases hm
        · cases hm
      | max =>
        simp only [convVal, Option.map_eq_some_iff] at hm
        obtain ⟨ms, hms, rfl⟩ := hm
        simp only [mval] at hk
        split at hk
        · rename_i k a k' b hp
          refine ⟨_, hk, gives_still fun I w ev o ho hs hxr => ⟨_, ?_, vrep_val⟩⟩
          have hv := xreps (fun y hy => hxr y (by simpa [Op.operands, Call.operands] using hy)) hms
          rw [hp] at hv
          have he : (args.map ev).toList = [.int k a, .int k' b] := by
            have hl := vreps_length hv
            rw [Array.toList_map]
            generalize args.toList.map ev = us at *
            match us, hl, hv with
            | [x, y], _, hv => simp only [vreps, vrep] at hv; rw [hv.1, hv.2.1]
          rw [hres ev o w ho]
          simp only [builtin, Sem.run_bind, Builtin.max_, he]
          simp [Builtin.max2]
        · exact hk.elim
      | min =>
        simp only [convVal, Option.map_eq_some_iff] at hm
        obtain ⟨ms, hms, rfl⟩ := hm
        simp only [mval] at hk
        split at hk
        · rename_i k a k' b hp
          refine ⟨_, hk, gives_still fun I w ev o ho hs hxr => ⟨_, ?_, vrep_val⟩⟩
          have hv := xreps (fun y hy => hxr y (by simpa [Op.operands, Call.operands] using hy)) hms
          rw [hp] at hv
          have he : (args.map ev).toList = [.int k a, .int k' b] := by
            have hl := vreps_length hv
            rw [Array.toList_map]
            generalize args.toList.map ev = us at *
            match us, hl, hv with
            | [x, y], _, hv => simp only [vreps, vrep] at hv; rw [hv.1, hv.2.1]
          rw [hres ev o w ho]
          simp only [builtin, Sem.run_bind, Builtin.min_, he]
          simp [Builtin.min2]
        · exact hk.elim
      | _ => simp [convVal] at hm
  | _ => simp [convVal] at hm

end Go.Pv

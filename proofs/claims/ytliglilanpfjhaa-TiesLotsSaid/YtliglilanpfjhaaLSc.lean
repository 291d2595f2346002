/- The compact code is met by the model's own: the reading of operations, and that it is right. -/
import Derived.Test.YtliglilanpfjhaaLSmp
import Derived.Lib.ConvBytes
namespace Go.Pv
variable {P : Program}

/-- What is asked of a type whose slices grow. -/
def growOK (P : Program) (e : TypeId) : Option (Nat × Nat) :=
  match P.info? e with
  | some i =>
    match i.zero with
    | some z => if z.cells.size = i.size && z.cells.toList.all Value.oneCell' && decide (0 < i.bytes) then some (i.bytes, i.size) else none
    | none => none
  | none => none
theorem growOK_spec {e : TypeId} {r : Nat × Nat} (h : growOK P e = some r) : ∃ i z, P.info? e = some i ∧ i.zero = some z ∧ z.cells.size = i.size ∧ z.cells.toList.all Value.oneCell' = true ∧ 0 < i.bytes ∧ r = (i.bytes, i.size) := by
  unfold growOK at h
  split at h
  · rename_i i hi
    split at h
    · rename_i z hz
      split at h
      · rename_i hc
        simp only [Bool.and_eq_true, decide_eq_true_eq] at hc
        simp only [Option.some.injEq] at h
        exact ⟨i, z, hi, hz, hc.1.1, hc.1.2, hc.2, h.symm⟩
      · cases h
    · cases h
  · cases h

def convBuiltin (P : Program) (b : Builtin) (args : List Operand) (ats : Array TypeId) : Option MOp :=
  match b, args with
  | .append, [x, y] =>
    match ats[0]?.bind P.underlying, ats[1]?.bind P.underlying, convX x, convX y with
    | some (.slice e), some d, some mx, some my =>
      match growOK P e, ats.size with
      | some (bytes, k), 2 =>
        match d with
        | .int _ => (zcells P e).map fun zs => .appendZ e bytes k zs mx my
        | _ => some (.append e bytes k mx my)
      | _, _ => none
    | _, _, _, _ => none
  | .copy, [x, y] =>
    match ats[0]?.bind P.underlying, convX x, convX y with
    | some (.slice e), some mx, some my =>
      match lay P e, ats.size with
      | some (k, _), 2 => some (.copy k mx my)
      | _, _ => none
    | _, _, _ => none
  | .delete, [x, y] =>
    match ats[0]?.bind P.underlying, convX x, convX y with
    | some (.map kt _), some mx, some my =>
      match keyPlan P kt, ats.size with
      | some kp, 2 => some (.delete kp mx my)
      | _, _ => none
    | _, _, _ => none
  | .clear, [x] =>
    match ats[0]?.bind P.underlying, convX x with
    | some (.slice e), some mx =>
      match zcells P e, ats.size with
      | some zs, 1 => some (.clear zs.length zs mx)
      | _, _ => none
    | _, _ => none
  | _, _ => none

/-- '==' and '!=' against a literal nil. -/
def convNilGo (P : Program) (neg : Bool) (t : TypeId) (x : Operand) (c : Value) : Option MOp :=
  match P.underlying t, c, convX x with
  | some (.slice _), .slice none 0 0, some m => some (.eqNil neg .slice m)
  | some (.interface _), .nilIface, some m => some (.eqNil neg .iface m)
  | some (.map _ _), .map none, some m => some (.eqNil neg .map m)
  | _, _, _ => none
def convNil (P : Program) (op : BinOp) (t : TypeId) (x : Operand) (c : Value) : Option MOp :=
  match op with
  | .eql => convNilGo P false t x c
  | .neq => convNilGo P true t x c
  | _ => none
def convOp (P : Program) (op : Op) : Option MOp :=
  match convVal P op with
  | some v => some (.val v)
  | none =>
    match op with
    | .alloc T => (zcells P T).map (.alloc T)
    | .box T x => (convX x).map (.box T)
    | .store T x y =>
      match lay P T, convX x, convX y with
      | some (k, _), some x, some y => some (.store k x y)
      | _, _, _ => none
    | .call { callee := .value f, args, argTypes := _ } =>
      match convX f, convXs args.toList with
      | some f, some xs => some (.call f xs)
      | _, _ => none
    | .call { callee := .builtin b, args, argTypes } => convBuiltin P b args.toList argTypes
    | .panic x => (convX x).map .panic
    | .binOp op t x (.const c) _ => convNil P op t x c
    | .makeMap _t r =>
      match r with
      | none => some .mkMap
      | some _ => none
    | .makeSlice t l c =>
      match P.underlying t, convX l, convX c with
      | some (.slice e), some l, some c =>
        match growOK P e, zcells P e with
        | some (bytes, k), some zs => some (.mkSlice e bytes k zs l c)
        | _, _ => none
      | _, _, _ => none
    | .mapUpdate t m k x | .insert t m k x =>
      match P.underlying t, convX m, convX k, convX x with
      | some (.map kt _), some m, some k, some x =>
        match keyPlan P kt with
        | some kp => some (.mapSet kp m k x)
        | none => none
      | _, _, _, _ => none
    | .range t x =>
      match P.underlying t, convX x with
      | some (.map _ _), some x => some (.rangeMap x)
      | _, _ => none
    | .next x false => (convX x).map .next
    | .entry x => (convX x).map .entry
    | .convert src dst x =>
      match P.underlying src, P.underlying dst, convX x with
      | some _, some (.slice e), some m =>
        match P.underlying e with
        | some (.int .u8) => some (.bytes m)
        | _ => none
      | _, _, _ => none
    | _ => none

theorem convBuiltin_nocall {b : Builtin} {args : List Operand} {ats : Array TypeId} {m : MOp} (h : convBuiltin P b args ats = some m) : (∀ f xs, m ≠ .call f xs) ∧ ∀ v, m ≠ .val v := by
  unfold convBuiltin at h
  repeat' split at h
  all_goals first | (cases h; done) | (simp only [Option.some.injEq] at h; subst h; exact ⟨by simp, by simp⟩) | (obtain ⟨zs, -, rfl⟩ := Option.map_eq_some_iff.1 h; exact ⟨by simp, by simp⟩)
theorem convNilGo_spec {neg : Bool} {t : TypeId} {x : Operand} {c : Value} {m : MOp} (h : convNilGo P neg t x c = some m) : ∃ nk mx, m = .eqNil neg nk mx ∧ convX x = some mx ∧
    (nk = .slice ∧ (∃ e, P.underlying t = some (.slice e)) ∧ c = .slice none 0 0 ∨ nk = .iface ∧ (∃ ms, P.underlying t = some (.interface ms)) ∧ c = .nilIface ∨ nk = .map ∧ (∃ k e, P.underlying t = some (.map k e)) ∧ c = .map none) := by
  unfold convNilGo at h
  split at h
  · rename_i e mx h1 h2
    simp only [Option.some.injEq] at h
    exact ⟨_, mx, h.symm, h2, .inl ⟨rfl, ⟨_, h1⟩, rfl⟩⟩
  · rename_i e mx h1 h2
    simp only [Option.some.injEq] at h
    exact ⟨_, mx, h.symm, h2, .inr (.inl ⟨rfl, ⟨_, h1⟩, rfl⟩)⟩
  · rename_i e mx h1 h2
    simp only [Option.some.injEq] at h
    exact ⟨_, mx, h.symm, h2, .inr (.inr ⟨rfl, ⟨_, _, h1⟩, rfl⟩)⟩
  · cases h
theorem convNil_spec {op : BinOp} {t : TypeId} {x : Operand} {c : Value} {m : MOp} (h : convNil P op t x c = some m) : ∃ neg nk mx, m = .eqNil neg nk mx ∧ convX x = some mx ∧ (op = if neg then .neq else .eql) ∧
    (nk = .slice ∧ (∃ e, P.underlying t = some (.slice e)) ∧ c = .slice none 0 0 ∨ nk = .iface ∧ (∃ ms, P.underlying t = some (.interface ms)) ∧ c = .nilIface ∨ nk = .map ∧ (∃ k e, P.underlying t = some (.map k e)) ∧ c = .map none) := by
  unfold convNil at h
  split at h
  · obtain ⟨nk, mx, h1, h2, h3⟩ := convNilGo_spec h; exact ⟨false, nk, mx, h1, h2, rfl, h3⟩
  · obtain ⟨nk, mx, h1, h2, h3⟩ := convNilGo_spec h; exact ⟨true, nk, mx, h1, h2, rfl, h3⟩
  · cases h
theorem convOp_call {op : Op} {mf : MX} {ms : List MX} (h : convOp P op = some (.call mf ms)) : ∃ f args ats, op = .call ⟨.value f, args, ats⟩ ∧ convX f = some mf ∧ convXs args.toList = some ms := by
  unfold convOp at h
  split at h
  · cases h
  · split at h
    case h_4 =>
      rename_i f args ats _
      split at h
      · rename_i f' xs h1 h2
        simp only [Option.some.injEq, MOp.call.injEq] at h
        exact ⟨f, args, ats, rfl, by rw [h1, h.1], by rw [h2, h.2]⟩
      · cases h
    case h_5 => exact absurd rfl ((convBuiltin_nocall h).1 mf ms)
    case h_7 => obtain ⟨_, _, _, h, _⟩ := convNil_spec h; cases h
    all_goals first
      | (cases h; done)
      | (simp only [Option.map_eq_some_iff] at h; obtain ⟨_, _, h⟩ := h; cases h; done)
      | (repeat' split at h); all_goals (cases h)
theorem convOp_val {op : Op} {v : MVal} (h : convOp P op = some (.val v)) : convVal P op = some v := by
  unfold convOp at h
  split at h
  · rename_i v' hv
    simp only [Option.some.injEq, MOp.val.injEq] at h
    rw [hv, h]
  · split at h
    case h_5 => exact absurd rfl ((convBuiltin_nocall h).2 v)
    case h_7 => obtain ⟨_, _, _, h, _⟩ := convNil_spec h; cases h
    all_goals first
      | (cases h; done)
      | (simp only [Option.map_eq_some_iff] at h; obtain ⟨_, _, h⟩ := h; cases h; done)
      | (repeat' split at h); all_goals (cases h)
theorem lit_sound {o : Oper} {v : MVal} {ρ : MX → PV} {st : Store} {K QP : PV → Store → Prop} (hv : convVal P o.op = some v) (hk : litK v ρ st K) {I : Imm} {w : World} (hs : SRep I st w)
    {ev : Operand → Value} (hx : XRep I ρ ev o.op.operands.toList) : UponR P I w K QP ((execOp ev o).run P w) := by
  have hop : ∃ t len parts, o.op = .buildSlice t len parts := by
    unfold litK at hk
    split at hk
    · cases ho : o.op with
      | buildSlice t len parts => exact ⟨_, _, _, rfl⟩
      | _ =>
        rw [ho] at hv
        exfalso
        revert hv
        clear hk hx ho
        simp only [convVal]
        repeat' split
        all_goals first | (simp; done) | (simp_all; done)
    · exact hk.elim
  obtain ⟨t, len, parts, ho⟩ := hop
  rw [ho] at hv
  obtain ⟨e, zs, ps, rfl, hlen, hcore⟩ := buildSlice_core (ρ := ρ) hv
  simp only [litK] at hk
  split at hk
  · rename_i cs hcs
    obtain ⟨us, hcu, hrun⟩ := hcore cs hcs I w ev o ho hx
    rw [hrun]
    exact ⟨I, _, I.le_refl, ⟨rfl, rfl, rfl, by simp⟩, hs.alloc (o := .arr e cs) ⟨us, rfl, hcu⟩, _, vrep_val, hk _ (snew_of hs.keys)⟩
  · exact hk.elim
theorem upon_value {I : Imm} {w : World} {K QP : PV → Store → Prop} {s : Sem Value} (h : Comes I w K (s.run P w)) : UponR P I w K QP ((do pure (.value (← s)) : Sem Next).run P w) := by
  obtain ⟨v, w', h1, h2⟩ := h
  simp only [Sem.run_bind, h1, Result.andThen_ok, Sem.run_pure, UponR]
  exact h2
theorem ats_two {ats : Array TypeId} (h : ats.size = 2) : ats = #[ats[0]!, ats[1]!] := by
  apply Array.ext
  · simp [h]
  · intro i h1 h2
    have : i = 0 ∨ i = 1 := by omega
    rcases this with rfl | rfl <;> simp [h]
theorem ats_one {ats : Array TypeId} (h : ats.size = 1) : ats = #[ats[0]!] := by
  apply Array.ext
  · simp [h]
  · intro i h1 h2
    have : i = 0 := by omega
    subst this
    simp [h]
theorem bind_underlying {ats : Array TypeId} {j : Nat} (hj : j < ats.size) {d : TypeDesc} (h : ats[j]?.bind P.underlying = some d) : P.underlying ats[j]! = some d := by
  simp only [hj, getElem?_pos, Option.bind_some] at h
  simpa [hj] using h
theorem builtin_sound {b : Builtin} {args : Array Operand} {ats : Array TypeId} {o : Oper} {m : MOp} {ρ : MX → PV} {st : Store} {K QP : PV → Store → Prop} (ho : o.op = .call ⟨.builtin b, args, ats⟩) (hm : convBuiltin P b args.toList ats = some m)
    (hk : mop P m ρ st K QP) {I : Imm} {w : World} (hs : SRep I st w) {ev : Operand → Value} (hx : XRep I ρ ev o.op.operands.toList) : UponR P I w K QP ((execOp ev o).run P w) := by
  have hops : ∀ x ∈ args.toList, x ∈ o.op.operands.toList := by
    intro x hx
    rw [ho]
    simp only [Op.operands, Call.operands, Array.toList_append, List.mem_append]
    exact .inr hx
  have hargs : ∀ x y, args.toList = [x, y] → args.map ev = #[ev x, ev y] := by
    intro x y h
    apply Array.ext'
    simp [h]
  unfold convBuiltin at hm
  split at hm
  · rename_i x y hxy
    split at hm
    · rename_i e d mx my ht htx hmx hmy
      split at hm
      · rename_i bytes k hg hsz
        obtain ⟨i, z, hi, hz, hzs, hz1, hb0, hr⟩ := growOK_spec hg
        obtain ⟨rfl, rfl⟩ := Prod.mk.inj hr
        have hvx := hx x (hops x (by rw [hxy]; simp)) mx hmx
        have hvy := hx y (hops y (by rw [hxy]; simp)) my hmy
        have ht' := bind_underlying (by omega) ht
        have htx' := bind_underlying (by omega) htx
        have he : (execOp ev o).run P w = (do pure (.value (← Builtin.append_ #[ats[0]!, ats[1]!] o.type #[ev x, ev y])) : Sem Next).run P w := by
          simp only [execOp, ho, resolve, hargs x y hxy, Sem.run_bind, Sem.run_pure, Result.andThen_ok, invoke, builtin]
          rw [← ats_two hsz]
        rw [he]
        apply upon_value
        split at hm
        · rename_i kx
          obtain ⟨zs, hzs', rfl⟩ := Option.map_eq_some_iff.1 hm
          obtain ⟨i', z', hi', hz', -, -, -, hzc⟩ := zcells_spec hzs'
          obtain rfl : i' = i := Option.some.inj (hi'.symm.trans hi)
          obtain rfl : z' = z := Option.some.inj (hz'.symm.trans hz)
          simp only [mop] at hk
          split at hk
          · rename_i kn m hmn
            obtain ⟨h0, h1, hk⟩ := hk
            rw [hmn] at hvy
            simp only [vrep] at hvy
            rw [hvy]
            exact appendZ_sound ht' hi hz hz1 hzs hb0 hzc htx' hs h0 h1 hvx hk
          · exact hk.elim
        · rename_i d' hd'
          simp only [Option.some.injEq] at hm
          subst hm
          simp only [mop] at hk
          split at hk
          · rename_i new mm hsrc
            exact append_sound ht' hi hz hz1 hzs hb0 htx' hd' hs hvx hvy hsrc hk
          · exact hk.elim
      · cases hm
    · cases hm
  · rename_i x y hxy
    split at hm
    · rename_i e mx my ht hmx hmy
      split at hm
      · rename_i k a hl hsz
        simp only [Option.some.injEq] at hm
        subst hm
        have hvx := hx x (hops x (by rw [hxy]; simp)) mx hmx
        have hvy := hx y (hops y (by rw [hxy]; simp)) my hmy
        have ht' := bind_underlying (by omega) ht
        have he : (execOp ev o).run P w = (do pure (.value (← Builtin.copy_ #[ats[0]!, ats[1]!] o.type #[ev x, ev y])) : Sem Next).run P w := by
          simp only [execOp, ho, resolve, hargs x y hxy, Sem.run_bind, Sem.run_pure, Result.andThen_ok, invoke, builtin]
          rw [← ats_two hsz]
        rw [he]
        apply upon_value
        simp only [mop] at hk
        split at hk
        · rename_i new mm hsrc
          exact copy_sound ht' hl hs hvx hvy hsrc hk
        · exact hk.elim
      · cases hm
    · cases hm
  · rename_i x y hxy
    split at hm
    · rename_i kt et mx my ht hmx hmy
      split at hm
      · rename_i kp hkp hsz
        simp only [Option.some.injEq] at hm
        subst hm
        have hvx := hx x (hops x (by rw [hxy]; simp)) mx hmx
        have hvy := hx y (hops y (by rw [hxy]; simp)) my hmy
        have ht' := bind_underlying (by omega) ht
        have he : (execOp ev o).run P w = (do pure (.value (← Builtin.delete_ #[ats[0]!, ats[1]!] o.type #[ev x, ev y])) : Sem Next).run P w := by
          simp only [execOp, ho, resolve, hargs x y hxy, Sem.run_bind, Sem.run_pure, Result.andThen_ok, invoke, builtin]
          rw [← ats_two hsz]
        rw [he]
        simp only [mop] at hk
        split at hk
        · rename_i b kv hmb hkv
          rw [hmb] at hvx
          simp only [vrep] at hvx
          split at hk
          · rename_i ks vs hb
            obtain ⟨hf, hk⟩ := hk
            have key : ∀ r, kidx kp kv ks = some r → K .any (match r with | some j => sset st b (.map (ks.eraseIdx j) (vs.eraseIdx j)) | none => st) → UponR P I w K QP ((do pure (.value (← Builtin.delete_ #[ats[0]!, ats[1]!] o.type #[ev x, ev y])) : Sem Next).run P w) := by
              intro r hr hK
              obtain ⟨w', h1, h2, h3⟩ := delete_sound ht' hkp hs hvy hkv hb hf hr (tk := ats[1]!) o.type
              apply upon_value
              rw [hvx]
              exact ⟨_, _, h1, I, _, I.le_refl, h2, h3, .any, by simp only [vrep], by cases r <;> exact hK⟩
            split at hk
            · rename_i j hj; exact key (some j) hj hk
            · rename_i hj; exact key none hj hk
            · exact hk.elim
          · exact hk.elim
        · exact hk.elim
      · cases hm
    · cases hm
  · rename_i x hxy
    split at hm
    · rename_i e mx ht hmx
      split at hm
      · rename_i zs hz hsz
        simp only [Option.some.injEq] at hm
        subst hm
        have hvx := hx x (hops x (by rw [hxy]; simp)) mx hmx
        have ht' := bind_underlying (by omega) ht
        have ha : args.map ev = #[ev x] := by
          apply Array.ext'
          simp [hxy]
        have he : (execOp ev o).run P w = (do pure (.value (← Builtin.clear_ #[ats[0]!] o.type #[ev x])) : Sem Next).run P w := by
          simp only [execOp, ho, resolve, ha, Sem.run_bind, Sem.run_pure, Result.andThen_ok, invoke, builtin]
          rw [← ats_one hsz]
        rw [he]
        simp only [mop] at hk
        obtain ⟨w', st', h1, h2, h3, h4⟩ := clear_sound ht' hz hs hvx hk o.type
        apply upon_value
        exact ⟨_, _, h1, I, _, I.le_refl, h2, h3, .any, by simp only [vrep], h4⟩
      · cases hm
    · cases hm
  · cases hm
theorem nil_sound {o : Oper} {op : BinOp} {t u : TypeId} {x : Operand} {c : Value} {m : MOp} {ρ : MX → PV} {st : Store} {K QP : PV → Store → Prop} (ho : o.op = .binOp op t x (.const c) u) (hm : convNil P op t x c = some m) (hk : mop P m ρ st K QP)
    {I : Imm} {w : World} (hs : SRep I st w) {ev : Operand → Value} (hev : ev (.const c) = c) (hx : XRep I ρ ev o.op.operands.toList) : UponR P I w K QP ((execOp ev o).run P w) := by
  obtain ⟨neg, nk, mx, rfl, hmx, hop, hty⟩ := convNil_spec hm
  have hv := hx x (by rw [ho]; simp [Op.operands]) mx hmx
  simp only [mop] at hk
  -- the answer
  have done : ∀ b : Bool, (Op.equal t (ev x) c).run P w = .ok b w → (eqGuard op t x (.const c) (ev x) c).run P w = .ok () w → K (.bool (if neg then !b else b)) st → UponR P I w K QP ((execOp ev o).run P w) := by
    intro b hb hg hK
    have hbin : (binOp op t (ev x) c).run P w = .ok (.bool (if neg then !b else b)) w := by
      rcases hty with ⟨-, -, rfl⟩ | ⟨-, -, rfl⟩ | ⟨-, -, rfl⟩ <;> cases neg <;> simp only [Bool.false_eq_true, if_true, if_false] at hop <;> subst hop <;> cases hve : ev x <;> rw [hve] at hb <;> simp only [binOp, Sem.run_bind, hb, Result.andThen_ok, Sem.run_pure] <;> rfl
    have hrun : (execOp ev o).run P w = .ok (.value (.bool (if neg then !b else b))) w := by
      simp only [execOp, ho, hev, Sem.run_bind, hg, Result.andThen_ok, hbin, Sem.run_pure]
    rw [hrun]
    exact ⟨I, st, I.le_refl, Calm.refl w, hs, _, vrep_val, hK⟩
  have fin : ∀ b : Bool, (if neg then !b else b) = (if b then !neg else neg) := by intro b; cases b <;> cases neg <;> rfl
  rcases hty with ⟨rfl, ⟨e, hu⟩, rfl⟩ | ⟨rfl, ⟨ms, hu⟩, rfl⟩ | ⟨rfl, ⟨k, e, hu⟩, rfl⟩
  · have hg : (eqGuard op t x (.const (.slice none 0 0)) (ev x) (.slice none 0 0)).run P w = .ok () w := by
      cases neg <;> simp only [Bool.false_eq_true, if_true, if_false] at hop <;> subst hop <;> cases ev x <;> simp [eqGuard]
    have es : ∀ (a : Option Addr) (n cap : Nat), (Op.equal t (.slice a n cap) (.slice none 0 0)).run P w = .ok a.isNone w := by
      intro a n cap
      have hd : ∀ d : Nat, (Op.equalIn (d + 1) t (.slice a n cap) (.slice none 0 0)).run P w = .ok a.isNone w := by
        intro d
        cases a <;> simp [Op.equalIn, run_underlying hu]
      exact hd 9999
    unfold eqNilK at hk
    split at hk <;> first | (exact hk.elim) | skip
    · rename_i h1 h2; rw [h2] at hv; simp only [vrep] at hv
      exact done true (by rw [hv]; exact es ..) hg (by rw [fin]; exact hk)
    · cases ‹NK.slice = NK.iface›
    · cases ‹NK.slice = NK.map›
    · rename_i t' cs n h1 h2
      rw [h2] at hv
      simp only [vrep] at hv
      obtain ⟨a, cap, vs, hvx, -, -, -, hc, hrow⟩ := hv
      cases a with
      | none =>
        have hcs : cs = [] := by
          rcases hrow with rfl | ⟨b, off, h, -⟩
          · have := vcells_length hc; simpa using this
          · cases h
        exact done true (by rw [hvx]; exact es ..) hg (by rw [fin]; exact hk.1 hcs)
      | some a => exact done false (by rw [hvx]; exact es ..) hg (by rw [fin]; exact hk.2)
    · rename_i h1 h2; rw [h2] at hv; simp only [vrep] at hv
      exact done false (by rw [hv]; exact es ..) hg (by rw [fin]; exact hk)
    all_goals first | (cases ‹NK.slice = NK.iface›; done) | (cases ‹NK.slice = NK.map›; done)
  · have hg : (eqGuard op t x (.const .nilIface) (ev x) .nilIface).run P w = .ok () w := by
      cases neg <;> simp only [Bool.false_eq_true, if_true, if_false] at hop <;> subst hop <;> cases ev x <;> simp [eqGuard]
    have e1 : (Op.equal t .nilIface .nilIface).run P w = .ok true w := by
      have hd : ∀ d : Nat, (Op.equalIn (d + 1) t .nilIface .nilIface).run P w = .ok true w := by
        intro d
        simp [Op.equalIn, run_underlying hu]
      exact hd 9999
    have e2 : ∀ T v, (Op.equal t (.iface T v) .nilIface).run P w = .ok false w := by
      intro T v
      have hd : ∀ d : Nat, (Op.equalIn (d + 1) t (.iface T v) .nilIface).run P w = .ok false w := by
        intro d
        simp [Op.equalIn, run_underlying hu]
      exact hd 9999
    unfold eqNilK at hk
    split at hk <;> first | (exact hk.elim) | skip
    · cases ‹NK.iface = NK.slice›
    · rename_i h1 h2; rw [h2] at hv; simp only [vrep] at hv
      exact done true (by rw [hv]; exact e1) hg (by rw [fin]; exact hk)
    · cases ‹NK.iface = NK.map›
    · cases ‹NK.iface = NK.slice›
    · cases ‹NK.iface = NK.slice›
    · rename_i h1 h2; rw [h2] at hv; simp only [vrep] at hv
      obtain ⟨u, hvx, -⟩ := hv
      exact done false (by rw [hvx]; exact e2 ..) hg (by rw [fin]; exact hk)
    all_goals cases ‹NK.iface = NK.map›
  · have hg : (eqGuard op t x (.const (.map none)) (ev x) (.map none)).run P w = .ok () w := by
      cases neg <;> simp only [Bool.false_eq_true, if_true, if_false] at hop <;> subst hop <;> cases ev x <;> simp [eqGuard]
    have em : ∀ (r : Option Nat), (Op.equal t (.map r) (.map none)).run P w = .ok r.isNone w := by
      intro r
      have hd : ∀ d : Nat, (Op.equalIn (d + 1) t (.map r) (.map none)).run P w = .ok r.isNone w := by
        intro d
        cases r <;> simp [Op.equalIn, run_underlying hu]
      exact hd 9999
    unfold eqNilK at hk
    split at hk <;> first | (exact hk.elim) | skip
    · cases ‹NK.map = NK.slice›
    · cases ‹NK.map = NK.iface›
    · rename_i h1 h2; rw [h2] at hv; simp only [vrep] at hv
      exact done true (by rw [hv]; exact em ..) hg (by rw [fin]; exact hk)
    · cases ‹NK.map = NK.slice›
    · cases ‹NK.map = NK.slice›
    · cases ‹NK.map = NK.iface›
    · rename_i h1 h2; rw [h2] at hv; simp only [vrep] at hv
      exact done false (by rw [hv]; exact em ..) hg (by rw [fin]; exact hk)
    · rename_i h1 h2; rw [h2] at hv; simp only [vrep] at hv
      obtain ⟨r, es', clock, hvx, -⟩ := hv
      exact done false (by rw [hvx]; exact em ..) hg (by rw [fin]; exact hk)
theorem run_callOp {o : Oper} {f : Operand} {args : Array Operand} {ats : Array TypeId} (ho : o.op = .call ⟨.value f, args, ats⟩) (ev : Operand → Value) (w : World) :
    (execOp ev o).run P w = (do let d ← Deferred.ofValue (ev f) (args.toList.map ev).toArray; invoke d.target d.args : Sem Next).run P w := by
  have : args.map ev = (args.toList.map ev).toArray := by apply Array.ext'; simp
  simp only [execOp, ho, resolve, this]

theorem SRep.heap {I : Imm} {st : Store} {w w' : World} (h : SRep I st w) (e : w'.heap = w.heap) : SRep I st w' := ⟨by rw [e]; exact h.imm, by rw [e]; exact h.objs, by rw [e]; exact h.keys⟩
theorem vcells_bytes (I : Imm) : ∀ l : List UInt8, vcells I (l.map fun b => PV.val (.int .u8 b.toNat)) (l.map fun b => Value.int .u8 b.toNat)
  | [] => by simp [vcells]
  | b :: l => by simp only [List.map_cons, vcells]; exact ⟨⟨vrep_val, rfl⟩, vcells_bytes I l⟩
theorem bytes_sound {src dst e : TypeId} {u : TypeDesc} (hu : P.underlying src = some u) (hd : P.underlying dst = some (.slice e)) (he : P.underlying e = some (.int .u8)) {I : Imm} {st : Store} {w : World} (hs : SRep I st w) {s : ByteArray} {K : PV → Store → Prop}
    (hk : s.size ≤ 140737488355328 ∧ K (.list false (strCells s) s.size) st) : Comes I w K ((convert src dst (.string s)).run P w) := by
  obtain ⟨h1, hK⟩ := hk
  rw [Lib.run_convert_string_bytes w src dst e s hu hd he]
  let r : Obj := .cells (Lib.bytesCells w e s) e ((Lib.bytesCells w e s).size, (Lib.bytesCells w e s).size + 1)
  have hheap : (Lib.bytesWorld w e s).heap = (w.alloc r).heap := by
    apply Array.ext_getElem?
    intro j
    rcases Nat.lt_trichotomy j w.heap.size with hj | hj | hj
    · rw [Lib.bytesWorld_at_old w e s j hj]
      show _ = (w.heap.push r)[j]?
      rw [Array.getElem?_push, if_neg (by omega)]
    · subst hj
      rw [Lib.bytesWorld_at_new]
      show _ = (w.heap.push r)[w.heap.size]?
      simp [r]
    · rw [Array.getElem?_eq_none (by rw [Lib.bytesWorld_size]; omega)]
      show _ = (w.heap.push r)[j]?
      rw [Array.getElem?_eq_none (by simp; omega)]
  have hcap := grownCap_ge w s.size 0 e
  have hcm := grownCap_le_maxLen w s.size 0 e (by unfold maxLen; omega)
  refine ⟨_, _, rfl, I.add w.heap.size r, st, hs.le_add r, ⟨rfl, rfl, rfl, by rw [Lib.bytesWorld_size]; omega⟩, (hs.allocImm r).heap hheap, _, ?_, hK⟩
  simp only [vrep]
  refine ⟨some ⟨w.heap.size, 0, none⟩, grownCap w s.size 0 e, s.data.toList.map fun b => Value.int .u8 b.toNat, rfl, hcap, hcm, by simp, vcells_bytes _ _, .inr ⟨w.heap.size, 0, rfl, ?_⟩⟩
  refine ⟨Lib.bytesCells w e s, e, ((Lib.bytesCells w e s).size, (Lib.bytesCells w e s).size + 1), by simp [Imm.add, r], fun j v hj => ?_⟩
  have hjl := (List.getElem?_eq_some_iff.1 hj).1
  simp only [List.length_map] at hjl
  rw [Nat.zero_add]
  unfold Lib.bytesCells
  rw [Array.getElem?_append_left (by simpa using hjl)]
  simpa using hj
theorem op_sound {o : Oper} {m : MOp} {ρ : MX → PV} (hρ : ∀ p, ρ (.const p) = p) {st : Store} {K QP : PV → Store → Prop} (hm : convOp P o.op = some m) (hk : mop P m ρ st K QP) {I : Imm} {w : World} (hs : SRep I st w)
    {ev : Operand → Value} (hx : XRep I ρ ev o.op.operands.toList) : UponR P I w K QP ((execOp ev o).run P w) := by
  unfold convOp at hm
  split at hm
  · rename_i v hv
    simp only [Option.some.injEq] at hm
    subst hm
    rcases hk with hk' | hk'
    · obtain ⟨p, hK, h⟩ := val_sound hv hk'
      obtain ⟨u, w', I', h1, h2, h3, h4, h5⟩ := h I w ev o rfl hs hx
      rw [h1]
      exact ⟨I', st, h2, h3, h4, p, h5, hK⟩
    · exact lit_sound hv hk' hs hx
  · split at hm
    · rename_i T ho
      simp only [Option.map_eq_some_iff] at hm
      obtain ⟨zs, hz, rfl⟩ := hm
      obtain ⟨i, z, hi, hiz, hsz, h1, hzs, hzc⟩ := zcells_spec hz
      have hor : orep I (.arr T zs) (.cells z.cells T) := ⟨z.cells.toList, by simp, hzc I⟩
      have hrun : (execOp ev o).run P w = .ok (.value (.pointer (some ⟨w.heap.size, 0, none⟩))) (w.alloc (.cells z.cells T)) := by
        simp only [execOp, ho, Instr.alloc, Sem.run_bind, run_zeroValue' hi hiz, Result.andThen_ok]
        rfl
      rw [hrun]
      exact ⟨I, _, I.le_refl, ⟨rfl, rfl, rfl, by simp⟩, hs.alloc hor, _, vrep_val, hk _ (snew_of hs.keys)⟩
    · rename_i T x ho
      simp only [Option.map_eq_some_iff] at hm
      obtain ⟨mx, hmx, rfl⟩ := hm
      have hv := hx x (by rw [ho]; simp [Op.operands]) mx hmx
      simp only [mop] at hk
      split at hk
      · rename_i cs hcs
        have hc := PV.cells_spec hv hcs
        have hor : orep I (.arr T cs) (.cells (ev x).cells T) := ⟨(ev x).cells.toList, by simp, hc⟩
        have hrun : (execOp ev o).run P w = .ok (.value (.pointer (some ⟨w.heap.size, 0, none⟩))) (w.alloc (.cells (ev x).cells T)) := by
          simp only [execOp, ho, Instr.box, newVar, newRow, Sem.run_bind, run_newObj, Result.andThen_ok, Sem.run_pure]
          rfl
        rw [hrun]
        exact ⟨I, _, I.le_refl, ⟨rfl, rfl, rfl, by simp⟩, hs.alloc hor, _, vrep_val, hk _ (snew_of hs.keys)⟩
      · exact hk.elim
    · rename_i T x y ho
      split at hm
      · rename_i k a mx my hl hmx hmy
        simp only [Option.some.injEq] at hm
        subst hm
        have hvx := hx x (by rw [ho]; simp [Op.operands]) mx hmx
        have hvy := hx y (by rw [ho]; simp [Op.operands]) my hmy
        simp only [mop] at hk
        split at hk
        · rename_i b off ps hp hcs
          split at hk
          · rename_i T' cs hb
            obtain ⟨h1, h2, hK⟩ := hk
            rw [hp] at hvx
            simp only [vrep] at hvx
            have hc := PV.cells_spec hvy hcs
            obtain ⟨hI, r, hw, vs, rfl, hcv⟩ := hs.objs b _ hb
            have hlc := vcells_length hc
            obtain ⟨w', hr1, hr2, hr3, hr4, hr5⟩ := storeCells_run (P := P) (ev y).cells.toList 0 off vs w hw (by rw [← hlc, ← vcells_length hcv]; omega) (vcells_one hc)
            have hrun : (execOp ev o).run P w = .ok .skip w' := by
              simp only [execOp, ho, Instr.storeAt, hvx, Instr.sureAddr, Sem.run_bind, Sem.run_pure, Result.andThen_ok, storeVar, lay_size hl]
              rw [if_neg (by rw [length_vcells hc]; omega)]
              rw [hr1]
              rfl
            rw [hrun]
            refine ⟨I, _, I.le_refl, hr2, hs.put hb (o' := .arr T' (setCells cs off ps)) ⟨_, rfl, ?_⟩ hr3 hr4 hr5, hK⟩
            rw [Nat.add_zero]
            exact vcells_setCells off hc hcv
          · exact hk.elim
        · exact hk.elim
      · cases hm
    · rename_i f args ats ho
      split at hm
      · rename_i mf ms hf hxs
        simp only [Option.some.injEq] at hm
        subst hm
        have h1 := hx f (by rw [ho]; simp [Op.operands, Call.operands]) mf hf
        have h2 := xreps (ρ := ρ) (fun y hy => hx y (by rw [ho]; simp only [Op.operands, Call.operands, Array.toList_append, List.mem_append]; exact .inr hy)) hxs
        have := callV_sound hk hs h1 h2
        have e : (execOp ev o).run P w = (do let d ← Deferred.ofValue (ev f) (args.toList.map ev).toArray; invoke d.target d.args : Sem Next).run P w := by
          have : args.map ev = (args.toList.map ev).toArray := by apply Array.ext'; simp
          simp only [execOp, ho, resolve, this]
        rw [e]
        exact this
      · cases hm
    · rename_i b args ats ho
      exact builtin_sound ho hm hk hs hx
    · rename_i x ho
      simp only [Option.map_eq_some_iff] at hm
      obtain ⟨mx, hmx, rfl⟩ := hm
      have hv := hx x (by rw [ho]; simp [Op.operands]) mx hmx
      simp only [mop] at hk
      split at hk
      · rename_i T p hp
        rw [hp] at hv
        have hv' := hv
        simp only [vrep] at hv
        obtain ⟨u, h1, h2⟩ := hv
        have hrun : (execOp ev o).run P w = .halt (.panic (ev x)) w := by
          simp [execOp, ho, h1, Instr.panic]
        rw [hrun]
        exact ⟨I, st, I.le_refl, Calm.refl w, hs, _, hv', hk⟩
      · exact hk.elim
    · rename_i op' t x c u ho
      refine nil_sound ho hm hk hs ?_ hx
      obtain ⟨neg, nk, mx, -, -, -, hty⟩ := convNil_spec hm
      have hc : ∀ v : Value, okConst v = true → pvOf v = .val v → c = v → ev (.const c) = c := by
        rintro v h1 h2 rfl
        have := hx (.const c) (by rw [ho]; simp [Op.operands]) (.const (.val c)) (by simp [convX, h1, h2])
        rw [hρ] at this
        simpa [vrep] using this
      rcases hty with ⟨-, -, h⟩ | ⟨-, -, h⟩ | ⟨-, -, h⟩ <;> exact hc _ rfl rfl h
    · rename_i t r ho
      split at hm
      · simp only [Option.some.injEq] at hm
        subst hm
        have hrun : (execOp ev o).run P w = .ok (.value (.map (some w.heap.size))) (w.alloc (.map #[] 0)) := by
          simp [execOp, ho, Instr.makeMap]
        rw [hrun]
        exact ⟨I, _, I.le_refl, ⟨rfl, rfl, rfl, by simp⟩, hs.alloc (o := .map [] []) ⟨#[], 0, rfl, rfl, by simp [vreps], by simp, by simp⟩, _, vrep_val, hk _ (snew_of hs.keys)⟩
      · cases hm
    · rename_i t l c ho
      split at hm
      · rename_i e ml mc hu hml hmc
        split at hm
        · rename_i bytes k zs hg hzs
          simp only [Option.some.injEq] at hm
          subst hm
          obtain ⟨i, z, hi, hz, hsz, hz1, hb0, hr⟩ := growOK_spec hg
          obtain ⟨rfl, rfl⟩ := Prod.mk.inj hr
          obtain ⟨i', z', hi', hz', hsz', -, -, hzc⟩ := zcells_spec hzs
          obtain rfl : i' = i := Option.some.inj (hi'.symm.trans hi)
          obtain rfl : z' = z := Option.some.inj (hz'.symm.trans hz)
          have hvl := hx l (by rw [ho]; simp [Op.operands]) ml hml
          have hvc := hx c (by rw [ho]; simp [Op.operands]) mc hmc
          simp only [mop] at hk
          split at hk
          · rename_i kl nl kc nc h1 h2
            rw [h1] at hvl
            rw [h2] at hvc
            simp only [vrep] at hvl hvc
            have he : (execOp ev o).run P w = (do pure (.value (← Instr.makeSlice t (ev l) (ev c))) : Sem Next).run P w := by
              simp only [execOp, ho]
            rw [he, hvl, hvc]
            exact upon_value (mkSlice_sound hu hi hz hsz hzc hs hk)
          · exact hk.elim
        · cases hm
      · cases hm
    all_goals first
      | (cases hm; done)
      | skip
    case h_12 =>
      rename_i t x ho
      split at hm
      · rename_i kt et mx hu hmx
        simp only [Option.some.injEq] at hm
        subst hm
        have hvx := hx x (by rw [ho]; simp [Op.operands]) mx hmx
        have he : (execOp ev o).run P w = (do pure (.value (← Instr.range t (ev x))) : Sem Next).run P w := by
          simp only [execOp, ho]
        rw [he]
        exact upon_value (range_sound hu hs hvx hk)
      · cases hm
    case h_13 =>
      rename_i x ho
      simp only [Option.map_eq_some_iff] at hm
      obtain ⟨mx, hmx, rfl⟩ := hm
      have hvx := hx x (by rw [ho]; simp [Op.operands]) mx hmx
      have he : (execOp ev o).run P w = (do pure (.value (← Instr.next (ev x) false o.type)) : Sem Next).run P w := by
        simp only [execOp, ho]
      rw [he]
      exact upon_value (next_sound hs hvx hk _)
    case h_14 =>
      rename_i x ho
      simp only [Option.map_eq_some_iff] at hm
      obtain ⟨mx, hmx, rfl⟩ := hm
      have hvx := hx x (by rw [ho]; simp [Op.operands]) mx hmx
      have he : (execOp ev o).run P w = (do pure (.value (← Instr.entry (ev x))) : Sem Next).run P w := by
        simp only [execOp, ho]
      rw [he]
      exact upon_value (entry_sound hs hvx hk)
    case h_15 =>
      rename_i src dst x ho
      split at hm
      · rename_i u e mx hu he hmx
        split at hm
        · rename_i hee
          simp only [Option.some.injEq] at hm
          subst hm
          have hvx := hx x (by rw [ho]; simp [Op.operands]) mx hmx
          simp only [mop] at hk
          split at hk
          · rename_i s hp
            rw [hp] at hvx
            simp only [vrep] at hvx
            have hrun : (execOp ev o).run P w = (do pure (.value (← convert src dst (ev x))) : Sem Next).run P w := by
              simp only [execOp, ho]
            rw [hrun, hvx]
            exact upon_value (bytes_sound hu he hee hs hk)
          · exact hk.elim
        · cases hm
      · cases hm
    all_goals
      rename_i t m k x ho
      split at hm
      · rename_i kt et mm mk mx hu hmm hmk hmx
        split at hm
        · rename_i kp hkp
          simp only [Option.some.injEq] at hm
          subst hm
          have hvm := hx m (by rw [ho]; simp [Op.operands]) mm hmm
          have hvk := hx k (by rw [ho]; simp [Op.operands]) mk hmk
          have hvx := hx x (by rw [ho]; simp [Op.operands]) mx hmx
          simp only [mop] at hk
          split at hk
          · rename_i b kv hmb hkv
            rw [hmb] at hvm
            simp only [vrep] at hvm
            split at hk
            · rename_i ks vs hb
              obtain ⟨hf, hk⟩ := hk
              have key : ∀ r, kidx kp kv ks = some r → K .any (sset st b (match r with | some j => .map (ks.set j kv) (vs.set j (ρ mx)) | none => .map (ks ++ [kv]) (vs ++ [ρ mx]))) → UponR P I w K QP ((execOp ev o).run P w) := by
                intro r hr hK
                obtain ⟨w', h1, h2, h3⟩ := mapSet_sound hu hkp hs hvk hvx hkv hb hf hr
                have hrun : (execOp ev o).run P w = .ok .skip w' := by
                  simp only [execOp, ho, hvm, Sem.run_bind, h1, Result.andThen_ok, Sem.run_pure]
                rw [hrun]
                exact ⟨I, _, I.le_refl, h2, h3, by cases r <;> exact hK⟩
              split at hk
              · rename_i j hj; exact key (some j) hj hk
              · rename_i hj; exact key none hj hk
              · exact hk.elim
            · exact hk.elim
          · exact hk.elim
        · cases hm
      · cases hm

end Go.Pv

/- Package variables that the program never writes: a row's own start store; arguments opened beside them. -/
import Derived.Handed
import Derived.LaidMore
import Derived.Test.YtliglilanpfjhaaLBr
namespace Go.Pv
open Go.ChangeShapes Go.WideShapes Go.Deep Go.RowKit
/-- Variables: block, type, cells. -/
abbrev Glob := List (Nat × TypeId × List Value)
def globSt : Glob → Store
  | [] => []
  | (b, T, us) :: gl => (b, .arr T (us.map .val)) :: globSt gl
/-- The heap but these blocks. -/
def immG (w : World) (gl : Glob) : Imm := fun b => if gl.any (fun g => g.1 == b) then none else w.heap[b]?
def Glob.In (gl : Glob) (w : World) : Prop := ∀ b T us, (b, T, us) ∈ gl → w.heap[b]? = some (.cells us.toArray T (0, 0)) ∧ ∀ v ∈ us, v.oneCell' = true
theorem globSt_mem : ∀ {gl : Glob} {b : Nat} {o : PObj}, sget (globSt gl) b = some o → ∃ T us, (b, T, us) ∈ gl ∧ o = .arr T (us.map .val)
  | [], _, _, h => by simp [globSt] at h
  | (c, T, us) :: gl, b, o, h => by
    simp only [globSt, sget] at h
    split at h
    · rename_i e
      subst e
      cases h
      exact ⟨T, us, by simp, rfl⟩
    · obtain ⟨T', us', h1, h2⟩ := globSt_mem h
      exact ⟨T', us', by simp [h1], h2⟩
theorem vcells_vals (I : Imm) : ∀ us : List Value, (∀ v ∈ us, v.oneCell' = true) → vcells I (us.map .val) us
  | [], _ => by simp [vcells]
  | u :: us, h => by
    simp only [List.map_cons, vcells]
    exact ⟨⟨by simp [vrep], h u (by simp)⟩, vcells_vals I us fun v hv => h v (by simp [hv])⟩
theorem vals_of_vcells {I : Imm} : ∀ {us vs : List Value}, vcells I (us.map .val) vs → vs = us
  | [], [], _ => rfl
  | [], _ :: _, h => by simp [vcells] at h
  | _ :: _, [], h => by simp [vcells] at h
  | u :: us, v :: vs, h => by
    simp only [List.map_cons, vcells, vrep] at h
    obtain ⟨⟨rfl, -⟩, h2⟩ := h
    rw [vals_of_vcells h2]
theorem glob_keys : ∀ {gl : Glob} {n : Nat}, (∀ b T us, (b, T, us) ∈ gl → b < n) → sfresh (globSt gl) n
  | [], _, _ => trivial
  | (c, T, us) :: gl, n, h => ⟨h c T us (by simp), glob_keys fun b T us hm => h b T us (by simp [hm])⟩
theorem srep_glob {w : World} {gl : Glob} (h : gl.In w) : SRep (immG w gl) (globSt gl) w := by
  refine ⟨fun b o hb => ?_, fun b o hb => ?_, glob_keys fun b T us hm => (Array.getElem?_eq_some_iff.1 (h b T us hm).1).1⟩
  · unfold immG at hb
    split at hb
    · cases hb
    · exact hb
  · obtain ⟨T, us, hm, rfl⟩ := globSt_mem hb
    refine ⟨?_, _, (h b T us hm).1, us, rfl, vcells_vals _ us (h b T us hm).2⟩
    unfold immG
    rw [if_pos (List.any_eq_true.2 ⟨_, hm, by simp⟩)]
theorem globSt_has : ∀ {gl : Glob} {b : Nat}, gl.any (fun g => g.1 == b) = true → ∃ o, sget (globSt gl) b = some o
  | [], _, h => by simp at h
  | (c, T, us) :: gl, b, h => by
    simp only [globSt, sget]
    by_cases e : c = b
    · exact ⟨_, if_pos e⟩
    · rw [if_neg e]
      refine globSt_has ?_
      simpa [e] using h
theorem below_glob {w w' : World} {I : Imm} {gl : Glob} (h0 : gl.In w) (h1 : (immG w gl).le I) (h2 : Calm w w') (h3 : SRep I (globSt gl) w') : Below w.heap.size w w' :=
  ⟨h2.os, h2.tape, h2.output, h2.size, fun k hk => by
    have h : w.heap[k]? = some w.heap[k] := Array.getElem?_eq_getElem hk
    by_cases hg : gl.any (fun g => g.1 == k) = true
    · obtain ⟨o, ho⟩ := globSt_has hg
      obtain ⟨T, us, hm, rfl⟩ := globSt_mem ho
      obtain ⟨-, r, hr, vs, rfl, hv⟩ := h3.objs k _ ho
      rw [hr, (h0 k T us hm).1, vals_of_vcells hv]
    · have : immG w gl k = some w.heap[k] := by unfold immG; rw [if_neg hg, h]
      rw [h, h3.imm k _ (h1 k _ this)]⟩
theorem Has.bridgeG {P : Program} {g : FuncId} {m : MFunc} (hg : Has P g m) {gl : Glob} {ps : List PV} (h : Rets P g ps (globSt gl) (.bool true)) {w : World} (hw : gl.In w) {vs : List Value} (hv : vreps (immG w gl) ps vs) :
    Calls P g vs.toArray w fun e w' => e = .returned (.bool true) ∧ Below w.heap.size w w' := by
  have hp : PEnter P g ps (globSt gl) fun e s => e = .ret (.bool true) ∧ s = globSt gl := by
    rcases h with h | h
    · exact h
    · obtain ⟨v, w', h3, -⟩ := h.out _ w vs (srep_glob hw) hv
      rw [callFunc_run hg.enters] at h3
      cases h3
  refine (hp.out _ w vs (srep_glob hw) hv).mono fun e w' hh => ?_
  obtain ⟨I', st', a, b, c, pe, d, rfl, rfl⟩ := hh
  obtain ⟨v, rfl, hv⟩ := d
  simp only [vrep] at hv
  subst hv
  exact ⟨rfl, below_glob hw a b c⟩

section
variable {H : Type} {enc : TypeId × Value → H} {P : Program} {w : World} {base : Nat} {spare : Nat → Bool} {held : Bool}
/-- Whoever holds one of these cells is no variable of ours. -/
def Off (w : World) (gl : Glob) (p : Value → Prop) : Prop := ∀ b off c, gl.any (fun g => g.1 == b) = true → w.cell? ⟨b, off, none⟩ = some c → p c
/-- A slice of one-celled elements, each opened by a lemma of its own. -/
theorem open_listW {gl : Glob} {Wt : DataW H → Prop} {A : Type} [Inhabited A] {row : A → PV} {good : Value → Prop} (hoff : Off w gl fun c => ¬ good c) {t e : TypeId} (hs : P.underlying t = some (.slice e)) (hc : P.cellsOf e = 1)
    (hE : ∀ n c y, DataW.trod enc P w base spare held n e [c] = some y → Wt y.1 → ∃ a : A, vrep (immG w gl) (row a) c ∧ c.oneCell' = true ∧ good c)
    {fuel : Nat} {cs : List Value} {x : DataW H × List MemPlace} (h : DataW.trod enc P w base spare held fuel t cs = some x) (hW : ∀ elems rest, x.1 = .slice elems rest → ∀ d ∈ elems, Wt d) : ∃ (l : List A) (v : Value), cs = [v] ∧ vrep (immG w gl) (.list false (l.map row) l.length) v ∧ v.oneCell' = true ∧ ∃ a n cap, v = .slice a n cap := by
  rcases open_slice hs h with ⟨rfl, -⟩ | ⟨a, len, cap, m, n, D, Pl, rfl, -, hl, hm, hmm, hxe, hx⟩
  · exact ⟨[], _, rfl, (PLe.trans .nil .loose : PLe .nil (.list false [] 0)) _ _ (by simp only [vrep]), rfl, _, _, _, rfl⟩
  · have hlm : len ≤ m := by rw [hmm]; split <;> omega
    obtain ⟨f, hf⟩ := choose_lt (α := A × Value) (p := fun i q => w.cell? (a.add i) = some q.2 ∧ vrep (immG w gl) (row q.1) q.2 ∧ q.2.oneCell' = true ∧ good q.2) (n := len) fun i hi => by
      obtain ⟨cs', g1, g2⟩ := hx i (by omega)
      obtain ⟨-, g6, g7⟩ := World.cells?_some g1
      rw [hc] at g6 g7
      match cs', g6 with
      | [c], _ =>
        obtain ⟨a', k1, k2, k3⟩ := hE n c _ g2 (hW _ _ (by rw [hxe]) _ (List.mem_map.2 ⟨i, by simpa using hi, rfl⟩))
        have := g7 0 (by omega)
        rw [Nat.mul_one, add_add, Nat.add_zero] at this
        exact ⟨(a', c), by simpa using this, k1, k2, k3⟩
    refine ⟨(List.range len).map fun i => (f i).1, _, rfl, ?_, rfl, _, _, _, rfl⟩
    simp only [vrep]
    refine ⟨some a, cap, (List.range len).map fun i => (f i).2, by simp, by simpa using hl, hm, by simp, ?_, ?_⟩
    · have : ∀ L : List Nat, (∀ i ∈ L, i < len) → vcells (immG w gl) ((L.map fun i => (f i).1).map row) (L.map fun i => (f i).2) := by
        intro L
        induction L with
        | nil => intro _; simp [vcells]
        | cons i L ih =>
          intro hL
          simp only [List.map_cons, vcells]
          have := hf i (hL i (by simp))
          exact ⟨⟨this.2.1, this.2.2.1⟩, ih fun j hj => hL j (by simp [hj])⟩
      exact this _ fun i hi => by have := List.mem_range.1 hi; omega
    · by_cases h0 : len = 0
      · left; subst h0; rfl
      · right
        have c0 := (hf 0 (by omega)).1
        obtain ⟨b, off, spot⟩ := a
        have hsp : spot = none := by
          have := World.cell?_spot c0
          simpa [Addr.add] using this
        subst hsp
        refine ⟨b, off, rfl, ?_⟩
        have hadd : ∀ q, (⟨b, off, none⟩ : Addr).add q = ⟨b, off + q, none⟩ := fun q => by
          unfold Addr.add
          by_cases hq : q = 0 <;> simp [hq]
        rw [hadd] at c0
        obtain ⟨arr, T, fz, g1, g3⟩ := row_of_cell c0
        have hb : ¬ gl.any (fun g => g.1 == b) = true := fun hb => hoff b _ _ hb c0 (hf 0 (by omega)).2.2.2
        refine ⟨arr, T, fz, by unfold immG; rw [if_neg hb, g1], fun j v hj => ?_⟩
        obtain ⟨hjl, hjv⟩ := List.getElem?_eq_some_iff.1 hj
        simp only [List.length_map, List.length_range] at hjl
        simp only [List.getElem_map, List.getElem_range] at hjv
        subst hjv
        have cj := (hf j (by omega)).1
        rw [hadd] at cj
        obtain ⟨arr', T', fz', k1, k3⟩ := row_of_cell cj
        rw [g1] at k1
        cases k1
        exact k3
theorem open_list {gl : Glob} {A : Type} [Inhabited A] {row : A → PV} {good : Value → Prop} (hoff : Off w gl fun c => ¬ good c) {t e : TypeId} (hs : P.underlying t = some (.slice e)) (hc : P.cellsOf e = 1)
    (hE : ∀ n c y, DataW.trod enc P w base spare held n e [c] = some y → ∃ a : A, vrep (immG w gl) (row a) c ∧ c.oneCell' = true ∧ good c)
    {fuel : Nat} {cs : List Value} {x : DataW H × List MemPlace} (h : DataW.trod enc P w base spare held fuel t cs = some x) : ∃ (l : List A) (v : Value), cs = [v] ∧ vrep (immG w gl) (.list false (l.map row) l.length) v ∧ v.oneCell' = true ∧ ∃ a n cap, v = .slice a n cap :=
  open_listW (Wt := fun _ => True) hoff hs hc (fun n c y hy _ => hE n c y hy) h fun _ _ _ _ _ => trivial
theorem intRow_map' (l : List Int) : l.map PV.int = l.map fun n => PV.int n := rfl
/-- A list of whole numbers. -/
theorem open_intsT {gl : Glob} (hoff : Off w gl fun c => ∀ n, c ≠ .int .i64 n) {t e : TypeId} (hs : P.underlying t = some (.slice e)) (he : P.underlying e = some (.int .i64)) (hc : P.cellsOf e = 1)
    {fuel : Nat} {cs : List Value} {x : DataW H × List MemPlace} (h : DataW.trod enc P w base spare held fuel t cs = some x) : ∃ (l : List Int) (v : Value), cs = [v] ∧ vrep (immG w gl) (.list false (l.map PV.int) l.length) v ∧ v.oneCell' = true ∧ ∃ a n cap, v = .slice a n cap :=
  open_list (good := fun c => ∃ n, c = .int .i64 n) (fun b off c hb hcell ⟨n, hn⟩ => hoff b off c hb hcell n hn) hs hc (fun n c y hy => by
    obtain ⟨k, hk, -, -⟩ := DataW.trod_int he hy
    cases hk
    exact ⟨k, by simp [vrep], rfl, k, rfl⟩) h
/-- An array of bytes, by value. -/
theorem open_bytesT {n : Nat} {t e : TypeId} (hs : P.underlying t = some (.array n e)) (he : P.underlying e = some (.int .u8)) (hc : P.cellsOf e = 1) (ht : P.cellsOf t = n)
    {fuel : Nat} {cs : List Value} {x : DataW H × List MemPlace} (h : DataW.trod enc P w base spare held fuel t cs = some x) : ∃ l : List (BitVec 8), l.length = n ∧ cs = l.map fun b => Value.int .u8 b.toNat := by
  obtain ⟨xs, m, rfl, rfl, hcl, hxl, hx⟩ := DataW.trod_array hs h
  rw [ht] at hcl
  rw [hc] at hx
  refine ⟨cs.map fun c => match c with | .int .u8 k => BitVec.ofInt 8 k | _ => 0#8, by simp [hcl], ?_⟩
  refine List.ext_getElem (by simp) fun i hi hi2 => ?_
  have h1 := hx i (by omega)
  rw [Nat.mul_one] at h1
  have h2 : (cs.drop i).take 1 = [cs[i]] := by
    rw [List.drop_eq_getElem_cons hi]; rfl
  rw [h2] at h1
  rw [List.getElem?_eq_getElem (by omega)] at h1
  obtain ⟨k, hk, -, hwf⟩ := DataW.trod_int he h1
  have hk' : cs[i] = .int .u8 k := by simpa using hk
  simp only [List.getElem_map, hk']
  have hw : 0 ≤ k ∧ k ≤ 255 := by
    simp [Lit.wf, IntKind.min, IntKind.max, IntKind.bits, IntKind.signed] at hwf
    omega
  congr 1
  rw [BitVec.toNat_ofInt]
  omega
/-- An array of numbers that reads as these. -/
theorem trod_lits {k : IntKind} {n : Nat} {t e : TypeId} (hs : P.underlying t = some (.array n e)) (he : P.underlying e = some (.int k)) (hc : P.cellsOf e = 1) (ht : P.cellsOf t = n) {ls : List Int}
    {fuel : Nat} {cs : List Value} {p : List MemPlace} (h : DataW.trod enc P w base spare held fuel t cs = some (.agg (ls.map fun x => .lit (.int k x)), p)) : cs = ls.map (Value.int k) := by
  obtain ⟨xs, m, rfl, hx0, hcl, hxl, hx⟩ := DataW.trod_array hs h
  rw [ht] at hcl
  rw [hc] at hx
  simp only [Prod.mk.injEq, DataW.agg.injEq] at hx0
  have hls : ls.length = xs.length := by have := congrArg List.length hx0.1; simpa using this
  refine List.ext_getElem (by simp; omega) fun i hi hi2 => ?_
  have h1 := hx i (by omega)
  rw [Nat.mul_one] at h1
  have h2 : (cs.drop i).take 1 = [cs[i]] := by
    rw [List.drop_eq_getElem_cons hi]; rfl
  rw [h2, List.getElem?_eq_getElem (by omega)] at h1
  obtain ⟨v, hv, hxv, -⟩ := DataW.trod_int he h1
  have e1 : cs[i] = .int k v := by simpa using hv
  have e2 : (ls.map fun x => (DataW.lit (.int k x) : DataW H))[i]'(by simpa using hi2) = (xs.map (·.1))[i]'(by simp; omega) := by
    simp only [hx0.1]
  simp only [List.getElem_map, hxv, DataW.lit.injEq, Lit.int.injEq, true_and] at e2
  simp only [List.getElem_map, e1, e2]
end
/-- The block of a package variable, whatever it holds. -/
theorem glob_block {P : Program} {w : World} (hsh : w.ShapedOpen P) {g : Nat} {zero : List Value} {t : TypeId} {cs : Array Value} {n : String} (hg : g < P.globals.size)
    (h0 : ((((begin P (fun _ _ => 0) default).world.heap[g]?).bind Obj.row?).map fun r => (r.1.toList, r.2)) = some (zero, t)) (hn : P.globalNamed n = some g) (hv : w.var? P n = some cs) : w.heap[g]? = some (.cells cs t (0, 0)) := by
  cases hr : (((begin P (fun _ _ => 0) default).world.heap[g]?).bind Obj.row?) with
  | none => rw [hr] at h0; cases h0
  | some r =>
    rw [hr] at h0
    simp only [Option.map_some, Option.some.injEq, Prod.mk.injEq] at h0
    obtain ⟨cs', h1, -, -⟩ := hsh.1 g r.1 t hg (by rw [hr, ← h0.2])
    simp only [World.var?, hn, Option.bind_some, h1, Option.some.injEq] at hv
    rw [h1, hv]
/-- As the kit's own, with what the world's shape tells. -/
theorem returnsInHanded_of_change_shaped {H : Type} {enc : TypeId × Value → H} {a : Assume} {C : Checked} {os : Os} {f : FuncId} {fn : Func} {s : ChangeSpec} {conds : List PathCond} {apart fresh handsOn again : Bool} {X : World → Array Value → Prop}
    (hX : ∀ (w w' : World) (args : Array Value), w.heap = w'.heap → X w args → X w' args)
    (own : ownKnob C.prog.godebug = none) (started : os.Started) (noInit : C.prog.inits.idxOf? f = none) (hfn : C.prog.funcs[f]? = some fn)
    (witness : ∃ (w : World) (tape : Tape) (i : Input), w.os = os ∧ (w.forCall tape i).Shaped C.prog ∧ i.vars = [] ∧ Input.okWide C.prog (w.forCall tape i) .any w.heap.size f i ∧
      ((s.pre enc C.prog fn conds apart (w.forCall tape i).memory i.args ∧ X (w.forCall tape i).memory i.args) ∧ sizedMet enc C.prog fn (OpenSpec.ofChange s) apart (w.forCall tape i).memory i.args) ∧ a.holds C.prog (lone (Frame.enter C.prog f i.args .normal) [] (w.forCall tape i)))
    (contract : ∀ (W : World) (base : Nat) (args : Array Value) (ds gs : List (DataW H)) (before : List MemPlace), W.ShapedOpen C.prog →
      (∀ (j : Nat) t v, fn.params[j]? = some t → args[j]? = some v → Value.okWide C.prog W .any base t v) →
      DataW.Whole enc C.prog fn.params.toList s.vars apart W args.toList ds gs before →
      conds.all (PathCond.test C.prog ⟨fn.params.toList, ds, s.plain.varTypes C.prog, gs⟩) = true →
      (DataW.weightsEach C.prog (fn.params.toList ++ s.plain.varTypes C.prog) (ds ++ gs)).all (· ≤ reachBytes) = true → X W args →
      Calls C.prog f args W fun e W' => ∃ v, e = .returned v ∧ s.post enc C.prog fn apart fresh handsOn again W args v W') :
    ReturnsInHanded a C os f .any (fun w args => (s.pre enc C.prog fn conds apart w args ∧ X w args) ∧ sizedMet enc C.prog fn (OpenSpec.ofChange s) apart w args) (s.post enc C.prog fn apart fresh handsOn again) := by
  refine returnsInHanded_of_calls own started noInit witness ?_
  intro w tape i _ hsh _ hok hpre _
  obtain ⟨_, _, _, fn', hfn', _, _, _, _, hval⟩ := hok
  have e : fn' = fn := Option.some.inj (hfn'.symm.trans hfn)
  subst e
  obtain ⟨⟨⟨ds, gs, before, hw, hc⟩, hx⟩, hz⟩ := hpre
  have hw' := DataW.Whole.of_heap (w' := w.forCall tape i) (by rfl) hw
  refine (contract (w.forCall tape i) w.heap.size i.args ds gs before hsh hval hw' hc (hz.weights hw) (hX _ _ _ (by rfl) hx)).mono fun e W' ⟨v, he, hp⟩ => ?_
  subst he
  exact ChangeSpec.post_blind hp
end Go.Pv
/- What arguments read as: openers of types, put together. -/
namespace Go.Pv
open Go.ChangeShapes Go.WideShapes Go.Deep Go.RowKit
theorem immG_nil (w : World) : immG w [] = immOf w := by
  funext b
  simp [immG, immOf]
theorem vcells_len {I : Imm} : ∀ {ps : List PV} {vs : List Value}, vcells I ps vs → ps.length = vs.length
  | [], [], _ => rfl
  | [], _ :: _, h => by simp [vcells] at h
  | _ :: _, [], h => by simp [vcells] at h
  | _ :: ps, _ :: vs, h => by simp only [vcells] at h; simp [vcells_len h.2]
theorem vcells_flatM {I : Imm} {α : Type} {f : α → List PV} {g : α → List Value} : ∀ {l : List α}, (∀ x ∈ l, vcells I (f x) (g x)) → vcells I (l.flatMap f) (l.flatMap g)
  | [], _ => by simp [vcells]
  | x :: l, h => by
    simp only [List.flatMap_cons]
    exact vcells_append (h x (by simp)) (vcells_flatM fun y hy => h y (by simp [hy]))
section
variable {H : Type} (enc : TypeId × Value → H) (P : Program) (w : World) (base : Nat) (spare : Nat → Bool) (held : Bool) (gl : Glob)
/-- Values of this type read as these cells. -/
structure Opens {A : Type} (t : TypeId) (k : Nat) (row : A → List PV) (ok : A → Prop) : Prop where
  cells : P.cellsOf t = k
  op : ∀ {fuel : Nat} {cs : List Value} {y : DataW H × List MemPlace}, DataW.trod enc P w base spare held fuel t cs = some y → ∃ a : A, ok a ∧ vcells (immG w gl) (row a) cs ∧ cs.length = k
/-- Fields of a struct, from a place on. -/
structure OpensFs {A : Type} (fs : List Field) (off k : Nat) (row : A → List PV) (ok : A → Prop) : Prop where
  op : ∀ {fuel : Nat} {cs : List Value}, off + k ≤ cs.length → (∀ (j : Nat) f, fs[j]? = some f → ∃ y, DataW.trod enc P w base spare held fuel f.type ((cs.drop f.offset).take (P.cellsOf f.type)) = some y) →
    ∃ a : A, ok a ∧ vcells (immG w gl) (row a) ((cs.drop off).take k)
end
section
variable {H : Type} {enc : TypeId × Value → H} {P : Program} {w : World} {base : Nat} {spare : Nat → Bool} {held : Bool} {gl : Glob}
theorem Opens.int {t : TypeId} {kd : IntKind} (hs : P.underlying t = some (.int kd)) (hc : P.cellsOf t = 1) : Opens enc P w base spare held gl t 1 (fun n : Int => [.val (.int kd n)]) (fun n => (Lit.int kd n).wf = true) :=
  ⟨hc, fun h => by
    obtain ⟨k, rfl, -, hwf⟩ := DataW.trod_int hs h
    exact ⟨k, hwf, by simp [vcells, vrep, Value.oneCell'], rfl⟩⟩
theorem Opens.i64 {t : TypeId} (hs : P.underlying t = some (.int .i64)) (hc : P.cellsOf t = 1) : Opens enc P w base spare held gl t 1 (fun n : Int => [.int n]) I64 :=
  ⟨hc, fun h => by
    obtain ⟨k, rfl, -, hwf⟩ := DataW.trod_int hs h
    exact ⟨k, .of_wf hwf, by simp [vcells, vrep, Value.oneCell'], rfl⟩⟩
theorem Opens.bool {t : TypeId} (hs : P.underlying t = some .bool) (hc : P.cellsOf t = 1) : Opens enc P w base spare held gl t 1 (fun b : Bool => [.bool b]) (fun _ => True) :=
  ⟨hc, fun h => by
    obtain ⟨k, rfl, -⟩ := DataW.trod_bool hs h
    exact ⟨k, trivial, by simp [vcells, vrep, Value.oneCell'], rfl⟩⟩
/-- Told otherwise. -/
theorem Opens.conv {A B : Type} {t : TypeId} {k : Nat} {row : A → List PV} {ok : A → Prop} {row' : B → List PV} {ok' : B → Prop} (h : Opens enc P w base spare held gl t k row ok) (f : A → B) (hr : ∀ a, row' (f a) = row a) (hk : ∀ a, ok a → ok' (f a)) :
    Opens enc P w base spare held gl t k row' ok' :=
  ⟨h.cells, fun hy => by
    obtain ⟨a, h1, h2, h3⟩ := h.op hy
    exact ⟨f a, hk a h1, by rw [hr]; exact h2, h3⟩⟩
theorem OpensFs.nil {off : Nat} : OpensFs enc P w base spare held gl [] off 0 (fun _ : Unit => []) (fun _ => True) :=
  ⟨fun _ _ => ⟨(), trivial, by simp [vcells]⟩⟩
theorem OpensFs.cons {A B : Type} {f : Field} {fs : List Field} {off k m : Nat} {rA : A → List PV} {kA : A → Prop} {rB : B → List PV} {kB : B → Prop} (ho : f.offset = off)
    (h1 : Opens enc P w base spare held gl f.type k rA kA) (h2 : OpensFs enc P w base spare held gl fs (off + k) m rB kB) :
    OpensFs enc P w base spare held gl (f :: fs) off (k + m) (fun x : A × B => rA x.1 ++ rB x.2) (fun x => kA x.1 ∧ kB x.2) :=
  ⟨fun {fuel cs} hl h => by
    obtain ⟨y, hy⟩ := h 0 f rfl
    rw [h1.cells, ho] at hy
    obtain ⟨a, a1, a2, a3⟩ := h1.op hy
    obtain ⟨b, b1, b2⟩ := h2.op (cs := cs) (fuel := fuel) (by omega) fun j g hg => h (j + 1) g (by simpa using hg)
    refine ⟨(a, b), ⟨a1, b1⟩, ?_⟩
    have e : (cs.drop off).take (k + m) = (cs.drop off).take k ++ (cs.drop (off + k)).take m := by
      rw [List.take_add, List.drop_drop]
    rw [e]
    exact vcells_append a2 b2⟩
theorem Opens.struct {A : Type} {t : TypeId} {k : Nat} {fs : Array Field} {row : A → List PV} {ok : A → Prop} (hs : P.underlying t = some (.struct fs)) (hc : P.cellsOf t = k) (h : OpensFs enc P w base spare held gl fs.toList 0 k row ok) :
    Opens enc P w base spare held gl t k row ok :=
  ⟨hc, fun {fuel cs y} hy => by
    obtain ⟨xs, m, _, _, h4, h5, h6⟩ := DataW.trod_struct hs hy
    rw [hc] at h4
    obtain ⟨a, a1, a2⟩ := h.op (cs := cs) (fuel := m) (by omega) fun j f hf => by
      have hf' : fs[j]? = some f := by simpa using hf
      have := h6 j f hf'
      have hj : j < fs.size := (Array.getElem?_eq_some_iff.1 hf').1
      rw [List.getElem?_eq_getElem (by omega)] at this
      exact ⟨_, this⟩
    rw [List.drop_zero, List.take_of_length_le (by omega)] at a2
    exact ⟨a, a1, a2, h4⟩⟩
/-- No element of this type lies in a variable of ours. -/
def OffE (enc : TypeId × Value → H) (P : Program) (w : World) (base : Nat) (spare : Nat → Bool) (held : Bool) (gl : Glob) (e : TypeId) : Prop :=
  ∀ (b off fuel : Nat) (cs : List Value) (y : DataW H × List MemPlace), gl.any (fun g => g.1 == b) = true → (∀ j, j < cs.length → w.cell? ⟨b, off + j, none⟩ = cs[j]?) → DataW.trod enc P w base spare held fuel e cs = some y → False
theorem OffE.nil {e : TypeId} : OffE enc P w base spare held [] e := fun _ _ _ _ _ h => by simp at h
theorem Opens.slice {A : Type} [Inhabited A] {t e : TypeId} {k : Nat} {row : A → List PV} {ok : A → Prop} (hoff : OffE enc P w base spare held gl e) (hs : P.underlying t = some (.slice e)) (ht : P.cellsOf t = 1) (hk : 0 < k) (hE : Opens enc P w base spare held gl e k row ok) :
    Opens enc P w base spare held gl t 1 (fun l : List A => [.list false (l.flatMap row) l.length]) (fun l => ∀ x ∈ l, ok x) :=
  ⟨ht, fun {fuel cs y} h => by
    rcases open_slice hs h with ⟨rfl, -⟩ | ⟨a, len, cap, m, n, D, Pl, rfl, -, hl, hm, hmm, hxe, hx⟩
    · exact ⟨[], by simp, by
        simp only [vcells, List.flatMap_nil, List.length_nil]
        exact ⟨⟨(PLe.trans .nil .loose : PLe .nil (.list false [] 0)) _ _ (by simp only [vrep]), rfl⟩, trivial⟩, rfl⟩
    · have hlm : len ≤ m := by rw [hmm]; split <;> omega
      obtain ⟨f, hf⟩ := choose_lt (α := A × List Value) (p := fun i q => ok q.1 ∧ vcells (immG w gl) (row q.1) q.2 ∧ q.2.length = k ∧ (∀ j, j < k → w.cell? (a.add (i * k + j)) = q.2[j]?) ∧ ∃ y, DataW.trod enc P w base spare held n e q.2 = some y) (n := len) fun i hi => by
        obtain ⟨cs', g1, g2⟩ := hx i (by omega)
        obtain ⟨-, g6, g7⟩ := World.cells?_some g1
        rw [hE.cells] at g7
        obtain ⟨a', k1, k2, k3⟩ := hE.op g2
        refine ⟨(a', cs'), k1, k2, k3, fun j hj => ?_, _, g2⟩
        have := g7 j hj
        rw [add_add] at this
        exact this
      refine ⟨(List.range len).map fun i => (f i).1, fun x hx => ?_, ?_, rfl⟩
      · obtain ⟨i, hi, rfl⟩ := List.mem_map.1 hx
        exact (hf i (List.mem_range.1 hi)).1
      simp only [vcells, vrep, List.length_map, List.length_range]
      refine ⟨⟨⟨some a, cap, (List.range len).flatMap fun i => (f i).2, rfl, by simpa using hl, hm, by simp, ?_, ?_⟩, rfl⟩, trivial⟩
      · rw [List.flatMap_map]
        exact vcells_flatM fun i hi => (hf i (List.mem_range.1 hi)).2.1
      · by_cases h0 : len = 0
        · left; subst h0; rfl
        · right
          obtain ⟨-, -, l0, c0, y0, hy0⟩ := hf 0 (by omega)
          have hsp : a.spot = none := by
            have := c0 0 hk
            rw [List.getElem?_eq_getElem (by omega)] at this
            have := World.cell?_spot this
            obtain ⟨x, y, z⟩ := a
            simpa [Addr.add] using this
          obtain ⟨b, off, spot⟩ := a
          subst hsp
          refine ⟨b, off, rfl, ?_⟩
          have hadd : ∀ q, (⟨b, off, none⟩ : Addr).add q = ⟨b, off + q, none⟩ := fun q => by
            unfold Addr.add
            by_cases hq : q = 0 <;> simp [hq]
          have hb : ¬ gl.any (fun g => g.1 == b) = true := fun hb => hoff b off n (f 0).2 y0 hb (fun j hj => by
            have := c0 j (by omega)
            rw [hadd] at this
            simpa using this) hy0
          have hF : ∀ i ∈ List.range len, ((fun i => (f i).2) i).length = k := fun i hi => (hf i (List.mem_range.1 hi)).2.2.1
          have hcell : ∀ j v, ((List.range len).flatMap fun i => (f i).2)[j]? = some v → w.cell? ⟨b, off + j, none⟩ = some v := by
            intro j v hj
            have hjl := (List.getElem?_eq_some_iff.1 hj).1
            rw [flat_len _ k _ hF] at hjl
            simp only [List.length_range] at hjl
            have hq : j / k < len := (Nat.div_lt_iff_lt_mul hk).2 hjl
            have hr : j % k < k := Nat.mod_lt _ hk
            have he : j / k * k + j % k = j := by rw [Nat.mul_comm]; exact Nat.div_add_mod j k
            have h1 := flat_at (fun i => (f i).2) k _ (j / k) (j % k) hF hr (by simpa using hq)
            rw [he, hj] at h1
            simp only [List.getElem_range] at h1
            have h2 := (hf (j / k) hq).2.2.2.1 (j % k) hr
            rw [hadd, he] at h2
            rw [h2, h1]
          cases hv : ((List.range len).flatMap fun i => (f i).2) with
          | nil =>
            have := flat_len (fun i => (f i).2) k _ hF
            rw [hv] at this
            simp only [List.length_nil, List.length_range] at this
            have := Nat.mul_pos (Nat.pos_of_ne_zero h0) hk
            omega
          | cons v0 vs0 =>
            obtain ⟨arr, T, fz, g1, -⟩ := row_of_cell (hcell 0 v0 (by rw [hv]; rfl))
            refine ⟨arr, T, fz, by unfold immG; rw [if_neg hb]; exact g1, fun j v hj => ?_⟩
            rw [← hv] at hj
            obtain ⟨arr', T', fz', g2, g3⟩ := row_of_cell (hcell j v hj)
            have g1' : w.heap[b]? = some (.cells arr T fz) := g1
            have g2' : w.heap[b]? = some (.cells arr' T' fz') := g2
            rw [g1'] at g2'
            cases g2'
            exact g3⟩
/-! ### Arguments -/
theorem Opens.argS {A : Type} {t : TypeId} {k : Nat} {row : A → List PV} {ok : A → Prop} (h : Opens enc P w base spare held gl t k row ok) {fs : Array Field} (hs : P.underlying t = some (.struct fs)) {r : Reach} {b0 : Nat} {v : Value} {d : DataW H} {p : List MemPlace}
    (hv : Value.okWide P w r b0 t v) (hd : DataW.Trod enc P w base spare held t v d p) : ∃ a : A, ok a ∧ vrep (immG w gl) (.agg (row a)) v := by
  obtain ⟨cs, rfl, -⟩ := okWide_struct hs hv
  obtain ⟨fuel, hf⟩ := hd
  have hf' : DataW.trod enc P w base spare held fuel t cs.toList = some (d, p) := hf
  obtain ⟨a, h1, h2, -⟩ := h.op hf'
  exact ⟨a, h1, by simp only [vrep]; exact ⟨cs.toList, by simp, h2⟩⟩
theorem Opens.argL {A : Type} {t : TypeId} {one : A → PV} {ok : A → Prop} (h : Opens enc P w base spare held gl t 1 (fun a => [one a]) ok) {e : TypeId} (hs : P.underlying t = some (.slice e)) {r : Reach} {b0 : Nat} {v : Value} {d : DataW H} {p : List MemPlace}
    (hv : Value.okWide P w r b0 t v) (hd : DataW.Trod enc P w base spare held t v d p) : ∃ a : A, ok a ∧ vrep (immG w gl) (one a) v := by
  obtain ⟨a, n, cap, rfl⟩ := okWide_slice hs hv
  obtain ⟨fuel, hf⟩ := hd
  have hf' : DataW.trod enc P w base spare held fuel t [.slice a n cap] = some (d, p) := hf
  obtain ⟨x, h1, h2, -⟩ := h.op hf'
  simp only [vcells] at h2
  exact ⟨x, h1, h2.1.1⟩
end
theorem ints_flat (l : List Int) : l.flatMap (fun n => [PV.int n]) = l.map PV.int := by
  induction l with
  | nil => rfl
  | cons a l ih => rw [List.flatMap_cons, ih]; rfl
theorem bools_flat (l : List Bool) : l.flatMap (fun n => [PV.bool n]) = l.map PV.bool := by
  induction l with
  | nil => rfl
  | cons a l ih => rw [List.flatMap_cons, ih]; rfl
theorem lists_flat {α : Type} (f : α → PV) (l : List α) : l.flatMap (fun n => [f n]) = l.map f := by
  induction l with
  | nil => rfl
  | cons a l ih => rw [List.flatMap_cons, ih]; rfl
end Go.Pv
/- Strings among arguments; lists are no longer than a machine can hold. -/
namespace Go.Pv
open Go.ChangeShapes Go.WideShapes Go.Deep Go.RowKit
section
variable {H : Type} {enc : TypeId × Value → H} {P : Program} {w : World} {base : Nat} {spare : Nat → Bool} {held : Bool} {gl : Glob}
theorem Opens.str {t : TypeId} (hs : P.underlying t = some .string) (hc : P.cellsOf t = 1) : Opens enc P w base spare held gl t 1 (fun s : ByteArray => [.str s]) (fun _ => True) :=
  ⟨hc, fun h => by
    obtain ⟨s, rfl, -, -⟩ := DataW.trod_string hs h
    exact ⟨s, trivial, by simp [vcells, vrep, Value.oneCell'], rfl⟩⟩
end
mutual
/-- No list is longer than a machine can hold. -/
def PV.wide : PV → Prop
  | .list _ cs n => n ≤ 9223372036854775807 ∧ PV.wides cs
  | .agg cs => PV.wides cs
  | _ => True
def PV.wides : List PV → Prop
  | [] => True
  | p :: ps => p.wide ∧ PV.wides ps
end
mutual
theorem vrep_wide {I : Imm} : ∀ (p : PV) (v : Value), vrep I p v → p.wide
  | .any, _, _ => by simp only [PV.wide]
  | .val _, _, _ => by simp only [PV.wide]
  | .agg cs, v, hr => by
    simp only [vrep] at hr
    simp only [PV.wide]
    obtain ⟨vs, -, h2⟩ := hr
    exact vcells_wide cs vs h2
  | .tuple _, _, _ => by simp only [PV.wide]
  | .list tight cs n, v, hr => by
    simp only [vrep] at hr
    simp only [PV.wide]
    obtain ⟨a, cap, vs, -, h2, h3, -, h5, -⟩ := hr
    exact ⟨by unfold maxLen at h3; omega, vcells_wide cs vs h5⟩
  | .iptr _ _, _, _ => by simp only [PV.wide]
  | .imap _ _, _, _ => by simp only [PV.wide]
  | .func _ _ _, _, _ => by simp only [PV.wide]
  | .iface _ _, _, _ => by simp only [PV.wide]
theorem vcells_wide {I : Imm} : ∀ (ps : List PV) (vs : List Value), vcells I ps vs → PV.wides ps
  | [], _, _ => by simp only [PV.wides]
  | _ :: _, [], hr => by simp [vcells] at hr
  | p :: ps, v :: vs, hr => by
    simp only [vcells] at hr
    simp only [PV.wides]
    exact ⟨vrep_wide p v hr.1.1, vcells_wide ps vs hr.2⟩
end
theorem Sound.wide {ps : List PV} {st : Store} (h : Sound ps st) {p : PV} (hm : p ∈ ps) : p.wide := by
  obtain ⟨I, w, vs, -, hv⟩ := h
  obtain ⟨v, hv⟩ := vreps_mem hv hm
  exact vrep_wide p v hv
theorem wides_mem : ∀ {ps : List PV}, PV.wides ps → ∀ p ∈ ps, p.wide
  | [], _, p, hp => by simp at hp
  | q :: ps, h, p, hp => by
    simp only [PV.wides] at h
    rcases List.mem_cons.1 hp with rfl | hp
    · exact h.1
    · exact wides_mem h.2 p hp
end Go.Pv

/- What the library's slices.overlaps answers of a list that is never written and a row of one's own: false. -/
import Derived.Test.YtbjfmedpaohpnaaLFz
import Derived.Laws.Externs
namespace Go.Pv
universe u
variable {P : Program}

theorem two_slices {m : Array Value → Sort u} (a b : Option Addr) (la ca lb cb : Nat) (h1 : (a : Option Addr) → (la ca : Nat) → (b : Option Addr) → (lb cb : Nat) → m #[.slice a la ca, .slice b lb cb]) (h2 : (x : Array Value) → m x) :
    Extern.SlicesOverlaps.overlaps.match_4 m #[.slice a la ca, .slice b lb cb] h1 h2 = h1 a la ca b lb cb := rfl
theorem run_overlaps_own (w : World) (tS tR e : TypeId) (ht : P.underlying tS = some (.slice e)) (size : Nat) (hz : ∀ w, (Go.sizeOf e).run P w = .ok size w)
    (a : Option Addr) (b : Addr) (la ca lb cb : Nat) (hne : la ≠ 0 → ∃ a', a = some a' ∧ a'.block ≠ b.block ∧ ∃ tA kA, w.shape? a'.block = some (tA, kA) ∧ kA ≠ 0) (tB : TypeId) (kB : Nat)
    (hsb : w.shape? b.block = some (tB, kB)) (hfb : w.frozen? b = false) (hfe : w.frozen? { block := b.block, off := kB } = false) :
    (Extern.SlicesOverlaps.overlaps #[tS, tS] #[tR] #[.slice a la ca, .slice (some b) lb cb]).run P w = .ok (.bool false) w := by
  unfold Extern.SlicesOverlaps.overlaps
  rw [two_slices]
  cases a with
  | none => simp [run_underlying ht, hz]
  | some a =>
    by_cases h0 : la = 0 ∨ lb = 0 ∨ size = 0
    · simp [run_underlying ht, hz, h0]
    · obtain ⟨a', h1, h2, tA, kA, hsa, hkA⟩ := hne (fun h => h0 (.inl h))
      obtain rfl := Option.some.inj h1
      have hnb : (a.block != b.block) = true := by simpa using h2
      have hnb' : (a.block == b.block) = false := by simpa using h2
      cases kA with
      | zero => exact absurd rfl hkA
      | succ kA =>
        cases hfa : w.frozen? a <;> cases hfe' : w.frozen? { block := a.block, off := kA + 1 } <;>
          simp [run_underlying ht, hz, h0, hnb, hnb', frozen, noView, viewAt, mayBeOne, stringish, shape, Sem.run, hsa, hsb, hfb, hfe, hfa, hfe']

theorem shape_cells {w : World} {b : Nat} {arr : Array Value} {T : TypeId} {fz : Nat × Nat} (h : w.heap[b]? = some (.cells arr T fz)) : w.shape? b = some (T, arr.size) := by
  simp [World.shape?, h]
theorem overlaps_own {g : FuncId} {fn : Func} (hf : P.funcs[g]? = some fn) (hname : (fn.name == "runtime.NumGoroutine") = false) (hb : fn.body.isNone = true) (hn : Extern.findNext fn = none) {tS tR e : TypeId}
    (he : Extern.find fn = some (Extern.SlicesOverlaps.overlaps #[tS, tS] #[tR])) (ht : P.underlying tS = some (.slice e)) {k : Nat} {ag : Bool} (hl : lay P e = some (k, ag)) (hk : 0 < k)
    {st : Store} {t : Bool} {cs : List PV} {n b off n' cap : Nat} {T : TypeId} {row : List PV} (hcs : cs.length = n * k) (hg : sget st b = some (.arr T row)) :
    Rets P g [.list t cs n, .own b off n' cap] st (.bool false) := by
  refine .inr ⟨fun I w vs hs hv => ?_⟩
  cases vs with
  | nil => simp [vreps] at hv
  | cons v1 vs =>
    cases vs with
    | nil => simp [vreps] at hv
    | cons v2 vs =>
      cases vs with
      | cons => simp [vreps] at hv
      | nil =>
        simp only [vreps, vrep, and_true] at hv
        obtain ⟨⟨a, cap1, us, rfl, h1, h2, h3, h4, h5⟩, rfl⟩ := hv
        obtain ⟨hI, r, hr, ws, rfl, hc⟩ := hs.objs b _ hg
        refine ⟨.bool false, w, ?_, I, st, I.le_refl, Calm.refl w, hs, .bool false, vrep_val, rfl, rfl⟩
        rw [run_callFunc_extern hf hname hb hn he]
        have := run_overlaps_own w tS tR e ht k (lay_size hl) a ⟨b, off, none⟩ n cap1 n' cap (fun hn0 => by
          rcases h5 with rfl | ⟨b1, off1, rfl, arr, T1, fz, hI1, hrow⟩
          · have := vcells_length h4
            rw [hcs, List.length_nil] at this
            have h9 : 0 < n * k := Nat.mul_pos (by omega) hk
            omega
          · refine ⟨_, rfl, fun e => ?_, T1, arr.size, shape_cells (hs.imm _ _ hI1), ?_⟩
            · simp only at e; subst e; rw [hI] at hI1; cases hI1
            · have hul := vcells_length h4
              have : 0 < us.length := by rw [← hul, hcs]; exact Nat.mul_pos (by omega) hk
              have h6 := hrow 0 us[0] (by simp [this])
              intro h0
              have := (Array.getElem?_eq_some_iff.1 h6).1
              omega) T ws.length (by simpa using shape_cells hr) (by simp [World.frozen?, hr]) (by simp [World.frozen?, hr])
        simp only [this]
        rfl
end Go.Pv

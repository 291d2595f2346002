/- Commitments as values. -/
import Derived.Test.YtmgpkcpalpejcaaDoorS34M
namespace Go.Proofs.YtmgpkcpalpejcaaDoor
open Go.Pv Go.Pv.Sha
set_option maxRecDepth 100000
set_option maxHeartbeats 4000000
def intW (n : Nat) : Wv := ⟨1, .int (n : Int), noStr, .nil, 1#8 :: numE (2 * n)⟩
def textW (x : ByteArray) : Wv := ⟨2, .int 0, .str x, .nil, 2#8 :: (numE x.size ++ strB x)⟩
def listW (l : List Wv) : Wv := ⟨3, .int 0, noStr, .list false (l.flatMap Wv.row) l.length, 3#8 :: (numE l.length ++ l.flatMap Wv.B)⟩
abbrev BIG : Nat := 1000000000000
theorem intW_len (n : Nat) (hn : n < BIG) : (intW n).B.length ≤ 11 := by
  have := numE_len10 (n := 2 * n) (by unfold BIG at hn; omega)
  show (1#8 :: numE (2 * n)).length ≤ 11
  rw [List.length_cons]; omega
theorem intW_ok (M n : Nat) (hM : M ≤ 1000000) (hn : n < BIG) (c : PV) : (intW n).Ok M (wtab c) := ⟨(by decide : 1 < 4), by have := intW_len n hn; omega, _, _, rfl, fun o st ho hol => writeInt_spec n hn o st ho (by omega)⟩
theorem textW_ok (M : Nat) (hM : M ≤ 1000000) (x : ByteArray) (hx : x.size ≤ 1000) (c : PV) : (textW x).Ok M (wtab c) := ⟨(by decide : 2 < 4), by
  have := numE_len10 (n := x.size) (by omega)
  show (2#8 :: (numE x.size ++ strB x)).length ≤ 2000
  rw [List.length_cons, List.length_append, strB_len]; omega, _, _, rfl, fun o st ho hol => writeText_spec x hx o st ho (by omega)⟩
theorem ints_flat (l : List Nat) (hl : ∀ n ∈ l, n < BIG) : ((l.map intW).flatMap Wv.B).length ≤ l.length * 11 := by
  induction l with
  | nil => simp
  | cons n l ih =>
    have h1 := ih fun m hm => hl m (List.mem_cons_of_mem _ hm)
    have h2 := intW_len n (hl n List.mem_cons_self)
    simp only [List.map_cons, List.flatMap_cons, List.length_append, List.length_cons]
    omega
abbrev intsW (l : List Nat) : Wv := listW (l.map intW)
theorem intsW_len (l : List Nat) (h100 : l.length ≤ 100) (hl : ∀ n ∈ l, n < BIG) : (intsW l).B.length ≤ 2000 := by
  have h1 := ints_flat l hl
  have h2 := numE_len10 (n := l.length) (by omega)
  show (3#8 :: (numE (l.map intW).length ++ (l.map intW).flatMap Wv.B)).length ≤ 2000
  rw [List.length_map, List.length_cons, List.length_append]
  omega
theorem intsW_ok (M : Nat) (hM : M ≤ 500000) (l : List Nat) (h100 : l.length ≤ 100) (hl : ∀ n ∈ l, n < BIG) (c : PV) : (intsW l).Ok M (wtab (wcap (wtab c))) :=
  ⟨(by decide : 3 < 4), intsW_len l h100 hl, _, _, rfl, fun o st ho hol => writeList_spec M hM (wtab c) (l.map intW) (by simpa using h100) (fun v hv => by
    obtain ⟨n, hn, rfl⟩ := List.mem_map.1 hv
    exact intW_ok _ n (by omega) (hl n hn) c) o st ho hol⟩
/-- The parts of a commitment. -/
def parts (r e j : Nat) (m k : List Nat) (x : ByteArray) : List Wv := [intW r, intW e, intW j, intsW m, intsW k, textW x]
def comB (r e j : Nat) (m k : List Nat) (x : ByteArray) : List (BitVec 8) := (listW (parts r e j m k x)).B
structure Fit (r e j : Nat) (m k : List Nat) (x : ByteArray) : Prop where
  hr : r < BIG
  he : e < BIG
  hj : j < BIG
  hm : ∀ n ∈ m, n < BIG
  hk : ∀ n ∈ k, n < BIG
  m0 : 0 < m.length
  k0 : 0 < k.length
  m1 : m.length ≤ 100
  k1 : k.length ≤ 100
  hx : x.size ≤ 1000
theorem parts_all {r e j : Nat} {m k : List Nat} {x : ByteArray} {Q : Wv → Prop} (h1 : Q (intW r)) (h2 : Q (intW e)) (h3 : Q (intW j)) (h4 : Q (intsW m)) (h5 : Q (intsW k)) (h6 : Q (textW x)) : ∀ v ∈ parts r e j m k x, Q v := by
  intro v hv
  simp only [parts, List.mem_cons, List.not_mem_nil, or_false] at hv
  rcases hv with rfl | rfl | rfl | rfl | rfl | rfl <;> assumption
theorem formedW (l : List Nat) (h0 : 0 < l.length) (h1 : l.length ≤ 100) (st : Store) : PCalls P F.codec_formed [.agg (intsW l).row] st (FormedN 1 st) :=
  formedList 0 (l.map intW) (by simpa using h0) (by simpa using h1) (by omega) st fun v hv st => by
    obtain ⟨n, hn, rfl⟩ := List.mem_map.1 hv
    exact formedInt n st
theorem FormedN.le {D E : Nat} (h : D ≤ E) {f : FuncId} {a : List PV} {st : Store} (k : PCalls P f a st (FormedN D st)) : PCalls P f a st (FormedN E st) := k.mono fun _ _ ⟨d, h1, h2, h3⟩ => ⟨d, by omega, h2, h3⟩
theorem encodeW {r e j : Nat} {m k : List Nat} {x : ByteArray} (h : Fit r e j m k x) (st : Store) : Rets P F.codec_Encode [.agg (listW (parts r e j m k x)).row] st (.tuple [byteLst false (comB r e j m k x), .int 0]) :=
  encode_spec (parts r e j m k x) (by simp [parts]) (by simp [parts]) 1 (by omega)
    (fun c => parts_all (intW_ok _ _ (by omega) h.hr _) (intW_ok _ _ (by omega) h.he _) (intW_ok _ _ (by omega) h.hj _) (intsW_ok _ (by omega) m h.m1 h.hm c) (intsW_ok _ (by omega) k h.k1 h.hk c) (textW_ok _ (by omega) x h.hx _))
    (fun v hv => (parts_all (Q := fun v => ∀ st, PCalls P F.codec_formed [.agg v.row] st (FormedN 1 st)) (fun st => FormedN.le (by omega) (formedInt r st)) (fun st => FormedN.le (by omega) (formedInt e st)) (fun st => FormedN.le (by omega) (formedInt j st)) (formedW m h.m0 h.m1) (formedW k h.k0 h.k1) (fun st => FormedN.le (by omega) (formedText x st))) v hv) st
theorem refEncInts (l : List Nat) (h1 : l.length ≤ 100) (hl : ∀ n ∈ l, n < BIG) (st : Store) : Rets P F.podiumref01_encode [.agg (intsW l).row] st (byteLst false (intsW l).B) :=
  refEncList (l.map intW) (by simpa using h1) (fun v hv => by
    obtain ⟨n, hn, rfl⟩ := List.mem_map.1 hv
    have := intW_len n (hl n hn); omega) (fun v hv st => by
    obtain ⟨n, hn, rfl⟩ := List.mem_map.1 hv
    exact refEncInt n (hl n hn) st) st
theorem refFormedInts (l : List Nat) (h1 : l.length ≤ 100) (st : Store) : Rets P F.podiumref01_Formed [.agg (intsW l).row] st (.bool true) :=
  refFormedList (l.map intW) (by simpa using h1) st fun v hv st => by
    obtain ⟨n, hn, rfl⟩ := List.mem_map.1 hv
    exact refFormedInt n st
theorem DepthN.le {D E : Nat} (h : D ≤ E) {f : FuncId} {a : List PV} {st : Store} (k : PCalls P f a st (DepthN D st)) : PCalls P f a st (DepthN E st) := k.mono fun _ _ ⟨d, h1, h2, h3⟩ => ⟨d, by omega, h2, h3⟩
theorem refDepthInts (l : List Nat) (h1 : l.length ≤ 100) (st : Store) : PCalls P F.podiumref01_Depth [.agg (intsW l).row] st (DepthN 1 st) :=
  refDepthList 0 (by omega) (l.map intW) (by simpa using h1) st fun v hv st => by
    obtain ⟨n, hn, rfl⟩ := List.mem_map.1 hv
    exact refDepthInt n st
theorem refCheck_spec (c0 c1 c2 c3 : PV) (D : Nat) (hD : D ≤ 16) (st : Store) (hf : ∀ st, Rets P F.podiumref01_Formed [.agg [c0, c1, c2, c3]] st (.bool true)) (hd : ∀ st, PCalls P F.podiumref01_Depth [.agg [c0, c1, c2, c3]] st (DepthN D st)) : Rets P F.podiumref01_Check [.agg [c0, c1, c2, c3]] st (.int 0) := by
  refine H.podiumref01_Check.pure hmix rfl rfl ?_
  repeat' (first 
   | (with_reducible refine Fresh.intro fun b hb => ?_) <;> (try simp -dsimp -implicitDefEqProofs [*] at hb)
   | (with_reducible refine Rets.xcall (hf _) ?_)
   | (simp -dsimp -implicitDefEqProofs [*]))
  clear hf
  refine xcall_post (hd _) ?_
  rintro e s ⟨d, hd, rfl, rfl⟩
  rw [xend_ret]
  have h16 : ¬ (16 : Int) < d := by omega
  repeat' (simp -dsimp -implicitDefEqProofs [*])
theorem refEncode_spec (c0 c1 c2 c3 : PV) (B : List (BitVec 8)) (st : Store) (hc : ∀ st, Rets P F.podiumref01_Check [.agg [c0, c1, c2, c3]] st (.int 0)) (he : ∀ st, Rets P F.podiumref01_encode [.agg [c0, c1, c2, c3]] st (byteLst false B)) :
    Rets P F.podiumref01_Encode [.agg [c0, c1, c2, c3]] st (.tuple [byteLst false B, .int 0]) := by
  refine H.podiumref01_Encode.pure hmix rfl rfl ?_
  repeat' (first 
   | (with_reducible refine Fresh.intro fun b hb => ?_) <;> (try simp -dsimp -implicitDefEqProofs [*] at hb)
   | (with_reducible refine Rets.xcall (hc _) ?_)
   | (with_reducible refine Rets.xcall (he _) ?_)
   | (simp -dsimp -implicitDefEqProofs [*]))
theorem refEncodeW {r e j : Nat} {m k : List Nat} {x : ByteArray} (h : Fit r e j m k x) (st : Store) : Rets P F.podiumref01_Encode [.agg (listW (parts r e j m k x)).row] st (.tuple [byteLst false (comB r e j m k x), .int 0]) := by
  have hB : ∀ v ∈ parts r e j m k x, v.B.length ≤ 2000 := fun v hv => (parts_all (Q := fun v => v.Ok 0 (wtab (wcap (wtab .nil)))) (intW_ok _ _ (by omega) h.hr _) (intW_ok _ _ (by omega) h.he _) (intW_ok _ _ (by omega) h.hj _) (intsW_ok _ (by omega) m h.m1 h.hm .nil) (intsW_ok _ (by omega) k h.k1 h.hk .nil) (textW_ok _ (by omega) x h.hx _) v hv).B
  refine refEncode_spec _ _ _ _ _ st (fun st => refCheck_spec _ _ _ _ 2 (by omega) st (fun st => ?_) (fun st => ?_)) (fun st => ?_)
  · exact refFormedList (parts r e j m k x) (by simp [parts]) st (parts_all (Q := fun v => ∀ st, Rets P F.podiumref01_Formed [.agg v.row] st (.bool true)) (refFormedInt r) (refFormedInt e) (refFormedInt j) (refFormedInts m h.m1) (refFormedInts k h.k1) (refFormedText x))
  · exact refDepthList 1 (by omega) (parts r e j m k x) (by simp [parts]) st (parts_all (Q := fun v => ∀ st, PCalls P F.podiumref01_Depth [.agg v.row] st (DepthN 1 st)) (fun st => DepthN.le (by omega) (refDepthInt r st)) (fun st => DepthN.le (by omega) (refDepthInt e st)) (fun st => DepthN.le (by omega) (refDepthInt j st)) (refDepthInts m h.m1) (refDepthInts k h.k1) (fun st => DepthN.le (by omega) (refDepthText x st)))
  · exact refEncList (parts r e j m k x) (by simp [parts]) hB (parts_all (Q := fun v => ∀ st, Rets P F.podiumref01_encode [.agg v.row] st (byteLst false v.B)) (refEncInt r h.hr) (refEncInt e h.he) (refEncInt j h.hj) (refEncInts m h.m1 h.hm) (refEncInts k h.k1 h.hk) (refEncText x h.hx)) st
end Go.Proofs.YtmgpkcpalpejcaaDoor

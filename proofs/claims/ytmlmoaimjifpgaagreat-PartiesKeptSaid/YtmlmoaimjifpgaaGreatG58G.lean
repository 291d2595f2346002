/- Records are loaded again. -/
import Derived.Test.YtmlmoaimjifpgaaGreatR58E
import Derived.Test.YtmlmoaimjifpgaaGreatA58A
import Derived.Test.YtmlmoaimjifpgaaGreatG58W
namespace Go.Proofs.YtmlmoaimjifpgaaGreat
open Go.Pv Go.Pv.Cd
set_option maxRecDepth 100000
set_option maxHeartbeats 4000000
theorem z6e (t : Bool) (L : List (List (BitVec 8))) (r : Bool) (hr : r = true ↔ (L.length ≤ 40 ∨ 4096 < L.length ∧ L.length ≤ 4200) ∧ ∀ b ∈ L, b.length ≤ 1000) (st : q43) : Rets P F.q1x [.list t (k0a L) L.length] st (.bool r) := by
 have hrl := k2z L
 have no : Hid (∀ b ∈ L, ¬ b.length ≤ 1000 → r = false) := ⟨fun b hb h => by
  rw [← Bool.not_eq_true]
  exact fun h2 => h ((hr.1 h2).2 b hb)⟩
 by_cases hlen : L.length ≤ 40 ∨ 4096 < L.length ∧ L.length ≤ 4200
 case neg =>
  have e : r = false := by
   rw [← Bool.not_eq_true]
   exact fun h2 => hlen (hr.1 h2).1
  subst e
  clear hr no
  refine H.q1x.view q5d rfl rfl ?_
  by_cases h4 : L.length ≤ 4096
  ·have k1 : (40 : Int) < L.length := by omega
   have k2 : (L.length : Int) ≤ 4096 := by omega
   repeat' (simp -dsimp -implicitDefEqProofs [*])
   exact .same ⟨rfl, rfl⟩
  ·have k1 : (40 : Int) < L.length := by omega
   have k2 : ¬ (L.length : Int) ≤ 4096 := by omega
   have k3 : (4200 : Int) < L.length := by omega
   repeat' (simp -dsimp -implicitDefEqProofs [*])
   exact .same ⟨rfl, rfl⟩
 have yes : Hid ((∀ b ∈ L, b.length ≤ 1000) → r = true) := ⟨fun h => hr.2 ⟨hlen, h⟩⟩
 clear hr
 have hk : ((L.length : Int) ≤ 40 ∨ (4096 : Int) < L.length) ∧ (L.length : Int) ≤ 4200 := by omega
 have c1 : ¬ ((40 : Int) < L.length ∧ (L.length : Int) ≤ 4096) := by omega
 have c2 : ¬ (4200 : Int) < L.length := by omega
 refine H.q1x.view q5d rfl rfl ?_
 by_cases h40 : (40 : Int) < L.length
 ·have h41 : ¬ (L.length : Int) ≤ 4096 := by omega
  clear hk c1
  repeat' (simp -dsimp -implicitDefEqProofs [*])
  refine q44 (fun i : Nat => [(0, .list t (k0a L) L.length), (3, .int (i : Nat))]) (fun _ => st) (fun i => i ≤ L.length ∧ Hid (∀ b ∈ L.take i, b.length ≤ 1000)) (fun i => L.length - i) 0 ⟨Nat.zero_le _, ⟨by simp⟩⟩ (by simp) (.refl _) ?_
  rintro i ⟨hi, hI⟩
  have hw := q46 (n := i) (by omega)
  by_cases hil : i < L.length
  case neg =>
   have hie : L.length = i := by omega
   subst hie
   have hI2 := hI.out
   rw [List.take_length] at hI2
   have e := yes.out hI2
   subst e
   clear hI hI2 yes no
   repeat' (simp -dsimp -implicitDefEqProofs [*])
   exact .same ⟨rfl, rfl⟩
  have hg := z3d L i hil
  have hg2 : ∀ h : i < (k0a L).length, (k0a L)[i]'h = q5v false L[i] := fun h => by
   rw [List.getElem?_eq_getElem h] at hg
   exact Option.some.inj hg
  by_cases hb : L[i].length ≤ 1000
  ·have hbI : ¬ (1000 : Int) < L[i].length := by omega
   have nx : Hid (∀ b ∈ L.take (i + 1), b.length ≤ 1000) := ⟨fun b hm => by
    rw [List.take_succ_eq_append_getElem hil] at hm
    rcases List.mem_append.1 hm with hm | hm
    ·exact hI.out b hm
    ·rw [List.mem_singleton.1 hm]
     exact hb⟩
   clear hI
   repeat' (simp -dsimp -implicitDefEqProofs [*])
   exact Next.intro (i + 1) ⟨by omega, nx⟩ (by omega) (by simp) q5k
  ·have hbI : (1000 : Int) < L[i].length := by omega
   have e := no.out _ (List.getElem_mem hil) hb
   subst e
   clear hI yes no
   repeat' (simp -dsimp -implicitDefEqProofs [*])
   exact .same ⟨rfl, rfl⟩
 ·clear hk c1
  repeat' (simp -dsimp -implicitDefEqProofs [*])
  refine q44 (fun i : Nat => [(0, .list t (k0a L) L.length), (3, .int (i : Nat))]) (fun _ => st) (fun i => i ≤ L.length ∧ Hid (∀ b ∈ L.take i, b.length ≤ 1000)) (fun i => L.length - i) 0 ⟨Nat.zero_le _, ⟨by simp⟩⟩ (by simp) (.refl _) ?_
  rintro i ⟨hi, hI⟩
  have hw := q46 (n := i) (by omega)
  by_cases hil : i < L.length
  case neg =>
   have hie : L.length = i := by omega
   subst hie
   have hI2 := hI.out
   rw [List.take_length] at hI2
   have e := yes.out hI2
   subst e
   clear hI hI2 yes no
   repeat' (simp -dsimp -implicitDefEqProofs [*])
   exact .same ⟨rfl, rfl⟩
  have hg := z3d L i hil
  have hg2 : ∀ h : i < (k0a L).length, (k0a L)[i]'h = q5v false L[i] := fun h => by
   rw [List.getElem?_eq_getElem h] at hg
   exact Option.some.inj hg
  by_cases hb : L[i].length ≤ 1000
  ·have hbI : ¬ (1000 : Int) < L[i].length := by omega
   have nx : Hid (∀ b ∈ L.take (i + 1), b.length ≤ 1000) := ⟨fun b hm => by
    rw [List.take_succ_eq_append_getElem hil] at hm
    rcases List.mem_append.1 hm with hm | hm
    ·exact hI.out b hm
    ·rw [List.mem_singleton.1 hm]
     exact hb⟩
   clear hI
   repeat' (simp -dsimp -implicitDefEqProofs [*])
   exact Next.intro (i + 1) ⟨by omega, nx⟩ (by omega) (by simp) q5k
  ·have hbI : (1000 : Int) < L[i].length := by omega
   have e := no.out _ (List.getElem_mem hil) hb
   subst e
   clear hI yes no
   repeat' (simp -dsimp -implicitDefEqProofs [*])
   exact .same ⟨rfl, rfl⟩
theorem j7u {L : List (List (BitVec 8))} {l : List Note} (h : Rise q55 okN l) (hm : ∀ b, b ∈ L ↔ b ∈ l.map msg) : z3c L = l ∧ k7g L = true := by
 have rd : ∀ n ∈ l, q9b (msg n) = some n := fun n hn => k5d (h.1 n hn)
 constructor
 ·obtain ⟨h1, h2⟩ := k1t L
  refine Rise.ext cmpN_ord h1 h fun x => ?_
  rw [h2]
  constructor
  ·rintro ⟨b, hb, e⟩
   obtain ⟨n, hn, rfl⟩ := List.mem_map.1 ((hm b).1 hb)
   rw [rd n hn] at e
   cases e
   exact hn
  ·intro hx
   exact ⟨msg x, (hm _).2 (List.mem_map.2 ⟨x, hx, rfl⟩), rd x hx⟩
 ·unfold k7g
  rw [List.all_eq_true]
  intro b hb
  obtain ⟨n, hn, rfl⟩ := List.mem_map.1 ((hm b).1 hb)
  rw [rd n hn]
  rfl
theorem j47 (L : List (List (BitVec 8))) : (z3c L).length ≤ L.length := by
 obtain ⟨h1, h2⟩ := k1t L
 refine Nat.le_trans (q74 (m := L.filterMap q9b) (Rise.nodup cmpN_ord h1) fun x hx => ?_) (List.length_filterMap_le ..)
 obtain ⟨b, hb, e⟩ := (h2 x).1 hx
 exact List.mem_filterMap.2 ⟨b, hb, e⟩
theorem z3l (t : Bool) {L : List (List (BitVec 8))} {l : List Note} (h : Rise q55 okN l) (hm : ∀ b, b ∈ L ↔ b ∈ l.map msg) (hn : L.length ≤ 4096) (st : q43) : Rets P F.q04 [.list t (k0a L) L.length] st (.tuple [.agg [Note.lst false l], .int 0]) := by
 obtain ⟨h1, h2⟩ := j7u h hm
 have := k5n t L hn (fun b hb => by
  obtain ⟨n, hn, rfl⟩ := List.mem_map.1 ((hm b).1 hb)
  have := k4e (h.1 n hn)
  omega) st
 have hC : k6k L = l := by unfold k6k; rw [h2, ← h1]; rfl
 have hE : k6l L = 0 := by unfold k6l; rw [h2]; rfl
 rw [hC, hE] at this
 exact this
theorem j0a {α : Type} {R : List α} {k : Nat} (b : α) : b ∈ R.drop k ++ R.take (k + 1) ↔ b ∈ R := by
 constructor
 ·intro h
  rcases List.mem_append.1 h with h | h
  ·exact List.mem_of_mem_drop h
  ·exact List.mem_of_mem_take h
 ·intro h
  rw [← List.take_append_drop k R] at h
  rcases List.mem_append.1 h with h | h
  ·exact List.mem_append_right _ ((List.take_prefix_take_left (Nat.le_succ k)).subset h)
  ·exact List.mem_append_left _ h
open Go.Pv Go.Pv.Cd
set_option maxRecDepth 100000
set_option maxHeartbeats 4000000
theorem j7v (L : List (List (BitVec 8))) (h1 : L.length ≤ 40 ∨ 4096 < L.length ∧ L.length ≤ 4200) (h2 : ∀ b ∈ L, b.length ≤ 1000) : ∃ (q : List Note) (e : Int), (∀ st, Rets P F.q04 [.list false (k0a L) L.length] st (.tuple [.agg [Note.lst false q], .int e])) ∧ (e = 0 ∧ Rise q55 okN q ∧ q.length ≤ L.length ∧ q.length ≤ 40 ∨ ¬ e = 0 ∧ q = []) := by
 by_cases hl : L.length ≤ 40
 ·refine ⟨k6k L, k6l L, fun st => k5n false L (by omega) (fun b hb => by have := h2 b hb; omega) st, ?_⟩
  unfold k6k k6l
  cases k7g L with
  | true =>
   have := j47 L
   exact .inl ⟨rfl, (k1t L).1, this, Nat.le_trans this hl⟩
  | false => exact .inr ⟨by decide, rfl⟩
 ·exact ⟨[], 2, fun st => j4s false L (by omega) st, .inr ⟨by decide, rfl⟩⟩
theorem j7w (l : List Note) (n : Nat) (hn : n < 256) (L : List (List (BitVec 8))) : Rets P F.q1u [.agg [Note.lst false l], u8v n, .list false (k0a L) L.length] [] (.bool true) := by
 have hrl := Note.row_len l
 have hrL := k2z L
 refine H.q1u.view q5d rfl rfl ?_
 by_cases hl : 30 < l.length
 ·have hlI : (30 : Int) < l.length := by omega
  repeat' (first 
   | (with_reducible refine Fresh.intro fun b hb => ?_) <;> (try simp -dsimp -implicitDefEqProofs [*] at hb)
   | (with_reducible refine Rets.xcall (q54 _) ?_)
   | (simp -dsimp -implicitDefEqProofs [*]))
  all_goals exact .drop (st' := []) (fun _ _ h => by cases h) ⟨rfl, rfl⟩
 have hlI : ¬ (30 : Int) < l.length := by omega
 by_cases hfew : (L.length ≤ 40 ∨ 4096 < L.length ∧ L.length ≤ 4200) ∧ ∀ b ∈ L, b.length ≤ 1000
 case neg =>
  have hf := fun st => z6e false L false ⟨(fun h => by cases h), fun h => absurd h hfew⟩ st
  clear hfew
  repeat' (first 
   | (with_reducible refine Fresh.intro fun b hb => ?_) <;> (try simp -dsimp -implicitDefEqProofs [*] at hb)
   | (with_reducible refine Rets.xcall (q54 _) ?_)
   | (with_reducible refine Rets.xcall (hf _) ?_)
   | (simp -dsimp -implicitDefEqProofs [*]))
  all_goals exact .drop (st' := []) (fun _ _ h => by cases h) ⟨rfl, rfl⟩
 have hf := fun st => z6e false L true ⟨fun _ => hfew, fun _ => rfl⟩ st
 have H0 := j7v L hfew.1 hfew.2
 clear hfew
 obtain ⟨q, e, hld, hq⟩ := H0
 by_cases hr : Rise q55 okN l
 case neg =>
  have hv := fun st => q8q l (by omega) false ⟨(fun h => by cases h), fun h => absurd h.1 hr⟩ st
  clear hr
  rcases hq with ⟨rfl, hqr, hqL, hq40⟩ | ⟨he, rfl⟩
  ·have hvq := fun st => q8q q (by omega) true ⟨fun _ => ⟨hqr, by omega⟩, fun _ => rfl⟩ st
   have hqI : ¬ (L.length : Int) < q.length := by omega
   clear hqr
   repeat' (first 
    | (with_reducible refine Fresh.intro fun b hb => ?_) <;> (try simp -dsimp -implicitDefEqProofs [*] at hb)
    | (with_reducible refine Rets.xcall (q54 _) ?_)
    | (with_reducible refine Rets.xcall (hf _) ?_)
    | (with_reducible refine Rets.xcall (hld _) ?_)
    | (with_reducible refine Rets.xcall (hvq _) ?_)
    | (with_reducible refine Rets.xcall (hv _) ?_)
    | (simp -dsimp -implicitDefEqProofs [*]))
   all_goals exact .drop (st' := []) (fun _ _ h => by cases h) ⟨rfl, rfl⟩
  ·repeat' (first 
    | (with_reducible refine Fresh.intro fun b hb => ?_) <;> (try simp -dsimp -implicitDefEqProofs [*] at hb)
    | (with_reducible refine Rets.xcall (q54 _) ?_)
    | (with_reducible refine Rets.xcall (hf _) ?_)
    | (with_reducible refine Rets.xcall (hld _) ?_)
    | (with_reducible refine Rets.xcall (hv _) ?_)
    | (simp -dsimp -implicitDefEqProofs [*]))
   all_goals exact .drop (st' := []) (fun _ _ h => by cases h) ⟨rfl, rfl⟩
 have hv := fun st => q8q l (by omega) true ⟨fun _ => ⟨hr, by omega⟩, fun _ => rfl⟩ st
 have hrec := fun st => k7a l hr (by omega) st
 have kr := Hid.mk hr
 clear hr
 rcases hq with ⟨rfl, hqr, hqL, hq40⟩ | ⟨he, rfl⟩
 ·have hvq := fun st => q8q q (by omega) true ⟨fun _ => ⟨hqr, by omega⟩, fun _ => rfl⟩ st
  have hqI : ¬ (L.length : Int) < q.length := by omega
  clear hqr
  by_cases hl0 : l.length = 0
  ·have hl1 : l = [] := List.eq_nil_of_length_eq_zero hl0
   subst hl1
   repeat' (first 
    | (with_reducible refine Fresh.intro fun b hb => ?_) <;> (try simp -dsimp -implicitDefEqProofs [*] at hb)
    | (with_reducible refine Rets.xcall (q54 _) ?_)
    | (with_reducible refine Rets.xcall (hf _) ?_)
    | (with_reducible refine Rets.xcall (hld _) ?_)
    | (with_reducible refine Rets.xcall (hvq _) ?_)
    | (with_reducible refine Rets.xcall (hv _) ?_)
    | (with_reducible refine Rets.xcall (hrec _) ?_)
    | (simp -dsimp -implicitDefEqProofs [*]))
   all_goals exact .drop (st' := []) (fun _ _ h => by cases h) ⟨rfl, rfl⟩
  have hl0I : ¬ (l.length : Int) = 0 := by omega
  have hposI : (0 : Int) < l.length := by omega
  have hwn : IntKind.i64.wrap (n : Int) = n := k1f (by omega)
  obtain ⟨k, hk⟩ : ∃ k, k = n % l.length := ⟨_, rfl⟩
  have hkl : k < l.length := by rw [hk]; exact Nat.mod_lt _ (by omega)
  have hrem : (n : Int).tmod l.length = (k : Int) := by rw [hk, Int.ofNat_tmod]
  have hwk := q46 (n := k) (by omega)
  clear hk
  have hRl : (k0a (l.map msg)).length = l.length := by rw [k2z, List.length_map]
  have kR : Hid ((l.map msg).length = l.length) := ⟨List.length_map ..⟩
  repeat' (first 
   | (with_reducible refine Fresh.intro fun b hb => ?_) <;> (try simp -dsimp -implicitDefEqProofs [*] at hb)
   | (with_reducible refine Rets.xcall (q54 _) ?_)
   | (with_reducible refine Rets.xcall (hf _) ?_)
   | (with_reducible refine Rets.xcall (hld _) ?_)
   | (with_reducible refine Rets.xcall (hvq _) ?_)
   | (with_reducible refine Rets.xcall (hv _) ?_)
   | (with_reducible refine Rets.xcall (hrec _) ?_)
   | (with_reducible refine DrawLate.intro [] ?_)
   | ((with_reducible refine q5i ?_ fun hk => ?_); omega)
   | (simp -dsimp -implicitDefEqProofs [-q45, *]))
  revert b; intro qb hqb
  refine q6g (bytes := 24) k5l k5m (none : Option (Acc (List (BitVec 8)))) trivial ((l.map msg).drop k) (by unfold k0a; exact List.map_drop) (by rw [List.length_drop, kR.out]) (by simp only [q7f, List.length_nil]; omega) fun o ho hol => ?_
  refine q51 (q7g ho (Cls.self _ _)) ?_
  have kl : Hid (q5m o = (l.map msg).drop k) := ⟨hol⟩
  have kll : Hid ((q5m o).length = l.length - k) := ⟨by rw [hol, q7f, List.nil_append, List.length_drop, kR.out]⟩
  clear hol
  have hmin : min (k + 1) l.length = k + 1 := by omega
  repeat' (simp -dsimp -implicitDefEqProofs [-q45, *])
  refine q6g (bytes := 24) k5l k5m o ho ((l.map msg).take (k + 1)) (by unfold k0a; exact List.map_take) (by rw [List.length_take, kR.out, hmin]) (by rw [kll.out]; omega) fun o2 ho2 hol2 => ?_
  refine q51 (q7g ho2 (Cls.self _ _)) ?_
  have kl2 : Hid (q5m o2 = (l.map msg).drop k ++ (l.map msg).take (k + 1)) := ⟨by rw [hol2, kl.out]⟩
  clear hol2
  repeat' (simp -dsimp -implicitDefEqProofs [-q45, *])
  have hml : ((l.map msg).drop k ++ (l.map msg).take (k + 1)).length = l.length + 1 := by rw [List.length_append, List.length_drop, List.length_take, kR.out, hmin]; omega
  cases o2 with
  | none =>
   exfalso
   have := congrArg List.length kl2.out
   rw [hml, q7f, List.length_nil] at this
   omega
  | some a =>
  obtain ⟨ha, hab⟩ := ho2
  have hal : a.l.length = l.length + 1 := by rw [← hml]; exact congrArg List.length kl2.out
  have hfz : Frz a.b (.arr T.Luint8 a.R) (.own a.b 0 (l.length + 1) a.cap) (.list false (k0a ((l.map msg).drop k ++ (l.map msg).take (k + 1))) (l.length + 1)) := by
   have h1 := Frz.acc (T := T.Luint8) ha
   have h2 : a.l = (l.map msg).drop k ++ (l.map msg).take (k + 1) := kl2.out
   rw [hal, h2] at h1
   exact h1
  have hld0 : ∀ st, Rets P F.q04 [.list false (k0a (l.map msg)) l.length] st (.tuple [.agg [Note.lst false l], .int 0]) := fun st => by
   have := z3l false (L := l.map msg) kr.out (fun b => Iff.rfl) (by rw [kR.out]; omega) st
   rw [kR.out] at this
   exact this
  have hld1 : ∀ st, Rets P F.q04 [.list false (k0a ((l.map msg).drop k ++ (l.map msg).take (k + 1))) (l.length + 1)] st (.tuple [.agg [Note.lst false l], .int 0]) := fun st => by
   have := z3l false (L := (l.map msg).drop k ++ (l.map msg).take (k + 1)) kr.out j0a (by rw [hml]; omega) st
   rw [hml] at this
   exact this
  have hsn := fun st => q7s false false l (by omega) st
  generalize (l.map msg).drop k ++ (l.map msg).take (k + 1) = M2 at *
  repeat' (first 
   | (with_reducible refine Lit.imm ?_)
   | (simp -dsimp -implicitDefEqProofs [y5h, -q45, *]))
  refine k53 (σ := Nat) (fun j => [(3, .ptr b 0), (88, .list true [.list false (k0a (l.map msg)) l.length, .list false (k0a M2) (l.length + 1)] 2), (89, .int 2), (90, .int (j : Nat))]) (fun _ => [(b, .arr T.apiPeer [Note.lst false l])]) (fun j => j ≤ 2) (fun j => 2 - j) 0 (by omega) (View.frz (b := a.b) (o := .arr T.Luint8 a.R) hab.2 (q6s (StLe.fresh ⟨hqb, trivial⟩)) ?_) ?_
  ·simp
   exact ⟨.refl _, .list true 2 (.cons (.refl _) (.cons hfz .nil)), .refl _, .refl _⟩
  intro j hj
  have hwj := q46 (n := j) (by omega)
  by_cases h0 : j = 0
  ·subst h0
   have hw0 : IntKind.i64.wrap 1 = 1 := rfl
   repeat' (first 
    | (with_reducible refine Fresh.intro fun b hb => ?_) <;> (try simp -dsimp -implicitDefEqProofs [*] at hb)
    | (with_reducible refine Rets.xcall (hld0 _) ?_)
    | (with_reducible refine Rets.xcall (hsn _) ?_)
    | (simp -dsimp -implicitDefEqProofs [*]))
   exact Next.intro 1 (by omega) (by omega) (by simp) q5k
  by_cases h1 : j = 1
  ·subst h1
   have hw0 : IntKind.i64.wrap 2 = 2 := rfl
   repeat' (first 
    | (with_reducible refine Fresh.intro fun b hb => ?_) <;> (try simp -dsimp -implicitDefEqProofs [*] at hb)
    | (with_reducible refine Rets.xcall (hld1 _) ?_)
    | (with_reducible refine Rets.xcall (hsn _) ?_)
    | (simp -dsimp -implicitDefEqProofs [*]))
   exact Next.intro 2 (by omega) (by omega) (by simp) q5k
  have h2 : j = 2 := by omega
  subst h2
  repeat' (simp -dsimp -implicitDefEqProofs [*])
  exact .drop (st' := []) (fun _ _ h => by cases h) ⟨rfl, rfl⟩
 ·
  by_cases hl0 : l.length = 0
  ·have hl1 : l = [] := List.eq_nil_of_length_eq_zero hl0
   subst hl1
   repeat' (first 
    | (with_reducible refine Fresh.intro fun b hb => ?_) <;> (try simp -dsimp -implicitDefEqProofs [*] at hb)
    | (with_reducible refine Rets.xcall (q54 _) ?_)
    | (with_reducible refine Rets.xcall (hf _) ?_)
    | (with_reducible refine Rets.xcall (hld _) ?_)
    | (with_reducible refine Rets.xcall (hv _) ?_)
    | (with_reducible refine Rets.xcall (hrec _) ?_)
    | (simp -dsimp -implicitDefEqProofs [*]))
   all_goals exact .drop (st' := []) (fun _ _ h => by cases h) ⟨rfl, rfl⟩
  have hl0I : ¬ (l.length : Int) = 0 := by omega
  have hposI : (0 : Int) < l.length := by omega
  have hwn : IntKind.i64.wrap (n : Int) = n := k1f (by omega)
  obtain ⟨k, hk⟩ : ∃ k, k = n % l.length := ⟨_, rfl⟩
  have hkl : k < l.length := by rw [hk]; exact Nat.mod_lt _ (by omega)
  have hrem : (n : Int).tmod l.length = (k : Int) := by rw [hk, Int.ofNat_tmod]
  have hwk := q46 (n := k) (by omega)
  clear hk
  have hRl : (k0a (l.map msg)).length = l.length := by rw [k2z, List.length_map]
  have kR : Hid ((l.map msg).length = l.length) := ⟨List.length_map ..⟩
  repeat' (first 
   | (with_reducible refine Fresh.intro fun b hb => ?_) <;> (try simp -dsimp -implicitDefEqProofs [*] at hb)
   | (with_reducible refine Rets.xcall (q54 _) ?_)
   | (with_reducible refine Rets.xcall (hf _) ?_)
   | (with_reducible refine Rets.xcall (hld _) ?_)
   | (with_reducible refine Rets.xcall (hv _) ?_)
   | (with_reducible refine Rets.xcall (hrec _) ?_)
   | (with_reducible refine DrawLate.intro [] ?_)
   | ((with_reducible refine q5i ?_ fun hk => ?_); omega)
   | (simp -dsimp -implicitDefEqProofs [-q45, *]))
  revert b; intro qb hqb
  refine q6g (bytes := 24) k5l k5m (none : Option (Acc (List (BitVec 8)))) trivial ((l.map msg).drop k) (by unfold k0a; exact List.map_drop) (by rw [List.length_drop, kR.out]) (by simp only [q7f, List.length_nil]; omega) fun o ho hol => ?_
  refine q51 (q7g ho (Cls.self _ _)) ?_
  have kl : Hid (q5m o = (l.map msg).drop k) := ⟨hol⟩
  have kll : Hid ((q5m o).length = l.length - k) := ⟨by rw [hol, q7f, List.nil_append, List.length_drop, kR.out]⟩
  clear hol
  have hmin : min (k + 1) l.length = k + 1 := by omega
  repeat' (simp -dsimp -implicitDefEqProofs [-q45, *])
  refine q6g (bytes := 24) k5l k5m o ho ((l.map msg).take (k + 1)) (by unfold k0a; exact List.map_take) (by rw [List.length_take, kR.out, hmin]) (by rw [kll.out]; omega) fun o2 ho2 hol2 => ?_
  refine q51 (q7g ho2 (Cls.self _ _)) ?_
  have kl2 : Hid (q5m o2 = (l.map msg).drop k ++ (l.map msg).take (k + 1)) := ⟨by rw [hol2, kl.out]⟩
  clear hol2
  repeat' (simp -dsimp -implicitDefEqProofs [-q45, *])
  have hml : ((l.map msg).drop k ++ (l.map msg).take (k + 1)).length = l.length + 1 := by rw [List.length_append, List.length_drop, List.length_take, kR.out, hmin]; omega
  cases o2 with
  | none =>
   exfalso
   have := congrArg List.length kl2.out
   rw [hml, q7f, List.length_nil] at this
   omega
  | some a =>
  obtain ⟨ha, hab⟩ := ho2
  have hal : a.l.length = l.length + 1 := by rw [← hml]; exact congrArg List.length kl2.out
  have hfz : Frz a.b (.arr T.Luint8 a.R) (.own a.b 0 (l.length + 1) a.cap) (.list false (k0a ((l.map msg).drop k ++ (l.map msg).take (k + 1))) (l.length + 1)) := by
   have h1 := Frz.acc (T := T.Luint8) ha
   have h2 : a.l = (l.map msg).drop k ++ (l.map msg).take (k + 1) := kl2.out
   rw [hal, h2] at h1
   exact h1
  have hld0 : ∀ st, Rets P F.q04 [.list false (k0a (l.map msg)) l.length] st (.tuple [.agg [Note.lst false l], .int 0]) := fun st => by
   have := z3l false (L := l.map msg) kr.out (fun b => Iff.rfl) (by rw [kR.out]; omega) st
   rw [kR.out] at this
   exact this
  have hld1 : ∀ st, Rets P F.q04 [.list false (k0a ((l.map msg).drop k ++ (l.map msg).take (k + 1))) (l.length + 1)] st (.tuple [.agg [Note.lst false l], .int 0]) := fun st => by
   have := z3l false (L := (l.map msg).drop k ++ (l.map msg).take (k + 1)) kr.out j0a (by rw [hml]; omega) st
   rw [hml] at this
   exact this
  have hsn := fun st => q7s false false l (by omega) st
  generalize (l.map msg).drop k ++ (l.map msg).take (k + 1) = M2 at *
  repeat' (first 
   | (with_reducible refine Lit.imm ?_)
   | (simp -dsimp -implicitDefEqProofs [y5h, -q45, *]))
  refine k53 (σ := Nat) (fun j => [(3, .ptr b 0), (88, .list true [.list false (k0a (l.map msg)) l.length, .list false (k0a M2) (l.length + 1)] 2), (89, .int 2), (90, .int (j : Nat))]) (fun _ => [(b, .arr T.apiPeer [Note.lst false l])]) (fun j => j ≤ 2) (fun j => 2 - j) 0 (by omega) (View.frz (b := a.b) (o := .arr T.Luint8 a.R) hab.2 (q6s (StLe.fresh ⟨hqb, trivial⟩)) ?_) ?_
  ·simp
   exact ⟨.refl _, .list true 2 (.cons (.refl _) (.cons hfz .nil)), .refl _, .refl _⟩
  intro j hj
  have hwj := q46 (n := j) (by omega)
  by_cases h0 : j = 0
  ·subst h0
   have hw0 : IntKind.i64.wrap 1 = 1 := rfl
   repeat' (first 
    | (with_reducible refine Fresh.intro fun b hb => ?_) <;> (try simp -dsimp -implicitDefEqProofs [*] at hb)
    | (with_reducible refine Rets.xcall (hld0 _) ?_)
    | (with_reducible refine Rets.xcall (hsn _) ?_)
    | (simp -dsimp -implicitDefEqProofs [*]))
   exact Next.intro 1 (by omega) (by omega) (by simp) q5k
  by_cases h1 : j = 1
  ·subst h1
   have hw0 : IntKind.i64.wrap 2 = 2 := rfl
   repeat' (first 
    | (with_reducible refine Fresh.intro fun b hb => ?_) <;> (try simp -dsimp -implicitDefEqProofs [*] at hb)
    | (with_reducible refine Rets.xcall (hld1 _) ?_)
    | (with_reducible refine Rets.xcall (hsn _) ?_)
    | (simp -dsimp -implicitDefEqProofs [*]))
   exact Next.intro 2 (by omega) (by omega) (by simp) q5k
  have h2 : j = 2 := by omega
  subst h2
  repeat' (simp -dsimp -implicitDefEqProofs [*])
  exact .drop (st' := []) (fun _ _ h => by cases h) ⟨rfl, rfl⟩
theorem j7x (l : List Note) (n : Int) (hn : 0 ≤ n ∧ n < 256) (L : List (List (BitVec 8))) : Rets P F.q1u [.agg [Note.lst false l], .val (.int .u8 n), .list false (k0a L) L.length] [] (.bool true) := by
 have := j7w l n.toNat (by omega) L
 have e : ((n.toNat : Nat) : Int) = n := by omega
 unfold u8v at this
 rw [e] at this
 exact this
open Go.ChangeShapes Go.WideShapes Go.ChangeAt Go.RowKit Go.Pv
set_option maxRecDepth 100000 in
theorem k3n (H : Type) (enc : TypeId × Value → H) (W : World) (base : Nat) (args : Array Value) (ds gs : List (DataW H)) (before : List MemPlace)
  (hval0 : ∀ (j : Nat) t v, Tryz.f9.params[j]? = some t → args[j]? = some v → Value.okWide Tryz.prog W .any base t v)
  (hW : DataW.Whole enc Tryz.prog Tryz.f9.params.toList Rows.partiesKeptSpec.vars false W args.toList ds gs before) :
  Calls Tryz.prog 9 args W fun e W' => ∃ v, e = .returned v ∧ Rows.partiesKeptSpec.post enc Tryz.prog Tryz.f9 false true false false W args v W' := by
 have hval : ∀ (j : Nat) t v, Tryz.f9.params[j]? = some t → args[j]? = some v → Value.okWide Tryz.prog W .any base t v := hval0
 have hW' := hW
 obtain ⟨p, q, hA0, hV, rfl, hfz, hnd⟩ := hW
 have hA : DataW.TrodAll enc Tryz.prog W 0 (fun _ => true) true Tryz.f9.params.toList args.toList ds p := hA0
 rw [Tryz.params9] at hA hval
 obtain ⟨v0, vs0, d0, ds0, p0, q0, hargs, rfl, rfl, h0, r0⟩ := trodAll_cons hA
 obtain ⟨v1, vs1, d1, ds1, p1, q1, rfl, rfl, rfl, h1, r1⟩ := trodAll_cons r0
 obtain ⟨v2, vs2, d2, ds2, p2, q2, rfl, rfl, rfl, h2, r2⟩ := trodAll_cons r1
 obtain ⟨rfl, rfl, rfl⟩ := trodAll_nil r2
 obtain rfl : args = #[v0, v1, v2] := by cases args; simp_all
 obtain ⟨rfl, rfl⟩ := trodVars_none hV
 have k0 := h0
 have lt0 : ∀ x ∈ p0, x.block < W.heap.size := by obtain ⟨m, hm⟩ := k0; exact DataW.trod_lt m _ _ _ hm
 obtain ⟨x0, g0, w0⟩ := Opens.argS (gl := []) j44 Tryz.underlying60 (hval 0 60 v0 rfl rfl) h0
 obtain ⟨a1, rfl, rfl, rfl, w1⟩ := open_int Tryz.underlying5 (hval 1 5 v1 rfl rfl) h1
 have k2 := h2
 have lt2 : ∀ x ∈ p2, x.block < W.heap.size := by obtain ⟨m, hm⟩ := k2; exact DataW.trod_lt m _ _ _ hm
 obtain ⟨x2, g2, w2⟩ := Opens.argL (gl := []) y1m Tryz.underlying61 (hval 2 61 v2 rfl rfl) h2
 clear hA0 hval0
 refine ((_root_.Go.Proofs.YtmlmoaimjifpgaaGreat.H.q1u).bridgeG (gl := []) (j7x x0 a1 (j42 w1) x2) (w := W) (fun _ _ _ h => by cases h) (vs := [v0, .int .u8 a1, v2]) ⟨w0, rfl, w2, trivial⟩).mono fun e W' ⟨he, bel⟩ => ?_
 subst he
 exact ⟨_, rfl, _, _, _, [], _, [], hW', trodAll_mk1 (shut_bool Tryz.underlying4 _), (trodAll_cons_mk (Go.RowKit.Below.trod k21 (by kernel_rfl) (of_decide_eq_true (by kernel_rfl)) k0 bel lt0) (trodAll_cons_mk (shut_int Tryz.underlying5 w1) (trodAll_cons_mk (Go.RowKit.Below.trod k21 (by kernel_rfl) (of_decide_eq_true (by kernel_rfl)) k2 bel lt2) trodAll_mk0))), rfl, bel.frame _, fun h => by cases h⟩
set_option maxRecDepth 100000 in
theorem k5q (os : Os) (started : os.Started) (H : Type) (enc : TypeId × Value → H) :
  ReturnsInHanded {} Tryz.checked os 9 .any (Rows.partiesKeptSpec.pre6 enc Tryz.prog Tryz.f9 Rows.partiesKeptRow.domain false) (Rows.partiesKeptSpec.post enc Tryz.prog Tryz.f9 false true false false) := by
 refine returnsInHanded_of_change (C := Tryz.checked) own started (by kernel_rfl) Tryz.func9
  (ChangeSpec.witness6 (enc := enc) (C := Tryz.checked) false ⟨#[], #[.agg #[.slice none 0 0], .int .u8 0, .slice none 0 0], []⟩ 8 (by kernel_rfl) (by kernel_rfl) (by kernel_rfl) (by kernel_rfl)) ?_
 intro W base args ds gs before hval hW _ _
 exact k3n H enc W base args ds gs before hval hW
theorem partiesKept_holds : Rows.PartiesKeptSaid :=
 OpenClaim.holds_of_wide 9 Tryz.f9 rfl rfl rfl rfl rfl rfl rfl ⟨rfl, rfl, rfl, rfl, rfl⟩ rfl rfl rfl rfl rfl (by kernel_rfl) Tryz.func9 (by kernel_rfl)
  (of_decide_eq_true (by kernel_rfl)) (by unfold Func.isWrapper; first | (rw [if_pos (by decide +kernel)]; kernel_rfl) | (rw [if_neg (by decide +kernel)]; exact ⟨rfl, rfl⟩))
  (fun os started H enc _ => k5q os started H enc)
end Go.Proofs.YtmlmoaimjifpgaaGreat

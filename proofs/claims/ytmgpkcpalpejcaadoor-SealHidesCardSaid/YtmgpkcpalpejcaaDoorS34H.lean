/- Encodings by the program: numbers. -/
import Derived.Test.YtmgpkcpalpejcaaDoorS34G
namespace Go.Proofs.YtmgpkcpalpejcaaDoor
open Go.Pv Go.Pv.Sha
set_option maxRecDepth 100000
set_option maxHeartbeats 4000000
/-- What ends a function that appends to a row. -/
def Grown (st : Store) (L : List (BitVec 8)) (e : PEnd) (s : Store) : Prop := ∃ o : Option (Acc (BitVec 8)), accOk byteRow 1 st o ∧ accL o = L ∧ e = .ret (accP o) ∧ s = accS T.uint8 st o
def numE (n : Nat) : List (BitVec 8) := if n < 128 then [BitVec.ofNat 8 n] else BitVec.ofNat 8 (n % 128 + 128) :: numE (n / 128)
theorem numE_lt {n : Nat} (h : n < 128) : numE n = [BitVec.ofNat 8 n] := by rw [numE, if_pos h]
theorem numE_ge {n : Nat} (h : ¬ n < 128) : numE n = BitVec.ofNat 8 (n % 128 + 128) :: numE (n / 128) := by rw [numE, if_neg h]
theorem wrap_byte (v : Nat) : PV.val (.int .u8 (IntKind.u8.wrap (v : Int))) = bv (BitVec.ofNat 8 v) := by
  rw [wrap_u8, BitVec.ofInt_natCast]
theorem or128 : ∀ x, x < 256 → x ||| 128 = x % 128 + 128 := by decide
theorem byte_nat (v : Nat) : (IntKind.u8.wrap (v : Int) % 2 ^ IntKind.u8.bits).toNat = v % 256 := by
  rw [wrap_u8, BitVec.ofInt_natCast]
  have e : IntKind.u8.bits = 8 := rfl
  rw [e]
  show (((BitVec.ofNat 8 v).toNat : Int) % 2 ^ 8).toNat = _
  rw [BitVec.toNat_ofNat]
  omega
theorem byte_or (v : Nat) : PV.val (.int .u8 (IntKind.u8.wrap (((IntKind.u8.wrap (v : Int) % 2 ^ IntKind.u8.bits).toNat ||| 128 % 2 ^ IntKind.u8.bits : Nat) : Int))) = bv (BitVec.ofNat 8 (v % 128 + 128)) := by
  rw [wrap_byte, byte_nat]
  have e : 128 % 2 ^ IntKind.u8.bits = 128 := rfl
  rw [e, or128 _ (by omega)]
  congr 2
  omega
theorem unsig (n : Nat) (hn : n < 1000000000000) : IntKind.u64.wrap (((IntKind.u64.wrap (IntKind.u64.wrap (n : Int) * 2 ^ min 1 IntKind.u64.bits) % 2 ^ IntKind.u64.bits).toNat ^^^ (IntKind.u64.wrap ((n : Int).fdiv (2 ^ min 63 IntKind.i64.bits)) % 2 ^ IntKind.u64.bits).toNat : Nat) : Int) = 2 * (n : Int) := by
  have e1 : min 1 IntKind.u64.bits = 1 := rfl
  have e2 : min 63 IntKind.i64.bits = 63 := rfl
  have e3 : IntKind.u64.bits = 64 := rfl
  rw [e1, e2, e3, u64_in (n := (n : Int)) (by omega) (by omega), u64_in (n := (n : Int) * 2 ^ 1) (by omega) (by omega)]
  have e4 : (n : Int).fdiv (2 ^ 63) = 0 := by rw [Int.fdiv_eq_ediv_of_nonneg _ (by decide)]; omega
  rw [e4, u64_in (n := 0) (by omega) (by omega)]
  have e5 : ((0 : Int) % 2 ^ 64).toNat = 0 := rfl
  have e6 : (((n : Int) * 2 ^ 1) % 2 ^ 64).toNat = 2 * n := by omega
  rw [e5, e6, Nat.xor_zero, u64_in (by omega) (by omega)]
  omega
theorem numE_len : ∀ (k n : Nat), n < 128 ^ (k + 1) → (numE n).length ≤ k + 1
  | 0, n, h => by rw [numE_lt (by simpa using h)]; simp
  | k + 1, n, h => by
    by_cases hn : n < 128
    · rw [numE_lt hn]; simp
    · rw [numE_ge hn, List.length_cons]
      have := numE_len k (n / 128) (by rw [Nat.div_lt_iff_lt_mul (by decide)]; rw [Nat.pow_succ] at h; exact h)
      omega
theorem numE_len10 {n : Nat} (h : n < 18446744073709551616) : (numE n).length ≤ 10 := numE_len 9 n (by
  have : (128 : Nat) ^ (9 + 1) = 1180591620717411303424 := by decide
  omega)
theorem numeral_spec (u : Nat) (hu : u < 18446744073709551616) (o : Option (Acc (BitVec 8))) (st : Store) (ho : accOk byteRow 1 st o) (hol : (accL o).length ≤ 10000000) : PCalls P F.codec_numeral [accP o, .val (.int .u64 (u : Int))] (accS T.uint8 st o) (Grown st (accL o ++ numE u)) := by
  refine H.codec_numeral.view hmix rfl rfl ?_
  repeat' (simp -dsimp -implicitDefEqProofs [-xappend_list, *])
  refine xloop_for (fun y : Nat × Option (Acc (BitVec 8)) => [(0, accP y.2), (1, .val (.int .u64 (y.1 : Int)))]) (fun y => accS T.uint8 st y.2) (fun y => y.1 < 18446744073709551616 ∧ accOk byteRow 1 st y.2 ∧ accL y.2 ++ numE y.1 = accL o ++ numE u) (fun y => y.1) (u, o) ⟨hu, ho, rfl⟩ (by simp) (.refl _) ?_
  rintro ⟨v, q⟩ ⟨hv, hq, hql⟩
  simp only at hv hq hql
  have hqn : Hid ((accL q).length ≤ 10000010) := ⟨by have h1 := congrArg List.length hql; rw [List.length_append, List.length_append] at h1; have h2 := numE_len10 hu; omega⟩
  have hb := wrap_byte v
  have hb2 := byte_or v
  by_cases h128 : v < 128
  · rw [numE_lt h128] at hql
    have h : ¬ (128 : Int) ≤ v := by omega
    have kl : Hid (accL q ++ [BitVec.ofNat 8 v] = accL o ++ numE u) := ⟨hql⟩
    clear hql
    generalize BitVec.ofNat 8 v = x at *
    repeat' (first 
     | (with_reducible refine Lit.imm ?_)
     | (simp -dsimp -implicitDefEqProofs [-xappend_list, *]))
    refine xappend_accP0 byteRow_len byteRow_append q hq [x] rfl rfl (by have := hqn.out; omega) fun o' ho' hl' => ?_
    have kl' : Hid (accL o' = accL o ++ numE u) := ⟨by rw [hl', kl.out]⟩
    clear hl' kl
    repeat' (simp -dsimp -implicitDefEqProofs [-xappend_list, *])
    exact .same ⟨o', ho', kl'.out, rfl, rfl⟩
  · rw [numE_ge h128] at hql
    have h : (128 : Int) ≤ v := by omega
    have hsh : (v : Int).fdiv (2 ^ min 7 IntKind.u64.bits) = ((v / 128 : Nat) : Int) := by
      have e : min 7 IntKind.u64.bits = 7 := rfl
      rw [e, Int.fdiv_eq_ediv_of_nonneg _ (by decide)]
      simp
    have kl : Hid (accL q ++ BitVec.ofNat 8 (v % 128 + 128) :: numE (v / 128) = accL o ++ numE u) := ⟨hql⟩
    clear hql hb
    generalize BitVec.ofNat 8 (v % 128 + 128) = x at *
    repeat' (first 
     | (with_reducible refine Lit.imm ?_)
     | (simp -dsimp -implicitDefEqProofs [-xappend_list, *]))
    refine xappend_accP0 byteRow_len byteRow_append q hq [x] rfl rfl (by have := hqn.out; omega) fun o' ho' hl' => ?_
    have kl' : Hid (accL o' ++ numE (v / 128) = accL o ++ numE u) := ⟨by rw [hl', ← kl.out]; simp⟩
    clear hl' kl
    repeat' (simp -dsimp -implicitDefEqProofs [-xappend_list, *])
    exact Next.intro (v / 128, o') ⟨by simp only; omega, ho', kl'.out⟩ (by simp only; omega) (by simp) (by repeat' (first | exact StLe.refl _ | (refine StLe_cons (by simp [*]; done) ?_) | (refine StLe_fresh (by simp [*]; done) ?_)))
theorem unsigned_spec (n : Nat) (hn : n < 1000000000000) (st : Store) : Rets P F.codec_unsigned [.int (n : Int)] st (.val (.int .u64 ((2 * n : Nat) : Int))) := by
  refine H.codec_unsigned.pure hmix rfl rfl ?_
  have hu := unsig n hn
  repeat' (simp -dsimp -implicitDefEqProofs [*])
end Go.Proofs.YtmgpkcpalpejcaaDoor
/- Encodings by the program: values. -/
namespace Go.Proofs.YtmgpkcpalpejcaaDoor
open Go.Pv Go.Pv.Sha
set_option maxRecDepth 100000
set_option maxHeartbeats 4000000
abbrev noStr : PV := .val (.string ⟨#[]⟩)
abbrev intV (n : Nat) : List PV := [.int 1, .int (n : Int), noStr, .nil]
abbrev textV (s : ByteArray) : List PV := [.int 2, .int 0, .str s, .nil]
abbrev listV (rows : List PV) (n : Nat) : List PV := [.int 3, .int 0, noStr, .list false rows n]
def accB {α : Type} : Option (Acc α) → List Nat
  | none => []
  | some a => [a.b]
theorem Cls_box {α : Type} {T : TypeId} {b : Nat} {x : PObj} {st : Store} (o : Option (Acc α)) : Cls ((b, x) :: accS T st o) (accB o) ((b, x) :: st) := by
  cases o with
  | none => exact Cls.self _ _
  | some a =>
    refine Cls_same fun c hc y hy => ?_
    have h : ¬ c = a.b := by simpa [accB] using hc
    have h2 : ¬ a.b = c := fun e => h e.symm
    simpa [accS, sget, h, h2] using hy
theorem accB_new {α : Type} {T : TypeId} {b : Nat} {st : Store} {o : Option (Acc α)} (h : snew (accS T st o) b) : b ∉ accB o ∧ snew st b := by
  cases o with
  | none => exact ⟨by simp [accB], h⟩
  | some a => exact ⟨by simpa [accB] using h.1.2, h.2⟩
theorem xappend_box {α : Type} {row : List α → List PV} {k : Nat} (hrl : ∀ l, (row l).length = l.length * k) (hra : ∀ l m, row (l ++ m) = row l ++ row m) {T T' : TypeId} {bytes b : Nat} {R : List PV} {st : Store} {K : PV → Store → Prop}
    (o : Option (Acc α)) (ho : accOk row k st o) (hb : snew (accS T st o) b) (xs : List α) {new : List PV} {m : Nat} (hnew : row xs = new) (hm : xs.length = m) (hm0 : 0 < m) (hsz : ((accL o).length + m) * bytes ≤ 140737488355328)
    (h : ∀ o' : Option (Acc α), accOk row k ((b, .arr T' R) :: st) o' → accL o' = accL o ++ xs → K (accP o') (accS T ((b, .arr T' R) :: st) o')) : xappend T bytes k (accP o) new m ((b, .arr T' R) :: accS T st o) K :=
  xappend_accB (row' := fun _ : List Unit => []) (k' := R.length) (T' := T') hrl hra o (some ⟨[], b, 1, R⟩) ho ⟨⟨by simp, by simp, by simp, by simp⟩, hb⟩ xs hnew hm hm0 hsz h
theorem StLe.box {α : Type} {T : TypeId} {b : Nat} {x : PObj} {st : Store} (o : Option (Acc α)) (hb : snew st b) : StLe (accS T st o) (accS T ((b, x) :: st) o) := by
  cases o with
  | none => exact .fresh hb
  | some a => exact StLe_same (.fresh hb)
theorem accOk.unbox {α : Type} {row : List α → List PV} {k : Nat} {b : Nat} {x : PObj} {st : Store} {o : Option (Acc α)} (h : accOk row k ((b, x) :: st) o) : accOk row k st o := by
  cases o with
  | none => trivial
  | some a => exact ⟨h.1, h.2.2⟩
theorem writeInt_spec (n : Nat) (hn : n < 1000000000000) (o : Option (Acc (BitVec 8))) (st : Store) (ho : accOk byteRow 1 st o) (hol : (accL o).length ≤ 1000000) : PCalls P F.codec_newWriter_1 [accP o, .agg (intV n)] (accS T.uint8 st o) (Grown st (accL o ++ (1#8 :: numE (2 * n)))) := by
  refine H.codec_newWriter_1.view hmix rfl rfl ?_
  have hu := fun st => unsigned_spec n hn st
  repeat' (first 
   | (with_reducible refine Fresh.intro fun b hb => ?_) <;> (try simp -dsimp -implicitDefEqProofs [*] at hb)
   | (simp -dsimp -implicitDefEqProofs [-xappend_list, *]))
  revert b
  intro b hb
  obtain ⟨hnb, hns⟩ := accB_new hb
  refine DrawLate.by (Cls ((b, .arr T.apiValue (intV n)) :: accS T.uint8 st o) (accB o)) (Cls.self _ _) ?_
  repeat' (simp -dsimp -implicitDefEqProofs [-xappend_list, *])
  refine xappend_box byteRow_len byteRow_append o ho hb [1#8] rfl rfl (by omega) (by omega) fun o1 ho1 hl1 => ?_
  have hcl := Cls_acc (T := T.uint8) ho1 (Cls_box (T := T.uint8) (b := b) (x := .arr T.apiValue (intV n)) (st := st) o)
  refine ⟨hcl, ?_⟩
  have kl : Hid (accL o1 = accL o ++ [1#8]) := ⟨hl1⟩
  clear hl1
  repeat' (first 
   | (with_reducible refine Rets.xcall (hu _) ?_)
   | (simp -dsimp -implicitDefEqProofs [-xappend_list, *]))
  refine xcall_post (numeral_spec (2 * n) (by omega) o1 _ ho1 (by rw [kl.out]; simp; omega)) ?_
  rintro e s ⟨o2, ho2, hl2, rfl, rfl⟩
  rw [xend_ret]
  have kl2 : Hid (accL o2 = accL o ++ 1#8 :: numE (2 * n)) := ⟨by rw [hl2, kl.out]; simp⟩
  clear hl2 kl hcl
  have hcl := Cls_acc (T := T.uint8) ho2 (Cls_box (T := T.uint8) (b := b) (x := .arr T.apiValue (intV n)) (st := st) o)
  refine ⟨hcl, ?_⟩
  clear hcl
  repeat' (simp -dsimp -implicitDefEqProofs [-xappend_list, *])
  exact .drop (StLe.box o2 hns) ⟨o2, accOk.unbox ho2, kl2.out, rfl, rfl⟩
end Go.Proofs.YtmgpkcpalpejcaaDoor

/- A compact form of the model's code over pure values: its operations, what they ask and give, and how an operation of the model is read as one. -/
import Derived.Test.YtliglilanpfjhaaLPv
namespace Go.Pv

inductive MX where
  | tmp (t : Nat)
  | const (p : PV)
  deriving Inhabited

/-- Kinds of plain cells that '==' compares. -/
inductive LK where
  | int
  | bool
  | str
  deriving Inhabited, DecidableEq

/-- Kinds of values that are held against nil. -/
inductive NK where
  | slice
  | iface
  | map
  deriving Inhabited, DecidableEq

/-- Operations that leave the store alone and give one pure value. -/
inductive MVal where
  | mv (x : MX)
  | pick (c a b : MX)
  | build (zs : List PV) (parts : List (Nat × Nat × MX))
  | buildSlice (T : TypeId) (len : Nat) (zs : List PV) (parts : List (Nat × Nat × MX))
  | load (k : Nat) (agg : Bool) (x : MX)
  | nilCheck (x : MX)
  | bin (op : BinOp) (T : TypeId) (x y : MX)
  | eqAgg (neg : Bool) (ks : List LK) (x y : MX)
  | eqBool (neg : Bool) (x y : MX)
  | un (op : UnOp) (x : MX)
  | toInt (k : IntKind) (x : MX)
  | mkIface (T : TypeId) (x : MX)
  | mkFunc (fn : Fn) (first captured : List MX)
  | fieldAddr (off : Nat) (x : MX)
  | field (off k : Nat) (agg : Bool) (x : MX)
  | indexAddr (k : Nat) (x i : MX)
  | indexArr (n k : Nat) (x i : MX)
  | index (n k : Nat) (agg : Bool) (x i : MX)
  | indexStr (x i : MX)
  | len (x : MX)
  | maplen (x : MX)
  | cap (x : MX)
  | lookup (lk : Bool × List LK) (z : PV) (ok : Bool) (x i : MX)
  | slice (k : Nat) (x : MX) (lo hi mx : Option MX)
  | sliceArr (n k : Nat) (x : MX) (lo hi mx : Option MX)
  | sliceStr (x : MX) (lo hi : Option MX)
  | strOf (x : MX)
  | extract (i : Nat) (x : MX)
  | minmax (isMax : Bool) (xs : List MX)
  | strlen (x : MX)
  | assert (T : TypeId) (z : PV) (ok : Bool) (x : MX)
  deriving Inhabited

inductive MOp where
  | val (v : MVal)
  | alloc (T : TypeId) (zs : List PV)
  | box (T : TypeId) (x : MX)
  | store (k : Nat) (x y : MX)
  | call (f : MX) (args : List MX)
  | mkMap
  | mapSet (lk : Bool × List LK) (m k v : MX)
  | mkSlice (T : TypeId) (bytes k : Nat) (zs : List PV) (len cap : MX)
  | append (T : TypeId) (bytes k : Nat) (x y : MX)
  | appendZ (T : TypeId) (bytes k : Nat) (zs : List PV) (x n : MX)
  | copy (k : Nat) (x y : MX)
  | delete (lk : Bool × List LK) (m k : MX)
  | eqNil (neg : Bool) (nk : NK) (x : MX)
  | panic (x : MX)
  | clear (k : Nat) (zs : List PV) (x : MX)
  | rangeMap (x : MX)
  | next (x : MX)
  | entry (x : MX)
  | defer (f : MX) (args : List MX)
  | bytes (x : MX)
  deriving Inhabited

/-- A string's bytes. -/
def strCells (s : ByteArray) : List PV := s.data.toList.map fun b => .val (.int .u8 b.toNat)
structure MInst where
  dst : Option Nat
  guard : Option (Nat × Bool)
  op : MOp
  deriving Inhabited

/-! ### States -/
def erem (u : Nat) : Env → Env
  | [] => []
  | (t, p) :: e => if t = u then erem u e else (t, p) :: erem u e
def eput (e : Env) (d : Option Nat) (p : PV) : Env :=
  match d with
  | none => e
  | some t => (t, p) :: erem t e
def ekill (ks : List Nat) : Env → Env
  | [] => []
  | (t, p) :: e => if ks.contains t then ekill ks e else (t, p) :: ekill ks e

theorem eget_erem (u t : Nat) : ∀ e : Env, eget (erem u e) t = if u = t then .any else eget e t
  | [] => by simp [erem, eget]
  | (s, p) :: e => by
    simp only [erem]
    by_cases h : s = u
    · subst h
      simp only [if_true, eget_erem s t e, eget]
      split <;> rfl
    · simp only [h, if_false, eget, eget_erem u t e]
      by_cases h2 : s = t
      · subst h2; simp [show ¬ u = s from fun e => h e.symm]
      · simp [h2]
theorem eget_eput_same (e : Env) (d : Nat) (p : PV) : eget (eput e (some d) p) d = p := by simp [eput, eget]
theorem eget_eput_ne (e : Env) (d t : Nat) (p : PV) (h : d ≠ t) : eget (eput e (some d) p) t = eget e t := by
  simp [eput, eget, eget_erem, h]
theorem eget_ekill (ks : List Nat) (t : Nat) : ∀ e : Env, eget (ekill ks e) t = .any ∨ eget (ekill ks e) t = eget e t
  | [] => by simp [ekill, eget]
  | (s, p) :: e => by
    simp only [ekill]
    split
    · rename_i hk
      have := eget_ekill ks t e
      by_cases h : s = t
      · subst h
        left
        have : ∀ e : Env, eget (ekill ks e) s = .any := by
          intro e
          induction e with
          | nil => rfl
          | cons q e ih =>
            obtain ⟨u, q⟩ := q
            simp only [ekill]
            split
            · exact ih
            · rename_i hu
              simp only [eget]
              split
              · rename_i hus; subst hus; exact absurd hk hu
              · exact ih
        exact this e
      · simpa [eget, h] using this
    · simp only [eget]
      split
      · exact .inr rfl
      · exact eget_ekill ks t e

def meval (e : Env) : MX → PV
  | .tmp t => eget e t
  | .const p => p

/-! ### What the operations ask and give -/
/-- The slice behind a pure value, where its cells are known and never written. -/
def PV.asList : PV → Option (Bool × List PV × Nat)
  | .list t cs n => some (t, cs, n)
  | .val (.slice none 0 0) => some (true, [], 0)
  | _ => none

/-- The row of cells that a pointer leads into. -/
def rowAt? (st : Store) : PV → Option (List PV × Nat)
  | .iptr cs off => some (cs, off)
  | .val (.pointer (some ⟨b, off, none⟩)) =>
    match sget st b with
    | some (.arr _ cs) => some (cs, off)
    | _ => none
  | _ => none

def sub (cs : List PV) (off k : Nat) : Option (List PV) := if off + k ≤ cs.length then some ((cs.drop off).take k) else none

def setCells {α : Type} : List α → Nat → List α → List α
  | cs, _, [] => cs
  | cs, off, p :: ps => setCells (cs.set off p) (off + 1) ps

/-- The parts of a composite value laid into its zero cells. -/
def fillPV : List PV → List (Nat × Nat × PV) → Option (List PV)
  | zs, [] => some zs
  | zs, (off, k, p) :: rest =>
    match p.cells with
    | some ps => if ps.length = k ∧ off + k ≤ zs.length then fillPV (setCells zs off ps) rest else none
    | none => none

def intArithR (op : BinOp) (k : IntKind) (a b : Int) : Option Int :=
  match op with
  | .add => some (k.wrap (a + b))
  | .sub => some (k.wrap (a - b))
  | .mul => some (k.wrap (a * b))
  | .and => some (k.wrap (BitVec.ofInt k.bits a &&& BitVec.ofInt k.bits b).toNat)
  | .or => some (k.wrap (BitVec.ofInt k.bits a ||| BitVec.ofInt k.bits b).toNat)
  | .xor => some (k.wrap (BitVec.ofInt k.bits a ^^^ BitVec.ofInt k.bits b).toNat)
  | .andNot => some (k.wrap (BitVec.ofInt k.bits a &&& ~~~ BitVec.ofInt k.bits b).toNat)
  | _ => none
def intCmpR (op : BinOp) (a b : Int) : Option Bool :=
  match op with
  | .eql => some (a == b)
  | .neq => some (a != b)
  | .lss => some (a < b)
  | .leq => some (a ≤ b)
  | .gtr => some (a > b)
  | .geq => some (a ≥ b)
  | _ => none
def strCmpR (op : BinOp) (a b : ByteArray) : Option Bool :=
  match op with
  | .eql => some (a.toList == b.toList)
  | .neq => some (!(a.toList == b.toList))
  | .lss => some (Op.bytesLess a.toList b.toList)
  | .leq => some (Op.bytesLess a.toList b.toList || a.toList == b.toList)
  | .gtr => some (!(Op.bytesLess a.toList b.toList || a.toList == b.toList))
  | .geq => some (!Op.bytesLess a.toList b.toList)
  | _ => none

/-- A binary operation on integers, bools, strings. -/
def binPV (op : BinOp) (p q : PV) (K : PV → Prop) : Prop :=
  match p, q with
  | .val (.int k a), .val (.int k' b) =>
    match op with
    | .quo => k = k' ∧ b ≠ 0 ∧ K (.val (.int k (k.wrap (a.tdiv b))))
    | .rem => k = k' ∧ b ≠ 0 ∧ K (.val (.int k (a.tmod b)))
    | .shl => 0 ≤ b ∧ K (.val (.int k (k.wrap (a * 2 ^ min b.toNat k.bits))))
    | .shr => 0 ≤ b ∧ K (.val (.int k (a.fdiv (2 ^ min b.toNat k.bits))))
    | _ =>
      match intArithR op k a b with
      | some c => k = k' ∧ K (.val (.int k c))
      | none =>
        match intCmpR op a b with
        | some c => k = k' ∧ K (.val (.bool c))
        | none => False
  | .val (.string a), .val (.string b) =>
    match op with
    | .add => a.size + b.size < 2 ^ 62 ∧ K (.val (.string (a ++ b)))
    | _ =>
      match strCmpR op a b with
      | some c => K (.val (.bool c))
      | none => False
  | _, _ => False

/-- '==' cell by cell. -/
def eqLeaf : LK → PV → PV → Option Bool
  | .int, .val (.int k a), .val (.int k' b) => if k = k' then some (a == b) else none
  | .bool, .val (.bool a), .val (.bool b) => some (a == b)
  | .str, .val (.string a), .val (.string b) => some (a.toList == b.toList)
  | _, _, _ => none
def eqCells : List LK → List PV → List PV → Option Bool
  | [], [], [] => some true
  | k :: ks, p :: ps, q :: qs =>
    match eqLeaf k p q, eqCells ks ps qs with
    | some a, some b => some (a && b)
    | _, _ => none
  | _, _, _ => none

def asInt? : PV → Option Int
  | .val (.int _ n) => some n
  | _ => none

/-! Maps: keys of whole numbers, bools, strings, and structs of those. -/
def PV.vals? : List PV → Option (List Value)
  | [] => some []
  | .val v :: ps => (PV.vals? ps).map (v :: ·)
  | _ :: _ => none
def PV.key? : PV → Option Value
  | .val v => some v
  | .agg cs => (PV.vals? cs).map fun vs => .agg vs.toArray
  | _ => none
/-- What keys are made of: is it a struct or an array, and its plain cells. -/
abbrev KP := Bool × List LK
/-- The cells of a key. -/
def keyCells : Bool → Value → List PV
  | true, .agg cs => cs.toList.map .val
  | true, _ => [.any]
  | false, v => [.val v]
/-- The place of a key among a map's: none where the question has no answer. -/
def kidx (kp : KP) (k : Value) : List Value → Option (Option Nat)
  | [] => some none
  | k' :: ks =>
    match eqCells kp.2 (keyCells kp.1 k) (keyCells kp.1 k') with
    | some true => some (some 0)
    | some false => (kidx kp k ks).map (·.map (· + 1))
    | none => none
/-- A key fit for the plan. -/
def keyFits : KP → Value → Bool
  | (true, lk), .agg cs => cs.size == lk.length
  | (true, _), _ => false
  | (false, lk), _ => lk.length == 1
def mapOf (st : Store) : PV → Option (List Value × List PV)
  | .imap ks vs => some (ks, vs)
  | .val (.map none) => some ([], [])
  | .val (.map (some b)) =>
    match sget st b with
    | some (.map ks vs) => some (ks, vs)
    | _ => none
  | _ => none

/-- The cells of a slice, or of a string's bytes, and how many elements. -/
def srcCells (k : Nat) (st : Store) : PV → Option (List PV × Nat)
  | .list _ cs n => if cs.length = n * k then some (cs, n) else none
  | .val (.slice none 0 0) => some ([], 0)
  | .val (.slice (some ⟨b, off, none⟩) n _) =>
    match sget st b with
    | some (.arr _ cs) => if off + n * k ≤ cs.length then some ((cs.drop off).take (n * k), n) else none
    | _ => none
  | .val (.string s) => if k = 1 then some (s.data.toList.map fun b => .val (.int .u8 b.toNat), s.size) else none
  | _ => none

/-- The bytes that cells hold. -/
def bytesOf? : List PV → Option (List UInt8)
  | [] => some []
  | .val (.int .u8 n) :: ps => if 0 ≤ n ∧ n < 256 then (bytesOf? ps).map (UInt8.ofNat n.toNat :: ·) else none
  | _ :: _ => none
/-- Bounds of a slice expression. -/
def bnd (ρ : MX → PV) : Option MX → Option (Option Int)
  | none => some none
  | some x => (asInt? (ρ x)).map some
def listSlice (k : Nat) (t : Bool) (cs : List PV) (n : Nat) (p : PV) (lo hi mx : Option Int) (K : PV → Prop) : Prop :=
  match lo, hi, mx with
  | none, none, none => K p
  | some l, none, none => 0 ≤ l ∧ l ≤ n ∧ cs.length ≤ n * k ∧ K (.list t (cs.drop (l.toNat * k)) (n - l.toNat))
  | none, some h, none => 0 ≤ h ∧ h ≤ n ∧ K (.list false (cs.take (h.toNat * k)) h.toNat)
  | some l, some h, none => 0 ≤ l ∧ l ≤ h ∧ h ≤ n ∧ K (.list false ((cs.take (h.toNat * k)).drop (l.toNat * k)) (h.toNat - l.toNat))
  | none, some h, some m => 0 ≤ h ∧ h ≤ m ∧ m ≤ n ∧ K (.list (decide (h = m)) (cs.take (h.toNat * k)) h.toNat)
  | some l, some h, some m => 0 ≤ l ∧ l ≤ h ∧ h ≤ m ∧ m ≤ n ∧ K (.list (decide (h = m)) ((cs.take (h.toNat * k)).drop (l.toNat * k)) (h.toNat - l.toNat))
  | _, none, some _ => False
/-- A part of a row that may be written. -/
def ownSlice (k b off n cap : Nat) (lo hi mx : Option Int) (K : PV → Prop) : Prop :=
  (mx.isSome = true → hi.isSome = true) ∧ 0 ≤ hi.getD n ∧ hi.getD n ≤ mx.getD cap ∧ mx.getD cap ≤ cap ∧
  match lo with
  | none => K (.own b off (hi.getD n).toNat (mx.getD cap).toNat)
  | some l => 0 ≤ l ∧ l ≤ hi.getD n ∧ (l = mx.getD cap → K (.list true [] 0)) ∧ (l < mx.getD cap → K (.own b (off + l.toNat * k) ((hi.getD n).toNat - l.toNat) ((mx.getD cap).toNat - l.toNat)))
def isNil0 : PV → Option Int → Option Int → Option Int → Bool
  | .val (.slice none 0 0), none, some _, none => true
  | _, _, _, _ => false
def slicePV (k : Nat) (p : PV) (lo hi mx : Option Int) (K : PV → Prop) : Prop :=
  if isNil0 p lo hi mx = true then hi.getD 0 = 0 ∧ K p else
  match p.asList with
  | some (t, cs, n) => listSlice k t cs n p lo hi mx K
  | none =>
    match p with
    | .val (.slice (some ⟨b, off, none⟩) n cap) => ownSlice k b off n cap lo hi mx K
    | _ => False
def sliceArrPV (n k : Nat) (p : PV) (lo hi mx : Option Int) (K : PV → Prop) : Prop :=
  match p with
  | .iptr cs off => (mx.isSome = true → hi.isSome = true) ∧ 0 ≤ lo.getD 0 ∧ lo.getD 0 ≤ hi.getD n ∧ hi.getD n ≤ mx.getD n ∧ mx.getD n ≤ n ∧ n ≤ 9223372036854775807 ∧
      K (.list (decide (hi.getD n = mx.getD n)) ((cs.drop (off + (lo.getD 0).toNat * k)).take (((hi.getD n).toNat - (lo.getD 0).toNat) * k)) ((hi.getD n).toNat - (lo.getD 0).toNat))
  | .val (.pointer (some ⟨b, off, none⟩)) => ownSlice k b off n n lo hi mx K
  | _ => False
def sliceStrPV (s : ByteArray) (lo hi : Option Int) (K : PV → Prop) : Prop :=
  match lo, hi with
  | some l, none => 0 ≤ l ∧ l ≤ s.size ∧ K (.str (s.extract l.toNat s.size))
  | none, some h => 0 ≤ h ∧ h ≤ s.size ∧ K (.str (s.extract 0 h.toNat))
  | some l, some h => 0 ≤ l ∧ l ≤ h ∧ h ≤ s.size ∧ K (.str (s.extract l.toNat h.toNat))
  | none, none => False

def mval (op : MVal) (ρ : MX → PV) (st : Store) (K : PV → Prop) : Prop :=
  match op with
  | .mv x => K (ρ x)
  | .pick c a b =>
    match ρ c with
    | .val (.bool t) => (t = true → K (ρ a)) ∧ (t = false → K (ρ b))
    | _ => False
  | .build zs parts =>
    match fillPV zs (parts.map fun q => (q.1, q.2.1, ρ q.2.2)) with
    | some cs => K (.agg cs)
    | none => False
  | .buildSlice _ len zs parts =>
    match fillPV zs (parts.map fun q => (q.1, q.2.1, ρ q.2.2)) with
    | some cs => K (.list true cs len)
    | none => False
  | .load k agg x =>
    match rowAt? st (ρ x) with
    | some (cs, off) =>
      if agg then ∃ ps, sub cs off k = some ps ∧ K (.agg ps) else ∃ p, cs[off]? = some p ∧ K p
    | none => False
  | .nilCheck x =>
    match ρ x with
    | .iptr cs off => K (.iptr cs off)
    | .val (.pointer (some a)) => K (.val (.pointer (some a)))
    | .func (.func f) fs cs => K (.func (.func f) fs cs)
    | .func (.yield l) fs cs => K (.func (.yield l) fs cs)
    | _ => False
  | .bin op _ x y => binPV op (ρ x) (ρ y) K
  | .eqAgg neg ks x y =>
    match ρ x, ρ y with
    | .agg cs, .agg ds => ∃ b, eqCells ks cs ds = some b ∧ K (.bool (if neg then !b else b))
    | _, _ => False
  | .eqBool neg x y =>
    match ρ x, ρ y with
    | .val (.bool a), .val (.bool b) => K (.bool (if neg then !(a == b) else (a == b)))
    | _, _ => False
  | .un op x =>
    match op, ρ x with
    | .neg, .val (.int k n) => K (.val (.int k (k.wrap (0 - n))))
    | .not, .val (.bool b) => K (.val (.bool !b))
    | .xor, .val (.int k n) => K (.val (.int k (k.wrap (BitVec.ofInt k.bits (if k.signed then -1 else k.max) ^^^ BitVec.ofInt k.bits n).toNat)))
    | _, _ => False
  | .toInt k x =>
    match ρ x with
    | .val (.int _ n) => K (.val (.int k (k.wrap n)))
    | _ => False
  | .mkIface T x => K (.iface T (ρ x))
  | .mkFunc fn fs cs => K (.func fn (fs.map ρ) (cs.map ρ))
  | .fieldAddr off x =>
    match ρ x with
    | .iptr cs k => K (.iptr cs (k + off))
    | .val (.pointer (some ⟨b, k, none⟩)) => K (.ptr b (k + off))
    | _ => False
  | .field off k agg x =>
    match ρ x with
    | .agg cs => if agg then ∃ ps, sub cs off k = some ps ∧ K (.agg ps) else ∃ p, cs[off]? = some p ∧ K p
    | _ => False
  | .indexAddr k x i =>
    match asInt? (ρ i) with
    | none => False
    | some j =>
      match (ρ x).asList with
      | some (_, cs, n) => 0 ≤ j ∧ j < n ∧ j.toNat * k < cs.length ∧ K (.iptr cs (j.toNat * k))
      | none =>
        match ρ x with
        | .val (.slice (some ⟨b, off, none⟩) n _) => 0 ≤ j ∧ j < n ∧ K (.ptr b (off + j.toNat * k))
        | _ => False
  | .indexArr n k x i =>
    match asInt? (ρ i) with
    | none => False
    | some j =>
      match ρ x with
      | .iptr cs off => 0 ≤ j ∧ j < n ∧ K (.iptr cs (off + j.toNat * k))
      | .val (.pointer (some ⟨b, off, none⟩)) => 0 ≤ j ∧ j < n ∧ K (.ptr b (off + j.toNat * k))
      | _ => False
  | .index n k agg x i =>
    match asInt? (ρ i), ρ x with
    | some j, .agg cs => 0 ≤ j ∧ j < n ∧ if agg then ∃ ps, sub cs (j.toNat * k) k = some ps ∧ K (.agg ps) else ∃ p, cs[j.toNat * k]? = some p ∧ K p
    | _, _ => False
  | .indexStr x i =>
    match asInt? (ρ i), ρ x with
    | some j, .val (.string s) => 0 ≤ j ∧ ∃ c, s[j.toNat]? = some c ∧ K (.val (.int .u8 c.toNat))
    | _, _ => False
  | .len x =>
    match (ρ x).asList with
    | some (_, _, n) => K (.int n)
    | none =>
      match ρ x with
      | .val (.slice _ n _) => K (.int n)
      | _ => False
  | .maplen x =>
    match ρ x with
    | .imap ks _ => K (.int ks.length)
    | .val (.map none) => K (.int 0)
    | .val (.map (some b)) =>
      match sget st b with
      | some (.map ks _) => K (.int ks.length)
      | _ => False
    | _ => False
  | .strlen x =>
    match ρ x with
    | .val (.string s) => K (.int s.size)
    | _ => False
  | .cap x =>
    match ρ x with
    | .val (.slice _ _ c) => K (.int c)
    | .list true _ n => K (.int n)
    | _ => False
  | .lookup lk z ok x i =>
    match mapOf st (ρ x), (ρ i).key? with
    | some (ks, vs), some kv =>
      keyFits lk kv = true ∧
      match kidx lk kv ks with
      | some (some j) => ∃ p, vs[j]? = some p ∧ K (if ok then .tuple [p, .bool true] else p)
      | some none => K (if ok then .tuple [z, .bool false] else z)
      | none => False
    | _, _ => False
  | .slice k x lo hi mx =>
    match bnd ρ lo, bnd ρ hi, bnd ρ mx with
    | some l, some h, some m => slicePV k (ρ x) l h m K
    | _, _, _ => False
  | .sliceArr n k x lo hi mx =>
    match bnd ρ lo, bnd ρ hi, bnd ρ mx with
    | some l, some h, some m => sliceArrPV n k (ρ x) l h m K
    | _, _, _ => False
  | .sliceStr x lo hi =>
    match bnd ρ lo, bnd ρ hi, ρ x with
    | some l, some h, .val (.string s) => sliceStrPV s l h K
    | _, _, _ => False
  | .strOf x =>
    match srcCells 1 st (ρ x) with
    | some (cs, _) =>
      match bytesOf? cs with
      | some bs => K (.str ⟨bs.toArray⟩)
      | none => False
    | none => False
  | .extract i x =>
    match ρ x with
    | .tuple ps => ∃ p, ps[i]? = some p ∧ K p
    | _ => False
  | .minmax isMax xs =>
    match xs.map ρ with
    | [.val (.int k a), .val (.int _ b)] => K (.val (.int k (if isMax then (if b > a then b else a) else (if b < a then b else a))))
    | _ => False
  | .assert T z ok x =>
    match ρ x with
    | .iface U p => if U = T then (if ok then K (.tuple [p, .bool true]) else K p) else (ok = true ∧ K (.tuple [z, .bool false]))
    | .val .nilIface => ok = true ∧ K (.tuple [z, .bool false])
    | _ => False

end Go.Pv

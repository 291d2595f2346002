/- The compact code, its weakest preconditions over pure states, calls. -/
import Derived.Test.YtliglilanpfjhaaLMc
namespace Go.Pv

inductive PEnd where
  | ret (p : PV)
  | panic (p : PV)
  deriving Inhabited

def erep (I : Imm) : PEnd → Ending → Prop
  | .ret p, e => ∃ v, e = .returned v ∧ vrep I p v
  | .panic p, e => ∃ v, e = .panicked [{ v, recovered := false }] ∧ vrep I p v

/-- What a world may look like behind something that began in (I, w): the immutable part has grown, the streams are as they were, a store is held. -/
def Held (I : Imm) (w : World) (R : Imm → Store → Prop) (w' : World) : Prop :=
  ∃ I' st', I.le I' ∧ Calm w w' ∧ SRep I' st' w' ∧ R I' st'

/-- A function that the model enters. -/
def Enters (P : Program) (g : FuncId) : Prop := ∃ fn, P.funcs[g]? = some fn ∧ (fn.name == "runtime.NumGoroutine") = false ∧ fn.body.isNone = false

/-- A function of the text, called so. -/
structure PEnter (P : Program) (g : FuncId) (ps : List PV) (st : Store) (Q : PEnd → Store → Prop) : Prop where
  enters : Enters P g
  out : ∀ I w vs, SRep I st w → vreps I ps vs → Calls P g vs.toArray w fun e => Held I w (fun I' st' => ∃ pe, erep I' pe e ∧ Q pe st')
/-- A function that the model answers in place. -/
structure PExt (P : Program) (g : FuncId) (ps : List PV) (st : Store) (Q : PEnd → Store → Prop) : Prop where
  out : ∀ I w vs, SRep I st w → vreps I ps vs → ∃ v w', (callFunc g vs.toArray).run P w = .ok (.value v) w' ∧ Held I w (fun I' st' => ∃ p, vrep I' p v ∧ Q (.ret p) st') w'
/-- CONTRACTS: called with values that stand for ps, in whatever heap that holds the store, the call ends, and its end and the store behind it are of Q. -/
def PCalls (P : Program) (g : FuncId) (ps : List PV) (st : Store) (Q : PEnd → Store → Prop) : Prop := PEnter P g ps st Q ∨ PExt P g ps st Q

theorem PEnter.mono {P : Program} {g : FuncId} {ps : List PV} {st : Store} {Q Q' : PEnd → Store → Prop} (h : PEnter P g ps st Q) (hq : ∀ e s, Q e s → Q' e s) : PEnter P g ps st Q' :=
  ⟨h.enters, fun I w vs h1 h2 => (h.out I w vs h1 h2).mono fun _ _ ⟨I', st', a, b, c, pe, d, q⟩ => ⟨I', st', a, b, c, pe, d, hq _ _ q⟩⟩
theorem PExt.mono {P : Program} {g : FuncId} {ps : List PV} {st : Store} {Q Q' : PEnd → Store → Prop} (h : PExt P g ps st Q) (hq : ∀ e s, Q e s → Q' e s) : PExt P g ps st Q' :=
  ⟨fun I w vs h1 h2 => by
    obtain ⟨v, w', h3, I', st', a, b, c, p, d, q⟩ := h.out I w vs h1 h2
    exact ⟨v, w', h3, I', st', a, b, c, p, d, hq _ _ q⟩⟩
theorem PCalls.mono {P : Program} {g : FuncId} {ps : List PV} {st : Store} {Q Q' : PEnd → Store → Prop} (h : PCalls P g ps st Q) (hq : ∀ e s, Q e s → Q' e s) : PCalls P g ps st Q' :=
  h.imp (·.mono hq) (·.mono hq)

/-- A round of a range over a function: yield l, called so. -/
structure PRound (P : Program) (l : Nat) (ps : List PV) (st : Store) (Q : PEnd → Store → Prop) : Prop where
  out : ∀ I w vs, SRep I st w → vreps I ps vs → ∃ r : Loop, w.heap[l]? = some (.loop r) ∧ r.params.size = vs.length ∧
    RoundIn Fence.wide 0 P l r.fn ((r.params.zip vs.toArray).foldl (fun tmps (q : Tmp × Value) => tmps.setIfInBounds q.1 q.2) r.tmps) r.assign r.body w fun e => Held I w (fun I' st' => ∃ pe, erep I' pe e ∧ Q pe st')
theorem PRound.mono {P : Program} {l : Nat} {ps : List PV} {st : Store} {Q Q' : PEnd → Store → Prop} (h : PRound P l ps st Q) (hq : ∀ e s, Q e s → Q' e s) : PRound P l ps st Q' :=
  ⟨fun I w vs h1 h2 => by
    obtain ⟨r, h3, h4, h5⟩ := h.out I w vs h1 h2
    exact ⟨r, h3, h4, h5.mono fun _ _ ⟨I', st', a, b, c, pe, d, q⟩ => ⟨I', st', a, b, c, pe, d, hq _ _ q⟩⟩⟩
/-- A call of a function value. -/
def PCallF (P : Program) (f : PV) (args : List PV) (st : Store) (Q : PEnd → Store → Prop) : Prop :=
  match f with
  | .func (.func g) fs cs => PCalls P g (fs ++ args ++ cs) st Q
  | _ => False
/-- The same; or of a round. -/
def PCallV (P : Program) (f : PV) (args : List PV) (st : Store) (Q : PEnd → Store → Prop) : Prop :=
  match f with
  | .func (.func g) fs cs => PCalls P g (fs ++ args ++ cs) st Q
  | .func (.yield l) [] [] => PRound P l args st Q
  | _ => False

def endPost (K : PV → Store → Prop) (QP : PV → Store → Prop) : PEnd → Store → Prop
  | .ret p, st => K p st
  | .panic p, st => QP p st

/-- A store without an object. -/
def sdel (b : Nat) : Store → Store
  | [] => []
  | (c, o) :: st => if c = b then sdel b st else (c, o) :: sdel b st
/-- A row of its own, with room to spare. -/
def growK0 (T : TypeId) (bytes k : Nat) (cs : List PV) (need : Nat) (st : Store) (K : PV → Store → Prop) : Prop :=
  need * bytes ≤ 140737488355328 ∧ ∀ b cap, snew st b → need ≤ cap → cap ≤ 9223372036854775807 → K (.own b 0 need cap) ((b, .arr T (cs ++ List.replicate ((cap - need) * k) .any)) :: st)
/-- What 'append' comes to. A row of one's own: either way the old row is forgotten; or both ways are told apart. -/
def appendK0 (T : TypeId) (bytes k : Nat) (p : PV) (new : List PV) (m : Nat) (st : Store) (K : PV → Store → Prop) : Prop :=
  match p with
  | .val (.slice none 0 0) => if m = 0 then K p st else growK0 T bytes k new m st K
  | .list t cs n => if m = 0 then K p st else t = true ∧ cs.length = n * k ∧ growK0 T bytes k (cs ++ new) (n + m) st K
  | .val (.slice (some ⟨b, off, none⟩) n cap) =>
    match sget st b with
    | some (.arr T' row) => T' = T ∧ off + cap * k ≤ row.length ∧ n ≤ cap ∧ cap ≤ 9223372036854775807 ∧
        ((off = 0 ∧ row.length = cap * k ∧ growK0 T bytes k (row.take (n * k) ++ new) (n + m) (sdel b st) K) ∨
         ((n + m) * bytes ≤ 140737488355328 ∧ (n + m ≤ cap → K (.own b off (n + m) cap) (sset st b (.arr T (setCells row (off + n * k) new)))) ∧
           (cap < n + m → growK0 T bytes k ((row.drop off).take (n * k) ++ new) (n + m) st K)))
    | _ => False
  | _ => False
/-- The same; or a row that is never written again. -/
def growK (T : TypeId) (bytes k : Nat) (cs : List PV) (need : Nat) (st : Store) (K : PV → Store → Prop) : Prop :=
  need * bytes ≤ 140737488355328 ∧ ((∀ b cap, snew st b → need ≤ cap → cap ≤ 9223372036854775807 → K (.own b 0 need cap) ((b, .arr T (cs ++ List.replicate ((cap - need) * k) .any)) :: st)) ∨ cs.length = need * k ∧ K (.list false cs need) st)
/-- The same, where the new row may be one that is never written again.
   What 'append' comes to. A row of one's own: either way the old row is forgotten; or both ways are told apart. -/
def appendK (T : TypeId) (bytes k : Nat) (p : PV) (new : List PV) (m : Nat) (st : Store) (K : PV → Store → Prop) : Prop :=
  match p with
  | .val (.slice none 0 0) => if m = 0 then K p st else growK T bytes k new m st K
  | .list t cs n => if m = 0 then K p st else t = true ∧ cs.length = n * k ∧ growK T bytes k (cs ++ new) (n + m) st K
  | .val (.slice (some ⟨b, off, none⟩) n cap) =>
    match sget st b with
    | some (.arr T' row) => T' = T ∧ off + cap * k ≤ row.length ∧ n ≤ cap ∧ cap ≤ 9223372036854775807 ∧
        ((off = 0 ∧ row.length = cap * k ∧ growK T bytes k (row.take (n * k) ++ new) (n + m) (sdel b st) K) ∨
         ((n + m) * bytes ≤ 140737488355328 ∧ (n + m ≤ cap → K (.own b off (n + m) cap) (sset st b (.arr T (setCells row (off + n * k) new)))) ∧
           (cap < n + m → growK T bytes k ((row.drop off).take (n * k) ++ new) (n + m) st K)))
    | _ => False
  | _ => False
/-- A literal slice: never written, or of one's own. -/
def litK (v : MVal) (ρ : MX → PV) (st : Store) (K : PV → Store → Prop) : Prop :=
  match v with
  | .buildSlice T len zs parts =>
    match fillPV zs (parts.map fun q => (q.1, q.2.1, ρ q.2.2)) with
    | some cs => ∀ b, snew st b → K (.own b 0 len len) ((b, .arr T cs) :: st)
    | none => False
  | _ => False

/-- What 'copy' comes to. -/
def copyK (k : Nat) (p : PV) (new : List PV) (m : Nat) (st : Store) (K : PV → Store → Prop) : Prop :=
  match p with
  | .val (.slice none 0 0) => K (.int 0) st
  | .list _ _ 0 => K (.int 0) st
  | .val (.slice (some ⟨b, off, none⟩) n _) =>
    match sget st b with
    | some (.arr T row) => off + min m n * k ≤ row.length ∧ K (.int (min m n : Nat)) (sset st b (.arr T (setCells row off (new.take (min m n * k)))))
    | _ => False
  | _ => False
/-- Against nil. -/
def eqNilK (neg : Bool) (nk : NK) (p : PV) (st : Store) (K : PV → Store → Prop) : Prop :=
  match nk, p with
  | .slice, .val (.slice none _ _) | .iface, .val .nilIface | .map, .val (.map none) => K (.bool !neg) st
  | .slice, .list _ cs _ => (cs = [] → K (.bool !neg) st) ∧ K (.bool neg) st
  | .slice, .val (.slice (some _) _ _) | .iface, .iface _ _ | .map, .val (.map (some _)) | .map, .imap _ _ => K (.bool neg) st
  | _, _ => False
/-- What 'clear' comes to. -/
def clearK (k : Nat) (zs : List PV) (p : PV) (st : Store) (K : PV → Store → Prop) : Prop :=
  match p with
  | .val (.slice none 0 0) => K .any st
  | .list _ _ 0 => K .any st
  | .val (.slice (some ⟨b, off, none⟩) n _) =>
    match sget st b with
    | some (.arr T row) => off + n * k ≤ row.length ∧ K .any (sset st b (.arr T (setCells row off (List.replicate n zs).flatten)))
    | _ => False
  | _ => False
/-- An iterator over a map of one's own: from here on its entries' marks are known. -/
def rangeK (p : PV) (st : Store) (K : PV → Store → Prop) : Prop :=
  match p with
  | .val (.map (some m)) =>
    match sget st m with
    | some (.map ks vs) => ∀ bs clock r, bs.length = ks.length → bs.Nodup → (∀ b ∈ bs, b < clock) → snew st r → K (.ptr r 0) ((r, .iter m bs clock []) :: sset st m (.mapB ks vs bs clock))
    | _ => False
  | _ => False
/-- The next entry: any that has not been given. -/
def nextK (p : PV) (st : Store) (K : PV → Store → Prop) : Prop :=
  match p with
  | .val (.pointer (some ⟨r, 0, none⟩)) =>
    match sget st r with
    | some (.iter m bs clock vis) =>
      match sget st m with
      | some (.mapB ks vs bs' clock') => bs' = bs ∧ clock' = clock ∧ bs.length = ks.length ∧ vs.length = ks.length ∧ bs.Nodup ∧ (∀ b ∈ bs, b < clock) ∧ (∀ j ∈ vis, j < ks.length) ∧
          ((∀ j, j < ks.length → j ∈ vis) → K (.tuple [.bool false]) st) ∧
          (∀ j k v, ks[j]? = some k → vs[j]? = some v → j ∉ vis → K (.tuple [.bool true, .val k, v]) (sset st r (.iter m bs clock (vis ++ [j]))))
      | _ => False
    | _ => False
  | _ => False
/-- The entry that was given last. -/
def entryK (p : PV) (st : Store) (K : PV → Store → Prop) : Prop :=
  match p with
  | .val (.pointer (some ⟨r, 0, none⟩)) =>
    match sget st r with
    | some (.iter m bs clock vis) =>
      match sget st m with
      | some (.mapB ks vs bs' clock') => bs' = bs ∧ clock' = clock ∧ bs.length = ks.length ∧ vs.length = ks.length ∧ bs.Nodup ∧
          ∃ vis' j k v, vis = vis' ++ [j] ∧ ks[j]? = some k ∧ vs[j]? = some v ∧ K (.tuple [.val k, v]) st
      | _ => False
    | _ => False
  | _ => False
def mop (P : Program) (op : MOp) (ρ : MX → PV) (st : Store) (K QP : PV → Store → Prop) : Prop :=
  match op with
  | .val v => (mval v ρ st fun p => K p st) ∨ litK v ρ st K
  | .alloc T zs => ∀ b, snew st b → K (.ptr b 0) ((b, .arr T zs) :: st)
  | .box T x =>
    match (ρ x).cells with
    | some cs => ∀ b, snew st b → K (.ptr b 0) ((b, .arr T cs) :: st)
    | none => False
  | .store k x y =>
    match ρ x, (ρ y).cells with
    | .val (.pointer (some ⟨b, off, none⟩)), some ps =>
      match sget st b with
      | some (.arr T cs) => ps.length = k ∧ off + k ≤ cs.length ∧ K .any (sset st b (.arr T (setCells cs off ps)))
      | _ => False
    | _, _ => False
  | .call f args => PCallV P (ρ f) (args.map ρ) st (endPost K QP)
  | .panic x =>
    match ρ x with
    | .iface T p => QP (.iface T p) st
    | _ => False
  | .append T bytes k x y =>
    match srcCells k st (ρ y) with
    | some (new, m) => appendK T bytes k (ρ x) new m st K
    | none => False
  | .appendZ T bytes k zs x n =>
    match ρ n with
    | .val (.int _ m) => 0 ≤ m ∧ m ≤ 9223372036854775807 ∧ appendK T bytes k (ρ x) (List.replicate m.toNat zs).flatten m.toNat st K
    | _ => False
  | .mkSlice T bytes _ zs len cap =>
    match ρ len, ρ cap with
    | .val (.int _ l), .val (.int _ c) => 0 ≤ l ∧ l ≤ c ∧ c * bytes ≤ 281474976710656 ∧ c ≤ 9223372036854775807 ∧
        ∀ b, snew st b → K (.own b 0 l.toNat c.toNat) ((b, .arr T (List.replicate c.toNat zs).flatten) :: st)
    | _, _ => False
  | .copy k x y =>
    match srcCells k st (ρ y) with
    | some (new, m) => copyK k (ρ x) new m st K
    | none => False
  | .eqNil neg nk x => eqNilK neg nk (ρ x) st K
  | .mkMap => ∀ b, snew st b → K (.val (.map (some b))) ((b, .map [] []) :: st)
  | .mapSet lk m k v =>
    match ρ m, (ρ k).key? with
    | .val (.map (some b)), some kv =>
      match sget st b with
      | some (.map ks vs) =>
        keyFits lk kv = true ∧
        match kidx lk kv ks with
        | some (some j) => K .any (sset st b (.map (ks.set j kv) (vs.set j (ρ v))))
        | some none => K .any (sset st b (.map (ks ++ [kv]) (vs ++ [ρ v])))
        | none => False
      | _ => False
    | _, _ => False
  | .delete lk m k =>
    match ρ m, (ρ k).key? with
    | .val (.map (some b)), some kv =>
      match sget st b with
      | some (.map ks vs) =>
        keyFits lk kv = true ∧
        match kidx lk kv ks with
        | some (some j) => K .any (sset st b (.map (ks.eraseIdx j) (vs.eraseIdx j)))
        | some none => K .any st
        | none => False
      | _ => False
    | _, _ => False
  | .clear k zs x => clearK k zs (ρ x) st K
  | .rangeMap x => rangeK (ρ x) st K
  | .next x => nextK (ρ x) st K
  | .entry x => entryK (ρ x) st K
  | .defer _ _ => False
  | .bytes x =>
    match ρ x with
    | .val (.string s) => s.size ≤ 140737488355328 ∧ K (.list false (strCells s) s.size) st
    | _ => False

structure PS where
  env : Env
  st : Store
  deriving Inhabited

def putB (e : Env) (t : Nat) (b : Bool) : Env := eput e (some t) (.bool b)

def mops (P : Program) : List MInst → PS → (PS → Prop) → (PV → Store → Prop) → Prop
  | [], s, K, _ => K s
  | i :: rest, s, K, QP =>
    match i.guard with
    | none => mop P i.op (meval s.env) s.st (fun p st => mops P rest ⟨eput s.env i.dst p, st⟩ K QP) QP
    | some (t, want) =>
      match eget s.env t with
      | .val (.bool c) =>
        (c = want → mop P i.op (meval (putB s.env t want)) s.st (fun p st => mops P rest ⟨eput (putB s.env t want) i.dst p, st⟩ K QP) QP) ∧
        (c = (!want) → mops P rest ⟨eput (putB s.env t !want) i.dst .undef, s.st⟩ K QP)
      | .val (.tuple _) => mops P rest ⟨eput s.env i.dst .undef, s.st⟩ K QP
      | _ => False

/-- How an operation stands in a region that draws its order: ahead of all that write ('early'), free of what they write ('late'), or alone at its turn ('hard'; 'last': nothing that reads the store comes behind it but what writes). -/
inductive DFlag where
  | early
  | late
  | hard
  | last
  deriving Inhabited, DecidableEq

def usesStore : MVal → Bool
  | .load .. | .maplen _ | .lookup .. | .strOf _ => true
  | _ => false

def soft1 (P : Program) (op : MOp) (e : Env) (st : Store) (K : PV → Prop) (QP : PV → Store → Prop) : Prop :=
  match op with
  | .val v => mval v (meval e) st K
  | .call f args => ∃ p, PCallF P (meval e f) (args.map (meval e)) st (fun en st' => st' = st ∧ (en = .ret p ∨ ∃ q, en = .panic q ∧ QP q st)) ∧ K p
  | _ => False

def late1 (P : Program) (Cl : Store → Prop) (op : MOp) (e : Env) (K : PV → Prop) (QP : PV → Store → Prop) : Prop :=
  match op with
  | .val v => ∃ p, (if usesStore v then ∀ st, Cl st → mval v (meval e) st (fun q => q = p) else mval v (meval e) [] (fun q => q = p)) ∧ K p
  | .call f args => ∃ p, (∀ st, Cl st → PCallF P (meval e f) (args.map (meval e)) st (fun en st' => st' = st ∧ (en = .ret p ∨ ∃ q, en = .panic q ∧ QP q st))) ∧ K p
  | _ => False

/-- In a region that draws its order: one walk. 'Cl': the stores that may be met there. -/
def mdraw (P : Program) (Cl : Store → Prop) : List (DFlag × MInst) → PS → (PS → Prop) → (PV → Store → Prop) → Prop
  | [], s, K, _ => K s
  | (fl, i) :: rest, s, K, QP =>
    match i.guard with
    | none => one fl i s (fun p st => mdraw P Cl rest ⟨eput s.env i.dst p, st⟩ K QP) QP
    | some (t, want) =>
      match eget s.env t with
      | .val (.bool c) =>
        (c = want → one fl i ⟨putB s.env t want, s.st⟩ (fun p st => mdraw P Cl rest ⟨eput (putB s.env t want) i.dst p, st⟩ K QP) QP) ∧
        (c = (!want) → mdraw P Cl rest ⟨eput (putB s.env t !want) i.dst .undef, s.st⟩ K QP)
      | .val (.tuple _) => mdraw P Cl rest ⟨eput s.env i.dst .undef, s.st⟩ K QP
      | _ => False
where
  one (fl : DFlag) (i : MInst) (s : PS) (K : PV → Store → Prop) (QP : PV → Store → Prop) : Prop :=
    match fl with
    | .early => soft1 P i.op s.env s.st (fun p => K p s.st) QP
    | .late => late1 P Cl i.op s.env (fun p => K p s.st) QP
    | .hard => mop P i.op (meval s.env) s.st (fun p st => Cl st ∧ K p st) QP
    | .last => mop P i.op (meval s.env) s.st K QP

/-- The stores that hold what another one holds, but for some objects. -/
def Cls (st0 : Store) (M : List Nat) (st : Store) : Prop := ∀ b, b ∉ M → ∀ o, sget st0 b = some o → sget st b = some o

inductive MCode where
  | skip
  | region (l : List MInst) (kill : List Nat)
  | draw (late : Bool) (l : List (DFlag × MInst)) (kill : List Nat)
  | seq (a b : MCode)
  | cond (c : MX) (a b : MCode)
  | block (id : Nat) (c : MCode)
  | loop (c : MCode)
  | rangeFunc (g : MX) (params : List Nat) (a b : MCode)
  | exit (id : Nat)
  | ret
  deriving Inhabited

inductive MExit where
  | normal
  | exit (id : Nat)
  | ret
  | panic (p : PV)
  deriving Inhabited

abbrev MPost := MExit → PS → Prop

def mthen (K : PS → Prop) (Q : MPost) : MPost
  | .normal, s => K s
  | e, s => Q e s
def minBlock (id : Nat) (Q : MPost) : MPost
  | .exit j, s => if j = id then Q .normal s else Q (.exit j) s
  | e, s => Q e s
def panicPost (Q : MPost) (p : PV) (st : Store) : Prop := Q (.panic p) ⟨[], st⟩

/-- A loop: something that holds at each round's head, told apart by a number that falls; 'V': what may be seen otherwise at a round's head. -/
def LoopInv (V : PS → PS → Prop) (body : MPost → PS → Prop) (Q : MPost) (s : PS) : Prop :=
  ∃ (J : Nat → PS → Prop), (∃ n s', V s s' ∧ J n s') ∧ ∀ n s, J n s → body (mthen (fun s1 => ∃ m, m < n ∧ ∃ s', V s1 s' ∧ J m s') Q) s

/-- Deferred calls are held apart: a state of knowledge may be seen as another one in the very same world. -/
def View (s s' : PS) : Prop :=
  ∀ (I : Imm) (tmps : Array Value) (w : World), (∀ t, vrep I (eget s.env t) (tmps.getD t undef)) → SRep I s.st w →
    ∃ I', I.le I' ∧ (∀ t, vrep I' (eget s'.env t) (tmps.getD t undef)) ∧ SRep I' s'.st w

inductive MRes where
  | tmp (t : Nat)
  | cell (t k : Nat) (agg : Bool)
  deriving Inhabited

def mres1 (s : PS) (r : MRes) (K : PV → Prop) : Prop :=
  match r with
  | .tmp t => K (eget s.env t)
  | .cell t k agg => mval (.load k agg (.tmp t)) (meval s.env) s.st K
def mres (s : PS) : List MRes → (List PV → Prop) → Prop
  | [], K => K []
  | r :: rs, K => mres1 s r fun p => mres s rs fun ps => K (p :: ps)
def tuplePV : List PV → PV
  | [p] => p
  | ps => .tuple ps

/-- One state of knowledge gives another, in the very same heap. -/
structure Sees (p : PV) (st : Store) (p' : PV) (st' : Store) : Prop where
  out : ∀ I w v, SRep I st w → vrep I p v → ∃ I', I.le I' ∧ SRep I' st' w ∧ vrep I' p' v
def RetView (c : PV → PEnd) (p : PV) (st : Store) (Q : PEnd → Store → Prop) : Prop := ∃ p' st', Sees p st p' st' ∧ Q (c p') st'

structure MFunc where
  ntmps : Nat
  nparams : Nat
  results : List MRes
  body : MCode

def initEnv : Nat → List PV → Env
  | _, [] => []
  | t, p :: ps => (t, p) :: initEnv (t + 1) ps

def retPost (rs : List MRes) (R E : PV → Store → Prop) : MPost
  | .normal, s | .ret, s => mres s rs fun ps => R (tuplePV ps) s.st
  | .panic p, s => E p s.st
  | .exit _, _ => False

end Go.Pv

/- The compact code, its weakest preconditions over pure states, calls. -/
import Derived.Test.YtmlmoaimjifpgaaGreatLMc
namespace Go.Pv
inductive PEnd where
 | ret (p : PV)
 | panic (p : PV)
 deriving Inhabited
def z1q (I : Imm) : PEnd → Ending → Prop
 | .ret p, e => ∃ v, e = .returned v ∧ vrep I p v
 | .panic p, e => ∃ v, e = .panicked [{ v, recovered := false }] ∧ vrep I p v
def k9l (I : Imm) (w : World) (R : Imm → q43 → Prop) (w' : World) : Prop :=
 ∃ I' st', I.le I' ∧ Calm w w' ∧ SRep I' st' w' ∧ R I' st'
def q9k (P : Program) (g : FuncId) : Prop := ∃ fn, P.funcs[g]? = some fn ∧ (fn.name == "runtime.NumGoroutine") = false ∧ fn.body.isNone = false
structure PEnter (P : Program) (g : FuncId) (ps : List PV) (st : q43) (Q : PEnd → q43 → Prop) : Prop where
 enters : q9k P g
 out : ∀ I w vs, SRep I st w → vreps I ps vs → Calls P g vs.toArray w fun e => k9l I w (fun I' st' => ∃ pe, z1q I' pe e ∧ Q pe st')
structure PExt (P : Program) (g : FuncId) (ps : List PV) (st : q43) (Q : PEnd → q43 → Prop) : Prop where
 out : ∀ I w vs, SRep I st w → vreps I ps vs → ∃ v w', (callFunc g vs.toArray).run P w = .ok (.value v) w' ∧ k9l I w (fun I' st' => ∃ p, vrep I' p v ∧ Q (.ret p) st') w'
def PCalls (P : Program) (g : FuncId) (ps : List PV) (st : q43) (Q : PEnd → q43 → Prop) : Prop := PEnter P g ps st Q ∨ PExt P g ps st Q
theorem PEnter.mono {P : Program} {g : FuncId} {ps : List PV} {st : q43} {Q Q' : PEnd → q43 → Prop} (h : PEnter P g ps st Q) (hq : ∀ e s, Q e s → Q' e s) : PEnter P g ps st Q' :=
 ⟨h.enters, fun I w vs h1 h2 => (h.out I w vs h1 h2).mono fun _ _ ⟨I', st', a, b, c, pe, d, q⟩ => ⟨I', st', a, b, c, pe, d, hq _ _ q⟩⟩
theorem PExt.mono {P : Program} {g : FuncId} {ps : List PV} {st : q43} {Q Q' : PEnd → q43 → Prop} (h : PExt P g ps st Q) (hq : ∀ e s, Q e s → Q' e s) : PExt P g ps st Q' :=
 ⟨fun I w vs h1 h2 => by
  obtain ⟨v, w', h3, I', st', a, b, c, p, d, q⟩ := h.out I w vs h1 h2
  exact ⟨v, w', h3, I', st', a, b, c, p, d, hq _ _ q⟩⟩
theorem PCalls.mono {P : Program} {g : FuncId} {ps : List PV} {st : q43} {Q Q' : PEnd → q43 → Prop} (h : PCalls P g ps st Q) (hq : ∀ e s, Q e s → Q' e s) : PCalls P g ps st Q' :=
 h.imp (·.mono hq) (·.mono hq)
structure PRound (P : Program) (l : Nat) (ps : List PV) (st : q43) (Q : PEnd → q43 → Prop) : Prop where
 out : ∀ I w vs, SRep I st w → vreps I ps vs → ∃ r : Loop, w.heap[l]? = some (.loop r) ∧ r.params.size = vs.length ∧
  RoundIn Fence.wide 0 P l r.fn ((r.params.zip vs.toArray).foldl (fun tmps (q : Tmp × Value) => tmps.setIfInBounds q.1 q.2) r.tmps) r.assign r.body w fun e => k9l I w (fun I' st' => ∃ pe, z1q I' pe e ∧ Q pe st')
theorem PRound.mono {P : Program} {l : Nat} {ps : List PV} {st : q43} {Q Q' : PEnd → q43 → Prop} (h : PRound P l ps st Q) (hq : ∀ e s, Q e s → Q' e s) : PRound P l ps st Q' :=
 ⟨fun I w vs h1 h2 => by
  obtain ⟨r, h3, h4, h5⟩ := h.out I w vs h1 h2
  exact ⟨r, h3, h4, h5.mono fun _ _ ⟨I', st', a, b, c, pe, d, q⟩ => ⟨I', st', a, b, c, pe, d, hq _ _ q⟩⟩⟩
def j18 (P : Program) (f : PV) (args : List PV) (st : q43) (Q : PEnd → q43 → Prop) : Prop :=
 match f with
 | .func (.func g) fs cs => PCalls P g (fs ++ args ++ cs) st Q
 | _ => False
def z8z (P : Program) (f : PV) (args : List PV) (st : q43) (Q : PEnd → q43 → Prop) : Prop :=
 match f with
 | .func (.func g) fs cs => PCalls P g (fs ++ args ++ cs) st Q
 | .func (.yield l) [] [] => PRound P l args st Q
 | _ => False
def q8h (K : PV → q43 → Prop) (QP : PV → q43 → Prop) : PEnd → q43 → Prop
 | .ret p, st => K p st
 | .panic p, st => QP p st
def k1x (b : Nat) : q43 → q43
 | [] => []
 | (c, o) :: st => if c = b then k1x b st else (c, o) :: k1x b st
def z0e (T : TypeId) (bytes k : Nat) (cs : List PV) (need : Nat) (st : q43) (K : PV → q43 → Prop) : Prop :=
 need * bytes ≤ 140737488355328 ∧ ∀ b cap, q5s st b → need ≤ cap → cap ≤ 9223372036854775807 → K (.own b 0 need cap) ((b, .arr T (cs ++ List.replicate ((cap - need) * k) .any)) :: st)
def k7i (T : TypeId) (bytes k : Nat) (p : PV) (new : List PV) (m : Nat) (st : q43) (K : PV → q43 → Prop) : Prop :=
 match p with
 | .val (.slice none 0 0) => if m = 0 then K p st else z0e T bytes k new m st K
 | .list t cs n => if m = 0 then K p st else t = true ∧ cs.length = n * k ∧ z0e T bytes k (cs ++ new) (n + m) st K
 | .val (.slice (some ⟨b, off, none⟩) n cap) =>
  match q5p st b with
  | some (.arr T' row) => T' = T ∧ off + cap * k ≤ row.length ∧ n ≤ cap ∧ cap ≤ 9223372036854775807 ∧
    ((off = 0 ∧ row.length = cap * k ∧ z0e T bytes k (row.take (n * k) ++ new) (n + m) (k1x b st) K) ∨
     ((n + m) * bytes ≤ 140737488355328 ∧ (n + m ≤ cap → K (.own b off (n + m) cap) (q71 st b (.arr T (q47 row (off + n * k) new)))) ∧
      (cap < n + m → z0e T bytes k ((row.drop off).take (n * k) ++ new) (n + m) st K)))
  | _ => False
 | _ => False
def j0c (T : TypeId) (bytes k : Nat) (cs : List PV) (need : Nat) (st : q43) (K : PV → q43 → Prop) : Prop :=
 need * bytes ≤ 140737488355328 ∧ ((∀ b cap, q5s st b → need ≤ cap → cap ≤ 9223372036854775807 → K (.own b 0 need cap) ((b, .arr T (cs ++ List.replicate ((cap - need) * k) .any)) :: st)) ∨ cs.length = need * k ∧ K (.list false cs need) st)
def q84 (T : TypeId) (bytes k : Nat) (p : PV) (new : List PV) (m : Nat) (st : q43) (K : PV → q43 → Prop) : Prop :=
 match p with
 | .val (.slice none 0 0) => if m = 0 then K p st else j0c T bytes k new m st K
 | .list t cs n => if m = 0 then K p st else t = true ∧ cs.length = n * k ∧ j0c T bytes k (cs ++ new) (n + m) st K
 | .val (.slice (some ⟨b, off, none⟩) n cap) =>
  match q5p st b with
  | some (.arr T' row) => T' = T ∧ off + cap * k ≤ row.length ∧ n ≤ cap ∧ cap ≤ 9223372036854775807 ∧
    ((off = 0 ∧ row.length = cap * k ∧ j0c T bytes k (row.take (n * k) ++ new) (n + m) (k1x b st) K) ∨
     ((n + m) * bytes ≤ 140737488355328 ∧ (n + m ≤ cap → K (.own b off (n + m) cap) (q71 st b (.arr T (q47 row (off + n * k) new)))) ∧
      (cap < n + m → j0c T bytes k ((row.drop off).take (n * k) ++ new) (n + m) st K)))
  | _ => False
 | _ => False
def j9j (v : MVal) (ρ : MX → PV) (st : q43) (K : PV → q43 → Prop) : Prop :=
 match v with
 | .buildSlice T len zs parts =>
  match q9j zs (parts.map fun q => (q.1, q.2.1, ρ q.2.2)) with
  | some cs => ∀ b, q5s st b → K (.own b 0 len len) ((b, .arr T cs) :: st)
  | none => False
 | _ => False
def j19 (k : Nat) (p : PV) (new : List PV) (m : Nat) (st : q43) (K : PV → q43 → Prop) : Prop :=
 match p with
 | .val (.slice none 0 0) => K (.int 0) st
 | .list _ _ 0 => K (.int 0) st
 | .val (.slice (some ⟨b, off, none⟩) n _) =>
  match q5p st b with
  | some (.arr T row) => off + min m n * k ≤ row.length ∧ K (.int (min m n : Nat)) (q71 st b (.arr T (q47 row off (new.take (min m n * k)))))
  | _ => False
 | _ => False
def z3n (neg : Bool) (nk : NK) (p : PV) (st : q43) (K : PV → q43 → Prop) : Prop :=
 match nk, p with
 | .slice, .val (.slice none _ _) | .iface, .val .nilIface | .map, .val (.map none) => K (.bool !neg) st
 | .slice, .list _ cs _ => (cs = [] → K (.bool !neg) st) ∧ K (.bool neg) st
 | .slice, .val (.slice (some _) _ _) | .iface, .iface _ _ | .map, .val (.map (some _)) | .map, .imap _ _ => K (.bool neg) st
 | _, _ => False
def z3o (k : Nat) (zs : List PV) (p : PV) (st : q43) (K : PV → q43 → Prop) : Prop :=
 match p with
 | .val (.slice none 0 0) => K .any st
 | .list _ _ 0 => K .any st
 | .val (.slice (some ⟨b, off, none⟩) n _) =>
  match q5p st b with
  | some (.arr T row) => off + n * k ≤ row.length ∧ K .any (q71 st b (.arr T (q47 row off (List.replicate n zs).flatten)))
  | _ => False
 | _ => False
def z80 (p : PV) (st : q43) (K : PV → q43 → Prop) : Prop :=
 match p with
 | .val (.map (some m)) =>
  match q5p st m with
  | some (.map ks vs) => ∀ bs clock r, bs.length = ks.length → bs.Nodup → (∀ b ∈ bs, b < clock) → q5s st r → K (.ptr r 0) ((r, .iter m bs clock []) :: q71 st m (.mapB ks vs bs clock))
  | _ => False
 | _ => False
def j5x (p : PV) (st : q43) (K : PV → q43 → Prop) : Prop :=
 match p with
 | .val (.pointer (some ⟨r, 0, none⟩)) =>
  match q5p st r with
  | some (.iter m bs clock vis) =>
   match q5p st m with
   | some (.mapB ks vs bs' clock') => bs' = bs ∧ clock' = clock ∧ bs.length = ks.length ∧ vs.length = ks.length ∧ bs.Nodup ∧ (∀ b ∈ bs, b < clock) ∧ (∀ j ∈ vis, j < ks.length) ∧
     ((∀ j, j < ks.length → j ∈ vis) → K (.tuple [.bool false]) st) ∧
     (∀ j k v, ks[j]? = some k → vs[j]? = some v → j ∉ vis → K (.tuple [.bool true, .val k, v]) (q71 st r (.iter m bs clock (vis ++ [j]))))
   | _ => False
  | _ => False
 | _ => False
def z81 (p : PV) (st : q43) (K : PV → q43 → Prop) : Prop :=
 match p with
 | .val (.pointer (some ⟨r, 0, none⟩)) =>
  match q5p st r with
  | some (.iter m bs clock vis) =>
   match q5p st m with
   | some (.mapB ks vs bs' clock') => bs' = bs ∧ clock' = clock ∧ bs.length = ks.length ∧ vs.length = ks.length ∧ bs.Nodup ∧
     ∃ vis' j k v, vis = vis' ++ [j] ∧ ks[j]? = some k ∧ vs[j]? = some v ∧ K (.tuple [.val k, v]) st
   | _ => False
  | _ => False
 | _ => False
def mop (P : Program) (op : MOp) (ρ : MX → PV) (st : q43) (K QP : PV → q43 → Prop) : Prop :=
 match op with
 | .val v => (q6u v ρ st fun p => K p st) ∨ j9j v ρ st K
 | .alloc T zs => ∀ b, q5s st b → K (.ptr b 0) ((b, .arr T zs) :: st)
 | .box T x =>
  match (ρ x).cells with
  | some cs => ∀ b, q5s st b → K (.ptr b 0) ((b, .arr T cs) :: st)
  | none => False
 | .store k x y =>
  match ρ x, (ρ y).cells with
  | .val (.pointer (some ⟨b, off, none⟩)), some ps =>
   match q5p st b with
   | some (.arr T cs) => ps.length = k ∧ off + k ≤ cs.length ∧ K .any (q71 st b (.arr T (q47 cs off ps)))
   | _ => False
  | _, _ => False
 | .call f args => z8z P (ρ f) (args.map ρ) st (q8h K QP)
 | .panic x =>
  match ρ x with
  | .iface T p => QP (.iface T p) st
  | _ => False
 | .append T bytes k x y =>
  match q6a k st (ρ y) with
  | some (new, m) => q84 T bytes k (ρ x) new m st K
  | none => False
 | .appendZ T bytes k zs x n =>
  match ρ n with
  | .val (.int _ m) => 0 ≤ m ∧ m ≤ 9223372036854775807 ∧ q84 T bytes k (ρ x) (List.replicate m.toNat zs).flatten m.toNat st K
  | _ => False
 | .mkSlice T bytes _ zs len cap =>
  match ρ len, ρ cap with
  | .val (.int _ l), .val (.int _ c) => 0 ≤ l ∧ l ≤ c ∧ c * bytes ≤ 281474976710656 ∧ c ≤ 9223372036854775807 ∧
    ∀ b, q5s st b → K (.own b 0 l.toNat c.toNat) ((b, .arr T (List.replicate c.toNat zs).flatten) :: st)
  | _, _ => False
 | .copy k x y =>
  match q6a k st (ρ y) with
  | some (new, m) => j19 k (ρ x) new m st K
  | none => False
 | .eqNil neg nk x => z3n neg nk (ρ x) st K
 | .mkMap => ∀ b, q5s st b → K (.val (.map (some b))) ((b, .map [] []) :: st)
 | .mapSet lk m k v =>
  match ρ m, (ρ k).key? with
  | .val (.map (some b)), some kv =>
   match q5p st b with
   | some (.map ks vs) =>
    q7t lk kv = true ∧
    match k1w lk kv ks with
    | some (some j) => K .any (q71 st b (.map (ks.set j kv) (vs.set j (ρ v))))
    | some none => K .any (q71 st b (.map (ks ++ [kv]) (vs ++ [ρ v])))
    | none => False
   | _ => False
  | _, _ => False
 | .delete lk m k =>
  match ρ m, (ρ k).key? with
  | .val (.map (some b)), some kv =>
   match q5p st b with
   | some (.map ks vs) =>
    q7t lk kv = true ∧
    match k1w lk kv ks with
    | some (some j) => K .any (q71 st b (.map (ks.eraseIdx j) (vs.eraseIdx j)))
    | some none => K .any st
    | none => False
   | _ => False
  | _, _ => False
 | .clear k zs x => z3o k zs (ρ x) st K
 | .rangeMap x => z80 (ρ x) st K
 | .next x => j5x (ρ x) st K
 | .entry x => z81 (ρ x) st K
 | .defer _ _ => False
 | .bytes x =>
  match ρ x with
  | .val (.string s) => s.size ≤ 140737488355328 ∧ K (.list false (k05 s) s.size) st
  | _ => False
structure PS where
 env : Env
 st : q43
 deriving Inhabited
def z1r (e : Env) (t : Nat) (b : Bool) : Env := q9x e (some t) (.bool b)
def z3p (P : Program) : List MInst → PS → (PS → Prop) → (PV → q43 → Prop) → Prop
 | [], s, K, _ => K s
 | i :: rest, s, K, QP =>
  match i.guard with
  | none => mop P i.op (q5u s.env) s.st (fun p st => z3p P rest ⟨q9x s.env i.dst p, st⟩ K QP) QP
  | some (t, want) =>
   match q50 s.env t with
   | .val (.bool c) =>
    (c = want → mop P i.op (q5u (z1r s.env t want)) s.st (fun p st => z3p P rest ⟨q9x (z1r s.env t want) i.dst p, st⟩ K QP) QP) ∧
    (c = (!want) → z3p P rest ⟨q9x (z1r s.env t !want) i.dst .undef, s.st⟩ K QP)
   | .val (.tuple _) => z3p P rest ⟨q9x s.env i.dst .undef, s.st⟩ K QP
   | _ => False
inductive DFlag where
 | early
 | late
 | hard
 | last
 deriving Inhabited, DecidableEq
def q8y : MVal → Bool
 | .load .. | .maplen _ | .lookup .. | .strOf _ => true
 | _ => false
def z6l (P : Program) (op : MOp) (e : Env) (st : q43) (K : PV → Prop) (QP : PV → q43 → Prop) : Prop :=
 match op with
 | .val v => q6u v (q5u e) st K
 | .call f args => ∃ p, j18 P (q5u e f) (args.map (q5u e)) st (fun en st' => st' = st ∧ (en = .ret p ∨ ∃ q, en = .panic q ∧ QP q st)) ∧ K p
 | _ => False
def z6m (P : Program) (Cl : q43 → Prop) (op : MOp) (e : Env) (K : PV → Prop) (QP : PV → q43 → Prop) : Prop :=
 match op with
 | .val v => ∃ p, (if q8y v then ∀ st, Cl st → q6u v (q5u e) st (fun q => q = p) else q6u v (q5u e) [] (fun q => q = p)) ∧ K p
 | .call f args => ∃ p, (∀ st, Cl st → j18 P (q5u e f) (args.map (q5u e)) st (fun en st' => st' = st ∧ (en = .ret p ∨ ∃ q, en = .panic q ∧ QP q st))) ∧ K p
 | _ => False
def mdraw (P : Program) (Cl : q43 → Prop) : List (DFlag × MInst) → PS → (PS → Prop) → (PV → q43 → Prop) → Prop
 | [], s, K, _ => K s
 | (fl, i) :: rest, s, K, QP =>
  match i.guard with
  | none => one fl i s (fun p st => mdraw P Cl rest ⟨q9x s.env i.dst p, st⟩ K QP) QP
  | some (t, want) =>
   match q50 s.env t with
   | .val (.bool c) =>
    (c = want → one fl i ⟨z1r s.env t want, s.st⟩ (fun p st => mdraw P Cl rest ⟨q9x (z1r s.env t want) i.dst p, st⟩ K QP) QP) ∧
    (c = (!want) → mdraw P Cl rest ⟨q9x (z1r s.env t !want) i.dst .undef, s.st⟩ K QP)
   | .val (.tuple _) => mdraw P Cl rest ⟨q9x s.env i.dst .undef, s.st⟩ K QP
   | _ => False
where
 one (fl : DFlag) (i : MInst) (s : PS) (K : PV → q43 → Prop) (QP : PV → q43 → Prop) : Prop :=
  match fl with
  | .early => z6l P i.op s.env s.st (fun p => K p s.st) QP
  | .late => z6m P Cl i.op s.env (fun p => K p s.st) QP
  | .hard => mop P i.op (q5u s.env) s.st (fun p st => Cl st ∧ K p st) QP
  | .last => mop P i.op (q5u s.env) s.st K QP
def Cls (st0 : q43) (M : List Nat) (st : q43) : Prop := ∀ b, b ∉ M → ∀ o, q5p st0 b = some o → q5p st b = some o
inductive MCode where
 | skip
 | region (l : List MInst) (kill : List Nat)
 | draw (late : Bool) (l : List (DFlag × MInst)) (kill : List Nat)
 | draw2 (pre a b : List (DFlag × MInst)) (kill : List Nat)
 | seq (a b : MCode)
 | cond (c : MX) (a b : MCode)
 | block (id : Nat) (c : MCode)
 | loop (c : MCode)
 | rangeFunc (g : MX) (params : List Nat) (a b : MCode)
 | exit (id : Nat)
 | ret
 deriving Inhabited
inductive MExit where
 | normal
 | exit (id : Nat)
 | ret
 | panic (p : PV)
 deriving Inhabited
abbrev q6w := MExit → PS → Prop
def j0d (K : PS → Prop) (Q : q6w) : q6w
 | .normal, s => K s
 | e, s => Q e s
def z1s (id : Nat) (Q : q6w) : q6w
 | .exit j, s => if j = id then Q .normal s else Q (.exit j) s
 | e, s => Q e s
def q6j (Q : q6w) (p : PV) (st : q43) : Prop := Q (.panic p) ⟨[], st⟩
def z1t (V : PS → PS → Prop) (body : q6w → PS → Prop) (Q : q6w) (s : PS) : Prop :=
 ∃ (J : Nat → PS → Prop), (∃ n s', V s s' ∧ J n s') ∧ ∀ n s, J n s → body (j0d (fun s1 => ∃ m, m < n ∧ ∃ s', V s1 s' ∧ J m s') Q) s
def View (s s' : PS) : Prop :=
 ∀ (I : Imm) (tmps : Array Value) (w : World), (∀ t, vrep I (q50 s.env t) (tmps.getD t undef)) → SRep I s.st w →
  ∃ I', I.le I' ∧ (∀ t, vrep I' (q50 s'.env t) (tmps.getD t undef)) ∧ SRep I' s'.st w
inductive MRes where
 | tmp (t : Nat)
 | cell (t k : Nat) (agg : Bool)
 deriving Inhabited
def j9k (s : PS) (r : MRes) (K : PV → Prop) : Prop :=
 match r with
 | .tmp t => K (q50 s.env t)
 | .cell t k agg => q6u (.load k agg (.tmp t)) (q5u s.env) s.st K
def y1q (s : PS) : List MRes → (List PV → Prop) → Prop
 | [], K => K []
 | r :: rs, K => j9k s r fun p => y1q s rs fun ps => K (p :: ps)
def k2e : List PV → PV
 | [p] => p
 | ps => .tuple ps
structure Sees (p : PV) (st : q43) (p' : PV) (st' : q43) : Prop where
 out : ∀ I w v, SRep I st w → vrep I p v → ∃ I', I.le I' ∧ SRep I' st' w ∧ vrep I' p' v
def RetView (c : PV → PEnd) (p : PV) (st : q43) (Q : PEnd → q43 → Prop) : Prop := ∃ p' st', Sees p st p' st' ∧ Q (c p') st'
structure MFunc where
 ntmps : Nat
 nparams : Nat
 results : List MRes
 body : MCode
def q6m : Nat → List PV → Env
 | _, [] => []
 | t, p :: ps => (t, p) :: q6m (t + 1) ps
def k07 (rs : List MRes) (R E : PV → q43 → Prop) : q6w
 | .normal, s | .ret, s => y1q s rs fun ps => R (k2e ps) s.st
 | .panic p, s => E p s.st
 | .exit _, _ => False
end Go.Pv

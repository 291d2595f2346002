/- The compact code is met by the model's own: maps. -/
import Derived.Test.YtmlmoaimjifpgaaGreatLSn
namespace Go.Pv
variable {P:Program}
def z7i (P:Program)(d:Nat):Prop:=∀ (T:TypeId) (ks:List LK),k0o P d T=some ks->∀ (empty:Bool) (e:Nat) (us:List Value) (w:World),us.length=ks.length ->
 (Instr.checkKey empty (d+e) T (mkV (q7g P T) us)).run P w=.ok () w
theorem k49 {d:Nat}(ih:z7i P d)(empty:Bool)(e:Nat)(us:List Value)(w:World):∀ (fs:List Field) (cur:Nat) (ks:List LK),q9c (k0o P d) P cur fs=some ks ->
  cur+ks.length<=us.length ->
  (forIn fs PUnit.unit (fun f (_ : PUnit) => if f.name ≠ "_" then (do
    let a <-part f.type us.toArray f.offset
    Instr.checkKey empty (d+e) f.type a
    pure (ForInStep.yield PUnit.unit)) else pure (ForInStep.yield PUnit.unit)):Sem PUnit).run P w=.ok PUnit.unit w
 | [],cur,ks,h,hu=>by simp
 | f::fs,cur,ks,h,hu=>by
  simp only [q9c] at h
  split at h
  ·rename_i k1 hk1
   split at h
   ·rename_i hcond
    obtain⟨hn,hoff,hok⟩:=hcond
    simp only [Option.map_eq_some_iff] at h
    obtain⟨k2,hk2,rfl⟩:=h
    obtain⟨a,hl,ha1⟩:=q9b hok
    simp only [List.length_append] at hu
    have h1:=ih f.type k1 hk1 empty e ((us.drop cur).take k1.length) w (by rw [List.length_take,List.length_drop]; omega)
    rw [k48 hl] at h1
    simp only [List.forIn_cons,if_pos hn,Sem.run_bind,hoff,k3m hl ha1 (show cur+k1.length<=us.length by omega),Result.andThen_ok,h1,Sem.run_pure]
    exact k49 ih empty e us w fs (cur+k1.length) k2 hk2 (by omega)
   ·cases h
  ·cases h
theorem z03 {d:Nat}(ih:z7i P d){el:TypeId}{ks:List LK}(hk:k0o P d el=some ks)(hok:z02 P el ks.length=true)(empty:Bool)(e:Nat)(us:List Value)(w:World) :
  ∀ (n i:Nat),(i+n)*ks.length<=us.length ->
  (forIn (List.range' i n) PUnit.unit (fun j (_:PUnit)=>(do
    let sz <-sizeOf el
    let a <-part el us.toArray (j*sz)
    Instr.checkKey empty (d+e) el a
    pure (ForInStep.yield PUnit.unit))):Sem PUnit).run P w=.ok PUnit.unit w
 | 0,i,_=>by simp
 | n+1,i,hu=>by
  obtain⟨a,hl,ha1⟩:=q9b hok
  have hb:i*ks.length+ks.length<=us.length:=by
   have:(i+1)*ks.length<=(i+(n+1))*ks.length:=Nat.mul_le_mul_right _ (by omega)
   rw [Nat.succ_mul] at this
   omega
  have h1:=ih el ks hk empty e ((us.drop (i*ks.length)).take ks.length) w (by rw [List.length_take,List.length_drop]; omega)
  rw [k48 hl] at h1
  simp only [List.range'_succ,List.forIn_cons,Sem.run_bind,q6n hl,Result.andThen_ok,k3m hl ha1 hb,h1,Sem.run_pure]
  exact z03 ih hk hok empty e us w n (i+1) (by rw [show i+1+n=i+(n+1) by omega]; exact hu)
theorem k4i:∀ d,z7i P d
 | 0=>by intro T ks h; cases h
 | d+1=>by
  intro T ks h empty e us w hu
  rw [show d+1+e=(d+e)+1 by omega]
  simp only [k0o] at h
  split at h
  ·rename_i k0 hud
   simp [Instr.checkKey,run_underlying hud]
  ·rename_i hud
   simp [Instr.checkKey,run_underlying hud]
  ·rename_i hud
   simp [Instr.checkKey,run_underlying hud]
  ·rename_i fs hud
   split at h
   ·cases h
   ·have ha:q7g P T=true:=by unfold q7g; rw [hud]; rfl
    rw [ha]
    have:=k49 (k4i d) empty e us w fs.toList 0 ks h (by omega)
    simp only [mkV,if_true]
    simp [Instr.checkKey,run_underlying hud] at this ⊢
    exact this
  ·rename_i n el hud
   split at h
   ·rename_i k1 hk1
    split at h
    ·rename_i hok
     simp only [Option.some.injEq] at h
     subst h
     have ha:q7g P T=true:=by unfold q7g; rw [hud]; rfl
     rw [ha]
     obtain⟨a,hl,ha1⟩:=q9b hok
     have:=z03 (k4i d) hk1 hok empty e us w n 0 (by simp at hu ⊢; omega)
     simp only [mkV,if_true]
     simp [Instr.checkKey,run_underlying hud,Std.Legacy.Range.forIn_eq_forIn_range',Std.Legacy.Range.size] at this ⊢
     exact this
    ·cases h
   ·cases h
  ·cases h
theorem j1l (l:LK)(u v:Value):k1b l (.val u) (.val v)=k1c l u v:=by
 cases l <;> cases u <;> cases v <;> rfl
theorem k4j:∀ (ls:List LK) (us vs:List Value),q6c ls (us.map .val) (vs.map .val)=q51 ls us vs
 | [],[],[]=>rfl
 | [],[],_::_=>rfl
 | [],_::_,_=>rfl
 | _::_,[],_=>rfl
 | _::_,_::_,[]=>rfl
 | l::ls,u::us,v::vs=>by
  simp only [List.map_cons,q6c,q51,j1l,k4j ls us vs]
  cases k1c l u v <;> cases q51 ls us vs <;> rfl
theorem z7j {l:LK}{u v:Value}(h:k1c l u v=some true):u=v:=by
 cases l <;> cases u <;> cases v <;> simp only [k1c,reduceCtorEq] at h
 ·split at h
  ·rename_i e; subst e; simpa using h
  ·cases h
 ·simpa using h
 ·rename_i a b
  have h:(a.toList == b.toList)=true:=by simpa using h
  rw [ByteArray.toList_eq,ByteArray.toList_eq] at h
  have:=ByteArray.ext (Array.ext' (eq_of_beq h))
  rw [this]
theorem k2u:∀ {ls:List LK} {us vs:List Value},q51 ls us vs=some true->us=vs
 | [],[],[],_=>rfl
 | [],[],_::_,h=>by simp [q51] at h
 | [],_::_,_,h=>by simp [q51] at h
 | _::_,[],_,h=>by simp [q51] at h
 | _::_,_::_,[],h=>by simp [q51] at h
 | l::ls,u::us,v::vs,h=>by
  simp only [q51] at h
  split at h
  ·rename_i a b ha hb
   simp only [Option.some.injEq,Bool.and_eq_true] at h
   obtain⟨rfl,rfl⟩:=h
   rw [z7j ha,k2u hb]
  ·cases h
theorem k97 (s:ByteArray):(s == s)=true:=by
 show (s.data == s.data)=true
 simp
theorem j3p (s t:ByteArray):(s == t)=(s.toList == t.toList):=by
 show (s.data == t.data)=_
 rw [ByteArray.toList_eq,ByteArray.toList_eq]
 by_cases h:s.data=t.data
 ·simp [h]
 ·simp
theorem k5a {l:LK}{u v:Value}{b:Bool}(h:k1c l u v=some b)(n:Nat):Instr.sameBits n u u=true:=by
 cases l <;> cases u <;> cases v <;> simp only [k1c,reduceCtorEq] at h <;> simp [Instr.sameBits]
 exact k97 _
theorem k38 {n:Nat}:∀ {ls:List LK} {us vs:List Value} {b:Bool},q51 ls us vs=some b->(us.zip us).all (fun (x,y)=>Instr.sameBits n x y)=true
 | [],[],[],_,_=>rfl
 | [],[],_::_,_,h=>by simp [q51] at h
 | [],_::_,_,_,h=>by simp [q51] at h
 | _::_,[],_,_,h=>by simp [q51] at h
 | _::_,_::_,[],_,h=>by simp [q51] at h
 | l::ls,u::us,v::vs,b,h=>by
  simp only [q51] at h
  split at h
  ·rename_i a b' ha hb
   simp only [List.zip_cons_cons,List.all_cons,k5a ha,k38 hb,Bool.and_self]
  ·cases h
theorem k1x {kp:KP}{u v:Value}{b:Bool}(h:q6c kp.2 (q6m kp.1 u) (q6m kp.1 v)=some b):∃ us vs,u=mkV kp.1 us/\v=mkV kp.1 vs/\q51 kp.2 us vs=some b/\us.length=kp.2.length:=by
 obtain⟨a,lk⟩:=kp
 cases a with
 | false=>
  have e1:∀ x,q6m false x=[x].map .val:=fun x=>by cases x <;> rfl
  rw [e1,e1,k4j] at h
  exact⟨[u],[v],rfl,rfl,h,(q6y h).1⟩
 | true=>
  have bad:∀ (l:List LK) (q:List PV),q6c l [.any] q=none:=by
   intro l q
   cases l with
   | nil=>rfl
   | cons k l=>
    cases q with
    | nil=>rfl
    | cons p q=>
     have:k1b k .any p=none:=by cases k <;> rfl
     simp [q6c,this]
  have bad2:∀ (l:List LK) (q:List PV),q6c l q [.any]=none:=by
   intro l q
   cases l with
   | nil=>cases q <;> rfl
   | cons k l=>
    cases q with
    | nil=>rfl
    | cons p q=>
     have:k1b k p .any=none:=by cases k <;> cases p <;> first | rfl | (rename_i v; cases v <;> rfl)
     simp [q6c,this]
  cases u with
  | agg cs=>
   cases v with
   | agg ds=>
    simp only [q6m] at h
    rw [k4j] at h
    exact⟨cs.toList,ds.toList,by simp [mkV],by simp [mkV],h,(q6y h).1⟩
   | _=>simp only [q6m,bad2] at h; cases h
  | _=>simp only [q6m,bad] at h; cases h
def q8i (P:Program)(T:TypeId):Option KP:=(k0o P 12 T).map fun ks=>(q7g P T,ks)
theorem z04 {T:TypeId}{kp:KP}(hk:q8i P T=some kp){d:TypeDesc}(hd:P.underlying T=some d){u v:Value}{b x:Bool}(h:q6c kp.2 (q6m kp.1 u) (q6m kp.1 v)=some b)
  (hx:Instr.sameNow d u v=some x):x=b:=by
 simp only [q8i,Option.map_eq_some_iff] at hk
 obtain⟨ks,hks,rfl⟩:=hk
 simp only [k0o,hd] at hks
 unfold Instr.sameNow at hx
 split at hx
 ·simp only [Option.some.injEq] at hks
  subst hks
  have ha:q7g P T=false:=by unfold q7g; rw [hd]; rfl
  rw [ha] at h
  simp only [q6m,q6c,k1b] at h
  split at hx
  ·rename_i hkk
   simp only [hkk,if_true,Option.some.injEq,Bool.and_true] at h hx
   rw [<-hx,<-h]
  ·cases hx
 ·simp only [Option.some.injEq] at hks
  subst hks
  have ha:q7g P T=false:=by unfold q7g; rw [hd]; rfl
  rw [ha] at h
  simp only [q6m,q6c,k1b,Option.some.injEq,Bool.and_true] at h hx
  rw [<-hx,<-h,j3p]
 ·simp only [Option.some.injEq] at hks
  subst hks
  have ha:q7g P T=false:=by unfold q7g; rw [hd]; rfl
  rw [ha] at h
  simp only [q6m,q6c,k1b,Option.some.injEq,Bool.and_true] at h hx
  rw [<-hx,<-h]
 ·cases hx
def k2v (es:List MapEntry)(i:Nat)(r:Option Nat):Option (Nat × Value):=r.map fun j=>(i+j,((es[j]?).map (·.val)).getD undef)
theorem z05 (e:MapEntry)(es:List MapEntry)(i:Nat)(r:Option Nat):k2v (e::es) i (r.map (·+1))=k2v es (i+1) r:=by
 cases r <;> simp [k2v]; omega
theorem k7b {T:TypeId}{kp:KP}(hk:q8i P T=some kp){d:TypeDesc}(hd:P.underlying T=some d){kv:Value}:∀ (es:List MapEntry) (i:Nat) (r:Option Nat),k36 kp kv (es.map (·.key))=some r ->
  Instr.findNow d kv es i=none\/Instr.findNow d kv es i=some (k2v es i r)
 | [],i,r,h=>by
  simp only [List.map_nil,k36,Option.some.injEq] at h
  subst h
  exact .inr rfl
 | e::es,i,r,h=>by
  simp only [List.map_cons,k36] at h
  unfold Instr.findNow
  cases hx:Instr.sameNow d kv e.key with
  | none=>exact .inl rfl
  | some x=>
   split at h
   ·rename_i hb
    obtain rfl:=z04 hk hd hb hx
    simp only [Option.some.injEq] at h
    subst h
    exact .inr (by simp [k2v])
   ·rename_i hb
    obtain rfl:=z04 hk hd hb hx
    simp only [Option.map_eq_some_iff] at h
    obtain⟨r',hr',rfl⟩:=h
    rw [z05]
    exact k7b hk hd es (i+1) r' hr'
   ·cases h
theorem k39 {T:TypeId}{kp:KP}(hk:q8i P T=some kp){kv:Value}{w:World}:∀ (es:List MapEntry) (i:Nat) (r:Option Nat),k36 kp kv (es.map (·.key))=some r ->
  (Instr.findAsking T kv es i).run P w=.ok (k2v es i r) w
 | [],i,r,h=>by
  simp only [List.map_nil,k36,Option.some.injEq] at h
  subst h
  rfl
 | e::es,i,r,h=>by
  simp only [List.map_cons,k36] at h
  have eqr:∀ b,q6c kp.2 (q6m kp.1 kv) (q6m kp.1 e.key)=some b->(Op.equal T kv e.key).run P w=.ok b w:=by
   intro b hb
   obtain⟨us,vs,h1,h2,h3, -⟩:=k1x hb
   simp only [q8i,Option.map_eq_some_iff] at hk
   obtain⟨ks,hks,rfl⟩:=hk
   have:=k3n 12 T ks hks 9988 us vs b w h3
   rw [h1,h2]
   exact this
  split at h
  ·rename_i hb
   simp only [Option.some.injEq] at h
   subst h
   simp [Instr.findAsking,eqr _ hb,k2v]
  ·rename_i hb
   simp only [Option.map_eq_some_iff] at h
   obtain⟨r',hr',rfl⟩:=h
   simp only [Instr.findAsking,Sem.run_bind,eqr _ hb,Result.andThen_ok,Bool.false_eq_true,if_false]
   rw [z05]
   exact k39 hk es (i+1) r' hr'
  ·cases h
theorem k4k {T:TypeId}{kp:KP}(hk:q8i P T=some kp){kv:Value}{w:World}{es:List MapEntry}{r:Option Nat}(h:k36 kp kv (es.map (·.key))=some r) :
  (Instr.findKey T kv es).run P w=.ok (k2v es 0 r) w:=by
 have:∃ d,P.underlying T=some d:=by
  simp only [q8i,Option.map_eq_some_iff] at hk
  obtain⟨ks,hks,rfl⟩:=hk
  simp only [k0o] at hks
  split at hks <;> first | exact⟨_,by assumption⟩| cases hks
 obtain⟨d,hd⟩:=this
 simp only [Instr.findKey,Sem.run_bind,run_underlying hd,Result.andThen_ok]
 rcases k7b hk hd es 0 r h with h1 | h1 <;> rw [h1]
 ·exact k39 hk es 0 r h
 ·rfl
theorem z06 {I:Imm}:∀ {cs:List PV} {us vs:List Value},PV.vals? cs=some us->vcells I cs vs->vs=us
 | [],us,vs,h,hv=>by
  simp only [PV.vals?,Option.some.injEq] at h
  subst h
  cases vs with
  | nil=>rfl
  | cons=>simp [vcells] at hv
 | .val v::cs,us,vs,h,hv=>by
  simp only [PV.vals?,Option.map_eq_some_iff] at h
  obtain⟨us',h1,rfl⟩:=h
  cases vs with
  | nil=>simp [vcells] at hv
  | cons w ws=>
   simp only [vcells,vrep] at hv
   rw [hv.1.1,z06 h1 hv.2]
 | .any::_,_,_,h,_ | .agg _::_,_,_,h,_ | .tuple _::_,_,_,h,_ | .list _ _ _::_,_,_,h,_ | .iptr _ _::_,_,_,h,_ | .imap _ _::_,_,_,h,_ | .func _ _ _::_,_,_,h,_ | .iface _ _::_,_,_,h,_=>by simp [PV.vals?] at h
theorem k8m {I:Imm}{p:PV}{v kv:Value}(hv:vrep I p v)(h:p.key?=some kv):v=kv:=by
 unfold PV.key? at h
 split at h
 ·simp only [Option.some.injEq] at h
  subst h
  simpa [vrep] using hv
 ·simp only [Option.map_eq_some_iff] at h
  obtain⟨vs,h1,rfl⟩:=h
  simp only [vrep] at hv
  obtain⟨ws,rfl,hc⟩:=hv
  rw [z06 h1 hc]
 ·cases h
theorem q9d {r:Nat}{es:Array MapEntry}{clock:Nat}{w:World}(h:w.heap[r]?=some (.map es clock)):(getObj r).run P w=.ok (.map es clock) w:=by
 simp [getObj,Sem.run,h]
theorem j1m {I:Imm}{st:q5f}{w:World}(hs:SRep I st w){p:PV}{v:Value}(hv:vrep I p v){ks:List Value}{vs:List PV}(h:z2e st p=some (ks,vs)) :
  ∃ es:Array MapEntry,es.toList.map (·.key)=ks/\vreps I vs (es.toList.map (·.val))/\((v=.map none/\es=#[])\/∃ r clock,v=.map (some r)/\w.heap[r]?=some (.map es clock)):=by
 unfold z2e at h
 split at h
 ·simp only [Option.some.injEq,Prod.mk.injEq] at h
  obtain⟨rfl,rfl⟩:=h
  simp only [vrep] at hv
  obtain⟨r,es,clock,rfl,h1,h2,h3⟩:=hv
  exact⟨es,h2,h3,.inr ⟨r,clock,rfl,hs.imm _ _ h1⟩⟩
 ·simp only [Option.some.injEq,Prod.mk.injEq] at h
  obtain⟨rfl,rfl⟩:=h
  simp only [vrep] at hv
  exact⟨#[],rfl,by simp [vreps],.inl ⟨hv,rfl⟩⟩
 ·rename_i b
  split at h
  ·rename_i ks' vs' hb
   simp only [Option.some.injEq,Prod.mk.injEq] at h
   obtain⟨rfl,rfl⟩:=h
   simp only [vrep] at hv
   obtain⟨-,r,h1,es,clock,rfl,h2,h3, -⟩:=hs.objs b _ hb
   exact⟨es,h2,h3,.inr ⟨b,clock,hv,h1⟩⟩
  ·cases h
 ·cases h
theorem k2w {T:TypeId}{kp:KP}(hk:q8i P T=some kp){us:List Value}(hl:us.length=kp.2.length)(empty:Bool)(w:World):(Instr.checkKey empty 10000 T (mkV kp.1 us)).run P w=.ok () w:=by
 simp only [q8i,Option.map_eq_some_iff] at hk
 obtain⟨ks,hks,rfl⟩:=hk
 exact k4i 12 T ks hks empty 9988 us w hl
theorem k2x {kp:KP}{kv:Value}(h:q8h kp kv=true):∃ us,kv=mkV kp.1 us/\us.length=kp.2.length:=by
 obtain⟨a,lk⟩:=kp
 cases a with
 | false=>exact⟨[kv],rfl,by simp [q8h] at h; simp [h]⟩
 | true=>
  cases kv <;> simp only [q8h,Bool.false_eq_true] at h
  rename_i cs
  exact⟨cs.toList,by simp [mkV],by simpa using h⟩
theorem z7k {kp:KP}{kv:Value}:∀ {ks:List Value} {j:Nat},k36 kp kv ks=some (some j)->j<ks.length
 | [],j,h=>by simp [k36] at h
 | k::ks,j,h=>by
  simp only [k36] at h
  split at h
  ·simp only [Option.some.injEq] at h; subst h; simp
  ·simp only [Option.map_eq_some_iff] at h
   obtain⟨r,hr,h⟩:=h
   cases r with
   | none=>simp at h
   | some j'=>
    simp only [Option.some.injEq] at h
    obtain⟨_,rfl,rfl⟩:=h
    have:=z7k hr
    simp; omega
  ·cases h
theorem k7c {t kt et:TypeId}(ht:P.underlying t=some (.map kt et)){kp:KP}(hk:q8i P kt=some kp){i:TypeInfo}{z:Value}(hi:P.info? et=some i)(hz:i.zero=some z)(hzc:k4h z=true)
  {I:Imm} {st:q5f} {w:World} (hs:SRep I st w) {p q:PV} {v x:Value} (hp:vrep I p v) (hq:vrep I q x) {ks:List Value} {vs:List PV} {kv:Value} (h1:z2e st p=some (ks,vs)) (h2:q.key?=some kv)
  (hf:q8h kp kv=true) {r:Option Nat} (h3:k36 kp kv ks=some r) (ok:Bool) {pr:PV} (hpr:match r with | some j=>vs[j]?=some pr | none=>pr=j3n z) :
  ∃ u,(Instr.lookup t v x ok).run P w=.ok u w/\vrep I (if ok then .tuple [pr,.bool r.isSome] else pr) u:=by
 obtain⟨es,he1,he2,hv⟩:=j1m hs hp h1
 obtain rfl:=k8m hq h2
 obtain⟨us,hus,hul⟩:=k2x hf
 have hck:=k2w hk hul es.isEmpty w
 rw [<-hus] at hck
 have hfk:=k4k (w:=w) hk (es:=es.toList) (by rw [he1]; exact h3)
 have key:∃ u,vrep I pr u/\(Instr.lookup t v x ok).run P w=.ok (if ok then .tuple #[u,.bool r.isSome] else u) w:=by
  have hes:(match v with
    | .map none=>(pure #[]:Sem (Array MapEntry))
    | .map (some r)=>do
     let .map es _ ← getObj r | stuck "Lookup: map expected"
     pure es
    | _ => stuck "Lookup: map expected").run P w = .ok es w := by
   rcases hv with⟨rfl,rfl⟩|⟨b,clock,rfl,hb⟩
   ·rfl
   ·simp [q9d hb]
  cases r with
  | some j=>
   simp only at hpr
   obtain⟨u,hu1,hu2⟩:=k2r he2 hpr
   refine⟨u,hu2, ?_⟩
   have hfound:k2v es.toList 0 (some j)=some (j,u):=by
    rw [List.getElem?_map] at hu1
    simp only [k2v,Option.map_some,Nat.zero_add,hu1,Option.getD_some]
   rw [hfound] at hfk
   rcases hv with⟨rfl,rfl⟩|⟨b,clock,rfl,hb⟩
   ·simp at hu1
   ·simp [Instr.lookup,run_underlying ht,q9d hb,hck,hfk]
  | none=>
   simp only at hpr
   subst hpr
   refine⟨z,k47 hzc, ?_⟩
   have hfound:k2v es.toList 0 none=none:=rfl
   rw [hfound] at hfk
   rcases hv with⟨rfl,rfl⟩|⟨b,clock,rfl,hb⟩
   ·simp at hck hfk
    simp [Instr.lookup,run_underlying ht,hck,hfk,q6x hi hz]
   ·simp [Instr.lookup,run_underlying ht,q9d hb,hck,hfk,q6x hi hz]
 obtain⟨u,hu1,hu2⟩:=key
 refine⟨_,hu2, ?_⟩
 cases ok with
 | true=>
  simp only [if_true,vrep]
  exact⟨[u,.bool r.isSome],rfl,by simp [vreps,vrep,hu1]⟩
 | false=>simpa using hu1
end Go.Pv

/- The compact code is met by the model's own: regions in the text's order, control, functions. -/
import Derived.Test.YtmlmoaimjifpgaaGreatLSc
import Derived.Still
import Derived.RangeFuncRecord
set_option linter.unusedSimpArgs false
namespace Go.Pv
variable {P:Program}
def q7h (ops:Array Oper):Option (Nat × Bool)->Option (Option (Nat × Bool))
 | none=>some none
 | some (j,want)=>
  match (ops[j]?).bind (·.dst) with
  | some t=>some (some (t,want))
  | none=>none
def y1g:Op->Bool
 | .defer _ | .select ..=>false
 | _=>true
structure Lim where
 n:Nat
 pn:List Nat
def Lim.ok (N:Lim)(t:Nat):Prop:=t<N.n/\t ∉ N.pn
instance (N:Lim) (t:Nat):Decidable (N.ok t):=inferInstanceAs (Decidable (_/\_))
def q7i (P:Program)(N:Lim)(ops:Array Oper):List Oper->Option (List MInst)
 | []=>some []
 | o::rest=>
  match q7h ops o.guard,k2n P o.op,q7i P N ops rest with
  | some g,some m,some ms=>if (o.dst.all fun d=>decide (N.ok d)) && y1g o.op then some (⟨o.dst,g,m⟩::ms) else none
  | _,_,_=>none
def j3v (seen:List Nat):List Oper->List Nat
 | []=>[]
 | o::rest=>
  (o.op.operands.toList.filterMap fun | .tmp t=>if seen.contains t then none else some t | _=>none)++j3v (o.dst.toList++seen) rest
def q9j:Code->List Nat
 | .region _ ops _=>j3v [] ops.toList
 | .seq a b=>q9j a++q9j b
 | .cond c a b=>(match c with | .tmp t=>[t] | _=>[])++q9j a++q9j b
 | .block _ c | .loop c | .scope c=>q9j c
 | .rangeFunc f _ a b=>(match f with | .tmp t=>[t] | _=>[])++q9j a++q9j b
 | _=>[]
def k5h (keep:List Nat)(ops:Array Oper):List Nat:=ops.toList.filterMap fun o=>o.dst.bind fun d=>if keep.contains d then none else some d
def y5a:MOp->Bool
 | .val _=>true
 | _=>false
def j9r:MOp->Bool
 | .call ..=>true
 | _=>false
def j3w (seen:List Nat)(o:Oper):List Nat:=(o.after.toList.filter fun e=>Region.binds .any e && !seen.contains e.on).map (·.on)
def y1h (ops:Array Oper):Nat->List Nat->List Nat->List Nat
 | 0,_,seen=>seen
 | _+1,[],seen=>seen
 | fuel+1,h::work,seen=>
  match ops[h]? with
  | some o=>y1h ops fuel (j3w seen o++work) (j3w seen o++seen)
  | none=>y1h ops fuel work seen
def j9s (ops:Array Oper)(fuel i h:Nat):Bool:=(y1h ops (8*fuel+8) [h] []).contains i
def k1f (ops:Array Oper)(ms:List MOp):Nat->Array Bool->Option (List (Bool × Nat))
 | 0,_=>some []
 | fuel+1,listed=>
  let rs:=Region.ready .any ops listed
  match rs.find? fun i=>((ms[i]?).map y5a).getD false with
  | some i=>(k1f ops ms fuel (listed.setIfInBounds i true)).map ((false,i)::·)
  | none=>
   match rs with
   | []=>some []
   | [i]=>(k1f ops ms fuel (listed.setIfInBounds i true)).map ((true,i)::·)
   | _=>
    match rs.find? fun j=>((ms[j]?).map j9r).getD false with
    | some i=>(k1f ops ms fuel (listed.setIfInBounds i true)).map ((false,i)::·)
    | none=>none
def k1z (ops:Array Oper)(hards:List Nat):List (Bool × Nat)->Array Bool->Bool
 | [],listed=>(Region.ready .any ops listed).isEmpty
 | (h,i)::l,listed=>
  (if h then (Region.ready .any ops listed) == [i] else !hards.contains i && (Region.ready .any ops listed).contains i && Region.free .any ops listed i) && k1z ops hards l (listed.setIfInBounds i true)
def z99 (ops:Array Oper)(ms:List MOp):Nat->Array Bool->Option (List (Bool × Nat) × List (Bool × Nat) × List (Bool × Nat))
 | 0,_=>none
 | fuel+1,listed=>
  let rs:=Region.ready .any ops listed
  let soft:=match rs.find? fun i=>((ms[i]?).map y5a).getD false with
   | some i=>some i
   | none=>rs.find? fun j=>((ms[j]?).map j9r).getD false
  match soft with
  | some i=>(z99 ops ms fuel (listed.setIfInBounds i true)).map fun q=>((false,i)::q.1,q.2)
  | none=>
   match rs with
   | [i,j]=>
    match k1f ops ms fuel (listed.setIfInBounds i true),k1f ops ms fuel (listed.setIfInBounds j true) with
    | some A,some B=>some ([],(true,i)::A,(true,j)::B)
    | _,_=>none
   | _=>none
def z4v (ops:Array Oper)(hards:List Nat)(La Lb:List (Bool × Nat)):List (Bool × Nat)->Array Bool->Bool
 | [],listed=>
  match La,Lb with
  | (true,i)::A,(true,j)::B=>(Region.ready .any ops listed) == [i,j] && k1z ops hards A (listed.setIfInBounds i true) && k1z ops hards B (listed.setIfInBounds j true)
  | _,_=>false
 | (h,i)::l,listed=>
  !h && !hards.contains i && (Region.ready .any ops listed).contains i && Region.free .any ops listed i && z4v ops hards La Lb l (listed.setIfInBounds i true)
def j9t (m:MInst):Bool:=
 match m.op with
 | .val v=>q9o v
 | _=>true
def z7b (ms:List MInst)(ops:Array Oper)(hards:List Nat)(i:Nat):Bool:=
 match ms[i]? with
 | some m=>j9t m && !hards.contains i && !(hards.all fun h=>j9s ops ops.size i h)
 | none=>false
def k32 (ms:List MInst)(ops:Array Oper)(hards:List Nat)(j:Nat):Bool:=
 match ms[j]? with
 | some m=>m.dst.isNone && (List.range ms.length).all fun i=>!z7b ms ops hards i || j9s ops ops.size i j
 | none=>false
def j3x (ms:List MInst)(ops:Array Oper)(hards:List Nat)(x:Bool × Nat):DFlag:=
 if x.1 then (if k32 ms ops hards x.2 then .last else .hard) else if hards.all fun h=>j9s ops ops.size x.2 h then .early else .late
def q9p (ms:List MInst)(ops:Array Oper)(hards:List Nat):List (Bool × Nat)->Option (List (DFlag × MInst))
 | []=>some []
 | x::l=>
  match ms[x.2]?,q9p ms ops hards l with
  | some m,some r=>some ((j3x ms ops hards x,m)::r)
  | _,_=>none
def k95:Code->Bool
 | .seq a b | .cond _ a b=>k95 a && k95 b
 | .block _ c | .loop c | .scope c=>k95 c
 | .rangeFunc ..=>false
 | _=>true
def q6b (P:Program)(N:Lim)(keep:List Nat):Code->Option MCode
 | .skip | .label _=>some .skip
 | .region _ ops false=>(q7i P N ops ops.toList).map fun l=>.region l (k5h keep ops)
 | .region _ ops true=>
  match q7i P N ops ops.toList with
  | some l=>
   match k1f ops (l.map (·.op)) ops.size (Array.replicate ops.size false) with
   | some L=>
    let hards:=(L.filter (·.1)).map (·.2)
    match q9p l ops hards L with
    | some r=>if k1z ops hards L (Array.replicate ops.size false) && Region.noSelect ops && L.length == ops.size then some (.draw (r.any fun x=>x.1 == .late) r (k5h keep ops)) else none
    | none=>none
   | none=>
    match z99 ops (l.map (·.op)) ops.size (Array.replicate ops.size false) with
    | some (Lp,La,Lb)=>
     let hards:=((Lp++La).filter (·.1)).map (·.2)
     match q9p l ops hards Lp,q9p l ops hards La,q9p l ops hards Lb with
     | some rp,some ra,some rb=>
      if z4v ops hards La Lb Lp (Array.replicate ops.size false) && Region.noSelect ops && Lp.length+La.length == ops.size && Lb.length == La.length && (Lp++La++Lb).all (fun x=>hards.contains x.2 == x.1)
      then some (.draw2 rp ra rb (k5h keep ops)) else none
     | _,_,_=>none
    | none=>none
  | none=>none
 | .seq a b=>
  match q6b P N keep a,q6b P N keep b with
  | some a,some b=>some (.seq a b)
  | _,_=>none
 | .cond c a b=>
  match q58 c,q6b P N keep a,q6b P N keep b with
  | some c,some a,some b=>some (.cond c a b)
  | _,_,_=>none
 | .block id c=>(q6b P N keep c).map (.block id)
 | .loop c=>(q6b P N keep c).map .loop
 | .scope c=>q6b P N keep c
 | .rangeFunc f ps a b=>
  match q58 f,q6b P N keep a,q6b P N keep b with
  | some f,some ma,some mb=>if (k95 a && k95 b) && ps.toList.all (fun t=>decide (t<N.n)) then some (.rangeFunc f ps.toList ma mb) else none
  | _,_,_=>none
 | .exit id=>some (.exit id)
 | .ret=>some .ret
 | _=>none
def LoopKey.Conv (P:Program)(key:LoopKey)(params:List Nat)(a b:MCode):Prop:=
 key.params.toList=params/\(∀ t ∈ params,t<key.N)/\k95 key.assign=true/\k95 key.body=true/\∃ N keep,N.n=key.N/\q6b P N keep key.assign=some a/\q6b P N keep key.body=some b
def k3p (l:Nat)(Q:q7e)(e:Env):PEnd->q5f->Prop
 | .ret _,st=>
  match q55 st l with
  | some (.loop _ _ state pend)=>state ≠ .busy ∧
    match pend with
    | none=>Q .normal ⟨e,k2l l st⟩
    | some .ret=>Q .ret ⟨e,k2l l st⟩
    | some (.exit id)=>Q (.exit id) ⟨e,k2l l st⟩
    | _=>False
  | _=>False
 | .panic p,st=>q61 Q p st
def mwp (P:Program):MCode->q7e->PS->Prop
 | .skip,Q,s=>Q .normal s
 | .region l ks,Q,s=>z4k P l s (fun s'=>Q .normal ⟨q8s ks s'.env,s'.st⟩) (q61 Q)
 | .draw true l ks,Q,s=>∃ Cl:q5f->Prop,Cl s.st/\mdraw P Cl l s (fun s'=>Q .normal ⟨q8s ks s'.env,s'.st⟩) (q61 Q)
 | .draw false l ks,Q,s=>mdraw P (fun _=>True) l s (fun s'=>Q .normal ⟨q8s ks s'.env,s'.st⟩) (q61 Q)
 | .draw2 pre a b ks,Q,s=>∃ Cl:q5f->Prop,Cl s.st/\mdraw P Cl pre s (fun s1=>mdraw P Cl a s1 (fun s'=>Q .normal ⟨q8s ks s'.env,s'.st⟩) (q61 Q)/\mdraw P Cl b s1 (fun s'=>Q .normal ⟨q8s ks s'.env,s'.st⟩) (q61 Q)) (q61 Q)
 | .seq a b,Q,s=>mwp P a (j1k (mwp P b Q) Q) s
 | .cond c a b,Q,s=>
  match q57 s.env c with
  | .val (.bool t)=>(t=true->mwp P a Q s)/\(t=false->mwp P b Q s)
  | _=>False
 | .block id c,Q,s=>mwp P c (z2h id Q) s
 | .loop c,Q,s=>z2i View (mwp P c) Q s
 | .rangeFunc g params a b,Q,s=>
  match q57 s.env g with
  | .func (.func f) fs cs=>k0b P f/\∀ key:LoopKey,key.Conv P params a b->∀ l,q54 s.st l ->
    PCalls P f (fs++[.func (.yield l) [] []]++cs) ((l,.loop key s.env .ready none)::s.st) (k3p l Q s.env)
  | _=>False
 | .exit id,Q,s=>Q (.exit id) s
 | .ret,Q,s=>Q .ret s
def k8u:Env->List Nat->List PV->Env
 | e,t::ts,p::ps=>k8u (k0m e (some t) p) ts ps
 | e,_,_=>e
def k8v (l:Nat)(Q:PEnd->q5f->Prop):q7e
 | .normal,s=>
  match q55 s.st l with
  | some (.loop key e _ _)=>Q (.ret (.bool true)) (q83 s.st l (.loop key e .ready none))
  | _=>False
 | .ret,s=>
  match q55 s.st l with
  | some (.loop key e _ _)=>Q (.ret (.bool false)) (q83 s.st l (.loop key e .done (some .ret)))
  | _=>False
 | .exit id,s=>
  match q55 s.st l with
  | some (.loop key e _ _)=>Q (.ret (.bool false)) (q83 s.st l (.loop key e .done (some (.exit id))))
  | _=>False
 | .panic _,_=>False
def j0a (P:Program)(l:Nat)(b:MCode)(Q:PEnd->q5f->Prop):q7e
 | .normal,s=>
  match q55 s.st l with
  | some (.loop key e .ready pend)=>mwp P b (k8v l Q) ⟨s.env,q83 s.st l (.loop key e .busy pend)⟩
  | _=>False
 | _,_=>False
structure Fix where
 defers:List Deferred
 pins:List (Nat × Value)
 imm:Imm
 noMarks:Bool
def k01 (d:Deferred):Bool:=
 match d.target with
 | .collected _=>false
 | _=>true
def k0g (d:Deferred):Option Nat:=
 match d.target with
 | .collected r=>some r
 | _=>none
structure Fix.Holds (D:Fix)(N:Lim)(I:Imm)(a:Act):Prop where
 imm:D.imm.le I
 defers:a.defers.filter k01=D.defers
 marks:∀ r ∈ a.defers.filterMap k0g,D.imm r=none/\I r=some (.deferred (some []))
 nodup:(a.defers.filterMap k0g).Nodup
 none:D.noMarks=true->a.defers.filterMap k0g=[]
 pins:∀ q ∈ D.pins,q.1 ∈ N.pn/\a.tmps.getD q.1 undef=q.2
theorem Fix.Holds.mono {D:Fix}{N:Lim}{I I':Imm}{a:Act}(h:D.Holds N I a)(hI:I.le I'):D.Holds N I' a:=
 ⟨Imm.le_trans h.imm hI,h.defers,fun r hr=>⟨(h.marks r hr).1,hI _ _ (h.marks r hr).2⟩,h.nodup,h.none,h.pins⟩
theorem Fix.Holds.put {D:Fix}{N:Lim}{I:Imm}{a:Act}(h:D.Holds N I a){d:Option Nat}(hd:∀ t,d=some t->N.ok t)(v:Value):D.Holds N I (a.put d v):=by
 cases d with
 | none=>exact h
 | some t=>
  refine⟨h.imm,h.defers,h.marks,h.nodup,h.none,fun q hq=>⟨(h.pins q hq).1, ?_⟩⟩
  have hne:t ≠ q.1:=fun e=>(hd t rfl).2 (e ▸ (h.pins q hq).1)
  have:(a.put (some t) v).tmps.getD q.1 undef=a.tmps.getD q.1 undef:=by
   simp [Act.put,Array.getElem?_setIfInBounds,hne]
  rw [this]
  exact (h.pins q hq).2
structure Rel (N:Lim)(D:Fix)(I:Imm)(s:PS)(a:Act)(w:World):Prop where
 env:∀ t,vrep I (q6g s.env t) (a.tmps.getD t undef)
 size:a.tmps.size=N.n
 fix:D.Holds N I a
 st:SRep I s.st w
theorem Rel.put {N:Lim}{D:Fix}{I I':Imm}{e:Env}{st st':q5f}{a:Act}{w w':World}(h:Rel N D I ⟨e,st⟩ a w)(hI:I.le I')(hs:SRep I' st' w'){d:Option Nat}
  (hd:∀ t,d=some t->N.ok t) {p:PV} {v:Value} (hv:d ≠ none->vrep I' p v):Rel N D I' ⟨k0m e d p,st'⟩ (a.put d v) w':=by
 cases d with
 | none=>exact⟨fun t=>q7a hI _ _ (h.env t),h.size,h.fix.mono hI,hs⟩
 | some t=>
  refine⟨fun u=>?_,by simp [Act.put,h.size],(h.fix.mono hI).put hd v,hs⟩
  have hlt:t<a.tmps.size:=by rw [h.size]; exact (hd t rfl).1
  by_cases htu:t=u
  ·subst htu
   simp only [q79]
   have:(a.put (some t) v).tmps.getD t undef=v:=by simp [Act.put,hlt]
   rw [this]
   exact hv (by simp)
  ·simp only [q9n _ _ _ _ htu]
   have:(a.put (some t) v).tmps.getD u undef=a.tmps.getD u undef:=by
    simp [Act.put,Array.getElem?_setIfInBounds,htu]
   rw [this]
   exact q7a hI _ _ (h.env u)
theorem Rel.x {N:Lim}{D:Fix}{I:Imm}{s:PS}{a:Act}{w:World}(h:Rel N D I s a w){x:Operand}{m:MX}(hm:q58 x=some m):vrep I (q57 s.env m) (a.eval x):=by
 cases x with
 | tmp t=>simp only [q58,Option.some.injEq] at hm; subst hm; exact h.env t
 | const v=>
  simp only [q58] at hm
  split at hm
  ·rename_i hc
   simp only [Option.some.injEq] at hm; subst hm; exact k47 hc
  ·cases hm
 | global g=>
  simp only [q58,Option.some.injEq] at hm
  subst hm
  simp only [q57,Act.eval,vrep]
 | func f=>
  simp only [q58,Option.some.injEq] at hm
  subst hm
  simp only [q57,Act.eval,vrep]
  exact⟨[],[],rfl,by simp [vreps],by simp [vreps]⟩
theorem Rel.xs {N:Lim}{D:Fix}{I:Imm}{s:PS}{a:Act}{w:World}(h:Rel N D I s a w)(l:List Operand):k96 I (q57 s.env) a.eval l:=fun _ _ _ hm=>h.x hm
theorem Rel.weaken {N:Lim}{D:Fix}{I:Imm}{e e':Env}{st:q5f}{a:Act}{w:World}(h:Rel N D I ⟨e,st⟩ a w)(he:∀ t,q6g e' t=.any\/q6g e' t=q6g e t):Rel N D I ⟨e',st⟩ a w:=
 ⟨fun t=>by rcases he t with h1 | h1 <;> rw [h1]; (· simp only [vrep]); exact h.env t,h.size,h.fix,h.st⟩
theorem Rel.guard {N:Lim}{D:Fix}{I:Imm}{e:Env}{st:q5f}{a:Act}{w:World}(h:Rel N D I ⟨e,st⟩ a w){t:Nat}{c:Bool}(ht:q6g e t=.bool c):Rel N D I ⟨z2g e t c,st⟩ a w:=by
 refine h.weaken fun u=>.inr ?_
 unfold z2g
 by_cases htu:t=u
 ·subst htu; rw [q79,ht]
 ·rw [q9n _ _ _ _ htu]
def HRel (N:Lim)(D:Fix)(I0:Imm)(w0:World)(R:PS->Prop)(a:Act)(w:World):Prop:=
 ∃ I s,I0.le I/\Calm w0 w/\Rel N D I s a w/\R s
def HPan (I0:Imm)(w0:World)(QP:PV->q5f->Prop)(chain:List PanicEntry)(w:World):Prop:=
 ∃ v,chain=[{ v,recovered:=false }]/\k94 I0 w0 (fun I st=>∃ p,vrep I p v/\QP p st) w
def HPanA (N:Lim)(D:Fix)(I0:Imm)(w0:World)(QP:PV->q5f->Prop)(chain:List PanicEntry)(a:Act)(w:World):Prop:=
 ∃ v,chain=[{ v,recovered:=false }]/\k94 I0 w0 (fun I st=>D.Holds N I a/\∃ p,vrep I p v/\QP p st) w
def j9u (N:Lim)(D:Fix)(I0:Imm)(w0:World)(Q:q7e):Exit->Act->World->Prop
 | .normal,a,w=>HRel N D I0 w0 (Q .normal) a w
 | .exit id,a,w=>HRel N D I0 w0 (Q (.exit id)) a w
 | .ret,a,w=>HRel N D I0 w0 (Q .ret) a w
 | .panic chain,a,w=>HPanA N D I0 w0 (q61 Q) chain a w
 | _,_,_=>False
theorem HRel.from {N:Lim}{D:Fix}{I0 I1:Imm}{w0 w1:World}{R:PS->Prop}{a:Act}{w:World}(hI:I0.le I1)(hw:Calm w0 w1)(h:HRel N D I1 w1 R a w):HRel N D I0 w0 R a w:=by
 obtain⟨I,s,h1,h2,h3,h4⟩:=h
 exact⟨I,s,Imm.le_trans hI h1,hw.trans h2,h3,h4⟩
theorem HPan.act {N:Lim}{D:Fix}{I0 I1:Imm}{w0 w1:World}{QP:PV->q5f->Prop}{ch:List PanicEntry}{a:Act}{w:World}(hI:I0.le I1)(hw:Calm w0 w1)(hd:D.Holds N I1 a)(h:HPan I1 w1 QP ch w):HPanA N D I0 w0 QP ch a w:=by
 obtain⟨v,h0,I,st,h1,h2,h3,p,h4,h5⟩:=h
 exact⟨v,h0,I,st,Imm.le_trans hI h1,hw.trans h2,h3,hd.mono h1,p,h4,h5⟩
theorem HPanA.from {N:Lim}{D:Fix}{I0 I1:Imm}{w0 w1:World}{QP:PV->q5f->Prop}{ch:List PanicEntry}{a:Act}{w:World}(hI:I0.le I1)(hw:Calm w0 w1)(h:HPanA N D I1 w1 QP ch a w):HPanA N D I0 w0 QP ch a w:=by
 obtain⟨v,h0,I,st,h1,h2,h3⟩:=h
 exact⟨v,h0,I,st,Imm.le_trans hI h1,hw.trans h2,h3⟩
theorem z4w {N:Lim}{D:Fix}{I0 I1:Imm}{w0 w1:World}{Q:q7e}(hI:I0.le I1)(hw:Calm w0 w1)(e:Exit)(a:Act)(w:World)(h:j9u N D I1 w1 Q e a w):j9u N D I0 w0 Q e a w:=by
 cases e <;> simp only [j9u] at h ⊢ <;> first | exact h | exact HRel.from hI hw h | exact HPanA.from hI hw h
structure Wide (F:Fence):Prop where
 fn:∀ f,F.fn f
 depth:F.depth=none
 alive:F.alive=false
theorem Wide.fenced {F:Fence}(h:Wide F)(mm:Machine):Machine.fenced P F mm:=by
 intro g _
 exact⟨fun hx=>(by rw [h.alive] at hx; cases hx),.inl (h.fn _),fun f _=>h.fn f,fun d hd=>by rw [h.depth] at hd; cases hd⟩
theorem Wide.calls {F:Fence}(h:Wide F){n:Nat}{g:FuncId}{args:Array Value}{w:World}{R:Ending->World->Prop}(hc:Calls P g args w R):CallsIn F n P g args w R:=
 ⟨h.fn g,fun cs _=>by
  obtain⟨en,w2,fr,hR,hc,h6,h7⟩:=hc cs
  refine⟨en,w2,fr,hR, ?_,h6,h7⟩
  cases en with
  | returned v=>exact (StepsIn.of_steps hc).mono (fun mm _=>h.fenced mm)
  | panicked ch=>exact (StepsIn.of_steps hc).mono (fun mm _=>h.fenced mm)
  | outgrown=>exact hc⟩
theorem Wide.round {F:Fence}(h:Wide F){n m:Nat}{l:Nat}{f:FuncId}{tmps:Array Value}{assign body:Code}{w:World}{R:Ending->World->Prop}(hr:RoundIn Fence.wide n P l f tmps assign body w R):RoundIn F m P l f tmps assign body w R:=
 ⟨h.fn f,fun c cs _=>by
  obtain⟨e,w',r,s⟩:=hr.2 c cs (room_wide _)
  refine⟨e,w',r, ?_⟩
  cases e with
  | returned v=>exact StepsIn.mono (fun mm _=>h.fenced mm) s
  | panicked ch=>exact StepsIn.mono (fun mm _=>h.fenced mm) s
  | outgrown=>exact s⟩
theorem j1t {F:Fence}{n:Nat}(hF:Wide F){N:Lim}{D:Fix}{o:Oper}{m:MOp}(hm:k2n P o.op=some m)(hdf:∀ c,o.op ≠ .defer c)(hd:∀ t,o.dst=some t->N.ok t)
  {I:Imm} {e:Env} {st:q5f} {a:Act} {w:World} (hr:Rel N D I ⟨e,st⟩ a w) {K:PS->Prop} {QP:PV->q5f->Prop}
  (hk:mop P m (q57 e) st (fun p st'=>K ⟨k0m e o.dst p,st'⟩) QP)
  {next:Act->World->Prop} {Q:Exit->Act->World->Prop} (hnext:∀ a' w',HRel N D I w K a' w'->next a' w')
  (hpan:∀ ch w',HPan I w QP ch w'->Q (.panic ch) a w'):o.wpIn F n P a w next Q:=by
 refine⟨fun f _=>hF.fn f, ?_⟩
 rw [Oper.semAt_eq F.round a.eval o hdf]
 have h:=z2t (fun _=>rfl) hm hk hr.st (hr.xs _)
 generalize (execOp a.eval o).run P w=r at h
 cases r with
 | ok x w'=>
  cases x <;> simp only [UponR] at h <;> simp only [Oper.uponIn]
  case value v=>
   obtain⟨I',st',h1,h2,h3,p,h4,h5⟩:=h
   exact hnext _ _ ⟨I',_,h1,h2,hr.put h1 h3 hd (fun _=>h4),h5⟩
  case skip=>
   obtain⟨I',st',h1,h2,h3,h5⟩:=h
   exact hnext _ _ ⟨I',_,h1,h2,hr.put h1 h3 hd (fun _=>by simp only [vrep]),h5⟩
  case enter g args=>
   obtain⟨ps,st1,I1,h1,h2,h3,vs,rfl,h4,h5⟩:=h
   refine⟨fun hx=>(by rw [hF.depth] at hx; simp at hx),hF.fn _,fun cs hroom=>?_⟩
   obtain⟨en,w2,fr,hR,hc,h6,h7⟩:=h5.out I1 w' vs h3 h4 cs
   refine⟨en,w2,fr, ?_, ?_,h6,h7⟩
   ·obtain⟨I',st',g1,g2,g3,pe,g4,g5⟩:=hR
    cases pe with
    | ret p=>
     simp only [z2f] at g4
     obtain⟨v,rfl,g6⟩:=g4
     simp only [q89] at g5
     exact hnext _ _ ⟨I',_,Imm.le_trans h1 g1,h2.trans g2,hr.put (Imm.le_trans h1 g1) g3 hd (fun _=>g6),g5⟩
    | panic p=>
     simp only [z2f] at g4
     obtain⟨v,rfl,g6⟩:=g4
     simp only [q89] at g5
     exact hpan _ _ ⟨v,rfl,I',st',Imm.le_trans h1 g1,h2.trans g2,g3,p,g6,g5⟩
   ·have hall:∀ mm:Machine,Machine.fenced P F mm:=hF.fenced
    cases en with
    | returned v=>exact (StepsIn.of_steps hc).mono (fun mm _=>hall mm)
    | panicked ch=>exact (StepsIn.of_steps hc).mono (fun mm _=>hall mm)
    | outgrown=>exact hc
  case round l f tmps assign body=>
   refine⟨fun hx=>(by rw [hF.depth] at hx; simp at hx),(hF.round h).mono fun en w2 hR=>?_⟩
   obtain⟨I',st',g1,g2,g3,pe,g4,g5⟩:=hR
   cases pe with
   | ret p=>
    simp only [z2f] at g4
    obtain⟨v,rfl,g6⟩:=g4
    simp only [q89] at g5
    exact hnext _ _ ⟨I',_,g1,g2,hr.put g1 g3 hd (fun _=>g6),g5⟩
   | panic p=>
    simp only [z2f] at g4
    obtain⟨v,rfl,g6⟩:=g4
    simp only [q89] at g5
    exact hpan _ _ ⟨v,rfl,I',st',g1,g2,g3,p,g6,g5⟩
 | halt x w'=>
  cases x <;> simp only [UponR] at h <;> simp only [Oper.uponIn]
  case panic v=>
   obtain⟨I',st',h1,h2,h3,p,h4,h5⟩:=h
   exact hpan _ _ ⟨v,rfl,I',st',h1,h2,h3,p,h4,h5⟩
end Go.Pv

/- The compact code, its weakest preconditions over pure states, calls. -/
import Derived.Test.YtmlmoaimjifpgaaGreatLMc
namespace Go.Pv
inductive PEnd where
 | ret (p:PV)
 | panic (p:PV)
 deriving Inhabited
def z2f (I:Imm):PEnd->Ending->Prop
 | .ret p,e=>∃ v,e=.returned v/\vrep I p v
 | .panic p,e=>∃ v,e=.panicked [{ v,recovered:=false }]/\vrep I p v
def k94 (I:Imm)(w:World)(R:Imm->q5f->Prop)(w':World):Prop:=
 ∃ I' st',I.le I'/\Calm w w'/\SRep I' st' w'/\R I' st'
def k0b (P : Program) (g : FuncId) : Prop := ∃ fn, P.funcs[g]? = some fn ∧ (fn.name == "runtime.NumGoroutine") = false ∧ fn.body.isNone = false
structure PEnter (P:Program)(g:FuncId)(ps:List PV)(st:q5f)(Q:PEnd->q5f->Prop):Prop where
 enters:k0b P g
 out:∀ I w vs,SRep I st w->vreps I ps vs->Calls P g vs.toArray w fun e=>k94 I w (fun I' st'=>∃ pe,z2f I' pe e/\Q pe st')
structure PExt (P:Program)(g:FuncId)(ps:List PV)(st:q5f)(Q:PEnd->q5f->Prop):Prop where
 out:∀ I w vs,SRep I st w->vreps I ps vs->∃ v w',(callFunc g vs.toArray).run P w=.ok (.value v) w'/\k94 I w (fun I' st'=>∃ p,vrep I' p v/\Q (.ret p) st') w'
def PCalls (P:Program)(g:FuncId)(ps:List PV)(st:q5f)(Q:PEnd->q5f->Prop):Prop:=PEnter P g ps st Q\/PExt P g ps st Q
theorem PEnter.mono {P:Program}{g:FuncId}{ps:List PV}{st:q5f}{Q Q':PEnd->q5f->Prop}(h:PEnter P g ps st Q)(hq:∀ e s,Q e s->Q' e s):PEnter P g ps st Q':=
 ⟨h.enters,fun I w vs h1 h2=>(h.out I w vs h1 h2).mono fun _ _ ⟨I',st',a,b,c,pe,d,q⟩=>⟨I',st',a,b,c,pe,d,hq _ _ q⟩⟩
theorem PExt.mono {P:Program}{g:FuncId}{ps:List PV}{st:q5f}{Q Q':PEnd->q5f->Prop}(h:PExt P g ps st Q)(hq:∀ e s,Q e s->Q' e s):PExt P g ps st Q':=
 ⟨fun I w vs h1 h2=>by
  obtain⟨v,w',h3,I',st',a,b,c,p,d,q⟩:=h.out I w vs h1 h2
  exact⟨v,w',h3,I',st',a,b,c,p,d,hq _ _ q⟩⟩
theorem PCalls.mono {P:Program}{g:FuncId}{ps:List PV}{st:q5f}{Q Q':PEnd->q5f->Prop}(h:PCalls P g ps st Q)(hq:∀ e s,Q e s->Q' e s):PCalls P g ps st Q':=
 h.imp (·.mono hq) (·.mono hq)
structure PRound (P:Program)(l:Nat)(ps:List PV)(st:q5f)(Q:PEnd->q5f->Prop):Prop where
 out:∀ I w vs,SRep I st w->vreps I ps vs->∃ r:Loop,w.heap[l]?=some (.loop r)/\r.params.size=vs.length ∧
  RoundIn Fence.wide 0 P l r.fn ((r.params.zip vs.toArray).foldl (fun tmps (q:Tmp × Value)=>tmps.setIfInBounds q.1 q.2) r.tmps) r.assign r.body w fun e=>k94 I w (fun I' st'=>∃ pe,z2f I' pe e/\Q pe st')
theorem PRound.mono {P:Program}{l:Nat}{ps:List PV}{st:q5f}{Q Q':PEnd->q5f->Prop}(h:PRound P l ps st Q)(hq:∀ e s,Q e s->Q' e s):PRound P l ps st Q':=
 ⟨fun I w vs h1 h2=>by
  obtain⟨r,h3,h4,h5⟩:=h.out I w vs h1 h2
  exact⟨r,h3,h4,h5.mono fun _ _ ⟨I',st',a,b,c,pe,d,q⟩=>⟨I',st',a,b,c,pe,d,hq _ _ q⟩⟩⟩
def j3k (P:Program)(f:PV)(args:List PV)(st:q5f)(Q:PEnd->q5f->Prop):Prop:=
 match f with
 | .func (.func g) fs cs=>PCalls P g (fs++args++cs) st Q
 | _=>False
def z92 (P:Program)(f:PV)(args:List PV)(st:q5f)(Q:PEnd->q5f->Prop):Prop:=
 match f with
 | .func (.func g) fs cs=>PCalls P g (fs++args++cs) st Q
 | .func (.yield l) [] []=>PRound P l args st Q
 | _=>False
def q89 (K:PV->q5f->Prop)(QP:PV->q5f->Prop):PEnd->q5f->Prop
 | .ret p,st=>K p st
 | .panic p,st=>QP p st
def k2l (b:Nat):q5f->q5f
 | []=>[]
 | (c,o)::st=>if c=b then k2l b st else (c,o)::k2l b st
def z0z (T:TypeId)(bytes k:Nat)(cs:List PV)(need:Nat)(st:q5f)(K:PV->q5f->Prop):Prop:=
 need*bytes<=140737488355328/\∀ b cap,q54 st b->need<=cap->cap<=9223372036854775807->K (.own b 0 need cap) ((b,.arr T (cs++List.replicate ((cap-need)*k) .any))::st)
def k72 (T:TypeId)(bytes k:Nat)(p:PV)(new:List PV)(m:Nat)(st:q5f)(K:PV->q5f->Prop):Prop:=
 match p with
 | .val (.slice none 0 0)=>if m=0 then K p st else z0z T bytes k new m st K
 | .list t cs n=>if m=0 then K p st else t=true/\cs.length=n*k/\z0z T bytes k (cs++new) (n+m) st K
 | .val (.slice (some ⟨b,off,none⟩) n cap)=>
  match q55 st b with
  | some (.arr T' row)=>T'=T/\off+cap*k<=row.length/\n<=cap/\cap<=9223372036854775807 ∧
    ((off=0/\row.length=cap*k/\z0z T bytes k (row.take (n*k)++new) (n+m) (k2l b st) K) ∨
     ((n+m)*bytes<=140737488355328/\(n+m<=cap->K (.own b off (n+m) cap) (q83 st b (.arr T (q5j row (off+n*k) new)))) ∧
      (cap<n+m->z0z T bytes k ((row.drop off).take (n*k)++new) (n+m) st K)))
  | _=>False
 | _=>False
def j1j (T:TypeId)(bytes k:Nat)(cs:List PV)(need:Nat)(st:q5f)(K:PV->q5f->Prop):Prop:=
 need*bytes<=140737488355328/\((∀ b cap,q54 st b->need<=cap->cap<=9223372036854775807->K (.own b 0 need cap) ((b,.arr T (cs++List.replicate ((cap-need)*k) .any))::st))\/cs.length=need*k/\K (.list false cs need) st)
def q9w (T:TypeId)(bytes k:Nat)(p:PV)(new:List PV)(m:Nat)(st:q5f)(K:PV->q5f->Prop):Prop:=
 match p with
 | .val (.slice none 0 0)=>if m=0 then K p st else j1j T bytes k new m st K
 | .list t cs n=>if m=0 then K p st else t=true/\cs.length=n*k/\j1j T bytes k (cs++new) (n+m) st K
 | .val (.slice (some ⟨b,off,none⟩) n cap)=>
  match q55 st b with
  | some (.arr T' row)=>T'=T/\off+cap*k<=row.length/\n<=cap/\cap<=9223372036854775807 ∧
    ((off=0/\row.length=cap*k/\j1j T bytes k (row.take (n*k)++new) (n+m) (k2l b st) K) ∨
     ((n+m)*bytes<=140737488355328/\(n+m<=cap->K (.own b off (n+m) cap) (q83 st b (.arr T (q5j row (off+n*k) new)))) ∧
      (cap<n+m->j1j T bytes k ((row.drop off).take (n*k)++new) (n+m) st K)))
  | _=>False
 | _=>False
def y1c (v:MVal)(ρ:MX->PV)(st:q5f)(K:PV->q5f->Prop):Prop:=
 match v with
 | .buildSlice T len zs parts=>
  match k0a zs (parts.map fun q=>(q.1,q.2.1,ρ q.2.2)) with
  | some cs=>∀ b,q54 st b->K (.own b 0 len len) ((b,.arr T cs)::st)
  | none=>False
 | _=>False
def j3l (k:Nat)(p:PV)(new:List PV)(m:Nat)(st:q5f)(K:PV->q5f->Prop):Prop:=
 match p with
 | .val (.slice none 0 0)=>K (.int 0) st
 | .list _ _ 0=>K (.int 0) st
 | .val (.slice (some ⟨b,off,none⟩) n _)=>
  match q55 st b with
  | some (.arr T row)=>off+min m n*k<=row.length/\K (.int (min m n:Nat)) (q83 st b (.arr T (q5j row off (new.take (min m n*k)))))
  | _=>False
 | _=>False
def z4i (neg:Bool)(nk:NK)(p:PV)(st:q5f)(K:PV->q5f->Prop):Prop:=
 match nk,p with
 | .slice,.val (.slice none _ _) | .iface,.val .nilIface | .map,.val (.map none)=>K (.bool !neg) st
 | .slice,.list _ cs _=>(cs=[]->K (.bool !neg) st)/\K (.bool neg) st
 | .slice,.val (.slice (some _) _ _) | .iface,.iface _ _ | .map,.val (.map (some _)) | .map,.imap _ _=>K (.bool neg) st
 | _,_=>False
def z4j (k:Nat)(zs:List PV)(p:PV)(st:q5f)(K:PV->q5f->Prop):Prop:=
 match p with
 | .val (.slice none 0 0)=>K .any st
 | .list _ _ 0=>K .any st
 | .val (.slice (some ⟨b,off,none⟩) n _)=>
  match q55 st b with
  | some (.arr T row)=>off+n*k<=row.length/\K .any (q83 st b (.arr T (q5j row off (List.replicate n zs).flatten)))
  | _=>False
 | _=>False
def z93 (p:PV)(st:q5f)(K:PV->q5f->Prop):Prop:=
 match p with
 | .val (.map (some m))=>
  match q55 st m with
  | some (.map ks vs)=>∀ bs clock r,bs.length=ks.length->bs.Nodup->(∀ b ∈ bs,b<clock)->q54 st r->K (.ptr r 0) ((r,.iter m bs clock [])::q83 st m (.mapB ks vs bs clock))
  | _=>False
 | _=>False
def j7a (p:PV)(st:q5f)(K:PV->q5f->Prop):Prop:=
 match p with
 | .val (.pointer (some ⟨r,0,none⟩))=>
  match q55 st r with
  | some (.iter m bs clock vis)=>
   match q55 st m with
   | some (.mapB ks vs bs' clock')=>bs'=bs/\clock'=clock/\bs.length=ks.length/\vs.length=ks.length/\bs.Nodup/\(∀ b ∈ bs,b<clock)/\(∀ j ∈ vis,j<ks.length) ∧
     ((∀ j,j<ks.length->j ∈ vis)->K (.tuple [.bool false]) st) ∧
     (∀ j k v,ks[j]?=some k->vs[j]?=some v->j ∉ vis->K (.tuple [.bool true,.val k,v]) (q83 st r (.iter m bs clock (vis++[j]))))
   | _=>False
  | _=>False
 | _=>False
def z94 (p:PV)(st:q5f)(K:PV->q5f->Prop):Prop:=
 match p with
 | .val (.pointer (some ⟨r,0,none⟩))=>
  match q55 st r with
  | some (.iter m bs clock vis)=>
   match q55 st m with
   | some (.mapB ks vs bs' clock')=>bs'=bs/\clock'=clock/\bs.length=ks.length/\vs.length=ks.length/\bs.Nodup ∧
     ∃ vis' j k v,vis=vis'++[j]/\ks[j]?=some k/\vs[j]?=some v/\K (.tuple [.val k,v]) st
   | _=>False
  | _=>False
 | _=>False
def mop (P:Program)(op:MOp)(ρ:MX->PV)(st:q5f)(K QP:PV->q5f->Prop):Prop:=
 match op with
 | .val v=>(q7c v ρ st fun p=>K p st)\/y1c v ρ st K
 | .alloc T zs=>∀ b,q54 st b->K (.ptr b 0) ((b,.arr T zs)::st)
 | .box T x=>
  match (ρ x).cells with
  | some cs=>∀ b,q54 st b->K (.ptr b 0) ((b,.arr T cs)::st)
  | none=>False
 | .store k x y=>
  match ρ x,(ρ y).cells with
  | .val (.pointer (some ⟨b,off,none⟩)),some ps=>
   match q55 st b with
   | some (.arr T cs)=>ps.length=k/\off+k<=cs.length/\K .any (q83 st b (.arr T (q5j cs off ps)))
   | _=>False
  | _,_=>False
 | .call f args=>z92 P (ρ f) (args.map ρ) st (q89 K QP)
 | .panic x=>
  match ρ x with
  | .iface T p=>QP (.iface T p) st
  | _=>False
 | .append T bytes k x y=>
  match q6s k st (ρ y) with
  | some (new,m)=>q9w T bytes k (ρ x) new m st K
  | none=>False
 | .appendZ T bytes k zs x n=>
  match ρ n with
  | .val (.int _ m)=>0<=m/\m<=9223372036854775807/\q9w T bytes k (ρ x) (List.replicate m.toNat zs).flatten m.toNat st K
  | _=>False
 | .mkSlice T bytes _ zs len cap=>
  match ρ len,ρ cap with
  | .val (.int _ l),.val (.int _ c)=>0<=l/\l<=c/\c*bytes<=281474976710656/\c<=9223372036854775807 ∧
    ∀ b,q54 st b->K (.own b 0 l.toNat c.toNat) ((b,.arr T (List.replicate c.toNat zs).flatten)::st)
  | _,_=>False
 | .copy k x y=>
  match q6s k st (ρ y) with
  | some (new,m)=>j3l k (ρ x) new m st K
  | none=>False
 | .eqNil neg nk x=>z4i neg nk (ρ x) st K
 | .mkMap=>∀ b,q54 st b->K (.val (.map (some b))) ((b,.map [] [])::st)
 | .mapSet lk m k v=>
  match ρ m,(ρ k).key? with
  | .val (.map (some b)),some kv=>
   match q55 st b with
   | some (.map ks vs)=>
    q8h lk kv=true ∧
    match k36 lk kv ks with
    | some (some j)=>K .any (q83 st b (.map (ks.set j kv) (vs.set j (ρ v))))
    | some none=>K .any (q83 st b (.map (ks++[kv]) (vs++[ρ v])))
    | none=>False
   | _=>False
  | _,_=>False
 | .delete lk m k=>
  match ρ m,(ρ k).key? with
  | .val (.map (some b)),some kv=>
   match q55 st b with
   | some (.map ks vs)=>
    q8h lk kv=true ∧
    match k36 lk kv ks with
    | some (some j)=>K .any (q83 st b (.map (ks.eraseIdx j) (vs.eraseIdx j)))
    | some none=>K .any st
    | none=>False
   | _=>False
  | _,_=>False
 | .clear k zs x=>z4j k zs (ρ x) st K
 | .rangeMap x=>z93 (ρ x) st K
 | .next x=>j7a (ρ x) st K
 | .entry x=>z94 (ρ x) st K
 | .defer _ _=>False
 | .bytes x=>
  match ρ x with
  | .val (.string s)=>s.size<=140737488355328/\K (.list false (k1t s) s.size) st
  | _=>False
structure PS where
 env:Env
 st:q5f
 deriving Inhabited
def z2g (e:Env)(t:Nat)(b:Bool):Env:=k0m e (some t) (.bool b)
def z4k (P:Program):List MInst->PS->(PS->Prop)->(PV->q5f->Prop)->Prop
 | [],s,K,_=>K s
 | i::rest,s,K,QP=>
  match i.guard with
  | none=>mop P i.op (q57 s.env) s.st (fun p st=>z4k P rest ⟨k0m s.env i.dst p,st⟩ K QP) QP
  | some (t,want)=>
   match q6g s.env t with
   | .val (.bool c)=>
    (c=want->mop P i.op (q57 (z2g s.env t want)) s.st (fun p st=>z4k P rest ⟨k0m (z2g s.env t want) i.dst p,st⟩ K QP) QP) ∧
    (c=(!want)->z4k P rest ⟨k0m (z2g s.env t !want) i.dst .undef,s.st⟩ K QP)
   | .val (.tuple _)=>z4k P rest ⟨k0m s.env i.dst .undef,s.st⟩ K QP
   | _=>False
inductive DFlag where
 | early
 | late
 | hard
 | last
 deriving Inhabited,DecidableEq
def q9o:MVal->Bool
 | .load .. | .maplen _ | .lookup .. | .strOf _=>true
 | _=>false
def z7f (P:Program)(op:MOp)(e:Env)(st:q5f)(K:PV->Prop)(QP:PV->q5f->Prop):Prop:=
 match op with
 | .val v=>q7c v (q57 e) st K
 | .call f args=>∃ p,j3k P (q57 e f) (args.map (q57 e)) st (fun en st'=>st'=st/\(en=.ret p\/∃ q,en=.panic q/\QP q st))/\K p
 | _=>False
def z7g (P:Program)(Cl:q5f->Prop)(op:MOp)(e:Env)(K:PV->Prop)(QP:PV->q5f->Prop):Prop:=
 match op with
 | .val v=>∃ p,(if q9o v then ∀ st,Cl st->q7c v (q57 e) st (fun q=>q=p) else q7c v (q57 e) [] (fun q=>q=p))/\K p
 | .call f args=>∃ p,(∀ st,Cl st->j3k P (q57 e f) (args.map (q57 e)) st (fun en st'=>st'=st/\(en=.ret p\/∃ q,en=.panic q/\QP q st)))/\K p
 | _=>False
def mdraw (P:Program)(Cl:q5f->Prop):List (DFlag × MInst)->PS->(PS->Prop)->(PV->q5f->Prop)->Prop
 | [],s,K,_=>K s
 | (fl,i)::rest,s,K,QP=>
  match i.guard with
  | none=>one fl i s (fun p st=>mdraw P Cl rest ⟨k0m s.env i.dst p,st⟩ K QP) QP
  | some (t,want)=>
   match q6g s.env t with
   | .val (.bool c)=>
    (c=want->one fl i ⟨z2g s.env t want,s.st⟩ (fun p st=>mdraw P Cl rest ⟨k0m (z2g s.env t want) i.dst p,st⟩ K QP) QP) ∧
    (c=(!want)->mdraw P Cl rest ⟨k0m (z2g s.env t !want) i.dst .undef,s.st⟩ K QP)
   | .val (.tuple _)=>mdraw P Cl rest ⟨k0m s.env i.dst .undef,s.st⟩ K QP
   | _=>False
where
 one (fl:DFlag) (i:MInst) (s:PS) (K:PV->q5f->Prop) (QP:PV->q5f->Prop):Prop:=
  match fl with
  | .early=>z7f P i.op s.env s.st (fun p=>K p s.st) QP
  | .late=>z7g P Cl i.op s.env (fun p=>K p s.st) QP
  | .hard=>mop P i.op (q57 s.env) s.st (fun p st=>Cl st/\K p st) QP
  | .last=>mop P i.op (q57 s.env) s.st K QP
def Cls (st0:q5f)(M:List Nat)(st:q5f):Prop:=∀ b,b ∉ M->∀ o,q55 st0 b=some o->q55 st b=some o
inductive MCode where
 | skip
 | region (l:List MInst) (kill:List Nat)
 | draw (late:Bool) (l:List (DFlag × MInst)) (kill:List Nat)
 | draw2 (pre a b:List (DFlag × MInst)) (kill:List Nat)
 | seq (a b:MCode)
 | cond (c:MX) (a b:MCode)
 | block (id:Nat) (c:MCode)
 | loop (c:MCode)
 | rangeFunc (g:MX) (params:List Nat) (a b:MCode)
 | exit (id:Nat)
 | ret
 deriving Inhabited
inductive MExit where
 | normal
 | exit (id:Nat)
 | ret
 | panic (p:PV)
 deriving Inhabited
abbrev q7e:=MExit->PS->Prop
def j1k (K:PS->Prop)(Q:q7e):q7e
 | .normal,s=>K s
 | e,s=>Q e s
def z2h (id:Nat)(Q:q7e):q7e
 | .exit j,s=>if j=id then Q .normal s else Q (.exit j) s
 | e,s=>Q e s
def q61 (Q:q7e)(p:PV)(st:q5f):Prop:=Q (.panic p) ⟨[],st⟩
def z2i (V:PS->PS->Prop)(body:q7e->PS->Prop)(Q:q7e)(s:PS):Prop:=
 ∃ (J:Nat->PS->Prop),(∃ n s',V s s'/\J n s')/\∀ n s,J n s->body (j1k (fun s1=>∃ m,m<n/\∃ s',V s1 s'/\J m s') Q) s
def View (s s':PS):Prop:=
 ∀ (I:Imm) (tmps:Array Value) (w:World),(∀ t,vrep I (q6g s.env t) (tmps.getD t undef))->SRep I s.st w ->
  ∃ I',I.le I'/\(∀ t,vrep I' (q6g s'.env t) (tmps.getD t undef))/\SRep I' s'.st w
inductive MRes where
 | tmp (t:Nat)
 | cell (t k:Nat) (agg:Bool)
 deriving Inhabited
def y1d (s:PS)(r:MRes)(K:PV->Prop):Prop:=
 match r with
 | .tmp t=>K (q6g s.env t)
 | .cell t k agg=>q7c (.load k agg (.tmp t)) (q57 s.env) s.st K
def y3k (s:PS):List MRes->(List PV->Prop)->Prop
 | [],K=>K []
 | r::rs,K=>y1d s r fun p=>y3k s rs fun ps=>K (p::ps)
def k2t:List PV->PV
 | [p]=>p
 | ps=>.tuple ps
structure Sees (p:PV)(st:q5f)(p':PV)(st':q5f):Prop where
 out:∀ I w v,SRep I st w->vrep I p v->∃ I',I.le I'/\SRep I' st' w/\vrep I' p' v
def RetView (c:PV->PEnd)(p:PV)(st:q5f)(Q:PEnd->q5f->Prop):Prop:=∃ p' st',Sees p st p' st'/\Q (c p') st'
structure MFunc where
 ntmps:Nat
 nparams:Nat
 results:List MRes
 body:MCode
def q65:Nat->List PV->Env
 | _,[]=>[]
 | t,p::ps=>(t,p)::q65 (t+1) ps
def k1v (rs:List MRes)(R E:PV->q5f->Prop):q7e
 | .normal,s | .ret,s=>y3k s rs fun ps=>R (k2t ps) s.st
 | .panic p,s=>E p s.st
 | .exit _,_=>False
end Go.Pv

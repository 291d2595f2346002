/- Rules: functions that defer calls, functions that recover, calls that panic. -/
import Derived.Test.YtmlmoaimjifpgaaGreatLFr
import Derived.Test.YtmlmoaimjifpgaaGreatLSf
import Derived.Handed
import Derived.LaidMore
import Derived.Test.YtmlmoaimjifpgaaGreatLBr
namespace Go.Pv
universe u
def z5s (P:Program)(pn:List Nat)(b:MBody)(E0:Env)(ds:List (FuncId × List PV))(K:Env->List (FuncId × List PV)->q68)(s:PS)(_:Tok (b,K):=⟨⟩):Prop:=j4c P pn b E0 ds K s
def k89 (P:Program)(ds:List (FuncId × List PV))(u:PMode)(st:q5c)(rs:List MRes)(e:Env)(R E:PV->q5c->Prop)(_:Tok (R,E):=⟨⟩):Prop:=k7a P ds u st (y09 rs e R E)
def j2i (P:Program)(rs:List MRes)(R E:PV->q5c->Prop)(E0:Env)(ds:List (FuncId × List PV))(e:MExit)(s:PS)(_:Tok (R,E):=⟨⟩):Prop:=k73 P rs R E E0 ds e s
def xdef (P:Program)(g:FuncId)(ps:List PV)(u:PMode)(st:q5c)(Q:PMode->q5c->Prop)(_:Tok Q:=⟨⟩):Prop:=PDef P g ps u st Q
section
variable (P:Program) (pn:List Nat) (E0:Env) (ds:List (FuncId × List PV)) (K:Env->List (FuncId × List PV)->q68) (s:PS) (e:Env) (st:q5c) (rs:List MRes) (R E:PV->q5c->Prop)
@[simp ↓] theorem y4u:z5s P pn .done E0 ds K s=K E0 ds .normal s:=rfl
@[simp ↓] theorem y7e (c:MCode) (b:MBody):z5s P pn (.pre [] c b) E0 ds K s=xwp P c (fun ex s'=>k7s (fun s'=>z5s P pn b E0 ds K s') (fun ex s'=>K E0 ds ex s') ex s') s:=rfl
@[simp ↓] theorem y15 (is:List MInst) (f:MX) (args:List MX) (b:MBody):z5s P pn (.pushR is f args b) E0 ds K ⟨e,st⟩=z7j P is ⟨e,st⟩ (fun s=>q5n (q57 s.env f).func? fun q=>q93 P q.1/\q9t (q8v pn s.env) fun E1=>z5s P pn b E1 ((q.1,q.2.1++args.map (q57 s.env)++q.2.2)::ds) K s) (fun _ _=>False):=by
 simp only [z5s,j4c,z7j,k5h]
 refine congrArg (fun k=>z4o P is ⟨e,st⟩ k fun _ _=>False) ?_
 funext s
 split
 ·rename_i g fs cs h
  rw [h]
  simp only [j2d,q5p]
 ·rename_i h
  simp only [q5n,eq_iff_iff,false_iff]
  rintro⟨⟨g,fs,cs⟩,h2, -⟩
  unfold PV.func? at h2
  split at h2
  ·rename_i h3; exact h _ _ _ h3
  ·cases h2
@[simp ↓] theorem y0m:j2i P rs R E E0 ds .normal ⟨e,st⟩=k89 P ds .returning st rs e R E:=rfl
@[simp ↓] theorem y7f:j2i P rs R E E0 ds .ret ⟨e,st⟩=k89 P ds .returning st rs e R E:=rfl
@[simp ↓] theorem y16 (p:PV):j2i P rs R E E0 ds (.panic p) ⟨e,st⟩=k89 P ds (.panicking p) st rs E0 R E:=rfl
@[simp ↓] theorem y4v (id:Nat):j2i P rs R E E0 ds (.exit id) s=False:=rfl
@[simp ↓] theorem y4w:k89 P [] .returning st rs e R E=j69 ⟨e,st⟩ rs fun ps=>R (k2o ps) st:=rfl
@[simp ↓] theorem y0n (p:PV):k89 P [] (.panicking p) st rs e R E=E p st:=rfl
@[simp ↓] theorem y17 (g:FuncId) (ps:List PV) (u:PMode):k89 P ((g,ps)::ds) u st rs e R E=xdef P g ps u st fun u' st'=>k89 P ds u' st' rs e R E:=rfl
end
@[congr] theorem y4x {P:Program} {g:FuncId} {ps ps':List PV} {u:PMode} {st st':q5c} {Q:PMode->q5c->Prop} (h1:ps=ps') (h2:st=st'):xdef P g ps u st Q=xdef P g ps' u st' Q:=by subst h1; subst h2; rfl
def Defs (P:Program)(g:FuncId)(ps:List PV)(u:PMode)(st:q5c)(u':PMode)(st':q5c):Prop:=PDef P g ps u st fun v s=>v=u'/\s=st'
theorem PDef.mono {P:Program}{g:FuncId}{ps:List PV}{u:PMode}{st:q5c}{Q Q':PMode->q5c->Prop}(h:PDef P g ps u st Q)(hq:∀ u s,Q u s->Q' u s):PDef P g ps u st Q':=by
 obtain⟨h1,h2⟩:=h
 refine⟨h1,fun I w vs fu a b c=>?_⟩
 obtain⟨k1,k2⟩:=h2 I w vs fu a b c
 refine⟨k1,fun cc cs hu hr=>?_⟩
 obtain⟨en,u',w2,fr,⟨hR1,I',st',i1,i2,i3,u'',i4,i5⟩,rest⟩:=k2 cc cs hu hr
 exact⟨en,u',w2,fr,⟨hR1,I',st',i1,i2,i3,u'',i4,hq _ _ i5⟩,rest⟩
theorem Defs.xdef {P:Program}{g:FuncId}{ps:List PV}{u u':PMode}{st st':q5c}(h:Defs P g ps u st u' st'){Q:PMode->q5c->Prop}(hk:Q u' st'):xdef P g ps u st Q:=
 PDef.mono h fun v s ⟨h1,h2⟩=>by subst h1; subst h2; exact hk
theorem PDef.le {P:Program}{g:FuncId}{ps:List PV}{u:PMode}{st st':q5c}{Q:PMode->q5c->Prop}(hs:StLe st' st)(h:PDef P g ps u st' Q):PDef P g ps u st Q:=
 ⟨h.enters,fun I w vs fu a b c=>h.out I w vs fu a (b.le hs) c⟩
theorem HasD.walk {P:Program}(q5l:P.follows .mixedOrders=true){g:FuncId}{m:MDFunc}(h:HasD P g m){nt np:Nat}{pn:List Nat}{rs:List MRes}{b:MBody}(hm:m=⟨nt,np,pn,rs,b⟩){ps:List PV}{st:q5c}{Q:PEnd->q5c->Prop}(hlen:ps.length=np)
  {R E:PV->q5c->Prop} (hR:∀ p st,R p st->RetView .ret p st Q) (hE:∀ p st,E p st->RetView .panic p st Q)
  (hw:z5s P pn b [] [] (fun E0 ds ex s=>j2i P rs R E E0 ds ex s) ⟨q6z 0 ps,st⟩):PCalls P g ps st Q:=by
 subst hm
 exact h.calls q5l hlen hR hE hw
theorem HasD.view {P:Program}(q5l:P.follows .mixedOrders=true){g:FuncId}{m:MDFunc}(h:HasD P g m){nt np:Nat}{pn:List Nat}{rs:List MRes}{b:MBody}(hm:m=⟨nt,np,pn,rs,b⟩){ps:List PV}{st:q5c}{Q:PEnd->q5c->Prop}(hlen:ps.length=np)
  (hw:z5s P pn b [] [] (fun E0 ds ex s=>j2i P rs (fun q st'=>RetView .ret q st' Q) (fun q st'=>RetView .panic q st' Q) E0 ds ex s) ⟨q6z 0 ps,st⟩):PCalls P g ps st Q:=
 h.walk q5l hm hlen (R:=fun q st'=>RetView .ret q st' Q) (E:=fun q st'=>RetView .panic q st' Q) (fun _ _ h=>h) (fun _ _ h=>h) hw
theorem HasR.walk {P:Program}(q5l:P.follows .mixedOrders=true){g:FuncId}{m:MRFunc}(h:HasR P g m){nt np d:Nat}{rs:List MRes}{c:MCode}(hm:m=⟨nt,np,d,rs,c⟩){ps:List PV}{u:PMode}{st:q5c}{Q:PMode->q5c->Prop}(hlen:ps.length=np)
  (hw:xwp P c (fun ex s=>j68 rs (fun _ st'=>Q .returning st') (fun _ _=>False) ex s) ⟨k0e (q6z 0 ps) (some d) (recovered u),st⟩):PDef P g ps u st Q:=by
 subst hm
 exact h.pdef q5l hlen hw
theorem HasR.defs {P:Program}(q5l:P.follows .mixedOrders=true){g:FuncId}{m:MRFunc}(h:HasR P g m){nt np d:Nat}{rs:List MRes}{c:MCode}(hm:m=⟨nt,np,d,rs,c⟩){ps:List PV}{u:PMode}{st st':q5c}(hlen:ps.length=np)
  (hw:xwp P c (fun ex s=>j68 rs (fun _ s=>s=st') (fun _ _=>False) ex s) ⟨k0e (q6z 0 ps) (some d) (recovered u),st⟩):Defs P g ps u st .returning st':=
 PDef.mono (h.walk q5l hm hlen (Q:=fun v s=>v=.returning/\s=st') (by
  have e:(fun (_:PV) (s:q5c)=>PMode.returning=.returning/\s=st')=fun _ s=>s=st':=by funext _ s; simp
  rw [e]; exact hw)) fun _ _ h=>h
@[simp] theorem j8g:recovered .returning=.val .nilIface:=rfl
@[simp] theorem j42 (p:PV):recovered (.panicking p)=p:=rfl
theorem HasR.enters {P:Program}{g:FuncId}{m:MRFunc}(h:HasR P g m):q93 P g:=by
 obtain⟨fn,h1,h2,h3⟩:=h
 refine⟨fn,h1,h2, ?_⟩
 unfold k8z at h3
 split at h3
 ·rename_i c hc; rw [hc]; rfl
 ·cases h3
def Panics (P:Program)(g:FuncId)(ps:List PV)(st:q5c)(p:PV):Prop:=PCalls P g ps st fun e s=>e=.panic p/\s=st
theorem Panics.xcall {P:Program}{g:FuncId}{ps:List PV}{st:q5c}{p:PV}(h:Panics P g ps st p){Q:PEnd->q5c->Prop}(hk:Q (.panic p) st):xcall P g ps st Q:=
 PCalls.mono h fun e s ⟨h1,h2⟩=>by subst h1; subst h2; exact hk
theorem Has.panics {P:Program}(q5l:P.follows .mixedOrders=true){g:FuncId}{m:MFunc}(h:Has P g m){nt np:Nat}{rs:List MRes}{c:MCode}(hm:m=⟨nt,np,rs,c⟩){ps:List PV}{st:q5c}{p:PV}(hlen:ps.length=np)
  (hw:xwp P c (fun e s=>j68 rs (fun _ _=>False) (fun q st'=>q=p/\Over st st') e s) ⟨q6z 0 ps,st⟩):Panics P g ps st p:=
 h.walk q5l hm hlen (fun _ _ h=>h.elim) (fun _ _ ⟨h1,h2⟩=>.drop h2.le ⟨by rw [h1],rfl⟩) hw
open Go.ChangeShapes Go.WideShapes Go.Deep Go.RowKit
abbrev Glob:=List (Nat × TypeId × List Value)
def k2g:Glob->q5c
 | []=>[]
 | (b,T,us)::gl=>(b,.arr T (us.map .val))::k2g gl
def z7l (w:World)(gl:Glob):Imm:=fun b=>if gl.any (fun g=>g.1 == b) then none else w.heap[b]?
def Glob.In (gl:Glob)(w:World):Prop:=∀ b T us,(b,T,us) ∈ gl->w.heap[b]?=some (.cells us.toArray T (0,0))/\∀ v ∈ us,v.oneCell'=true
theorem k6o:∀ {gl:Glob} {b:Nat} {o:PObj},q55 (k2g gl) b=some o->∃ T us,(b,T,us) ∈ gl/\o=.arr T (us.map .val)
 | [],_,_,h=>by simp [k2g] at h
 | (c,T,us)::gl,b,o,h=>by
  simp only [k2g,q55] at h
  split at h
  ·rename_i e
   subst e
   cases h
   exact⟨T,us,by simp,rfl⟩
  ·obtain⟨T',us',h1,h2⟩:=k6o h
   exact⟨T',us',by simp [h1],h2⟩
theorem q7w (I:Imm):∀ us:List Value,(∀ v ∈ us,v.oneCell'=true)->vcells I (us.map .val) us
 | [],_=>by simp [vcells]
 | u::us,h=>by
  simp only [List.map_cons,vcells]
  exact⟨⟨by simp [vrep],h u (by simp)⟩,q7w I us fun v hv=>h v (by simp [hv])⟩
theorem q9d {I:Imm}:∀ {us vs:List Value},vcells I (us.map .val) vs->vs=us
 | [],[],_=>rfl
 | [],_::_,h=>by simp [vcells] at h
 | _::_,[],h=>by simp [vcells] at h
 | u::us,v::vs,h=>by
  simp only [List.map_cons,vcells,vrep] at h
  obtain⟨⟨rfl, -⟩,h2⟩:=h
  rw [q9d h2]
theorem z5t:∀ {gl:Glob} {n:Nat},(∀ b T us,(b,T,us) ∈ gl->b<n)->k0y (k2g gl) n
 | [],_,_=>trivial
 | (c,T,us)::gl,n,h=>⟨h c T us (by simp),z5t fun b T us hm=>h b T us (by simp [hm])⟩
theorem z5u {w:World}{gl:Glob}(h:gl.In w):SRep (z7l w gl) (k2g gl) w:=by
 refine⟨fun b o hb=>?_,fun b o hb=>?_,z5t fun b T us hm=>(Array.getElem?_eq_some_iff.1 (h b T us hm).1).1⟩
 ·unfold z7l at hb
  split at hb
  ·cases hb
  ·exact hb
 ·obtain⟨T,us,hm,rfl⟩:=k6o hb
  refine⟨?_,_,(h b T us hm).1,us,rfl,q7w _ us (h b T us hm).2⟩
  unfold z7l
  rw [if_pos (List.any_eq_true.2 ⟨_,hm,by simp⟩)]
theorem z1u:∀ {gl:Glob} {b:Nat},gl.any (fun g=>g.1 == b)=true->∃ o,q55 (k2g gl) b=some o
 | [],_,h=>by simp at h
 | (c,T,us)::gl,b,h=>by
  simp only [k2g,q55]
  by_cases e:c=b
  ·exact⟨_,if_pos e⟩
  ·rw [if_neg e]
   refine z1u ?_
   simpa [e] using h
theorem j2j {w w':World}{I:Imm}{gl:Glob}(h0:gl.In w)(h1:(z7l w gl).le I)(h2:Calm w w')(h3:SRep I (k2g gl) w'):Below w.heap.size w w':=
 ⟨h2.os,h2.tape,h2.output,h2.size,fun k hk=>by
  have h:w.heap[k]?=some w.heap[k]:=Array.getElem?_eq_getElem hk
  by_cases hg:gl.any (fun g=>g.1 == k)=true
  ·obtain⟨o,ho⟩:=z1u hg
   obtain⟨T,us,hm,rfl⟩:=k6o ho
   obtain⟨-,r,hr,vs,rfl,hv⟩:=h3.objs k _ ho
   rw [hr,(h0 k T us hm).1,q9d hv]
  ·have:z7l w gl k=some w.heap[k]:=by unfold z7l; rw [if_neg hg,h]
   rw [h,h3.imm k _ (h1 k _ this)]⟩
theorem Has.bridgeG {P:Program}{g:FuncId}{m:MFunc}(hg:Has P g m){gl:Glob}{ps:List PV}(h:Rets P g ps (k2g gl) (.bool true)){w:World}(hw:gl.In w){vs:List Value}(hv:vreps (z7l w gl) ps vs) :
  Calls P g vs.toArray w fun e w'=>e=.returned (.bool true)/\Below w.heap.size w w':=by
 have hp:PEnter P g ps (k2g gl) fun e s=>e=.ret (.bool true)/\s=k2g gl:=by
  rcases h with h | h
  ·exact h
  ·obtain⟨v,w',h3, -⟩:=h.out _ w vs (z5u hw) hv
   rw [q7f hg.enters] at h3
   cases h3
 refine (hp.out _ w vs (z5u hw) hv).mono fun e w' hh=>?_
 obtain⟨I',st',a,b,c,pe,d,rfl,rfl⟩:=hh
 obtain⟨v,rfl,hv⟩:=d
 simp only [vrep] at hv
 subst hv
 exact⟨rfl,j2j hw a b c⟩
section
variable {H:Type} {enc:TypeId × Value->H} {P:Program} {w:World} {base:Nat} {spare:Nat->Bool} {held:Bool}
theorem z8p {n:Nat}{t e:TypeId}(hs:P.underlying t=some (.array n e))(he:P.underlying e=some (.int .u8))(hc:P.cellsOf e=1)(ht:P.cellsOf t=n)
  {fuel:Nat} {cs:List Value} {x:DataW H × List MemPlace} (h:DataW.trod enc P w base spare held fuel t cs=some x):∃ l:List (BitVec 8),l.length=n/\cs=l.map fun b=>Value.int .u8 b.toNat:=by
 obtain⟨xs,m,rfl,rfl,hcl,hxl,hx⟩:=DataW.trod_array hs h
 rw [ht] at hcl
 rw [hc] at hx
 refine⟨cs.map fun c=>match c with | .int .u8 k=>BitVec.ofInt 8 k | _=>0#8,by simp [hcl], ?_⟩
 refine List.ext_getElem (by simp) fun i hi hi2=>?_
 have h1:=hx i (by omega)
 rw [Nat.mul_one] at h1
 have h2:(cs.drop i).take 1=[cs[i]]:=by
  rw [List.drop_eq_getElem_cons hi]; rfl
 rw [h2] at h1
 rw [List.getElem?_eq_getElem (by omega)] at h1
 obtain⟨k,hk, -,hwf⟩:=DataW.trod_int he h1
 have hk':cs[i]=.int .u8 k:=by simpa using hk
 simp only [List.getElem_map,hk']
 have hw:0<=k/\k<=255:=by
  simp [Lit.wf,IntKind.min,IntKind.max,IntKind.bits,IntKind.signed] at hwf
  omega
 congr 1
 rw [BitVec.toNat_ofInt]
 omega
end
open Go.ChangeShapes Go.WideShapes Go.Deep Go.RowKit
theorem k7f {I:Imm}{α:Type}{f:α->List PV}{g:α->List Value}:∀ {l:List α},(∀ x ∈ l,vcells I (f x) (g x))->vcells I (l.flatMap f) (l.flatMap g)
 | [],_=>by simp [vcells]
 | x::l,h=>by
  simp only [List.flatMap_cons]
  exact q6i (h x (by simp)) (k7f fun y hy=>h y (by simp [hy]))
section
variable {H:Type} (enc:TypeId × Value->H) (P:Program) (w:World) (base:Nat) (spare:Nat->Bool) (held:Bool) (gl:Glob)
structure Opens {A:Type}(t:TypeId)(k:Nat)(row:A->List PV)(ok:A->Prop):Prop where
 cells:P.cellsOf t=k
 op:∀ {fuel:Nat} {cs:List Value} {y:DataW H × List MemPlace},DataW.trod enc P w base spare held fuel t cs=some y->∃ a:A,ok a/\vcells (z7l w gl) (row a) cs/\cs.length=k
structure OpensB (N:Nat){A:Type}(t:TypeId)(k:Nat)(row:A->List PV)(ok:A->Prop):Prop where
 cells:P.cellsOf t=k
 op:∀ {fuel:Nat} {cs:List Value} {y:DataW H × List MemPlace},fuel<=N->DataW.trod enc P w base spare held fuel t cs=some y->∃ a:A,ok a/\vcells (z7l w gl) (row a) cs/\cs.length=k
structure OpensFs {A:Type}(fs:List Field)(off k:Nat)(row:A->List PV)(ok:A->Prop):Prop where
 op:∀ {fuel:Nat} {cs:List Value},off+k<=cs.length->(∀ (j:Nat) f,fs[j]?=some f->∃ y,DataW.trod enc P w base spare held fuel f.type ((cs.drop f.offset).take (P.cellsOf f.type))=some y) ->
  ∃ a:A,ok a/\vcells (z7l w gl) (row a) ((cs.drop off).take k)
end
section
variable {H:Type} {enc:TypeId × Value->H} {P:Program} {w:World} {base:Nat} {spare:Nat->Bool} {held:Bool} {gl:Glob}
theorem Opens.i64 {t:TypeId}(hs:P.underlying t=some (.int .i64))(hc:P.cellsOf t=1):Opens enc P w base spare held gl t 1 (fun n:Int=>[.int n]) I64:=
 ⟨hc,fun h=>by
  obtain⟨k,rfl, -,hwf⟩:=DataW.trod_int hs h
  exact⟨k,.of_wf hwf,by simp [vcells,vrep,Value.oneCell'],rfl⟩⟩
theorem Opens.bool {t:TypeId}(hs:P.underlying t=some .bool)(hc:P.cellsOf t=1):Opens enc P w base spare held gl t 1 (fun b:Bool=>[.bool b]) (fun _=>True):=
 ⟨hc,fun h=>by
  obtain⟨k,rfl, -⟩:=DataW.trod_bool hs h
  exact⟨k,trivial,by simp [vcells,vrep,Value.oneCell'],rfl⟩⟩
theorem Opens.conv {A B:Type}{t:TypeId}{k:Nat}{row:A->List PV}{ok:A->Prop}{row':B->List PV}{ok':B->Prop}(h:Opens enc P w base spare held gl t k row ok)(f:A->B)(hr:∀ a,row' (f a)=row a)(hk:∀ a,ok a->ok' (f a)) :
  Opens enc P w base spare held gl t k row' ok':=
 ⟨h.cells,fun hy=>by
  obtain⟨a,h1,h2,h3⟩:=h.op hy
  exact⟨f a,hk a h1,by rw [hr]; exact h2,h3⟩⟩
theorem OpensFs.nil {off:Nat}:OpensFs enc P w base spare held gl [] off 0 (fun _:Unit=>[]) (fun _=>True):=
 ⟨fun _ _=>⟨(),trivial,by simp [vcells]⟩⟩
theorem OpensFs.cons {A B:Type}{f:Field}{fs:List Field}{off k m:Nat}{rA:A->List PV}{kA:A->Prop}{rB:B->List PV}{kB:B->Prop}(ho:f.offset=off)
  (h1:Opens enc P w base spare held gl f.type k rA kA) (h2:OpensFs enc P w base spare held gl fs (off+k) m rB kB) :
  OpensFs enc P w base spare held gl (f::fs) off (k+m) (fun x:A × B=>rA x.1++rB x.2) (fun x=>kA x.1/\kB x.2):=
 ⟨fun {fuel cs} hl h=>by
  obtain⟨y,hy⟩:=h 0 f rfl
  rw [h1.cells,ho] at hy
  obtain⟨a,a1,a2,a3⟩:=h1.op hy
  obtain⟨b,b1,b2⟩:=h2.op (cs:=cs) (fuel:=fuel) (by omega) fun j g hg=>h (j+1) g (by simpa using hg)
  refine⟨(a,b),⟨a1,b1⟩, ?_⟩
  have e:(cs.drop off).take (k+m)=(cs.drop off).take k++(cs.drop (off+k)).take m:=by
   rw [List.take_add,List.drop_drop]
  rw [e]
  exact q6i a2 b2⟩
theorem Opens.struct {A:Type}{t:TypeId}{k:Nat}{fs:Array Field}{row:A->List PV}{ok:A->Prop}(hs:P.underlying t=some (.struct fs))(hc:P.cellsOf t=k)(h:OpensFs enc P w base spare held gl fs.toList 0 k row ok) :
  Opens enc P w base spare held gl t k row ok:=
 ⟨hc,fun {fuel cs y} hy=>by
  obtain⟨xs,m,_,_,h4,h5,h6⟩:=DataW.trod_struct hs hy
  rw [hc] at h4
  obtain⟨a,a1,a2⟩:=h.op (cs:=cs) (fuel:=m) (by omega) fun j f hf=>by
   have hf':fs[j]?=some f:=by simpa using hf
   have:=h6 j f hf'
   have hj:j<fs.size:=(Array.getElem?_eq_some_iff.1 hf').1
   rw [List.getElem?_eq_getElem (by omega)] at this
   exact⟨_,this⟩
  rw [List.drop_zero,List.take_of_length_le (by omega)] at a2
  exact⟨a,a1,a2,h4⟩⟩
def OffE (enc:TypeId × Value->H)(P:Program)(w:World)(base:Nat)(spare:Nat->Bool)(held:Bool)(gl:Glob)(e:TypeId):Prop:=
 ∀ (b off fuel:Nat) (cs:List Value) (y:DataW H × List MemPlace),gl.any (fun g=>g.1 == b)=true->(∀ j,j<cs.length->w.cell? ⟨b,off+j,none⟩=cs[j]?)->DataW.trod enc P w base spare held fuel e cs=some y->False
theorem OffE.nil {e:TypeId}:OffE enc P w base spare held [] e:=fun _ _ _ _ _ h=>by simp at h
theorem OpensB.more {A:Type}{t:TypeId}{k M N:Nat}{row:A->List PV}{ok:A->Prop}(h:OpensB enc P w base spare held gl M t k row ok)(hNM:N<=M):OpensB enc P w base spare held gl N t k row ok:=
 ⟨h.cells,fun hf=>h.op (Nat.le_trans hf hNM)⟩
theorem Opens.b {A:Type}{t:TypeId}{k N:Nat}{row:A->List PV}{ok:A->Prop}(h:Opens enc P w base spare held gl t k row ok):OpensB enc P w base spare held gl N t k row ok:=
 ⟨h.cells,fun _=>h.op⟩
theorem Opens.ofB {A:Type}{t:TypeId}{k:Nat}{row:A->List PV}{ok:A->Prop}(h:∀ N,OpensB enc P w base spare held gl N t k row ok):Opens enc P w base spare held gl t k row ok:=
 ⟨(h 0).cells,fun {fuel _ _}=>(h fuel).op (Nat.le_refl _)⟩
theorem OpensB.slice {N:Nat}{A:Type}[Inhabited A]{t e:TypeId}{k:Nat}{row:A->List PV}{ok:A->Prop}(hoff:OffE enc P w base spare held gl e)(hs:P.underlying t=some (.slice e))(ht:P.cellsOf t=1)(hk:0<k)(hE:OpensB enc P w base spare held gl N e k row ok) :
  OpensB enc P w base spare held gl (N+1) t 1 (fun l:List A=>[.list false (l.flatMap row) l.length]) (fun l=>∀ x ∈ l,ok x):=
 ⟨ht,fun {fuel cs y} hN h=>by
  rcases DataW.trod_slice hs h with⟨rfl, -⟩|⟨a,len,cap,el,rest,n,hfu,rfl, -, -,hl,hm,hel,hx, -⟩
  ·exact⟨[],by simp,by
    simp only [vcells,List.flatMap_nil,List.length_nil]
    exact⟨⟨(PLe.trans .nil .loose:PLe .nil (.list false [] 0)) _ _ (by simp only [vrep]),rfl⟩,trivial⟩,rfl⟩
  ·obtain⟨f,hf⟩:=choose_lt (α:=A × List Value) (p:=fun i q=>ok q.1/\vcells (z7l w gl) (row q.1) q.2/\q.2.length=k/\(∀ j,j<k->w.cell? (a.add (i*k+j))=q.2[j]?)/\∃ y,DataW.trod enc P w base spare held n e q.2=some y) (n:=len) fun i hi=>by
    have hxi:=hx i hi
    rw [List.getElem?_eq_getElem (by omega)] at hxi
    obtain⟨cs',g1,g2⟩:=Option.bind_eq_some_iff.1 hxi
    obtain⟨-,g6,g7⟩:=World.cells?_some g1
    rw [hE.cells] at g7
    obtain⟨a',k1,k2,k3⟩:=hE.op (by omega) g2
    refine⟨(a',cs'),k1,k2,k3,fun j hj=>?_,_,g2⟩
    have:=g7 j hj
    rw [add_add] at this
    exact this
   refine⟨(List.range len).map fun i=>(f i).1,fun x hx=>?_, ?_,rfl⟩
   ·obtain⟨i,hi,rfl⟩:=List.mem_map.1 hx
    exact (hf i (List.mem_range.1 hi)).1
   simp only [vcells,vrep,List.length_map,List.length_range]
   refine⟨⟨⟨some a,cap,(List.range len).flatMap fun i=>(f i).2,rfl,by simpa using hl,hm,by simp, ?_, ?_⟩,rfl⟩,trivial⟩
   ·rw [List.flatMap_map]
    exact k7f fun i hi=>(hf i (List.mem_range.1 hi)).2.1
   ·by_cases h0:len=0
    ·left; subst h0; rfl
    ·right
     obtain⟨-, -,l0,c0,y0,hy0⟩:=hf 0 (by omega)
     have hsp:a.spot=none:=by
      have:=c0 0 hk
      rw [List.getElem?_eq_getElem (by omega)] at this
      have:=World.cell?_spot this
      obtain⟨x,y,z⟩:=a
      simpa [Addr.add] using this
     obtain⟨b,off,spot⟩:=a
     subst hsp
     refine⟨b,off,rfl, ?_⟩
     have hadd:∀ q,(⟨b,off,none⟩:Addr).add q=⟨b,off+q,none⟩:=fun q=>by
      unfold Addr.add
      by_cases hq:q=0 <;> simp [hq]
     have hb:¬ gl.any (fun g=>g.1 == b)=true:=fun hb=>hoff b off n (f 0).2 y0 hb (fun j hj=>by
      have:=c0 j (by omega)
      rw [hadd] at this
      simpa using this) hy0
     have hF:∀ i ∈ List.range len,((fun i=>(f i).2) i).length=k:=fun i hi=>(hf i (List.mem_range.1 hi)).2.2.1
     have hcell:∀ j v,((List.range len).flatMap fun i=>(f i).2)[j]?=some v->w.cell? ⟨b,off+j,none⟩=some v:=by
      intro j v hj
      have hjl:=(List.getElem?_eq_some_iff.1 hj).1
      rw [z3l _ k _ hF] at hjl
      simp only [List.length_range] at hjl
      have hq:j / k<len:=(Nat.div_lt_iff_lt_mul hk).2 hjl
      have hr:j % k<k:=Nat.mod_lt _ hk
      have he:j / k*k+j % k=j:=by rw [Nat.mul_comm]; exact Nat.div_add_mod j k
      have h1:=j4z (fun i=>(f i).2) k _ (j / k) (j % k) hF hr (by simpa using hq)
      rw [he,hj] at h1
      simp only [List.getElem_range] at h1
      have h2:=(hf (j / k) hq).2.2.2.1 (j % k) hr
      rw [hadd,he] at h2
      rw [h2,h1]
     cases hv:((List.range len).flatMap fun i=>(f i).2) with
     | nil=>
      have:=z3l (fun i=>(f i).2) k _ hF
      rw [hv] at this
      simp only [List.length_nil,List.length_range] at this
      have:=Nat.mul_pos (Nat.pos_of_ne_zero h0) hk
      omega
     | cons v0 vs0=>
      obtain⟨arr,T,fz,g1, -⟩:=k86 (hcell 0 v0 (by rw [hv]; rfl))
      refine⟨arr,T,fz,by unfold z7l; rw [if_neg hb]; exact g1,fun j v hj=>?_⟩
      rw [<-hv] at hj
      obtain⟨arr',T',fz',g2,g3⟩:=k86 (hcell j v hj)
      have g1':w.heap[b]?=some (.cells arr T fz):=g1
      have g2':w.heap[b]?=some (.cells arr' T' fz'):=g2
      rw [g1'] at g2'
      cases g2'
      exact g3⟩
theorem Opens.slice {A:Type}[Inhabited A]{t e:TypeId}{k:Nat}{row:A->List PV}{ok:A->Prop}(hoff:OffE enc P w base spare held gl e)(hs:P.underlying t=some (.slice e))(ht:P.cellsOf t=1)(hk:0<k)(hE:Opens enc P w base spare held gl e k row ok) :
  Opens enc P w base spare held gl t 1 (fun l:List A=>[.list false (l.flatMap row) l.length]) (fun l=>∀ x ∈ l,ok x):=
 Opens.ofB fun N=>OpensB.more (OpensB.slice (N:=N) hoff hs ht hk hE.b) (Nat.le_succ N)
theorem Opens.argS {A:Type}{t:TypeId}{k:Nat}{row:A->List PV}{ok:A->Prop}(h:Opens enc P w base spare held gl t k row ok){fs:Array Field}(hs:P.underlying t=some (.struct fs)){r:Reach}{b0:Nat}{v:Value}{d:DataW H}{p:List MemPlace}
  (hv:Value.okWide P w r b0 t v) (hd:DataW.Trod enc P w base spare held t v d p):∃ a:A,ok a/\vrep (z7l w gl) (.agg (row a)) v:=by
 obtain⟨cs,rfl, -⟩:=okWide_struct hs hv
 obtain⟨fuel,hf⟩:=hd
 have hf':DataW.trod enc P w base spare held fuel t cs.toList=some (d,p):=hf
 obtain⟨a,h1,h2, -⟩:=h.op hf'
 exact⟨a,h1,by simp only [vrep]; exact⟨cs.toList,by simp,h2⟩⟩
theorem Opens.argL {A:Type}{t:TypeId}{one:A->PV}{ok:A->Prop}(h:Opens enc P w base spare held gl t 1 (fun a=>[one a]) ok){e:TypeId}(hs:P.underlying t=some (.slice e)){r:Reach}{b0:Nat}{v:Value}{d:DataW H}{p:List MemPlace}
  (hv:Value.okWide P w r b0 t v) (hd:DataW.Trod enc P w base spare held t v d p):∃ a:A,ok a/\vrep (z7l w gl) (one a) v:=by
 obtain⟨a,n,cap,rfl⟩:=okWide_slice hs hv
 obtain⟨fuel,hf⟩:=hd
 have hf':DataW.trod enc P w base spare held fuel t [.slice a n cap]=some (d,p):=hf
 obtain⟨x,h1,h2, -⟩:=h.op hf'
 simp only [vcells] at h2
 exact⟨x,h1,h2.1.1⟩
end
open Go.ChangeShapes Go.WideShapes Go.Deep Go.RowKit
section
variable {H:Type} {enc:TypeId × Value->H} {P:Program} {w:World} {base:Nat} {spare:Nat->Bool} {held:Bool} {gl:Glob}
theorem Opens.str {t:TypeId}(hs:P.underlying t=some .string)(hc:P.cellsOf t=1):Opens enc P w base spare held gl t 1 (fun s:ByteArray=>[.str s]) (fun _=>True):=
 ⟨hc,fun h=>by
  obtain⟨s,rfl, -, -⟩:=DataW.trod_string hs h
  exact⟨s,trivial,by simp [vcells,vrep,Value.oneCell'],rfl⟩⟩
end
mutual
def PV.wide:PV->Prop
 | .list _ cs n=>n<=9223372036854775807/\PV.wides cs
 | .agg cs=>PV.wides cs
 | _=>True
def PV.wides:List PV->Prop
 | []=>True
 | p::ps=>p.wide/\PV.wides ps
end
mutual
theorem z5v {I:Imm}:∀ (p:PV) (v:Value),vrep I p v->p.wide
 | .any,_,_=>by simp only [PV.wide]
 | .val _,_,_=>by simp only [PV.wide]
 | .agg cs,v,hr=>by
  simp only [vrep] at hr
  simp only [PV.wide]
  obtain⟨vs, -,h2⟩:=hr
  exact k4k cs vs h2
 | .tuple _,_,_=>by simp only [PV.wide]
 | .list tight cs n,v,hr=>by
  simp only [vrep] at hr
  simp only [PV.wide]
  obtain⟨a,cap,vs, -,h2,h3, -,h5, -⟩:=hr
  exact⟨by unfold maxLen at h3; omega,k4k cs vs h5⟩
 | .iptr _ _,_,_=>by simp only [PV.wide]
 | .imap _ _,_,_=>by simp only [PV.wide]
 | .func _ _ _,_,_=>by simp only [PV.wide]
 | .iface _ _,_,_=>by simp only [PV.wide]
theorem k4k {I:Imm}:∀ (ps:List PV) (vs:List Value),vcells I ps vs->PV.wides ps
 | [],_,_=>by simp only [PV.wides]
 | _::_,[],hr=>by simp [vcells] at hr
 | p::ps,v::vs,hr=>by
  simp only [vcells] at hr
  simp only [PV.wides]
  exact⟨z5v p v hr.1.1,k4k ps vs hr.2⟩
end
theorem z5w:∀ {ps:List PV},PV.wides ps->∀ p ∈ ps,p.wide
 | [],_,p,hp=>by simp at hp
 | q::ps,h,p,hp=>by
  simp only [PV.wides] at h
  rcases List.mem_cons.1 hp with rfl | hp
  ·exact h.1
  ·exact z5w h.2 p hp
open Go.ChangeShapes Go.WideShapes Go.Deep Go.RowKit
section
variable {H:Type} {enc:TypeId × Value->H} {P:Program} {w:World} {base:Nat} {spare:Nat->Bool} {held:Bool} {gl:Glob}
theorem OpensB.conv {N:Nat}{A B:Type}{t:TypeId}{k:Nat}{row:A->List PV}{ok:A->Prop}{row':B->List PV}{ok':B->Prop}(h:OpensB enc P w base spare held gl N t k row ok)(f:A->B)(hr:∀ a,row' (f a)=row a)(hk:∀ a,ok a->ok' (f a)) :
  OpensB enc P w base spare held gl N t k row' ok':=
 ⟨h.cells,fun hN hy=>by
  obtain⟨a,h1,h2,h3⟩:=h.op hN hy
  exact⟨f a,hk a h1,by rw [hr]; exact h2,h3⟩⟩
structure OpensFsB (enc:TypeId × Value->H)(P:Program)(w:World)(base:Nat)(spare:Nat->Bool)(held:Bool)(gl:Glob)(N:Nat){A:Type}(fs:List Field)(off k:Nat)(row:A->List PV)(ok:A->Prop):Prop where
 op:∀ {fuel:Nat} {cs:List Value},fuel<=N->off+k<=cs.length->(∀ (j:Nat) f,fs[j]?=some f->∃ y,DataW.trod enc P w base spare held fuel f.type ((cs.drop f.offset).take (P.cellsOf f.type))=some y) ->
  ∃ a:A,ok a/\vcells (z7l w gl) (row a) ((cs.drop off).take k)
theorem OpensFsB.nil {N off:Nat}:OpensFsB enc P w base spare held gl N [] off 0 (fun _:Unit=>[]) (fun _=>True):=
 ⟨fun _ _ _=>⟨(),trivial,by simp [vcells]⟩⟩
theorem OpensFsB.cons {N:Nat}{A B:Type}{f:Field}{fs:List Field}{off k m:Nat}{rA:A->List PV}{kA:A->Prop}{rB:B->List PV}{kB:B->Prop}(ho:f.offset=off)
  (h1:OpensB enc P w base spare held gl N f.type k rA kA) (h2:OpensFsB enc P w base spare held gl N fs (off+k) m rB kB) :
  OpensFsB enc P w base spare held gl N (f::fs) off (k+m) (fun x:A × B=>rA x.1++rB x.2) (fun x=>kA x.1/\kB x.2):=
 ⟨fun {fuel cs} hN hl h=>by
  obtain⟨y,hy⟩:=h 0 f rfl
  rw [h1.cells,ho] at hy
  obtain⟨a,a1,a2,a3⟩:=h1.op hN hy
  obtain⟨b,b1,b2⟩:=h2.op (cs:=cs) (fuel:=fuel) hN (by omega) fun j g hg=>h (j+1) g (by simpa using hg)
  refine⟨(a,b),⟨a1,b1⟩, ?_⟩
  have e:(cs.drop off).take (k+m)=(cs.drop off).take k++(cs.drop (off+k)).take m:=by
   rw [List.take_add,List.drop_drop]
  rw [e]
  exact q6i a2 b2⟩
theorem OpensB.struct {N:Nat}{A:Type}{t:TypeId}{k:Nat}{fs:Array Field}{row:A->List PV}{ok:A->Prop}(hs:P.underlying t=some (.struct fs))(hc:P.cellsOf t=k)(h:OpensFsB enc P w base spare held gl N fs.toList 0 k row ok) :
  OpensB enc P w base spare held gl (N+1) t k row ok:=
 ⟨hc,fun {fuel cs y} hN hy=>by
  obtain⟨xs,m,hm,_,h4,h5,h6⟩:=DataW.trod_struct hs hy
  rw [hc] at h4
  obtain⟨a,a1,a2⟩:=h.op (cs:=cs) (fuel:=m) (by omega) (by omega) fun j f hf=>by
   have hf':fs[j]?=some f:=by simpa using hf
   have:=h6 j f hf'
   have hj:j<fs.size:=(Array.getElem?_eq_some_iff.1 hf').1
   rw [List.getElem?_eq_getElem (by omega)] at this
   exact⟨_,this⟩
  rw [List.drop_zero,List.take_of_length_le (by omega)] at a2
  exact⟨a,a1,a2,h4⟩⟩
theorem OpensB.struct0 {A:Type}{t:TypeId}{k:Nat}{fs:Array Field}{row:A->List PV}{ok:A->Prop}(hs:P.underlying t=some (.struct fs))(hc:P.cellsOf t=k) :
  OpensB enc P w base spare held gl 0 t k row ok:=
 ⟨hc,fun {fuel cs y} hN hy=>by
  obtain⟨xs,m,hm, -⟩:=DataW.trod_struct hs hy
  omega⟩
theorem OpensB.slice0 {A:Type}{t e:TypeId}{one:A->PV}{ok:A->Prop}(hs:P.underlying t=some (.slice e))(ht:P.cellsOf t=1)(a0:A)(h0:ok a0)(hn:one a0=.list false [] 0) :
  OpensB enc P w base spare held gl 0 t 1 (fun a=>[one a]) ok:=
 ⟨ht,fun {fuel cs y} hN hy=>by
  rcases DataW.trod_slice hs hy with⟨rfl, -⟩|⟨a,len,cap,el,rest,n,hfu, -⟩
  ·refine⟨a0,h0, ?_,rfl⟩
   rw [hn]
   simp only [vcells]
   exact⟨⟨(PLe.trans .nil .loose:PLe .nil (.list false [] 0)) _ _ (by simp only [vrep]),rfl⟩,trivial⟩
  ·omega⟩
end
end Go.Pv

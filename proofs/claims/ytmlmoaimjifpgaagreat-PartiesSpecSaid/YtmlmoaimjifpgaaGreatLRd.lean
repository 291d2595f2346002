/- Rules: functions that defer calls, functions that recover, calls that panic. -/
import Derived.Test.YtmlmoaimjifpgaaGreatLFr
import Derived.Test.YtmlmoaimjifpgaaGreatLSf
import Derived.Handed
import Derived.LaidMore
import Derived.Test.YtmlmoaimjifpgaaGreatLBr
namespace Go.Pv
universe u
def z5q (P:Program)(pn:List Nat)(b:MBody)(E0:Env)(ds:List (FuncId × List PV))(K:Env->List (FuncId × List PV)->q7e)(s:PS)(_:Tok (b,K):=⟨⟩):Prop:=j31 P pn b E0 ds K s
def k89 (P:Program)(ds:List (FuncId × List PV))(u:PMode)(st:q5f)(rs:List MRes)(e:Env)(R E:PV->q5f->Prop)(_:Tok (R,E):=⟨⟩):Prop:=k7h P ds u st (y1k rs e R E)
def j18 (P:Program)(rs:List MRes)(R E:PV->q5f->Prop)(E0:Env)(ds:List (FuncId × List PV))(e:MExit)(s:PS)(_:Tok (R,E):=⟨⟩):Prop:=k74 P rs R E E0 ds e s
def xdef (P:Program)(g:FuncId)(ps:List PV)(u:PMode)(st:q5f)(Q:PMode->q5f->Prop)(_:Tok Q:=⟨⟩):Prop:=PDef P g ps u st Q
section
variable (P:Program) (pn:List Nat) (E0:Env) (ds:List (FuncId × List PV)) (K:Env->List (FuncId × List PV)->q7e) (s:PS) (e:Env) (st:q5f) (rs:List MRes) (R E:PV->q5f->Prop)
@[simp ↓] theorem y4u:z5q P pn .done E0 ds K s=K E0 ds .normal s:=rfl
@[simp ↓] theorem y7d (c:MCode) (b:MBody):z5q P pn (.pre [] c b) E0 ds K s=xwp P c (fun ex s'=>k70 (fun s'=>z5q P pn b E0 ds K s') (fun ex s'=>K E0 ds ex s') ex s') s:=rfl
@[simp ↓] theorem y2g (is:List MInst) (f:MX) (args:List MX) (b:MBody):z5q P pn (.pushR is f args b) E0 ds K ⟨e,st⟩=z7c P is ⟨e,st⟩ (fun s=>q5s (q57 s.env f).func? fun q=>k0b P q.1/\q93 (q84 pn s.env) fun E1=>z5q P pn b E1 ((q.1,q.2.1++args.map (q57 s.env)++q.2.2)::ds) K s) (fun _ _=>False):=by
 simp only [z5q,j31,z7c,k5p]
 refine congrArg (fun k=>z4k P is ⟨e,st⟩ k fun _ _=>False) ?_
 funext s
 split
 ·rename_i g fs cs h
  rw [h]
  simp only [j12,q5t]
 ·rename_i h
  simp only [q5s,eq_iff_iff,false_iff]
  rintro⟨⟨g,fs,cs⟩,h2, -⟩
  unfold PV.func? at h2
  split at h2
  ·rename_i h3; exact h _ _ _ h3
  ·cases h2
@[simp ↓] theorem y0r:j18 P rs R E E0 ds .normal ⟨e,st⟩=k89 P ds .returning st rs e R E:=rfl
@[simp ↓] theorem y7e:j18 P rs R E E0 ds .ret ⟨e,st⟩=k89 P ds .returning st rs e R E:=rfl
@[simp ↓] theorem y2h (p:PV):j18 P rs R E E0 ds (.panic p) ⟨e,st⟩=k89 P ds (.panicking p) st rs E0 R E:=rfl
@[simp ↓] theorem y4v (id:Nat):j18 P rs R E E0 ds (.exit id) s=False:=rfl
@[simp ↓] theorem y4w:k89 P [] .returning st rs e R E=j62 ⟨e,st⟩ rs fun ps=>R (k2t ps) st:=rfl
@[simp ↓] theorem y0s (p:PV):k89 P [] (.panicking p) st rs e R E=E p st:=rfl
@[simp ↓] theorem y2i (g:FuncId) (ps:List PV) (u:PMode):k89 P ((g,ps)::ds) u st rs e R E=xdef P g ps u st fun u' st'=>k89 P ds u' st' rs e R E:=rfl
end
@[congr] theorem y4x {P:Program} {g:FuncId} {ps ps':List PV} {u:PMode} {st st':q5f} {Q:PMode->q5f->Prop} (h1:ps=ps') (h2:st=st'):xdef P g ps u st Q=xdef P g ps' u st' Q:=by subst h1; subst h2; rfl
def Defs (P:Program)(g:FuncId)(ps:List PV)(u:PMode)(st:q5f)(u':PMode)(st':q5f):Prop:=PDef P g ps u st fun v s=>v=u'/\s=st'
theorem PDef.mono {P:Program}{g:FuncId}{ps:List PV}{u:PMode}{st:q5f}{Q Q':PMode->q5f->Prop}(h:PDef P g ps u st Q)(hq:∀ u s,Q u s->Q' u s):PDef P g ps u st Q':=by
 obtain⟨h1,h2⟩:=h
 refine⟨h1,fun I w vs fu a b c=>?_⟩
 obtain⟨k1,k2⟩:=h2 I w vs fu a b c
 refine⟨k1,fun cc cs hu hr=>?_⟩
 obtain⟨en,u',w2,fr,⟨hR1,I',st',i1,i2,i3,u'',i4,i5⟩,rest⟩:=k2 cc cs hu hr
 exact⟨en,u',w2,fr,⟨hR1,I',st',i1,i2,i3,u'',i4,hq _ _ i5⟩,rest⟩
theorem Defs.xdef {P:Program}{g:FuncId}{ps:List PV}{u u':PMode}{st st':q5f}(h:Defs P g ps u st u' st'){Q:PMode->q5f->Prop}(hk:Q u' st'):xdef P g ps u st Q:=
 PDef.mono h fun v s ⟨h1,h2⟩=>by subst h1; subst h2; exact hk
theorem PDef.le {P:Program}{g:FuncId}{ps:List PV}{u:PMode}{st st':q5f}{Q:PMode->q5f->Prop}(hs:StLe st' st)(h:PDef P g ps u st' Q):PDef P g ps u st Q:=
 ⟨h.enters,fun I w vs fu a b c=>h.out I w vs fu a (b.le hs) c⟩
theorem HasD.walk {P:Program}(q5n:P.follows .mixedOrders=true){g:FuncId}{m:MDFunc}(h:HasD P g m){nt np:Nat}{pn:List Nat}{rs:List MRes}{b:MBody}(hm:m=⟨nt,np,pn,rs,b⟩){ps:List PV}{st:q5f}{Q:PEnd->q5f->Prop}(hlen:ps.length=np)
  {R E:PV->q5f->Prop} (hR:∀ p st,R p st->RetView .ret p st Q) (hE:∀ p st,E p st->RetView .panic p st Q)
  (hw:z5q P pn b [] [] (fun E0 ds ex s=>j18 P rs R E E0 ds ex s) ⟨q65 0 ps,st⟩):PCalls P g ps st Q:=by
 subst hm
 exact h.calls q5n hlen hR hE hw
theorem HasD.view {P:Program}(q5n:P.follows .mixedOrders=true){g:FuncId}{m:MDFunc}(h:HasD P g m){nt np:Nat}{pn:List Nat}{rs:List MRes}{b:MBody}(hm:m=⟨nt,np,pn,rs,b⟩){ps:List PV}{st:q5f}{Q:PEnd->q5f->Prop}(hlen:ps.length=np)
  (hw:z5q P pn b [] [] (fun E0 ds ex s=>j18 P rs (fun q st'=>RetView .ret q st' Q) (fun q st'=>RetView .panic q st' Q) E0 ds ex s) ⟨q65 0 ps,st⟩):PCalls P g ps st Q:=
 h.walk q5n hm hlen (R:=fun q st'=>RetView .ret q st' Q) (E:=fun q st'=>RetView .panic q st' Q) (fun _ _ h=>h) (fun _ _ h=>h) hw
theorem HasR.walk {P:Program}(q5n:P.follows .mixedOrders=true){g:FuncId}{m:MRFunc}(h:HasR P g m){nt np d:Nat}{rs:List MRes}{c:MCode}(hm:m=⟨nt,np,d,rs,c⟩){ps:List PV}{u:PMode}{st:q5f}{Q:PMode->q5f->Prop}(hlen:ps.length=np)
  (hw:xwp P c (fun ex s=>j61 rs (fun _ st'=>Q .returning st') (fun _ _=>False) ex s) ⟨k0m (q65 0 ps) (some d) (recovered u),st⟩):PDef P g ps u st Q:=by
 subst hm
 exact h.pdef q5n hlen hw
theorem HasR.defs {P:Program}(q5n:P.follows .mixedOrders=true){g:FuncId}{m:MRFunc}(h:HasR P g m){nt np d:Nat}{rs:List MRes}{c:MCode}(hm:m=⟨nt,np,d,rs,c⟩){ps:List PV}{u:PMode}{st st':q5f}(hlen:ps.length=np)
  (hw:xwp P c (fun ex s=>j61 rs (fun _ s=>s=st') (fun _ _=>False) ex s) ⟨k0m (q65 0 ps) (some d) (recovered u),st⟩):Defs P g ps u st .returning st':=
 PDef.mono (h.walk q5n hm hlen (Q:=fun v s=>v=.returning/\s=st') (by
  have e:(fun (_:PV) (s:q5f)=>PMode.returning=.returning/\s=st')=fun _ s=>s=st':=by funext _ s; simp
  rw [e]; exact hw)) fun _ _ h=>h
@[simp] theorem j8c:recovered .returning=.val .nilIface:=rfl
@[simp] theorem j4r (p:PV):recovered (.panicking p)=p:=rfl
theorem HasR.enters {P:Program}{g:FuncId}{m:MRFunc}(h:HasR P g m):k0b P g:=by
 obtain⟨fn,h1,h2,h3⟩:=h
 refine⟨fn,h1,h2, ?_⟩
 unfold k80 at h3
 split at h3
 ·rename_i c hc; rw [hc]; rfl
 ·cases h3
def Panics (P:Program)(g:FuncId)(ps:List PV)(st:q5f)(p:PV):Prop:=PCalls P g ps st fun e s=>e=.panic p/\s=st
theorem Panics.xcall {P:Program}{g:FuncId}{ps:List PV}{st:q5f}{p:PV}(h:Panics P g ps st p){Q:PEnd->q5f->Prop}(hk:Q (.panic p) st):xcall P g ps st Q:=
 PCalls.mono h fun e s ⟨h1,h2⟩=>by subst h1; subst h2; exact hk
theorem Has.panics {P:Program}(q5n:P.follows .mixedOrders=true){g:FuncId}{m:MFunc}(h:Has P g m){nt np:Nat}{rs:List MRes}{c:MCode}(hm:m=⟨nt,np,rs,c⟩){ps:List PV}{st:q5f}{p:PV}(hlen:ps.length=np)
  (hw:xwp P c (fun e s=>j61 rs (fun _ _=>False) (fun q st'=>q=p/\Over st st') e s) ⟨q65 0 ps,st⟩):Panics P g ps st p:=
 h.walk q5n hm hlen (fun _ _ h=>h.elim) (fun _ _ ⟨h1,h2⟩=>.drop h2.le ⟨by rw [h1],rfl⟩) hw
open Go.ChangeShapes Go.WideShapes Go.Deep Go.RowKit
abbrev Glob:=List (Nat × TypeId × List Value)
def k2o:Glob->q5f
 | []=>[]
 | (b,T,us)::gl=>(b,.arr T (us.map .val))::k2o gl
def j0o (w:World)(gl:Glob):Imm:=fun b=>if gl.any (fun g=>g.1 == b) then none else w.heap[b]?
def Glob.In (gl:Glob)(w:World):Prop:=∀ b T us,(b,T,us) ∈ gl->w.heap[b]?=some (.cells us.toArray T (0,0))/\∀ v ∈ us,v.oneCell'=true
theorem k6v:∀ {gl:Glob} {b:Nat} {o:PObj},q55 (k2o gl) b=some o->∃ T us,(b,T,us) ∈ gl/\o=.arr T (us.map .val)
 | [],_,_,h=>by simp [k2o] at h
 | (c,T,us)::gl,b,o,h=>by
  simp only [k2o,q55] at h
  split at h
  ·rename_i e
   subst e
   cases h
   exact⟨T,us,by simp,rfl⟩
  ·obtain⟨T',us',h1,h2⟩:=k6v h
   exact⟨T',us',by simp [h1],h2⟩
theorem q8n (I:Imm):∀ us:List Value,(∀ v ∈ us,v.oneCell'=true)->vcells I (us.map .val) us
 | [],_=>by simp [vcells]
 | u::us,h=>by
  simp only [List.map_cons,vcells]
  exact⟨⟨by simp [vrep],h u (by simp)⟩,q8n I us fun v hv=>h v (by simp [hv])⟩
theorem q9l {I:Imm}:∀ {us vs:List Value},vcells I (us.map .val) vs->vs=us
 | [],[],_=>rfl
 | [],_::_,h=>by simp [vcells] at h
 | _::_,[],h=>by simp [vcells] at h
 | u::us,v::vs,h=>by
  simp only [List.map_cons,vcells,vrep] at h
  obtain⟨⟨rfl, -⟩,h2⟩:=h
  rw [q9l h2]
theorem z5r:∀ {gl:Glob} {n:Nat},(∀ b T us,(b,T,us) ∈ gl->b<n)->k09 (k2o gl) n
 | [],_,_=>trivial
 | (c,T,us)::gl,n,h=>⟨h c T us (by simp),z5r fun b T us hm=>h b T us (by simp [hm])⟩
theorem z5s {w:World}{gl:Glob}(h:gl.In w):SRep (j0o w gl) (k2o gl) w:=by
 refine⟨fun b o hb=>?_,fun b o hb=>?_,z5r fun b T us hm=>(Array.getElem?_eq_some_iff.1 (h b T us hm).1).1⟩
 ·unfold j0o at hb
  split at hb
  ·cases hb
  ·exact hb
 ·obtain⟨T,us,hm,rfl⟩:=k6v hb
  refine⟨?_,_,(h b T us hm).1,us,rfl,q8n _ us (h b T us hm).2⟩
  unfold j0o
  rw [if_pos (List.any_eq_true.2 ⟨_,hm,by simp⟩)]
theorem z1m:∀ {gl:Glob} {b:Nat},gl.any (fun g=>g.1 == b)=true->∃ o,q55 (k2o gl) b=some o
 | [],_,h=>by simp at h
 | (c,T,us)::gl,b,h=>by
  simp only [k2o,q55]
  by_cases e:c=b
  ·exact⟨_,if_pos e⟩
  ·rw [if_neg e]
   refine z1m ?_
   simpa [e] using h
theorem j19 {w w':World}{I:Imm}{gl:Glob}(h0:gl.In w)(h1:(j0o w gl).le I)(h2:Calm w w')(h3:SRep I (k2o gl) w'):Below w.heap.size w w':=
 ⟨h2.os,h2.tape,h2.output,h2.size,fun k hk=>by
  have h:w.heap[k]?=some w.heap[k]:=Array.getElem?_eq_getElem hk
  by_cases hg:gl.any (fun g=>g.1 == k)=true
  ·obtain⟨o,ho⟩:=z1m hg
   obtain⟨T,us,hm,rfl⟩:=k6v ho
   obtain⟨-,r,hr,vs,rfl,hv⟩:=h3.objs k _ ho
   rw [hr,(h0 k T us hm).1,q9l hv]
  ·have:j0o w gl k=some w.heap[k]:=by unfold j0o; rw [if_neg hg,h]
   rw [h,h3.imm k _ (h1 k _ this)]⟩
theorem Has.bridgeG {P:Program}{g:FuncId}{m:MFunc}(hg:Has P g m){gl:Glob}{ps:List PV}(h:Rets P g ps (k2o gl) (.bool true)){w:World}(hw:gl.In w){vs:List Value}(hv:vreps (j0o w gl) ps vs) :
  Calls P g vs.toArray w fun e w'=>e=.returned (.bool true)/\Below w.heap.size w w':=by
 have hp:PEnter P g ps (k2o gl) fun e s=>e=.ret (.bool true)/\s=k2o gl:=by
  rcases h with h | h
  ·exact h
  ·obtain⟨v,w',h3, -⟩:=h.out _ w vs (z5s hw) hv
   rw [q7m hg.enters] at h3
   cases h3
 refine (hp.out _ w vs (z5s hw) hv).mono fun e w' hh=>?_
 obtain⟨I',st',a,b,c,pe,d,rfl,rfl⟩:=hh
 obtain⟨v,rfl,hv⟩:=d
 simp only [vrep] at hv
 subst hv
 exact⟨rfl,j19 hw a b c⟩
section
variable {H:Type} {enc:TypeId × Value->H} {P:Program} {w:World} {base:Nat} {spare:Nat->Bool} {held:Bool}
end
open Go.ChangeShapes Go.WideShapes Go.Deep Go.RowKit
theorem k7m {I:Imm}{α:Type}{f:α->List PV}{g:α->List Value}:∀ {l:List α},(∀ x ∈ l,vcells I (f x) (g x))->vcells I (l.flatMap f) (l.flatMap g)
 | [],_=>by simp [vcells]
 | x::l,h=>by
  simp only [List.flatMap_cons]
  exact q6l (h x (by simp)) (k7m fun y hy=>h y (by simp [hy]))
section
variable {H:Type} (enc:TypeId × Value->H) (P:Program) (w:World) (base:Nat) (spare:Nat->Bool) (held:Bool) (gl:Glob)
structure Opens {A:Type}(t:TypeId)(k:Nat)(row:A->List PV)(ok:A->Prop):Prop where
 cells:P.cellsOf t=k
 op:∀ {fuel:Nat} {cs:List Value} {y:DataW H × List MemPlace},DataW.trod enc P w base spare held fuel t cs=some y->∃ a:A,ok a/\vcells (j0o w gl) (row a) cs/\cs.length=k
structure OpensB (N:Nat){A:Type}(t:TypeId)(k:Nat)(row:A->List PV)(ok:A->Prop):Prop where
 cells:P.cellsOf t=k
 op:∀ {fuel:Nat} {cs:List Value} {y:DataW H × List MemPlace},fuel<=N->DataW.trod enc P w base spare held fuel t cs=some y->∃ a:A,ok a/\vcells (j0o w gl) (row a) cs/\cs.length=k
structure OpensFs {A:Type}(fs:List Field)(off k:Nat)(row:A->List PV)(ok:A->Prop):Prop where
 op:∀ {fuel:Nat} {cs:List Value},off+k<=cs.length->(∀ (j:Nat) f,fs[j]?=some f->∃ y,DataW.trod enc P w base spare held fuel f.type ((cs.drop f.offset).take (P.cellsOf f.type))=some y) ->
  ∃ a:A,ok a/\vcells (j0o w gl) (row a) ((cs.drop off).take k)
end
section
variable {H:Type} {enc:TypeId × Value->H} {P:Program} {w:World} {base:Nat} {spare:Nat->Bool} {held:Bool} {gl:Glob}
theorem Opens.i64 {t:TypeId}(hs:P.underlying t=some (.int .i64))(hc:P.cellsOf t=1):Opens enc P w base spare held gl t 1 (fun n:Int=>[.int n]) I64:=
 ⟨hc,fun h=>by
  obtain⟨k,rfl, -,hwf⟩:=DataW.trod_int hs h
  exact⟨k,.of_wf hwf,by simp [vcells,vrep,Value.oneCell'],rfl⟩⟩
theorem Opens.conv {A B:Type}{t:TypeId}{k:Nat}{row:A->List PV}{ok:A->Prop}{row':B->List PV}{ok':B->Prop}(h:Opens enc P w base spare held gl t k row ok)(f:A->B)(hr:∀ a,row' (f a)=row a)(hk:∀ a,ok a->ok' (f a)) :
  Opens enc P w base spare held gl t k row' ok':=
 ⟨h.cells,fun hy=>by
  obtain⟨a,h1,h2,h3⟩:=h.op hy
  exact⟨f a,hk a h1,by rw [hr]; exact h2,h3⟩⟩
theorem OpensFs.nil {off:Nat}:OpensFs enc P w base spare held gl [] off 0 (fun _:Unit=>[]) (fun _=>True):=
 ⟨fun _ _=>⟨(),trivial,by simp [vcells]⟩⟩
theorem OpensFs.cons {A B:Type}{f:Field}{fs:List Field}{off k m:Nat}{rA:A->List PV}{kA:A->Prop}{rB:B->List PV}{kB:B->Prop}(ho:f.offset=off)
  (h1:Opens enc P w base spare held gl f.type k rA kA) (h2:OpensFs enc P w base spare held gl fs (off+k) m rB kB) :
  OpensFs enc P w base spare held gl (f::fs) off (k+m) (fun x:A × B=>rA x.1++rB x.2) (fun x=>kA x.1/\kB x.2):=
 ⟨fun {fuel cs} hl h=>by
  obtain⟨y,hy⟩:=h 0 f rfl
  rw [h1.cells,ho] at hy
  obtain⟨a,a1,a2,a3⟩:=h1.op hy
  obtain⟨b,b1,b2⟩:=h2.op (cs:=cs) (fuel:=fuel) (by omega) fun j g hg=>h (j+1) g (by simpa using hg)
  refine⟨(a,b),⟨a1,b1⟩, ?_⟩
  have e:(cs.drop off).take (k+m)=(cs.drop off).take k++(cs.drop (off+k)).take m:=by
   rw [List.take_add,List.drop_drop]
  rw [e]
  exact q6l a2 b2⟩
theorem Opens.struct {A:Type}{t:TypeId}{k:Nat}{fs:Array Field}{row:A->List PV}{ok:A->Prop}(hs:P.underlying t=some (.struct fs))(hc:P.cellsOf t=k)(h:OpensFs enc P w base spare held gl fs.toList 0 k row ok) :
  Opens enc P w base spare held gl t k row ok:=
 ⟨hc,fun {fuel cs y} hy=>by
  obtain⟨xs,m,_,_,h4,h5,h6⟩:=DataW.trod_struct hs hy
  rw [hc] at h4
  obtain⟨a,a1,a2⟩:=h.op (cs:=cs) (fuel:=m) (by omega) fun j f hf=>by
   have hf':fs[j]?=some f:=by simpa using hf
   have:=h6 j f hf'
   have hj:j<fs.size:=(Array.getElem?_eq_some_iff.1 hf').1
   rw [List.getElem?_eq_getElem (by omega)] at this
   exact⟨_,this⟩
  rw [List.drop_zero,List.take_of_length_le (by omega)] at a2
  exact⟨a,a1,a2,h4⟩⟩
def OffE (enc:TypeId × Value->H)(P:Program)(w:World)(base:Nat)(spare:Nat->Bool)(held:Bool)(gl:Glob)(e:TypeId):Prop:=
 ∀ (b off fuel:Nat) (cs:List Value) (y:DataW H × List MemPlace),gl.any (fun g=>g.1 == b)=true->(∀ j,j<cs.length->w.cell? ⟨b,off+j,none⟩=cs[j]?)->DataW.trod enc P w base spare held fuel e cs=some y->False
theorem OffE.nil {e:TypeId}:OffE enc P w base spare held [] e:=fun _ _ _ _ _ h=>by simp at h
theorem OpensB.more {A:Type}{t:TypeId}{k M N:Nat}{row:A->List PV}{ok:A->Prop}(h:OpensB enc P w base spare held gl M t k row ok)(hNM:N<=M):OpensB enc P w base spare held gl N t k row ok:=
 ⟨h.cells,fun hf=>h.op (Nat.le_trans hf hNM)⟩
theorem Opens.b {A:Type}{t:TypeId}{k N:Nat}{row:A->List PV}{ok:A->Prop}(h:Opens enc P w base spare held gl t k row ok):OpensB enc P w base spare held gl N t k row ok:=
 ⟨h.cells,fun _=>h.op⟩
theorem Opens.ofB {A:Type}{t:TypeId}{k:Nat}{row:A->List PV}{ok:A->Prop}(h:∀ N,OpensB enc P w base spare held gl N t k row ok):Opens enc P w base spare held gl t k row ok:=
 ⟨(h 0).cells,fun {fuel _ _}=>(h fuel).op (Nat.le_refl _)⟩
theorem OpensB.slice {N:Nat}{A:Type}[Inhabited A]{t e:TypeId}{k:Nat}{row:A->List PV}{ok:A->Prop}(hoff:OffE enc P w base spare held gl e)(hs:P.underlying t=some (.slice e))(ht:P.cellsOf t=1)(hk:0<k)(hE:OpensB enc P w base spare held gl N e k row ok) :
  OpensB enc P w base spare held gl (N+1) t 1 (fun l:List A=>[.list false (l.flatMap row) l.length]) (fun l=>∀ x ∈ l,ok x):=
 ⟨ht,fun {fuel cs y} hN h=>by
  rcases DataW.trod_slice hs h with⟨rfl, -⟩|⟨a,len,cap,el,rest,n,hfu,rfl, -, -,hl,hm,hel,hx, -⟩
  ·exact⟨[],by simp,by
    simp only [vcells,List.flatMap_nil,List.length_nil]
    exact⟨⟨(PLe.trans .nil .loose:PLe .nil (.list false [] 0)) _ _ (by simp only [vrep]),rfl⟩,trivial⟩,rfl⟩
  ·obtain⟨f,hf⟩:=choose_lt (α:=A × List Value) (p:=fun i q=>ok q.1/\vcells (j0o w gl) (row q.1) q.2/\q.2.length=k/\(∀ j,j<k->w.cell? (a.add (i*k+j))=q.2[j]?)/\∃ y,DataW.trod enc P w base spare held n e q.2=some y) (n:=len) fun i hi=>by
    have hxi:=hx i hi
    rw [List.getElem?_eq_getElem (by omega)] at hxi
    obtain⟨cs',g1,g2⟩:=Option.bind_eq_some_iff.1 hxi
    obtain⟨-,g6,g7⟩:=World.cells?_some g1
    rw [hE.cells] at g7
    obtain⟨a',k1,k2,k3⟩:=hE.op (by omega) g2
    refine⟨(a',cs'),k1,k2,k3,fun j hj=>?_,_,g2⟩
    have:=g7 j hj
    rw [add_add] at this
    exact this
   refine⟨(List.range len).map fun i=>(f i).1,fun x hx=>?_, ?_,rfl⟩
   ·obtain⟨i,hi,rfl⟩:=List.mem_map.1 hx
    exact (hf i (List.mem_range.1 hi)).1
   simp only [vcells,vrep,List.length_map,List.length_range]
   refine⟨⟨⟨some a,cap,(List.range len).flatMap fun i=>(f i).2,rfl,by simpa using hl,hm,by simp, ?_, ?_⟩,rfl⟩,trivial⟩
   ·rw [List.flatMap_map]
    exact k7m fun i hi=>(hf i (List.mem_range.1 hi)).2.1
   ·by_cases h0:len=0
    ·left; subst h0; rfl
    ·right
     obtain⟨-, -,l0,c0,y0,hy0⟩:=hf 0 (by omega)
     have hsp:a.spot=none:=by
      have:=c0 0 hk
      rw [List.getElem?_eq_getElem (by omega)] at this
      have:=World.cell?_spot this
      obtain⟨x,y,z⟩:=a
      simpa [Addr.add] using this
     obtain⟨b,off,spot⟩:=a
     subst hsp
     refine⟨b,off,rfl, ?_⟩
     have hadd:∀ q,(⟨b,off,none⟩:Addr).add q=⟨b,off+q,none⟩:=fun q=>by
      unfold Addr.add
      by_cases hq:q=0 <;> simp [hq]
     have hb:¬ gl.any (fun g=>g.1 == b)=true:=fun hb=>hoff b off n (f 0).2 y0 hb (fun j hj=>by
      have:=c0 j (by omega)
      rw [hadd] at this
      simpa using this) hy0
     have hF:∀ i ∈ List.range len,((fun i=>(f i).2) i).length=k:=fun i hi=>(hf i (List.mem_range.1 hi)).2.2.1
     have hcell:∀ j v,((List.range len).flatMap fun i=>(f i).2)[j]?=some v->w.cell? ⟨b,off+j,none⟩=some v:=by
      intro j v hj
      have hjl:=(List.getElem?_eq_some_iff.1 hj).1
      rw [z3b _ k _ hF] at hjl
      simp only [List.length_range] at hjl
      have hq:j / k<len:=(Nat.div_lt_iff_lt_mul hk).2 hjl
      have hr:j % k<k:=Nat.mod_lt _ hk
      have he:j / k*k+j % k=j:=by rw [Nat.mul_comm]; exact Nat.div_add_mod j k
      have h1:=j4o (fun i=>(f i).2) k _ (j / k) (j % k) hF hr (by simpa using hq)
      rw [he,hj] at h1
      simp only [List.getElem_range] at h1
      have h2:=(hf (j / k) hq).2.2.2.1 (j % k) hr
      rw [hadd,he] at h2
      rw [h2,h1]
     cases hv:((List.range len).flatMap fun i=>(f i).2) with
     | nil=>
      have:=z3b (fun i=>(f i).2) k _ hF
      rw [hv] at this
      simp only [List.length_nil,List.length_range] at this
      have:=Nat.mul_pos (Nat.pos_of_ne_zero h0) hk
      omega
     | cons v0 vs0=>
      obtain⟨arr,T,fz,g1, -⟩:=k86 (hcell 0 v0 (by rw [hv]; rfl))
      refine⟨arr,T,fz,by unfold j0o; rw [if_neg hb]; exact g1,fun j v hj=>?_⟩
      rw [<-hv] at hj
      obtain⟨arr',T',fz',g2,g3⟩:=k86 (hcell j v hj)
      have g1':w.heap[b]?=some (.cells arr T fz):=g1
      have g2':w.heap[b]?=some (.cells arr' T' fz'):=g2
      rw [g1'] at g2'
      cases g2'
      exact g3⟩
theorem Opens.slice {A:Type}[Inhabited A]{t e:TypeId}{k:Nat}{row:A->List PV}{ok:A->Prop}(hoff:OffE enc P w base spare held gl e)(hs:P.underlying t=some (.slice e))(ht:P.cellsOf t=1)(hk:0<k)(hE:Opens enc P w base spare held gl e k row ok) :
  Opens enc P w base spare held gl t 1 (fun l:List A=>[.list false (l.flatMap row) l.length]) (fun l=>∀ x ∈ l,ok x):=
 Opens.ofB fun N=>OpensB.more (OpensB.slice (N:=N) hoff hs ht hk hE.b) (Nat.le_succ N)
theorem Opens.argS {A:Type}{t:TypeId}{k:Nat}{row:A->List PV}{ok:A->Prop}(h:Opens enc P w base spare held gl t k row ok){fs:Array Field}(hs:P.underlying t=some (.struct fs)){r:Reach}{b0:Nat}{v:Value}{d:DataW H}{p:List MemPlace}
  (hv:Value.okWide P w r b0 t v) (hd:DataW.Trod enc P w base spare held t v d p):∃ a:A,ok a/\vrep (j0o w gl) (.agg (row a)) v:=by
 obtain⟨cs,rfl, -⟩:=okWide_struct hs hv
 obtain⟨fuel,hf⟩:=hd
 have hf':DataW.trod enc P w base spare held fuel t cs.toList=some (d,p):=hf
 obtain⟨a,h1,h2, -⟩:=h.op hf'
 exact⟨a,h1,by simp only [vrep]; exact⟨cs.toList,by simp,h2⟩⟩
end
open Go.ChangeShapes Go.WideShapes Go.Deep Go.RowKit
section
variable {H:Type} {enc:TypeId × Value->H} {P:Program} {w:World} {base:Nat} {spare:Nat->Bool} {held:Bool} {gl:Glob}
end
mutual
def PV.wide:PV->Prop
 | .list _ cs n=>n<=9223372036854775807/\PV.wides cs
 | .agg cs=>PV.wides cs
 | _=>True
def PV.wides:List PV->Prop
 | []=>True
 | p::ps=>p.wide/\PV.wides ps
end
mutual
theorem z5t {I:Imm}:∀ (p:PV) (v:Value),vrep I p v->p.wide
 | .any,_,_=>by simp only [PV.wide]
 | .val _,_,_=>by simp only [PV.wide]
 | .agg cs,v,hr=>by
  simp only [vrep] at hr
  simp only [PV.wide]
  obtain⟨vs, -,h2⟩:=hr
  exact k4r cs vs h2
 | .tuple _,_,_=>by simp only [PV.wide]
 | .list tight cs n,v,hr=>by
  simp only [vrep] at hr
  simp only [PV.wide]
  obtain⟨a,cap,vs, -,h2,h3, -,h5, -⟩:=hr
  exact⟨by unfold maxLen at h3; omega,k4r cs vs h5⟩
 | .iptr _ _,_,_=>by simp only [PV.wide]
 | .imap _ _,_,_=>by simp only [PV.wide]
 | .func _ _ _,_,_=>by simp only [PV.wide]
 | .iface _ _,_,_=>by simp only [PV.wide]
theorem k4r {I:Imm}:∀ (ps:List PV) (vs:List Value),vcells I ps vs->PV.wides ps
 | [],_,_=>by simp only [PV.wides]
 | _::_,[],hr=>by simp [vcells] at hr
 | p::ps,v::vs,hr=>by
  simp only [vcells] at hr
  simp only [PV.wides]
  exact⟨z5t p v hr.1.1,k4r ps vs hr.2⟩
end
theorem Sound.wide {ps:List PV}{st:q5f}(h:Sound ps st){p:PV}(hm:p ∈ ps):p.wide:=by
 obtain⟨I,w,vs, -,hv⟩:=h
 obtain⟨v,hv⟩:=z5h hv hm
 exact z5t p v hv
open Go.ChangeShapes Go.WideShapes Go.Deep Go.RowKit
section
variable {H:Type} {enc:TypeId × Value->H} {P:Program} {w:World} {base:Nat} {spare:Nat->Bool} {held:Bool} {gl:Glob}
theorem OpensB.conv {N:Nat}{A B:Type}{t:TypeId}{k:Nat}{row:A->List PV}{ok:A->Prop}{row':B->List PV}{ok':B->Prop}(h:OpensB enc P w base spare held gl N t k row ok)(f:A->B)(hr:∀ a,row' (f a)=row a)(hk:∀ a,ok a->ok' (f a)) :
  OpensB enc P w base spare held gl N t k row' ok':=
 ⟨h.cells,fun hN hy=>by
  obtain⟨a,h1,h2,h3⟩:=h.op hN hy
  exact⟨f a,hk a h1,by rw [hr]; exact h2,h3⟩⟩
structure OpensFsB (enc:TypeId × Value->H)(P:Program)(w:World)(base:Nat)(spare:Nat->Bool)(held:Bool)(gl:Glob)(N:Nat){A:Type}(fs:List Field)(off k:Nat)(row:A->List PV)(ok:A->Prop):Prop where
 op:∀ {fuel:Nat} {cs:List Value},fuel<=N->off+k<=cs.length->(∀ (j:Nat) f,fs[j]?=some f->∃ y,DataW.trod enc P w base spare held fuel f.type ((cs.drop f.offset).take (P.cellsOf f.type))=some y) ->
  ∃ a:A,ok a/\vcells (j0o w gl) (row a) ((cs.drop off).take k)
theorem OpensFsB.nil {N off:Nat}:OpensFsB enc P w base spare held gl N [] off 0 (fun _:Unit=>[]) (fun _=>True):=
 ⟨fun _ _ _=>⟨(),trivial,by simp [vcells]⟩⟩
theorem OpensFsB.cons {N:Nat}{A B:Type}{f:Field}{fs:List Field}{off k m:Nat}{rA:A->List PV}{kA:A->Prop}{rB:B->List PV}{kB:B->Prop}(ho:f.offset=off)
  (h1:OpensB enc P w base spare held gl N f.type k rA kA) (h2:OpensFsB enc P w base spare held gl N fs (off+k) m rB kB) :
  OpensFsB enc P w base spare held gl N (f::fs) off (k+m) (fun x:A × B=>rA x.1++rB x.2) (fun x=>kA x.1/\kB x.2):=
 ⟨fun {fuel cs} hN hl h=>by
  obtain⟨y,hy⟩:=h 0 f rfl
  rw [h1.cells,ho] at hy
  obtain⟨a,a1,a2,a3⟩:=h1.op hN hy
  obtain⟨b,b1,b2⟩:=h2.op (cs:=cs) (fuel:=fuel) hN (by omega) fun j g hg=>h (j+1) g (by simpa using hg)
  refine⟨(a,b),⟨a1,b1⟩, ?_⟩
  have e:(cs.drop off).take (k+m)=(cs.drop off).take k++(cs.drop (off+k)).take m:=by
   rw [List.take_add,List.drop_drop]
  rw [e]
  exact q6l a2 b2⟩
theorem OpensB.struct {N:Nat}{A:Type}{t:TypeId}{k:Nat}{fs:Array Field}{row:A->List PV}{ok:A->Prop}(hs:P.underlying t=some (.struct fs))(hc:P.cellsOf t=k)(h:OpensFsB enc P w base spare held gl N fs.toList 0 k row ok) :
  OpensB enc P w base spare held gl (N+1) t k row ok:=
 ⟨hc,fun {fuel cs y} hN hy=>by
  obtain⟨xs,m,hm,_,h4,h5,h6⟩:=DataW.trod_struct hs hy
  rw [hc] at h4
  obtain⟨a,a1,a2⟩:=h.op (cs:=cs) (fuel:=m) (by omega) (by omega) fun j f hf=>by
   have hf':fs[j]?=some f:=by simpa using hf
   have:=h6 j f hf'
   have hj:j<fs.size:=(Array.getElem?_eq_some_iff.1 hf').1
   rw [List.getElem?_eq_getElem (by omega)] at this
   exact⟨_,this⟩
  rw [List.drop_zero,List.take_of_length_le (by omega)] at a2
  exact⟨a,a1,a2,h4⟩⟩
theorem OpensB.struct0 {A:Type}{t:TypeId}{k:Nat}{fs:Array Field}{row:A->List PV}{ok:A->Prop}(hs:P.underlying t=some (.struct fs))(hc:P.cellsOf t=k) :
  OpensB enc P w base spare held gl 0 t k row ok:=
 ⟨hc,fun {fuel cs y} hN hy=>by
  obtain⟨xs,m,hm, -⟩:=DataW.trod_struct hs hy
  omega⟩
theorem OpensB.slice0 {A:Type}{t e:TypeId}{one:A->PV}{ok:A->Prop}(hs:P.underlying t=some (.slice e))(ht:P.cellsOf t=1)(a0:A)(h0:ok a0)(hn:one a0=.list false [] 0) :
  OpensB enc P w base spare held gl 0 t 1 (fun a=>[one a]) ok:=
 ⟨ht,fun {fuel cs y} hN hy=>by
  rcases DataW.trod_slice hs hy with⟨rfl, -⟩|⟨a,len,cap,el,rest,n,hfu, -⟩
  ·refine⟨a0,h0, ?_,rfl⟩
   rw [hn]
   simp only [vcells]
   exact⟨⟨(PLe.trans .nil .loose:PLe .nil (.list false [] 0)) _ _ (by simp only [vrep]),rfl⟩,trivial⟩
  ·omega⟩
end
end Go.Pv

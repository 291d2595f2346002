/- Rows of one's own that are seen as lists from a round's head on. -/
import Derived.Test.YtmlmoaimjifpgaaGreatLBr
namespace Go.Pv
theorem j4p {e:Env}{t:Nat}:q6g e t=.any\/∃ q ∈ e,q.1=t/\q6g e t=q.2:=by
 induction e with
 | nil=>exact .inl rfl
 | cons p e ih=>
  obtain⟨u,p⟩:=p
  simp only [q6g]
  split
  ·rename_i h; exact .inr ⟨(u,p),by simp,h,rfl⟩
  ·rcases ih with h |⟨q,h1,h2,h3⟩
   ·exact .inl h
   ·exact .inr ⟨q,by simp [h1],h2,h3⟩
theorem View.frz {e e':Env}{st st':q5f}{b:Nat}{o:PObj}(hb:q54 st' b)(hs:StLe ((b,o)::st') st)(he:∀ q ∈ e',Frz b o (q6g e q.1) q.2):View ⟨e,st⟩ ⟨e',st'⟩:=fun I tm w h1 h2=>by
 obtain⟨I',h3,h4,h5⟩:=(h2.le hs).freeze hb
 refine⟨I',h3,fun t=>?_,h4⟩
 rcases j4p (e:=e') (t:=t) with h |⟨q,hq,rfl,h⟩
 ·simp only [h,vrep]
 ·simp only [h]
  exact (he q hq).vrep h5 (q7a h3 _ _ (h1 q.1))
theorem View.ple {e e':Env}{st st':q5f}(hs:StLe st' st)(he:∀ q ∈ e',PLe (q6g e q.1) q.2):View ⟨e,st⟩ ⟨e',st'⟩:=fun I tm w h1 h2=>
 ⟨I,I.le_refl,fun t=>by
  rcases j4p (e:=e') (t:=t) with h |⟨q,hq,rfl,h⟩
  ·simp only [h,vrep]
  ·simp only [h]
   exact he q hq I _ (h1 q.1),h2.le hs⟩
theorem PLe.of_eq {p q:PV}(h:p=q):PLe p q:=h ▸ .refl p
theorem PLe.nil1:PLe .nil (.list false [] 0):=.trans .nil .loose
theorem Frz.of_eq {b:Nat}{o:PObj}{p q:PV}(h:p=q):Frz b o p q:=h ▸ .refl p
theorem Frz.acc {α:Type}{row:List α->List PV}{k:Nat}{T:TypeId}{a:Acc α}(ha:a.Ok row k):Frz a.b (.arr T a.R) (.own a.b 0 a.l.length a.cap) (.list false (row a.l) a.l.length):=by
 have h:=Frz.own (b:=a.b) (o:=.arr T a.R) T a.R 0 a.l.length a.cap k rfl ha.le ha.cap
 rwa [List.drop_zero,ha.row] at h
theorem y2c {st:q5f}{b c:Nat}{o:PObj}(h:q54 st b)(hc:q55 st c=some o):¬ b=c/\¬ c=b:=by
 have:¬ b=c:=by rintro rfl; rw [k1r h] at hc; cases hc
 exact⟨this,fun e=>this e.symm⟩
theorem PCalls.le {P:Program}{g:FuncId}{ps:List PV}{st st':q5f}{Q:PEnd->q5f->Prop}(hle:StLe st st')(h:PCalls P g ps st Q):PCalls P g ps st' Q:=
 h.imp (fun h=>⟨h.enters,fun I w vs h1 h2=>h.out I w vs (h1.le hle) h2⟩) (fun h=>⟨fun I w vs h1 h2=>h.out I w vs (h1.le hle) h2⟩)
theorem PRound.le {P:Program}{l:Nat}{ps:List PV}{st st':q5f}{Q:PEnd->q5f->Prop}(hle:StLe st st')(h:PRound P l ps st Q):PRound P l ps st' Q:=
 ⟨fun I w vs h1 h2=>h.out I w vs (h1.le hle) h2⟩
theorem k87 {P:Program}{l:Nat}{ps:List PV}{st:q5f}{R Q:PEnd->q5f->Prop}(h:PRound P l ps st R)(k:∀ e s,R e s->Q e s):j98 P l ps st Q:=PRound.mono h k
theorem PCalls.shrink {P:Program}{g:FuncId}{ps:List PV}{st:q5f}{Q:PEnd->q5f->Prop}(h:PCalls P g ps st fun e s=>∃ s',StLe s' s/\Q e s'):PCalls P g ps st Q:=
 h.imp (fun h=>⟨h.enters,fun I w vs h1 h2=>(h.out I w vs h1 h2).mono fun _ _ ⟨I',st',a,b,c,pe,d,s',e,q⟩=>⟨I',s',a,b,c.le e,pe,d,q⟩⟩)
  (fun h=>⟨fun I w vs h1 h2=>by
   obtain⟨v,w',h3,I',st',a,b,c,p,d,s',e,q⟩:=h.out I w vs h1 h2
   exact⟨v,w',h3,I',s',a,b,c.le e,p,d,q⟩⟩)
theorem PRound.shrink {P:Program}{l:Nat}{ps:List PV}{st:q5f}{Q:PEnd->q5f->Prop}(h:PRound P l ps st fun e s=>∃ s',StLe s' s/\Q e s'):PRound P l ps st Q:=
 ⟨fun I w vs h1 h2=>by
  obtain⟨r,h3,h4,h5⟩:=h.out I w vs h1 h2
  exact⟨r,h3,h4,h5.mono fun _ _ ⟨I',st',a,b,c,pe,d,s',e,q⟩=>⟨I',s',a,b,c.le e,pe,d,q⟩⟩⟩
theorem z8d {α:Type}{pre xs:List α}{x:α}(h:pre++[x] <+: xs):pre.length<xs.length:=by
 have:=h.length_le
 simp at this; omega
theorem z5m {P:Program}(q5n:P.follows .mixedOrders=true){l:Nat}{key:LoopKey}{params:List Nat}{ma mb:MCode}(hconv:key.Conv P params ma mb){e:Env}{st:q5f}(hget:q55 st l=some (.loop key e .ready none))
  {args:List PV} (hlen:params.length=args.length) {Q:PEnd->q5f->Prop} (h:xwp P ma (fun ex s=>k4q P l mb (fun e s=>∃ s',StLe s' s/\Q e s') ex s) ⟨k8u e params args,st⟩):PRound P l args st Q:=.shrink (z78 q5n hconv hget hlen h)
def y2d {α:Type}:Option (Acc α)->PV
 | none=>.list true [] 0
 | some a=>.own a.b 0 a.l.length a.cap
theorem q6r {α:Type}{row:List α->List PV}{k:Nat}(hrl:∀ l,(row l).length=l.length*k)(hra:∀ l m,row (l++m)=row l++row m){T:TypeId}{bytes:Nat}{st:q5f}{K:PV->q5f->Prop}
  (o:Option (Acc α)) (ho:accOk row k st o) (xs:List α) {new:List PV} {m:Nat} (hnew:row xs=new) (hm:xs.length=m) (hsz:((q50 o).length+m)*bytes<=140737488355328)
  (h:∀ o':Option (Acc α),accOk row k st o'->q50 o'=q50 o++xs->K (y2d o') (q6e T st o')):q67 T bytes k (y2d o) new m (q6e T st o) K:=by
 cases o with
 | none=>
  show q67 T bytes k (.list true [] 0) new m st K
  rw [q5g]
  refine⟨fun e=>?_,fun e=>⟨rfl,by simp, ?_⟩⟩
  ·have:xs=[]:=by rw [<-List.length_eq_zero_iff,hm,e]
   subst this
   exact h none trivial (by simp)
  ·subst hnew; subst hm
   refine .intro (by simpa using hsz) fun b' cap' h1 h2 h3=>?_
   have:=k84 (k:=k) (n:=0) (m:=xs.length) (cap:=cap') (cs:=[]) (by simp) (hrl xs) (by omega)
   simp only [List.nil_append,Nat.zero_add] at this h2 ⊢
   exact h (some ⟨xs,b',cap',row xs++List.replicate ((cap' - xs.length)*k) .any⟩) ⟨⟨h2,h3,this.1,this.2⟩,h1⟩ (by simp)
 | some a=>
  obtain⟨ha,hb⟩:=ho
  refine q8l hrl hra ha (by simp) xs hnew hm hsz fun a' ha' hl' hb'=>?_
  have e:k2l a.b (q6e T st (some a))=st:=by simp [q7x hb]
  rw [e] at hb' ⊢
  exact h (some a') ⟨ha',hb'⟩ hl'
theorem q7p {α:Type}{row:List α->List PV}{k:Nat}{T:TypeId}{st st0:q5f}{M:List Nat}{o:Option (Acc α)}(ho:accOk row k st o)(h:Cls st0 M st):Cls st0 M (q6e T st o):=by
 cases o with
 | none=>exact h
 | some a=>exact q6i ho.2 h
theorem RetView.accQ2 {α:Type}{row:List α->List PV}{k:Nat}(hr0:row []=[]){T:TypeId}{st:q5f}{o:Option (Acc α)}(ho:accOk row k st o){r:PV}{Q:PEnd->q5f->Prop}(h:RetView .ret (.tuple [.list false (row (q50 o)) (q50 o).length,r]) st Q) :
  RetView .ret (.tuple [y2d o,r]) (q6e T st o) Q:=by
 cases o with
 | none=>simp only [q8x,hr0,List.length_nil] at h; exact .loose2 h
 | some a=>exact .freeze _ ho.2 (.tuple (.cons (Frz.acc ho.1) (.cons (.refl r) .nil))) h
theorem RetView.accP2 {α:Type}{row:List α->List PV}{k:Nat}(hr0:row []=[]){T:TypeId}{st:q5f}{o:Option (Acc α)}(ho:accOk row k st o){r:PV}{Q:PEnd->q5f->Prop}(h:RetView .ret (.tuple [.list false (row (q50 o)) (q50 o).length,r]) st Q) :
  RetView .ret (.tuple [q7s o,r]) (q6e T st o) Q:=by
 cases o with
 | none=>simp only [q8x,hr0,List.length_nil] at h; exact .nil2 h
 | some a=>exact .freeze _ ho.2 (.tuple (.cons (Frz.acc ho.1) (.cons (.refl r) .nil))) h
theorem RetView.accP1 {α:Type}{row:List α->List PV}{k:Nat}(hr0:row []=[]){T:TypeId}{st:q5f}{o:Option (Acc α)}(ho:accOk row k st o){Q:PEnd->q5f->Prop}(h:RetView .ret (.list false (row (q50 o)) (q50 o).length) st Q) :
  RetView .ret (q7s o) (q6e T st o) Q:=by
 cases o with
 | none=>simp only [q8x,hr0,List.length_nil] at h; exact .nil1 h
 | some a=>exact .freeze _ ho.2 (Frz.acc ho.1) h
theorem own_sub {α:Type}{enc:α->List PV}{k:Nat}(hk:∀ x,(enc x).length=k){l:List α}{i:Nat}{C:List PV}(h:i<l.length):sub (l.flatMap enc++C) (i*k) k=some (enc l[i]):=by
 have hl:=q6h enc k hk l
 have h1:i*k+k<=l.length*k:=by rw [<-Nat.succ_mul]; exact Nat.mul_le_mul_right k h
 have:=q8v enc k hk l i h
 rw [j0e,if_pos (by omega)] at this
 rw [j0e,if_pos (by rw [List.length_append]; omega),List.drop_append_of_le_length (by omega),List.take_append_of_le_length (by rw [List.length_drop]; omega)]
 exact this
def KM.wf {κ α:Type}(m:List (κ × α)):Prop:=(m.map (·.1)).Nodup
theorem KM.wf_nil {κ α:Type}:KM.wf ([]:List (κ × α)):=List.nodup_nil
structure KeyOf (κ:Type)[DecidableEq κ] where
 kv:κ->Value
 kp:KP
 ok:∀ x y,q6c kp.2 (q6m kp.1 (kv x)) (q6m kp.1 (kv y))=some (decide (x=y))
abbrev KM (κ α:Type):=List (κ × α)
section
variable {κ α:Type} [DecidableEq κ] (K:KeyOf κ) (pv:α->PV) (m:KM κ α)
def KM.ks:List Value:=(m.map (·.1)).map K.kv
def KM.vs:List PV:=(m.map (·.2)).map pv
def KM.obj:PObj:=.map (m.ks K) (m.vs pv)
def KM.at? (s:κ):Option Nat:=(m.map (·.1)).findIdx? fun y=>decide (s=y)
def KM.look (s:κ):Option α:=(m.at? s).bind fun j=>(m[j]?).map (·.2)
def KM.put (s:κ)(y:α):KM κ α:=match m.at? s with | some j=>m.set j (s,y) | none=>m++[(s,y)]
end
section
variable {κ α:Type} [DecidableEq κ] {K:KeyOf κ} {pv:α->PV} {m:KM κ α}
theorem KM.at_lt {s:κ}{j:Nat}(h:m.at? s=some j):∃ h:j<m.length,m[j].1=s:=by
 unfold KM.at? at h
 rw [List.findIdx?_eq_some_iff_getElem] at h
 obtain⟨h1,h2, -⟩:=h
 simp only [List.length_map] at h1
 exact⟨h1,by simpa using (of_decide_eq_true h2).symm⟩
theorem KM.at_none {s:κ}(h:m.at? s=none):∀ q ∈ m,q.1 ≠ s:=by
 unfold KM.at? at h
 rw [List.findIdx?_eq_none_iff] at h
 intro q hq e
 have:=h q.1 (List.mem_map.2 ⟨q,hq,rfl⟩)
 simp [e] at this
theorem KM.look_some {s:κ}{j:Nat}(h:m.at? s=some j)(hj:j<m.length):m.look s=some m[j].2:=by
 simp [KM.look,h,hj]
theorem KM.look_none {s:κ}(h:m.at? s=none):m.look s=none:=by simp [KM.look,h]
theorem KM.look_put (s s':κ)(y:α):(m.put s y).look s'=if s'=s then some y else m.look s':=by
 have set:∀ (m:KM κ α) (j:Nat),(m.map (·.1))[j]?=some s->((m.set j (s,y)).map (·.1))=m.map (·.1):=by
  intro m j h
  rw [List.map_set]
  apply List.ext_getElem?
  intro k
  rw [List.getElem?_set]
  split
  ·rename_i e; subst e
   split
   ·exact h.symm
   ·rename_i hlt; rw [List.getElem?_eq_none (by omega)] at h; cases h
  ·rfl
 unfold KM.put
 cases ha:m.at? s with
 | some j=>
  obtain⟨hj,hs⟩:=KM.at_lt ha
  have hk:=set m j (by simp [hj,hs])
  have hat:∀ q,KM.at? (m.set j (s,y)) q=m.at? q:=fun q=>by unfold KM.at?; rw [hk]
  simp only
  by_cases e:s'=s
  ·subst e
   rw [if_pos rfl]
   simp [KM.look,hat,ha,hj]
  ·rw [if_neg e]
   unfold KM.look
   rw [hat]
   cases hq:m.at? s' with
   | none=>rfl
   | some q=>
    obtain⟨hq1,hq2⟩:=KM.at_lt hq
    have hne:j ≠ q:=by rintro rfl; exact e (hq2.symm.trans hs)
    simp [List.getElem?_set,hne]
 | none=>
  simp only
  have hat:∀ q,KM.at? (m++[(s,y)]) q=(m.at? q).or (if q=s then some m.length else none):=fun q=>by
   unfold KM.at?
   rw [List.map_append,List.findIdx?_append]
   simp [List.findIdx?_cons]
  by_cases e:s'=s
  ·subst e
   simp [KM.look,hat,ha]
  ·rw [if_neg e]
   unfold KM.look
   rw [hat]
   cases hq:m.at? s' with
   | none=>simp [e]
   | some q=>
    obtain⟨hq1,hq2⟩:=KM.at_lt hq
    simp [List.getElem?_append_left hq1]
theorem KM.keys_put {s:κ}{y:α}:(m.put s y).map (·.1)=match m.at? s with | some _=>m.map (·.1) | none=>m.map (·.1)++[s]:=by
 unfold KM.put
 cases ha:m.at? s with
 | some j=>
  obtain⟨hj,hs⟩:=KM.at_lt ha
  simp only
  rw [List.map_set]
  apply List.ext_getElem?
  intro k
  rw [List.getElem?_set]
  split
  ·rename_i e; subst e
   simp [hj,hs]
  ·rfl
 | none=>simp
theorem KM.wf.put (h:KM.wf m)(s:κ)(y:α):KM.wf (m.put s y):=by
 unfold KM.wf at *
 rw [KM.keys_put]
 cases ha:m.at? s with
 | some j=>exact h
 | none=>
  simp only
  rw [List.nodup_append]
  refine⟨h,by simp,fun a hm b hb=>?_⟩
  simp at hb
  subst hb
  obtain⟨q,hq,rfl⟩:=List.mem_map.1 hm
  exact KM.at_none ha q hq
theorem KM.mem_look (h:KM.wf m){s:κ}{y:α}:m.look s=some y ↔ (s,y) ∈ m:=by
 constructor
 ·intro hl
  cases ha:m.at? s with
  | none=>rw [KM.look_none ha] at hl; cases hl
  | some j=>
   obtain⟨hj,hs⟩:=KM.at_lt ha
   rw [KM.look_some ha hj] at hl
   have:m[j]=(s,y):=by
    cases hm:m[j] with
    | mk a b=>rw [hm] at hs hl; simp at hs hl; rw [hs,hl]
   exact this ▸ List.getElem_mem hj
 ·intro hm
  obtain⟨k,hk,e⟩:=List.mem_iff_getElem.1 hm
  cases ha:m.at? s with
  | none=>exact absurd (by rw [e]:(m[k]).1=s) (KM.at_none ha _ (List.getElem_mem hk))
  | some j=>
   obtain⟨hj,hs⟩:=KM.at_lt ha
   have hjk:j=k:=by
    unfold KM.wf at h
    have:=(List.getElem_inj (i:=j) (j:=k) (h₀:=by simpa using hj) (h₁:=by simpa using hk) h).1 (by simp [hs,e])
    exact this
   subst hjk
   rw [KM.look_some ha hj,e]
end
def z8e (st:q5f):PV->Option Nat
 | .imap ks _=>some ks.length
 | .val (.map none)=>some 0
 | .val (.map (some b))=>(map? (q55 st b)).map fun r=>r.1.length
 | _=>none
@[simp] theorem y2e (st:q5f)(b:Nat):z8e st (.val (.map (some b)))=(map? (q55 st b)).map fun r=>r.1.length:=rfl
@[simp] theorem y0p (st:q5f)(ks:List Value)(vs:List PV):z8e st (.imap ks vs)=some ks.length:=rfl
@[simp] theorem y2f (st:q5f):z8e st (.val (.map none))=some 0:=rfl
def y0q:KeyOf Int:=⟨.int .i64,(false,[.int]),fun x y=>by simp [y8n]⟩
section
variable {α:Type} (pv:α->PV) (m:KM Int α) (n:Int)
@[simp high] theorem KM.intObj:map? (some (m.obj y0q pv))=some (m.ks y0q,m.vs pv):=rfl
end
section
variable {α:Type} (key:α->Int)
def k4c (x:α):List α->List α
 | []=>[x]
 | y::l=>if key x<=key y then x::y::l else y::k4c x l
def srt:List α->List α
 | []=>[]
 | x::l=>k4c key x (srt l)
def Srtd (l:List α):Prop:=l.Pairwise (fun a b=>key a<=key b)
def Stb (l m:List α):Prop:=∀ v,l.filter (fun a=>decide (key a=v))=m.filter (fun a=>decide (key a=v))
variable {key}
theorem Stb.refl (l:List α):Stb key l l:=fun _=>rfl
theorem Stb.symm {l m:List α}(h:Stb key l m):Stb key m l:=fun v=>(h v).symm
theorem Stb.trans {l m n:List α}(h:Stb key l m)(k:Stb key m n):Stb key l n:=fun v=>(h v).trans (k v)
theorem Stb.app {l m l' m':List α}(h:Stb key l m)(k:Stb key l' m'):Stb key (l++l') (m++m'):=fun v=>by rw [List.filter_append,List.filter_append,h v,k v]
theorem Stb.cons {l m:List α}(x:α)(h:Stb key l m):Stb key (x::l) (x::m):=Stb.app (.refl [x]) h
theorem Stb.swap {A B:List α}(h:∀ a ∈ A,∀ b ∈ B,key a ≠ key b):Stb key (A++B) (B++A):=fun v=>by
 rw [List.filter_append,List.filter_append]
 by_cases hA:A.filter (fun a=>decide (key a=v))=[]
 ·rw [hA]; simp
 ·obtain⟨a,ha⟩:=List.exists_mem_of_ne_nil _ hA
  have hB:B.filter (fun a=>decide (key a=v))=[]:=by
   rw [List.filter_eq_nil_iff]
   intro b hb hbv
   simp only [List.mem_filter,decide_eq_true_eq] at ha hbv
   exact h a ha.1 b hb (by omega)
  rw [hB]; simp
theorem Stb.mem {l m:List α}(h:Stb key l m){x:α}(hx:x ∈ l):x ∈ m:=by
 have:x ∈ l.filter (fun a=>decide (key a=key x)):=by simp [hx]
 rw [h] at this
 exact (List.mem_filter.1 this).1
theorem z1l (x:α)(l:List α):Stb key (x::l) (k4c key x l):=by
 induction l with
 | nil=>exact .refl _
 | cons y l ih=>
  unfold k4c
  split
  ·exact .refl _
  ·rename_i h
   refine Stb.trans (m:=y::x::l) ?_ (.cons y ih)
   exact Stb.app (l:=[x]++[y]) (m:=[y]++[x]) (.swap (by simp; omega)) (.refl l)
theorem q8m (l:List α):Stb key l (srt key l):=by
 induction l with
 | nil=>exact .refl _
 | cons x l ih=>exact (ih.cons x).trans (z1l x _)
theorem z8f (x:α){l:List α}(h:Srtd key l):Srtd key (k4c key x l):=by
 induction l with
 | nil=>exact List.pairwise_singleton _ _
 | cons y l ih=>
  unfold k4c
  have h':=List.pairwise_cons.1 h
  split
  ·rename_i hxy
   refine List.pairwise_cons.2 ⟨fun z hz=>?_,h⟩
   rcases List.mem_cons.1 hz with rfl | hz
   ·exact hxy
   ·have:=h'.1 z hz; omega
  ·rename_i hxy
   refine List.pairwise_cons.2 ⟨fun z hz=>?_,ih h'.2⟩
   rcases List.mem_cons.1 ((z1l x l).symm.mem hz) with rfl | hz
   ·omega
   ·exact h'.1 z hz
theorem q7d (l:List α):Srtd key (srt key l):=by
 induction l with
 | nil=>exact .nil
 | cons x l ih=>exact z8f x ih
theorem z8g (x:α)(l:List α):(k4c key x l).Perm (x::l):=by
 induction l with
 | nil=>exact .refl _
 | cons y l ih=>
  unfold k4c
  split
  ·exact .refl _
  ·exact (ih.cons y).trans (.swap x y l)
theorem j0m (l:List α):(srt key l).Perm l:=by
 induction l with
 | nil=>exact .refl _
 | cons x l ih=>exact (z8g x _).trans (ih.cons x)
@[simp] theorem k3q (l:List α):(srt key l).length=l.length:=(j0m l).length_eq
theorem j4q {l:List α}{x:α}:x ∈ srt key l ↔ x ∈ l:=(j0m l).mem_iff
theorem Stb.uniq:∀ {l m:List α},Srtd key l->Srtd key m->Stb key l m->l=m
 | [],m,_,_,h=>by
  rcases m with _ |⟨y,m⟩
  ·rfl
  ·exact absurd (h.symm.mem (List.mem_cons_self ..)) (by simp)
 | x::l,[],_,_,h=>absurd (h.mem (List.mem_cons_self ..)) (by simp)
 | x::l,y::m,h1,h2,h=>by
  have h1':=List.pairwise_cons.1 h1
  have h2':=List.pairwise_cons.1 h2
  have e:key x=key y:=by
   have a:key y<=key x:=by
    rcases List.mem_cons.1 (h.mem (List.mem_cons_self ..)) with e | hx
    ·rw [e]; omega
    ·exact h2'.1 x hx
   have b:key x<=key y:=by
    rcases List.mem_cons.1 (h.symm.mem (List.mem_cons_self ..)) with e | hy
    ·rw [e]; omega
    ·exact h1'.1 y hy
   omega
  have hh:=h (key x)
  rw [List.filter_cons_of_pos (by simp),List.filter_cons_of_pos (by simp [e])] at hh
  obtain⟨rfl,ht⟩:=List.cons.inj hh
  rw [Stb.uniq h1'.2 h2'.2 fun v=>?_]
  by_cases hv:key x=v
  ·subst hv; exact ht
  ·have:=h v
   rwa [List.filter_cons_of_neg (by simpa using hv),List.filter_cons_of_neg (by simpa using hv)] at this
theorem k2b {l m:List α}(h1:Srtd key m)(h2:Stb key l m):m=srt key l:=Stb.uniq h1 (q7d l) (h2.symm.trans (q8m l))
theorem q7y {l:List α}(h:Srtd key l):srt key l=l:=(k2b h (.refl l)).symm
theorem z5n {l m:List α}(h:Stb key l m):srt key l=srt key m:=k2b (q7d l) (h.symm.trans (q8m l))
theorem Srtd.append {l m:List α}(h1:Srtd key l)(h2:Srtd key m)(h:∀ a ∈ l,∀ b ∈ m,key a<=key b):Srtd key (l++m):=List.pairwise_append.2 ⟨h1,h2,h⟩
theorem Srtd.left {l m:List α}(h:Srtd key (l++m)):Srtd key l:=(List.pairwise_append.1 h).1
theorem Srtd.right {l m:List α}(h:Srtd key (l++m)):Srtd key m:=(List.pairwise_append.1 h).2.1
theorem Srtd.le {l m:List α}(h:Srtd key (l++m)){a b:α}(ha:a ∈ l)(hb:b ∈ m):key a<=key b:=(List.pairwise_append.1 h).2.2 a ha b hb
theorem k3r {P Q:List α}{x:α}(h:Srtd key (P++Q))(hP:∀ p ∈ P,key p<=key x)(hQ:∀ q ∈ Q,key x<key q):P++x::Q=srt key (P++Q++[x]):=by
 refine k2b (h.left.append (List.pairwise_cons.2 ⟨fun q hq=>by have:=hQ q hq; omega,h.right⟩) fun a ha b hb=>?_) ?_
 ·rcases List.mem_cons.1 hb with rfl | hb
  ·exact hP a ha
  ·exact h.le ha hb
 ·rw [List.append_assoc]
  exact Stb.app (.refl P) (.swap fun q hq y hy=>by simp at hy; subst hy; have:=hQ q hq; omega)
theorem z5o {P Q:List α}{x:α}(h:Srtd key (P++Q))(hP:∀ p ∈ P,key p<key x)(hQ:∀ q ∈ Q,key x<=key q):P++x::Q=srt key (x::(P++Q)):=by
 refine k2b (h.left.append (List.pairwise_cons.2 ⟨hQ,h.right⟩) fun a ha b hb=>?_) ?_
 ·rcases List.mem_cons.1 hb with rfl | hb
  ·have:=hP a ha; omega
  ·exact h.le ha hb
 ·have:=Stb.app (Stb.swap (key:=key) (A:=[x]) (B:=P) fun y hy q hq=>by simp at hy; subst hy; have:=hP q hq; omega) (Stb.refl Q)
  simpa using this
theorem z5p {A1 A2 B1 B2:List α}(hA:Srtd key (A1++A2))(hB:Srtd key (B1++B2))(h1:∀ a ∈ A1,∀ b ∈ B2,key a<=key b)(h2:∀ a ∈ A2,∀ b ∈ B1,key b<key a) :
  srt key (A1++B1)++srt key (A2++B2)=srt key (A1++A2++(B1++B2)):=by
 refine k2b ((q7d _).append (q7d _) fun a ha b hb=>?_) ?_
 ·rcases List.mem_append.1 (j4q.1 ha) with ha | ha <;> rcases List.mem_append.1 (j4q.1 hb) with hb | hb
  ·exact hA.le ha hb
  ·exact h1 a ha b hb
  ·have:=h2 b hb a ha; omega
  ·exact hB.le ha hb
 ·refine Stb.trans (m:=A1++B1++(A2++B2)) ?_ ((q8m _).app (q8m _))
  rw [List.append_assoc,List.append_assoc]
  refine Stb.app (.refl A1) ?_
  rw [<-List.append_assoc,<-List.append_assoc]
  exact Stb.app (.swap fun a ha b hb=>by have:=h2 a ha b hb; omega) (.refl B2)
end
structure Hid (p:Prop):Prop where
 out:p
def Does (P:Program)(g:FuncId)(ps:List PV)(st:q5f)(p:PV)(st':q5f):Prop:=PCalls P g ps st fun e s=>e=.ret p/\s=st'
theorem Does.xcall {P:Program}{g:FuncId}{ps:List PV}{st st':q5f}{p:PV}(h:Does P g ps st p st'){Q:PEnd->q5f->Prop}(hk:Q (.ret p) st'):xcall P g ps st Q:=
 PCalls.mono h fun e s ⟨h1,h2⟩=>by subst h1; subst h2; exact hk
theorem Does.le {P:Program}{g:FuncId}{ps:List PV}{st0 st st':q5f}{p:PV}(h:Does P g ps st p st')(hle:StLe st st0):Does P g ps st0 p st':=PCalls.le hle h
theorem PCalls.frz {P:Program}{g:FuncId}{ps qs:List PV}{b:Nat}{o:PObj}{st st':q5f}{Q:PEnd->q5f->Prop}(hb:q54 st' b)(hs:StLe ((b,o)::st') st)(ha:Frzs b o ps qs)(h:PCalls P g qs st' Q):PCalls P g ps st Q:=by
 rcases h with h | h
 ·refine .inl ⟨h.enters,fun I w vs h1 h2=>?_⟩
  obtain⟨I1,i1,i2,i3⟩:=(h1.le hs).freeze hb
  refine (h.out I1 w vs i2 (ha.vreps i3 (k07 i1 _ _ h2))).mono fun _ _ ⟨I',s',a,b,c,pe,d,q⟩=>⟨I',s',Imm.le_trans i1 a,b,c,pe,d,q⟩
 ·refine .inr ⟨fun I w vs h1 h2=>?_⟩
  obtain⟨I1,i1,i2,i3⟩:=(h1.le hs).freeze hb
  obtain⟨v,w',h3,I',s',a,b,c,p,d,q⟩:=h.out I1 w vs i2 (ha.vreps i3 (k07 i1 _ _ h2))
  exact⟨v,w',h3,I',s',Imm.le_trans i1 a,b,c,p,d,q⟩
theorem q9t {α:Type}{row:List α->List PV}{k:Nat}(hrl:∀ l,(row l).length=l.length*k)(hra:∀ l m,row (l++m)=row l++row m){T:TypeId}{bytes:Nat}{st:q5f}{K:PV->q5f->Prop}
  (o:Option (Acc α)) (ho:accOk row k st o) (xs:List α) {new:List PV} {m:Nat} (hnew:row xs=new) (hm:xs.length=m) (hm0:0<m) (hsz:((q50 o).length+m)*bytes<=140737488355328)
  (h:∀ o':Option (Acc α),accOk row k st o'->q50 o'=q50 o++xs->K (q7s o') (q6e T st o')):q67 T bytes k (q7s o) new m (q6e T st o) K:=by
 cases o with
 | none=>
  refine q9s hrl xs hnew hm hm0 (by simpa using hsz) fun a' ha' hl' hb'=>?_
  exact h (some a') ⟨ha',hb'⟩ (by simpa using hl')
 | some a=>
  obtain⟨ha,hb⟩:=ho
  refine q8l hrl hra ha (by simp) xs hnew hm hsz fun a' ha' hl' hb'=>?_
  have e:k2l a.b (q6e T st (some a))=st:=by simp [q7x hb]
  rw [e] at hb' ⊢
  exact h (some a') ⟨ha',hb'⟩ hl'
theorem own_set {α:Type}{enc:α->List PV}{k:Nat}(hk:∀ x,(enc x).length=k){l:List α}{i:Nat}{x:α}{C:List PV}(h:i<l.length):q5j (l.flatMap enc++C) (i*k) (enc x)=(l.set i x).flatMap enc++C:=by
 have hl:=q6h enc k hk l
 have h1:i*k+k<=l.length*k:=by rw [<-Nat.succ_mul]; exact Nat.mul_le_mul_right k h
 have e:=j0k enc k hk l i x h
 rw [<-e]
 exact q6w _ _ _ _ (by rw [hk]; omega)
theorem StLe.swap {b c:Nat}{o x:PObj}{st:q5f}(h:¬ b=c):StLe ((b,o)::(c,x)::st) ((c,x)::(b,o)::st):=fun d y hd=>by
 simp only [q55] at hd ⊢
 by_cases h1:b=d
 ·subst h1
  rw [if_neg (fun e=>h e.symm)]
  simpa using hd
 ·simpa [h1] using hd
section
variable {α:Type} (pv:α->PV) (m:KM Int α) (n:Int)
end
end Go.Pv

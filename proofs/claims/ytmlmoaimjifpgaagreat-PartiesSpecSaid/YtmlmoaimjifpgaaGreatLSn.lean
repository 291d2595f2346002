/- The operations of the compact form are met by the model's own: the operations that give one value. -/
import Derived.Test.YtmlmoaimjifpgaaGreatLMw
import Derived.Laws.StructEq
namespace Go.Pv
variable {P:Program}
def j9q:TypeDesc->Bool
 | .struct _ | .array _ _=>true
 | _=>false
def lay (P:Program)(T:TypeId):Option (Nat × Bool):=
 match P.info? T,P.underlying T with
 | some i,some d=>some (i.size,j9q d)
 | _,_=>none
theorem k45 {T:TypeId}{i:TypeInfo}(h:P.info? T=some i)(w:World):(typeInfo T).run P w=.ok i w:=by
 simp [typeInfo,h]
theorem q6n {T k:Nat}{a:Bool}(h:lay P T=some (k,a))(w:World):(sizeOf T).run P w=.ok k w:=by
 unfold lay at h
 split at h
 ·rename_i i d hi hd
  simp only [Option.some.injEq,Prod.mk.injEq] at h
  simp [sizeOf,k45 hi,h.1]
 ·cases h
theorem k6m {T k:Nat}{a:Bool}(h:lay P T=some (k,a))(w:World):(isAgg T).run P w=.ok a w:=by
 unfold lay at h
 split at h
 ·rename_i i d hi hd
  simp only [Option.some.injEq,Prod.mk.injEq] at h
  obtain⟨_,rfl⟩:=h
  simp only [isAgg,Sem.run_bind,run_underlying hd,Result.andThen_ok]
  cases d <;> rfl
 ·cases h
theorem q5r {I:Imm}{v:Value}:vrep I (.val v) v:=by simp only [vrep]
theorem k3k {w:World}{b off:Nat}{arr:Array Value}{T:TypeId}{fz:Nat × Nat}(h:w.heap[b]?=some (.cells arr T fz)):w.cell? ⟨b,off,none⟩=arr[off]?:=by
 simp [World.cell?,h]
theorem q73 (b off n:Nat):(⟨b,off,none⟩:Addr).add n=⟨b,off+n,none⟩:=by
 unfold Addr.add
 split
 ·rename_i h; subst h; rfl
 ·rfl
theorem z00 {I:Imm}{st:q5f}{w:World}(hs:SRep I st w){p:PV}{v:Value}(hv:vrep I p v){cs:List PV}{off:Nat}(h:k2k st p=some (cs,off)) :
  ∃ b o vs,v=.pointer (some ⟨b,o,none⟩)/\vcells I cs vs/\∀ j u,vs[off+j]?=some u->w.cell? ⟨b,o+j,none⟩=some u:=by
 unfold k2k at h
 split at h
 ·rename_i ds k
  simp only [Option.some.injEq,Prod.mk.injEq] at h
  obtain⟨rfl,rfl⟩:=h
  simp only [vrep] at hv
  obtain⟨b,o,vs,rfl,hc,arr,T,fz,hI,hr⟩:=hv
  refine⟨b,o+k,vs,rfl,hc,fun j u hu=>?_⟩
  rw [k3k (hs.imm _ _ hI)]
  have:=hr (k+j) u hu
  rwa [<-Nat.add_assoc] at this
 ·rename_i b k
  split at h
  ·rename_i T ds hb
   simp only [Option.some.injEq,Prod.mk.injEq] at h
   obtain⟨rfl,rfl⟩:=h
   simp only [vrep] at hv
   obtain⟨_,r,hw,vs,rfl,hc⟩:=hs.objs b _ hb
   refine⟨b,k,vs,hv,hc,fun j u hu=>?_⟩
   rw [k3k hw]
   simpa using hu
  ·cases h
 ·cases h
theorem z95 {I:Imm}{cs ps:List PV}{vs:List Value}{off k:Nat}(hc:vcells I cs vs)(h:sub cs off k=some ps) :
  vcells I ps ((vs.drop off).take k)/\ps.length=k/\off+k<=vs.length:=by
 unfold sub at h
 split at h
 ·rename_i hl
  simp only [Option.some.injEq] at h
  subst h
  refine⟨q60 k (q7t off hc),by simp; omega,by rw [<-q5u hc]; exact hl⟩
 ·cases h
theorem z2j {T k:Nat}{a:Bool}(hl:lay P T=some (k,a))(ha:a=false){w:World}{ad:Addr}{u:Value}(h:w.cell? ad=some u):(loadVar T ad).run P w=.ok u w:=by
 subst ha
 simp [loadVar,k6m hl,h]
theorem k8l {T k:Nat}(hl:lay P T=some (k,true)){w:World}{b o:Nat}{us:List Value}(hlen:us.length=k)
  (h:∀ j u,us[j]?=some u->w.cell? ⟨b,o+j,none⟩=some u):(loadVar T ⟨b,o,none⟩).run P w=.ok (.agg us.toArray) w:=by
 have:=run_loadCells_list (P:=P) w ⟨b,o,none⟩ us (fun j v hj=>by rw [q73]; exact h j v hj)
 rw [hlen] at this
 simp [loadVar,k6m hl,q6n hl,this]
theorem z01 {T k:Nat}{agg:Bool}(hl:lay P T=some (k,agg)){st:q5f}{ρ:MX->PV}{mx:MX}{K:PV->Prop}(hk:q7c (.load k agg mx) ρ st K) :
  ∃ p,K p/\∀ I w v,SRep I st w->vrep I (ρ mx) v->∃ u,(Instr.loadAt T v).run P w=.ok u w/\vrep I p u:=by
 simp only [q7c] at hk
 split at hk
 ·rename_i cs off hr
  cases agg with
  | true=>
   simp only [if_true] at hk
   obtain⟨ps,hp,hK⟩:=hk
   refine⟨_,hK,fun I w v hs hv=>?_⟩
   obtain⟨b,o,vs,rfl,hc,hcell⟩:=z00 hs hv hr
   obtain⟨h1,h2,h3⟩:=z95 hc hp
   refine⟨.agg ((vs.drop off).take k).toArray, ?_,by simp only [vrep]; exact⟨_,rfl,h1⟩⟩
   simp only [Instr.loadAt,Instr.sureAddr,Sem.run_bind,Sem.run_pure,Result.andThen_ok]
   refine k8l hl (by simp; omega) (fun j u hu=>?_)
   rw [List.getElem?_take] at hu
   split at hu
   ·rw [List.getElem?_drop] at hu; exact hcell j u hu
   ·cases hu
  | false=>
   simp only [Bool.false_eq_true,if_false] at hk
   obtain⟨p,hp,hK⟩:=hk
   refine⟨p,hK,fun I w v hs hv=>?_⟩
   obtain⟨b,o,vs,rfl,hc,hcell⟩:=z00 hs hv hr
   obtain⟨u,hu,hpu,_⟩:=k3j hc hp
   refine⟨u, ?_,hpu⟩
   simp only [Instr.loadAt,Instr.sureAddr,Sem.run_bind,Sem.run_pure,Result.andThen_ok]
   exact z2j hl rfl (by simpa using hcell 0 u (by simpa using hu))
 ·exact hk.elim
theorem j3m {op:BinOp}{T:TypeId}{p q:PV}{K:PV->Prop}(hk:k8k op p q K) :
  ∃ r,K r/\∀ I w a b (x y:Operand),vrep I p a->vrep I q b->∃ u,(do eqGuard op T x y a b; binOp op T a b:Sem Value).run P w=.ok u w/\vrep I r u:=by
 unfold k8k at hk
 split at hk
 ·rename_i k a k' b
  have hg:∀ (w:World) (x y:Operand),(eqGuard op T x y (.int k a) (.int k' b)).run P w=.ok () w:=by
   intro w x y
   unfold eqGuard
   split <;> rfl
  split at hk
  ·obtain⟨rfl,h0,hK⟩:=hk
   refine⟨_,hK,fun I w u v x y hu hv=>?_⟩
   simp only [vrep] at hu hv
   subst hu; subst hv
   refine⟨_, ?_,q5r⟩
   rw [Sem.run_bind,hg]
   simp [binOp,Op.intDiv,h0]
  ·obtain⟨rfl,h0,hK⟩:=hk
   refine⟨_,hK,fun I w u v x y hu hv=>?_⟩
   simp only [vrep] at hu hv
   subst hu; subst hv
   refine⟨_, ?_,q5r⟩
   rw [Sem.run_bind,hg]
   simp [binOp,Op.intDiv,h0]
  ·obtain⟨h0,hK⟩:=hk
   refine⟨_,hK,fun I w u v x y hu hv=>?_⟩
   simp only [vrep] at hu hv
   subst hu; subst hv
   refine⟨_, ?_,q5r⟩
   rw [Sem.run_bind,hg]
   simp [binOp,Op.shift,show ¬ b<0 by omega]
  ·obtain⟨h0,hK⟩:=hk
   refine⟨_,hK,fun I w u v x y hu hv=>?_⟩
   simp only [vrep] at hu hv
   subst hu; subst hv
   refine⟨_, ?_,q5r⟩
   rw [Sem.run_bind,hg]
   simp [binOp,Op.shift,show ¬ b<0 by omega]
  ·rename_i n1 n2 n3 n4
   split at hk
   ·rename_i c hc
    obtain⟨rfl,hK⟩:=hk
    refine⟨_,hK,fun I w u v x y hu hv=>?_⟩
    simp only [vrep] at hu hv
    subst hu; subst hv
    refine⟨_, ?_,q5r⟩
    rw [Sem.run_bind,hg]
    cases op <;> simp only [k44,Option.some.injEq,reduceCtorEq] at hc <;> subst hc <;> simp [binOp,Op.intArith,Op.intBits]
   ·rename_i hn
    split at hk
    ·rename_i c hc
     obtain⟨rfl,hK⟩:=hk
     refine⟨_,hK,fun I w u v x y hu hv=>?_⟩
     simp only [vrep] at hu hv
     subst hu; subst hv
     refine⟨_, ?_,q5r⟩
     rw [Sem.run_bind,hg]
     cases op <;> simp only [z2c,Option.some.injEq,reduceCtorEq] at hc <;> subst hc <;> simp [binOp,Op.intCmp]
    ·exact hk.elim
 ·rename_i a b
  have hg:∀ (w:World) (x y:Operand),(eqGuard op T x y (.string a) (.string b)).run P w=.ok () w:=by
   intro w x y
   unfold eqGuard
   split <;> rfl
  split at hk
  ·obtain⟨h0,hK⟩:=hk
   refine⟨_,hK,fun I w u v x y hu hv=>?_⟩
   simp only [vrep] at hu hv
   subst hu; subst hv
   refine⟨_, ?_,q5r⟩
   rw [Sem.run_bind,hg]
   have hmax:IntKind.i64.max=9223372036854775807:=by decide
   have h1:¬ (((a.size+b.size:Nat):Int) > IntKind.i64.max):=by rw [hmax]; omega
   simp only [Result.andThen_ok,binOp,Op.stringOp,if_neg h1]
   rfl
  ·rename_i hne
   split at hk
   ·rename_i c hc
    refine⟨_,hk,fun I w u v x y hu hv=>?_⟩
    simp only [vrep] at hu hv
    subst hu; subst hv
    refine⟨_, ?_,q5r⟩
    rw [Sem.run_bind,hg]
    cases op <;> simp only [z2d,Option.some.injEq,reduceCtorEq] at hc <;> first | (subst hc; simp [binOp,Op.stringOp]; done) | exact (hne rfl).elim
   ·exact hk.elim
 ·exact hk.elim
theorem q7f {I:Imm}:∀ {ps:List PV} {us:List Value} {cs:List PV} {vs:List Value} (off:Nat),vcells I ps us->vcells I cs vs ->
  vcells I (q5j cs off ps) (q5j vs off us)
 | [],[],_,_,_,_,h=>h
 | [],_::_,_,_,_,h,_=>by simp [vcells] at h
 | _::_,[],_,_,_,h,_=>by simp [vcells] at h
 | _::_,_::_,_,_,off,h,k=>by
  simp only [vcells] at h
  simp only [q5j]
  exact q7f (off+1) h.2 (z0x h.1.1 h.1.2 off k)
theorem q7u {α:Type}:∀ (ps cs:List α) (off:Nat),(q5j cs off ps).length=cs.length
 | [],_,_=>rfl
 | _::ps,cs,off=>by simp [q5j,q7u ps]
theorem k37 (off:Nat):∀ (us:List Value) (i:Nat) (cells:Array Value),
  ((us.zipIdx i).foldl (fun cs (x:Value × Nat)=>cs.setIfInBounds (off+x.2) x.1) cells).toList=q5j cells.toList (off+i) us
 | [],_,_=>rfl
 | u::us,i,cells=>by
  simp only [List.zipIdx_cons,List.foldl_cons,q5j]
  rw [k37 off us (i+1)]
  simp [Nat.add_assoc]
inductive All2 {α β:Type} (R:α->β->Prop):List α->List β->Prop
 | nil:All2 R [] []
 | cons {a:α} {b:β} {as:List α} {bs:List β} (h:R a b) (t:All2 R as bs):All2 R (a::as) (b::bs)
theorem k6n {I:Imm}{place:Nat->Option (Nat × Nat)}:∀ (parts:List (Nat × Nat × Nat × PV)) (rp:List (Nat × Value)) (zs:List PV) (vs:List Value) (cs:List PV),
  All2 (fun (q:Nat × Nat × Nat × PV) (r:Nat × Value)=>r.1=q.1/\place q.1=some (q.2.1,q.2.2.1)/\vrep I q.2.2.2 r.2) parts rp->vcells I zs vs ->
  k0a zs (parts.map fun q=>(q.2.1,q.2.2.1,q.2.2.2))=some cs->∃ us:List Value,Instr.fill place vs.toArray rp=some us.toArray/\vcells I cs us
 | [],_,zs,vs,cs,h,hz,hf=>by
  cases h
  simp only [List.map_nil,k0a,Option.some.injEq] at hf
  subst hf
  exact⟨vs,rfl,hz⟩
 | (i,off,k,p)::parts,_,zs,vs,cs,h,hz,hf=>by
  cases h with
  | cons h1 h2=>
   rename_i r rp
   obtain⟨j,v⟩:=r
   obtain⟨hj,hpl,hv⟩:=h1
   simp only at hj hpl hv
   subst hj
   simp only [List.map_cons,k0a] at hf
   split at hf
   ·rename_i ps hps
    split at hf
    ·rename_i hc
     have hcs:=PV.cells_spec hv hps
     have hl:=q5u hcs
     have hzl:=q5u hz
     obtain⟨us,hus,hcu⟩:=k6n parts rp (q5j zs off ps) (q5j vs off v.cells.toList) cs h2 (q7f off hcs hz) hf
     refine⟨us, ?_,hcu⟩
     unfold Instr.fill
     simp only [hpl]
     have hsz:v.cells.size=k:=by rw [<-hc.1,hl]; simp
     have hnot:¬ (v.cells.size ≠ k\/off+v.cells.size > vs.toArray.size):=by
      simp only [List.size_toArray]
      omega
     have hb:(decide (v.cells.size ≠ k) || decide (off+v.cells.size > vs.toArray.size))=false:=by
      rw [Bool.or_eq_false_iff]
      exact⟨by simpa using hsz,by simp only [List.size_toArray]; simp; omega⟩
     rw [if_neg (by rw [hb]; simp)]
     rw [<-hus]
     congr 1
     apply Array.ext'
     have:=k37 off v.cells.toList 0 vs.toArray
     simp only [Nat.add_zero] at this
     rw [<-Array.foldl_toList,Array.toList_zipIdx]
     exact this
    ·cases hf
   ·cases hf
def k46 (P:Program)(T:TypeId):Option (List PV):=
 match P.info? T with
 | some i=>
  match i.zero with
  | some z=>if z.cells.size=i.size/\z.cells.toList.all Value.oneCell'=true then some (z.cells.toList.map .val) else none
  | none=>none
 | none=>none
theorem k3l {I:Imm}:∀ {vs:List Value},vs.all Value.oneCell'=true->vcells I (vs.map .val) vs
 | [],_=>by simp [vcells]
 | v::vs,h=>by
  simp only [List.all_cons,Bool.and_eq_true] at h
  simp only [List.map_cons,vcells]
  exact⟨⟨q5r,h.1⟩,k3l h.2⟩
theorem q9a {T:TypeId}{zs:List PV}(h:k46 P T=some zs):∃ i z,P.info? T=some i/\i.zero=some z/\z.cells.size=i.size/\z.cells.toList.all Value.oneCell'=true/\zs=z.cells.toList.map .val/\∀ I,vcells I zs z.cells.toList:=by
 unfold k46 at h
 split at h
 ·rename_i i hi
  split at h
  ·rename_i z hz
   split at h
   ·rename_i hc
    simp only [Option.some.injEq] at h
    subst h
    exact⟨i,z,hi,hz,hc.1,hc.2,rfl,fun I=>k3l hc.2⟩
   ·cases h
  ·cases h
 ·cases h
theorem q6x {T:TypeId}{i:TypeInfo}{z:Value}(hi:P.info? T=some i)(hz:i.zero=some z)(w:World):(zeroValue T).run P w=.ok z w:=by
 simp [zeroValue,k45 hi,hz]
def j3n:Value->PV
 | .agg cs=>.agg (cs.toList.map .val)
 | .func fn a b=>if a.size=0/\b.size=0 then .func fn [] [] else .val (.func fn a b)
 | .iface t v=>.iface t (.val v)
 | v=>.val v
def k4h:Value->Bool
 | .agg cs=>cs.toList.all Value.oneCell'
 | _=>true
theorem k47 {I:Imm}{v:Value}(h:k4h v=true):vrep I (j3n v) v:=by
 cases v with
 | agg cs=>
  simp only [k4h] at h
  simp only [j3n,vrep]
  exact⟨cs.toList,by simp,k3l h⟩
 | func fn a b=>
  simp only [j3n]
  split
  ·rename_i h2
   obtain⟨ha,hb⟩:=h2
   obtain rfl:=Array.eq_empty_of_size_eq_zero ha
   obtain rfl:=Array.eq_empty_of_size_eq_zero hb
   simp only [vrep]; exact⟨[],[],rfl,by simp [vreps],by simp [vreps]⟩
  ·exact q5r
 | iface t v=>simp only [j3n,vrep]; exact⟨_,rfl,by simp⟩
 | _=>exact q5r
def q58:Operand->Option MX
 | .tmp t=>some (.tmp t)
 | .const v=>if k4h v then some (.const (j3n v)) else none
 | .global g=>some (.const (.val (.pointer (some ⟨g,0,none⟩))))
 | .func f=>some (.const (.func (.func f) [] []))
def k96 (I:Imm)(ρ:MX->PV)(ev:Operand->Value)(xs:List Operand):Prop:=∀ x ∈ xs,∀ m,q58 x=some m->vrep I (ρ m) (ev x)
set_option linter.unusedSimpArgs false
variable {P:Program}
def k1c:LK->Value->Value->Option Bool
 | .int,.int k a,.int k' b=>if k=k' then some (a == b) else none
 | .bool,.bool a,.bool b=>some (a == b)
 | .str,.string a,.string b=>some (a.toList == b.toList)
 | _,_,_=>none
def q51:List LK->List Value->List Value->Option Bool
 | [],[],[]=>some true
 | k::ks,u::us,v::vs=>
  match k1c k u v,q51 ks us vs with
  | some a,some b=>some (a && b)
  | _,_=>none
 | _,_,_=>none
theorem z7h {I:Imm}{l:LK}{p q:PV}{u v:Value}(h:vrep I p u)(k:vrep I q v){b:Bool}(hb:k1b l p q=some b):k1c l u v=some b:=by
 unfold k1b at hb
 split at hb <;> first | (simp only [vrep] at h k; subst h; subst k; simpa [k1c] using hb) | cases hb
theorem k69 {I:Imm}:∀ {ls:List LK} {ps qs:List PV} {us vs:List Value} {b:Bool},vcells I ps us->vcells I qs vs->q6c ls ps qs=some b->q51 ls us vs=some b
 | [],[],[],us,vs,b,h,k,hb=>by
  have h1:=q5u h
  have h2:=q5u k
  match us,vs,h1,h2 with
  | [],[],_,_=>simpa [q51,q6c] using hb
 | [],[],_::_,_,_,_,_,_,hb=>by simp [q6c] at hb
 | [],_::_,_,_,_,_,_,_,hb=>by simp [q6c] at hb
 | _::_,[],_,_,_,_,_,_,hb=>by simp [q6c] at hb
 | _::_,_::_,[],_,_,_,_,_,hb=>by simp [q6c] at hb
 | l::ls,p::ps,q::qs,[],_,_,h,_,_=>by simp [vcells] at h
 | l::ls,p::ps,q::qs,_::_,[],_,_,k,_=>by simp [vcells] at k
 | l::ls,p::ps,q::qs,u::us,v::vs,b,h,k,hb=>by
  simp only [vcells] at h k
  simp only [q6c] at hb
  split at hb
  ·rename_i a b' ha hb'
   simp only [Option.some.injEq] at hb
   subst hb
   simp only [q51,z7h h.1.1 k.1.1 ha,k69 h.2 k.2 hb']
  ·cases hb
theorem q6y:∀ {ls:List LK} {us vs:List Value} {b:Bool},q51 ls us vs=some b->us.length=ls.length/\vs.length=ls.length
 | [],[],[],_,_=>⟨rfl,rfl⟩
 | [],[],_::_,_,h=>by simp [q51] at h
 | [],_::_,_,_,h=>by simp [q51] at h
 | _::_,[],_,_,h=>by simp [q51] at h
 | _::_,_::_,[],_,h=>by simp [q51] at h
 | _::ls,u::us,v::vs,b,h=>by
  simp only [q51] at h
  split at h
  ·rename_i hb
   have:=q6y hb
   simp [this.1,this.2]
  ·cases h
theorem k1w:∀ (l1:List LK) {l2:List LK} {us vs:List Value} {b:Bool},q51 (l1++l2) us vs=some b ->
  ∃ a c,q51 l1 (us.take l1.length) (vs.take l1.length)=some a/\q51 l2 (us.drop l1.length) (vs.drop l1.length)=some c/\b=(a && c)
 | [],l2,us,vs,b,h=>⟨true,b,by simp [q51],by simpa using h,by simp⟩
 | l::l1,l2,[],vs,b,h=>by simp [q51] at h
 | l::l1,l2,_::_,[],_,h=>by simp [q51] at h
 | l::l1,l2,u::us,v::vs,b,h=>by
  simp only [List.cons_append,q51] at h
  split at h
  ·rename_i x y hx hy
   simp only [Option.some.injEq] at h
   obtain⟨a,c,h1,h2,h3⟩:=k1w l1 hy
   refine⟨x && a,c, ?_,by simpa using h2,by rw [<-h,h3,Bool.and_assoc]⟩
   simp only [List.length_cons,List.take_succ_cons,q51,hx,h1]
  ·cases h
def mkV (a:Bool)(us:List Value):Value:=if a then .agg us.toArray else us.headD undef
theorem k3m {T k:Nat}{a:Bool}(hl:lay P T=some (k,a))(hk:a=false->k=1){us:List Value}{off:Nat}(h:off+k<=us.length)(w:World) :
  (part T us.toArray off).run P w=.ok (mkV a ((us.drop off).take k)) w:=by
 cases a with
 | true=>
  simp only [part,Sem.run_bind,k6m hl,Result.andThen_ok,if_true,q6n hl,Sem.run_pure,mkV]
  congr 2
  apply Array.ext'
  simp [List.take_drop,Nat.add_comm]
 | false=>
  have:=hk rfl
  subst this
  have hlt:off<us.length:=by omega
  simp only [part,Sem.run_bind,k6m hl,Result.andThen_ok,Bool.false_eq_true,if_false,mkV]
  have e2:us.toArray[off]?=some us[off]:=by simp [hlt]
  rw [e2]
  simp only [Sem.run_pure]
  congr 1
  rw [List.headD_eq_head?_getD,List.head?_take]
  simp only [Nat.one_ne_zero,if_false,List.head?_drop,List.getElem?_eq_getElem hlt]
  rfl
def z02 (P:Program)(T:TypeId)(n:Nat):Bool:=
 match lay P T with
 | some (k,a)=>k == n && (a || k == 1)
 | none=>false
theorem q9b {T n:Nat}(h:z02 P T n=true):∃ a,lay P T=some (n,a)/\(a=false->n=1):=by
 unfold z02 at h
 split at h
 ·rename_i k a hl
  simp only [Bool.and_eq_true,beq_iff_eq,Bool.or_eq_true] at h
  obtain⟨rfl,h2⟩:=h
  exact⟨a,hl,fun ha=>by subst ha; simpa using h2⟩
 ·cases h
def q9c (plan:TypeId->Option (List LK))(P:Program):Nat->List Field->Option (List LK)
 | _,[]=>some []
 | cur,f::fs=>
  match plan f.type with
  | some ks=>
   if f.name ≠ "_" ∧ f.offset = cur ∧ z02 P f.type ks.length = true then (q9c plan P (cur + ks.length) fs).map (ks ++ ·) else none
  | none=>none
def k0o (P:Program):Nat->TypeId->Option (List LK)
 | 0,_=>none
 | d+1,T=>
  match P.underlying T with
  | some (.int _)=>some [.int]
  | some .bool=>some [.bool]
  | some .string=>some [.str]
  | some (.struct fs)=>if P.stoodInHeld T then none else q9c (k0o P d) P 0 fs.toList
  | some (.array n e)=>
   match k0o P d e with
   | some ks=>if z02 P e ks.length then some (List.replicate n ks).flatten else none
   | none=>none
  | _=>none
def q7g (P:Program)(T:TypeId):Bool:=
 match P.underlying T with
 | some d=>j9q d
 | none=>false
def y49 (P:Program)(T:TypeId):Option (List LK):=if P.eqGuardType P.depth T || !q7g P T then none else k0o P 12 T
theorem z2k {k:LK}{us vs:List Value}{b:Bool}(h:q51 [k] us vs=some b):∃ u v,us=[u]/\vs=[v]/\k1c k u v=some b:=by
 have hl:=q6y h
 match us,vs,hl with
 | [u],[v],_=>
  simp only [q51] at h
  split at h
  ·rename_i x y hx hy
   simp only [Option.some.injEq] at hy h
   subst hy
   exact⟨u,v,rfl,rfl,by rw [hx,<-h]; simp⟩
  ·cases h
def v0f (P:Program)(d:Nat):Prop:=∀ (T:TypeId) (ks:List LK),k0o P d T=some ks->∀ (e:Nat) (us vs:List Value) (b:Bool) (w:World),q51 ks us vs=some b ->
 (Op.equalIn (d+e) T (mkV (q7g P T) us) (mkV (q7g P T) vs)).run P w=.ok b w
theorem k48 {T k:Nat}{a:Bool}(h:lay P T=some (k,a)):q7g P T=a:=by
 unfold lay at h
 unfold q7g
 split at h
 ·rename_i i d hi hd
  simp only [Option.some.injEq,Prod.mk.injEq] at h
  rw [hd,<-h.2]
 ·cases h
theorem k7a {d:Nat}(ih:v0f P d):∀ (fs:List Field) (cur e:Nat) (ks:List LK) (us vs:List Value) (b:Bool) (w:World),q9c (k0o P d) P cur fs=some ks ->
  q51 ks (us.drop cur) (vs.drop cur)=some b->cur<=us.length->cur<=vs.length->(Op.eqFields (d+e) us.toArray vs.toArray fs).run P w=.ok b w
 | [],cur,e,ks,us,vs,b,w,h,hb,hu,hv=>by
  simp only [q9c,Option.some.injEq] at h
  subst h
  have hl:=q6y hb
  have h1:us.drop cur=[]:=List.eq_nil_of_length_eq_zero hl.1
  have h2:vs.drop cur=[]:=List.eq_nil_of_length_eq_zero hl.2
  rw [h1,h2] at hb
  simp only [q51,Option.some.injEq] at hb
  subst hb
  simp [Op.eqFields]
 | f::fs,cur,e,ks,us,vs,b,w,h,hb,hu,hv=>by
  simp only [q9c] at h
  split at h
  ·rename_i k1 hk1
   split at h
   ·rename_i hcond
    obtain⟨hn,hoff,hok⟩:=hcond
    simp only [Option.map_eq_some_iff] at h
    obtain⟨k2,hk2,rfl⟩:=h
    obtain⟨a,hl,ha1⟩:=q9b hok
    obtain⟨x,y,hx,hy,rfl⟩:=k1w k1 hb
    have hlen:=q6y hb
    simp only [List.length_drop,List.length_append] at hlen
    rw [List.drop_drop,List.drop_drop] at hy
    have h1:=ih f.type k1 hk1 e _ _ x w hx
    rw [k48 hl] at h1
    simp only [Op.eqFields,if_pos hn,Sem.run_bind,hoff,k3m hl ha1 (show cur+k1.length<=us.length by omega),k3m hl ha1 (show cur+k1.length<=vs.length by omega),Result.andThen_ok,h1]
    cases x with
    | true=>
     simp only [Bool.not_true,Bool.false_eq_true,if_false,Bool.true_and]
     exact k7a ih fs (cur+k1.length) e k2 us vs y w hk2 hy (by omega) (by omega)
    | false=>simp
   ·cases h
  ·cases h
theorem z4l {d:Nat}(ih:v0f P d){el:TypeId}{ks:List LK}(hk:k0o P d el=some ks)(hok:z02 P el ks.length=true)(e:Nat)(us vs:List Value) :
  ∀ (n i:Nat) (b:Bool) (w:World),q51 (List.replicate n ks).flatten (us.drop (i*ks.length)) (vs.drop (i*ks.length))=some b->i*ks.length<=us.length->i*ks.length<=vs.length ->
  (do
   let r <-(forIn (List.range' i n) ((none,()):Option Bool × Unit) (fun j (_:Option Bool × Unit)=>do
    let a <-part el us.toArray (j*ks.length)
    let c <-part el vs.toArray (j*ks.length)
    let x <-Op.equalIn (d+e) el a c
    if (!x)=true then pure (ForInStep.done (some false,())) else pure (ForInStep.yield (none,()))):Sem (Option Bool × Unit))
   match r.1 with
   | some x=>pure x
   | none=>pure true:Sem Bool).run P w=.ok b w
 | 0,i,b,w,hb,_,_=>by
  have hl:=q6y hb
  have h1:us.drop (i*ks.length)=[]:=List.eq_nil_of_length_eq_zero (by simpa using hl.1)
  have h2:vs.drop (i*ks.length)=[]:=List.eq_nil_of_length_eq_zero (by simpa using hl.2)
  rw [h1,h2] at hb
  simp [q51] at hb
  subst hb
  simp
 | n+1,i,b,w,hb,hu,hv=>by
  obtain⟨a,hl,ha1⟩:=q9b hok
  rw [List.replicate_succ,List.flatten_cons] at hb
  obtain⟨x,y,hx,hy,rfl⟩:=k1w ks hb
  have hlen:=q6y hb
  simp only [List.length_drop,List.length_append] at hlen
  rw [List.drop_drop,List.drop_drop,show i*ks.length+ks.length=(i+1)*ks.length by rw [Nat.add_mul,Nat.one_mul]] at hy
  have h1:=ih el ks hk e _ _ x w hx
  rw [k48 hl] at h1
  have ihn:=z4l ih hk hok e us vs n (i+1) y w hy (by rw [Nat.add_mul,Nat.one_mul]; omega) (by rw [Nat.add_mul,Nat.one_mul]; omega)
  simp only [List.range'_succ,List.forIn_cons,Sem.run_bind,k3m hl ha1 (show i*ks.length+ks.length<=us.length by omega),k3m hl ha1 (show i*ks.length+ks.length<=vs.length by omega),Result.andThen_ok,h1]
  cases x with
  | true=>
   simp only [Bool.not_true,Bool.false_eq_true,if_false,Sem.run_pure,Result.andThen_ok,Bool.true_and]
   simp only [Sem.run_bind] at ihn
   exact ihn
  | false=>simp
theorem k3n:∀ d,v0f P d
 | 0=>by intro T ks h; cases h
 | d+1=>by
  intro T ks h e us vs b w hb
  rw [show d+1+e=(d+e)+1 by omega]
  simp only [k0o] at h
  split at h
  ·rename_i k0 hud
   simp only [Option.some.injEq] at h
   subst h
   obtain⟨u,v,rfl,rfl,hle⟩:=z2k hb
   have ha:q7g P T=false:=by unfold q7g; rw [hud]; rfl
   rw [ha]
   simp only [mkV,Bool.false_eq_true,if_false,List.headD_cons]
   cases u <;> cases v <;> simp only [k1c,reduceCtorEq] at hle
   rename_i ku x kv y
   split at hle
   ·rename_i hkk
    subst hkk
    simp only [Option.some.injEq] at hle
    rw [run_equalIn_int w _ T ku k0 x y hud,hle]
   ·cases hle
  ·rename_i hud
   simp only [Option.some.injEq] at h
   subst h
   obtain⟨u,v,rfl,rfl,hle⟩:=z2k hb
   have ha:q7g P T=false:=by unfold q7g; rw [hud]; rfl
   rw [ha]
   simp only [mkV,Bool.false_eq_true,if_false,List.headD_cons]
   cases u <;> cases v <;> simp only [k1c,reduceCtorEq] at hle
   simp only [Option.some.injEq] at hle
   rw [run_equalIn_bool' w _ T _ _ hud,hle]
  ·rename_i hud
   simp only [Option.some.injEq] at h
   subst h
   obtain⟨u,v,rfl,rfl,hle⟩:=z2k hb
   have ha:q7g P T=false:=by unfold q7g; rw [hud]; rfl
   rw [ha]
   simp only [mkV,Bool.false_eq_true,if_false,List.headD_cons]
   cases u <;> cases v <;> simp only [k1c,reduceCtorEq] at hle
   simp only [Option.some.injEq] at hle
   rw [run_equalIn_string w _ T _ _ hud,hle]
  ·rename_i fs hud
   split at h
   ·cases h
   ·rename_i hst
    have ha:q7g P T=true:=by unfold q7g; rw [hud]; rfl
    rw [ha]
    simp only [mkV,if_true]
    have hfo:P.fieldsOf T=fs:=by unfold Program.fieldsOf; rw [hud]
    rw [run_equalIn_struct w (d+e) T _ _ (by rw [hfo]; exact hud) (by simpa using hst),hfo]
    exact k7a (k3n d) fs.toList 0 e ks us vs b w h (by simpa using hb) (Nat.zero_le _) (Nat.zero_le _)
  ·rename_i n el hud
   split at h
   ·rename_i k1 hk1
    split at h
    ·rename_i hok
     simp only [Option.some.injEq] at h
     subst h
     have ha:q7g P T=true:=by unfold q7g; rw [hud]; rfl
     rw [ha]
     obtain⟨a,hl,ha1⟩:=q9b hok
     have:=z4l (k3n d) hk1 hok e us vs n 0 b w (by simpa using hb) (by simp) (by simp)
     simp only [mkV,if_true]
     simp only [Op.equalIn,Sem.run_bind,run_underlying hud,Result.andThen_ok,q6n hl,Std.Legacy.Range.forIn_eq_forIn_range',Std.Legacy.Range.size]
     simp only [Sem.run_bind] at this
     simp at this ⊢
     rw [<-this]
     congr 2
     funext a w'
     obtain⟨a,_⟩:=a
     cases a <;> rfl
    ·cases h
   ·cases h
  ·cases h
theorem j3o {T:TypeId}{ks:List LK}(hok:y49 P T=some ks){us vs:List Value}{b:Bool}(hb:q51 ks us vs=some b){w:World} :
  (∀ (op:BinOp) (x y:Operand),(eqGuard op T x y (.agg us.toArray) (.agg vs.toArray)).run P w=.ok () w)/\(Op.equal T (.agg us.toArray) (.agg vs.toArray)).run P w=.ok b w:=by
 unfold y49 at hok
 split at hok
 ·cases hok
 ·rename_i hc
  simp only [Bool.or_eq_true,not_or,Bool.not_eq_true,Bool.not_eq_false'] at hc
  refine⟨fun op x y=>run_eqGuard_agg w op T x y _ _ hc.1, ?_⟩
  have:=k3n 12 T ks hok 9988 us vs b w hb
  rw [hc.2] at this
  simp only [mkV,if_true] at this
  exact this
end Go.Pv

/- slices.SortFunc on a row of structs of one's own: by the kit's contract. -/
import Derived.Test.YtmlmoaimjifpgaaGreatLRd
import Derived.Test.YtmlmoaimjifpgaaGreatLVf
import Derived.Shelf.SlSortCmp.WholeK
namespace Go.Pv
open Go.Shelf Go.RowKit Go.Lib Go.Sort Go.Proofs
theorem k2e {I:Imm}:∀ {ps qs:List PV} {vs:List Value},vcells I (ps++qs) vs->∃ a c,vs=a++c/\vcells I ps a/\vcells I qs c
 | [],_,vs,h=>⟨[],vs,rfl,by simp [vcells],h⟩
 | p::ps,qs,[],h=>by simp [vcells] at h
 | p::ps,qs,v::vs,h=>by
  simp only [List.cons_append,vcells] at h
  obtain⟨a,c,rfl,h1,h2⟩:=k2e h.2
  exact⟨v::a,c,rfl,⟨h.1,h1⟩,h2⟩
theorem z0i {u0 u1 C:List Value}(hl:u1.length=u0.length):(putCells id 0 u1.toArray (u0++C).toArray).toList=u1++C:=by
 refine List.ext_getElem (by simp [putCells,hl]) fun i h1 h2=>?_
 simp only [putCells,Array.getElem_toList,Array.getElem_mapIdx,Nat.zero_le,true_and,Nat.zero_add,Nat.sub_zero]
 by_cases hi:i<u1.length
 ·rw [if_pos (by simpa using hi),List.getElem_append_left hi]
  simp [hi]
 ·rw [if_neg (by simpa using hi),List.getElem_append_right (by omega)]
  simp only [List.getElem_toArray]
  rw [List.getElem_append_right (by omega)]
  congr 1
  omega
theorem SRep.sortedV {I:Imm}{st:q5f}{w:World}{b:Nat}{T:TypeId}{u0 u1:List Value}{C:List PV}(h:SRep I ((b,.arr T (u0.map PV.val++C))::st) w)(hl:u1.length=u0.length)(h1:∀ v ∈ u1,v.oneCell'=true)(n:Nat)(os:Array Obj) :
  SRep I ((b,.arr T (u1.map PV.val++C))::st) (grow (putRow id (Sort.ahead w n) b 0 u1.toArray) os)/\Calm w (grow (putRow id (Sort.ahead w n) b 0 u1.toArray) os):=by
 obtain⟨hI,r,hr,us,rfl,hu⟩:=h.objs b (.arr T (u0.map PV.val++C)) (by simp [q55])
 have hbs:=(Array.getElem?_eq_some_iff.1 hr).1
 have hh:∀ k,(grow (putRow id (Sort.ahead w n) b 0 u1.toArray) os).heap[k]?=if k<w.heap.size then (if b=k then some (.cells (putCells id 0 u1.toArray us.toArray) T (0,0)) else w.heap[k]?) else os[k-w.heap.size]?:=fun k=>by
  have hsz:(w.heap.modify b (onCells (putCells id 0 u1.toArray))).size=w.heap.size:=by simp
  show ((w.heap.modify b (onCells (putCells id 0 u1.toArray)))++os)[k]?=_
  rw [Array.getElem?_append,hsz]
  split
  ·rw [Array.getElem?_modify]
   split
   ·rename_i e
    subst e
    rw [hr]
    rfl
   ·rfl
  ·rfl
 have hsize:w.heap.size<=(grow (putRow id (Sort.ahead w n) b 0 u1.toArray) os).heap.size:=by
  show w.heap.size<=((w.heap.modify b (onCells (putCells id 0 u1.toArray)))++os).size
  simp
 obtain⟨vs1,vs2,rfl,e1,e2⟩:∃ vs1 vs2,us=vs1++vs2/\vcells I (u0.map PV.val) vs1/\vcells I C vs2:=k2e hu
 have e3:vs1=u0:=q9l e1
 subst e3
 refine⟨⟨fun k o hk=>?_,fun k o hk=>?_, ?_⟩,⟨rfl,rfl,rfl,Nat.le_add_right ..,hsize⟩⟩
 ·rw [hh,if_pos (h.imm_lt hk),if_neg (fun e=>by subst e; rw [hI] at hk; cases hk)]
  exact h.imm k o hk
 ·by_cases e:b=k
  ·subst e
   simp only [q55,if_true,Option.some.injEq] at hk
   subst hk
   refine⟨hI,_,by rw [hh,if_pos hbs,if_pos rfl],(putCells id 0 u1.toArray (vs1++vs2).toArray).toList,by simp, ?_⟩
   rw [z0i hl]
   exact q6l (q8n I _ h1) e2
  ·have hk':q55 ((b,.arr T (vs1.map PV.val++C))::st) k=some o:=by simpa [q55,e] using hk
   obtain⟨a1,r',a2,a3⟩:=h.objs k o hk'
   exact⟨a1,r',by rw [hh,if_pos (h.obj_lt hk'),if_neg e]; exact a2,a3⟩
 ·have:=h.keys
  simp only [k09] at this ⊢
  exact⟨by omega,k1s this.2 hsize⟩
theorem j8h {w w':World}{I:Imm}{st:q5f}(h1:(j79 w).le I)(h2:Calm w w')(h3:SRep I st w'):∃ q os,w'=grow (w.drewN q) os:=by
 refine⟨w'.drawn-w.drawn,w'.heap.extract w.heap.size w'.heap.size, ?_⟩
 have hd:=h2.drawn
 have hsz:=h2.size
 have hold:∀ k (hk:k<w.heap.size),w'.heap[k]'(by omega)=w.heap[k]:=fun k hk=>by
  have h:w.heap[k]?=some w.heap[k]:=Array.getElem?_eq_getElem hk
  have:=h3.imm k _ (h1 k _ h)
  rw [Array.getElem?_eq_getElem (by omega)] at this
  exact Option.some.inj this
 have eh:w'.heap=w.heap++w'.heap.extract w.heap.size w'.heap.size:=by
  refine Array.ext (by simp; omega) fun k k1 k2=>?_
  by_cases hk:k<w.heap.size
  ·rw [Array.getElem_append_left hk,hold k hk]
  ·rw [Array.getElem_append_right (by omega)]
   simp only [Array.getElem_extract]
   congr 1
   omega
 have ed:w.drawn+(w'.drawn-w.drawn)=w'.drawn:=by omega
 obtain⟨h,t,d,o,p⟩:=w'
 simp only at eh ed
 have e1:=h2.os
 have e2:=h2.tape
 have e3:=h2.output
 simp only at e1 e2 e3
 subst e1 e2 e3
 show _=(⟨w.heap++_,w.tape,w.drawn+(d-w.drawn),w.os,w.output⟩:World)
 rw [ed]
 congr 1
section
variable {P:Program} {α:Type} [Inhabited α] (enc:α->List Value) (k:Nat) (cf:α->α->Int)
theorem j2f {g:FuncId}(eg:k0b P g)(hc:∀ x y,Rets P g [.agg ((enc x).map PV.val),.agg ((enc y).map PV.val)] [] (.int (cf x y)))(h1:∀ x,∀ v ∈ enc x,v.oneCell'=true)(blk off size:Nat)(w:World):CmpLays P g #[] enc k cf blk off size w:=fun m os dk _ x y=>by
 generalize sortWorldK enc k w blk off m dk os=w0
 have hp:PEnter P g [.agg ((enc x).map PV.val),.agg ((enc y).map PV.val)] [] fun e s=>e=.ret (.int (cf x y))/\s=[]:=by
  rcases hc x y with h | h
  ·exact h
  ·obtain⟨v,w',h3, -⟩:=h.out (j79 w0) w0 [.agg (enc x).toArray,.agg (enc y).toArray] (j0l w0) (by
    simp only [vreps,vrep]
    exact⟨⟨_,rfl,q8n _ _ (h1 x)⟩,⟨_,rfl,q8n _ _ (h1 y)⟩,trivial⟩)
   rw [q7m eg] at h3
   cases h3
 refine (hp.out (j79 w0) w0 [.agg (enc x).toArray,.agg (enc y).toArray] (j0l w0) (by
    simp only [vreps,vrep]
    exact⟨⟨_,rfl,q8n _ _ (h1 x)⟩,⟨_,rfl,q8n _ _ (h1 y)⟩,trivial⟩)).mono fun e w' hh=>?_
 obtain⟨I',st',a,b,c,pe,d,rfl,rfl⟩:=hh
 obtain⟨v,rfl,hv⟩:=d
 simp only [vrep] at hv
 subst hv
 exact⟨rfl,j8h a b c⟩
theorem z58 {α:Type}{enc:α->List Value}{k:Nat}(hk:∀ x,(enc x).length=k):∀ (l:List α) (i c:Nat) (h:i<l.length),c<k->(l.flatMap enc)[i*k+c]?=(enc l[i])[c]?
 | x::l,0,c,_,hc=>by
  rw [List.flatMap_cons,Nat.zero_mul,Nat.zero_add,List.getElem?_append_left (by rw [hk]; exact hc)]
  rfl
 | x::l,i+1,c,h,hc=>by
  rw [List.flatMap_cons,List.getElem?_append_right (by rw [hk,Nat.succ_mul]; omega),hk,show (i+1)*k+c-k=i*k+c by rw [Nat.succ_mul]; omega,z58 hk l i c (by simpa using h) hc]
  rfl
theorem k9g {α:Type}{enc:α->List Value}{k:Nat}(hk:∀ x,(enc x).length=k)(l:List α):(l.flatMap enc).length=l.length*k:=by
 induction l with
 | nil=>simp
 | cons x l ih=>rw [List.flatMap_cons,List.length_append,hk,ih,List.length_cons,Nat.succ_mul]; omega
theorem z1w (hk:∀ x,(enc x).length=k)(l:List α):flatK enc k l.toArray=(l.flatMap enc).toArray:=by
 have hl:=k9g hk l
 refine Array.ext (by simp [hl]) fun t h1 h2=>?_
 have ht:t<l.length*k:=by simpa using h1
 have k0:0<k:=by
  rcases Nat.eq_zero_or_pos k with h | h
  ·subst h
   simp at ht
  ·exact h
 have hd:t / k<l.length:=by rwa [Nat.div_lt_iff_lt_mul k0]
 have hm:t % k<k:=Nat.mod_lt _ k0
 have e:=get_flatK enc k l.toArray t (by simpa using ht)
 rw [getElem!_pos _ t h1] at e
 rw [e]
 have e2:=z58 hk l (t / k) (t % k) hd hm
 rw [show t / k*k+t % k=t by rw [Nat.mul_comm]; exact Nat.div_add_mod t k,List.getElem?_eq_getElem (by omega),List.getElem?_eq_getElem (by rw [hk]; exact hm),Option.some.injEq] at e2
 simp only [List.getElem_toArray]
 rw [e2]
 rw [getElem!_pos l.toArray (t / k) (by simpa using hd)]
 simp only [List.getElem_toArray]
 rw [getElem!_pos (enc l[t / k]) (t % k) (by rw [hk]; exact hm)]
def k27 (l:List α):List α:=(pdq (ltOf cf) l.toArray 0 l.length (Lib.bitLen l.length) true true).toList
theorem k2f (hO:SWO (ltOf cf))(l:List α):(k27 cf l).Perm l/\(k27 cf l).Pairwise fun x y=>¬ cf y x<0:=by
 have hp:=pdq_sorts (ltOf cf) hO l.toArray 0 l.length (Lib.bitLen l.length) true true (Nat.zero_le _) (Nat.le_refl _) (Or.inl rfl)
 obtain⟨⟨h1, -,h2⟩,h3⟩:=hp
 unfold k27
 generalize pdq (ltOf cf) l.toArray 0 l.length (Lib.bitLen l.length) true true=d at *
 simp only [List.size_toArray] at h1
 constructor
 ·have e1:(d.extract 0 l.length).toList=d.toList:=by rw [<-h1]; simp
  have e2:(l.toArray.extract 0 l.length).toList=l:=by simp
  rwa [e1,e2] at h2
 ·rw [List.pairwise_iff_getElem]
  intro i j hi hj hij
  simp only [Array.length_toList] at hi hj
  have:=h3 i j (Nat.zero_le _) hij (by omega)
  rw [getElem!_pos d i hi,getElem!_pos d j hj] at this
  unfold ltOf at this
  simpa using this
theorem y2q {ρ:Ren}(L6:SlLaysF0.n6 P ρ){f g:FuncId}(hf:ρ.f 6=f)(ef:k0b P f)(eg:k0b P g)(aE:∀ w,(isAgg (ρ.t 24)).run P w=.ok true w)(zE:∀ w,(Go.sizeOf (ρ.t 24)).run P w=.ok k w)(hk:∀ x,(enc x).length=k)(h1:∀ x,∀ v ∈ enc x,v.oneCell'=true)
  (hO:SWO (ltOf cf)) (hc:∀ x y,Rets P g [.agg ((enc x).map PV.val),.agg ((enc y).map PV.val)] [] (.int (cf x y)))
  {T:TypeId} {l:List α} {b cap:Nat} {C:List PV} {st:q5f} (hs:l.length<4611686018427387904) :
  Does P f [.own b 0 l.length cap,.func (.func g) [] []] ((b,.arr T ((l.flatMap enc).map PV.val++C))::st) (.tuple []) ((b,.arr T (((k27 cf l).flatMap enc).map PV.val++C))::st):=by
 subst hf
 refine .inl ⟨ef,fun I w vs hS hv=>?_⟩
 obtain⟨v1,v2,rfl,e1,e2⟩:∃ v1 v2,vs=[v1,v2]/\vrep I (.own b 0 l.length cap) v1/\vrep I (.func (.func g) [] []) v2:=by
  match vs,hv with
  | [v1,v2],hv=>simp only [vreps] at hv; exact⟨v1,v2,rfl,hv.1,hv.2.1⟩
 simp only [vrep] at e1 e2
 obtain⟨us,vs,rfl,h3,h4⟩:=e2
 subst e1
 obtain rfl:us=[]:=by cases us <;> simp [vreps] at h3 ⊢
 obtain rfl:vs=[]:=by cases vs <;> simp [vreps] at h4 ⊢
 obtain⟨hI,r,hr,us,rfl,hu⟩:=hS.objs b (.arr T ((l.flatMap enc).map PV.val++C)) (by simp [q55])
 obtain⟨vs1,vs2,rfl,e1,e2⟩:∃ vs1 vs2,us=vs1++vs2/\vcells I ((l.flatMap enc).map PV.val) vs1/\vcells I C vs2:=k2e hu
 have e3:vs1=l.flatMap enc:=q9l e1
 subst e3
 have hH:HoldsK enc k w b 0 l.toArray:=by
  unfold HoldsK
  rw [z1w enc k hk l]
  intro j hj
  simp only [List.size_toArray] at hj
  rw [Nat.zero_add,getElem!_pos _ j (by simpa using hj)]
  refine⟨?_,by simp [World.frozen?,hr]⟩
  simp only [World.cell?,hr,id]
  rw [List.getElem?_toArray,List.getElem?_append_left hj]
  simp
 have hcall:=AnyQ.slices_SortFunc_eq L6 k aE zE enc hk h1 cf hO g #[] b 0 cap l.toArray w (fun args w=>q7m eg args w) (j2f enc k cf eg hc h1 b 0 _ w) hH (Array.getElem?_eq_some_iff.1 hr).1 (by simpa using hs)
 simp only [List.size_toArray] at hcall
 refine hcall.mono fun e w' ⟨he,n,os,hw⟩=>?_
 subst hw
 have hperm:=(k2f cf hO l).1
 have ed:(k27 cf l).toArray=pdq (ltOf cf) l.toArray 0 l.length (Lib.bitLen l.length) true true:=by unfold k27; simp
 have ew:sortWorldK enc k w b 0 n (pdq (ltOf cf) l.toArray 0 l.length (Lib.bitLen l.length) true true) os=grow (putRow id (Sort.ahead w n) b 0 ((k27 cf l).flatMap enc).toArray) os:=by
  unfold sortWorldK putRowK
  rw [<-ed,z1w enc k hk]
 rw [ew]
 obtain⟨k1,k2⟩:=SRep.sortedV hS (u1:=(k27 cf l).flatMap enc) (by rw [k9g hk,k9g hk,hperm.length_eq]) (fun v hv=>by
  obtain⟨x, -,hx⟩:=List.mem_flatMap.1 hv
  exact h1 x v hx) n os
 exact⟨I,_,I.le_refl,k2,k1,.ret (.tuple []),⟨_,he,by simp [vrep,vreps]⟩,rfl,rfl⟩
end
end Go.Pv

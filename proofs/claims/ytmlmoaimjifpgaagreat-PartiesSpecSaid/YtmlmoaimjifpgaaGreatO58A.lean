/- slices.SortFunc on notes, laid at this seat (its text printed by the kit's own command). -/
import Derived.Test.YtmlmoaimjifpgaaGreatProg
import Derived.Shelf.SlLaysF0
import Derived.Test.YtmlmoaimjifpgaaGreatC58N
import Derived.Test.YtmlmoaimjifpgaaGreatL58S
import Derived.Test.YtmlmoaimjifpgaaGreatLSw
import Derived.Test.YtmlmoaimjifpgaaGreatLCd
import Derived.Test.YtmlmoaimjifpgaaGreatN58E
import Derived.Test.YtmlmoaimjifpgaaGreatLAc
namespace Go.Proofs.YtmlmoaimjifpgaaGreat
open Go.Shelf
def Tryz.sortN_ren:Go.Shelf.Ren:=⟨fun | 6=>72 | 15=>120 | 14=>119 | 28=>174 | 29=>175 | 20=>166 | 21=>167 | 22=>168 | 23=>169 | 24=>170 | 25=>171 | 26=>172 | 27=>173 | 46=>205 | 47=>206 | 48=>207 | 49=>208 | 50=>209 | 57=>216 | n=>n,fun | 22=>58 | 24=>34 | 25=>131 | 3=>3 | 39=>188 | 0=>0 | 53=>249 | 55=>251 | 4=>4 | 46=>243 | 45=>242 | 50=>203 | 5=>5 | 9=>9 | 66=>273 | 70=>177 | 76=>283 | 77=>284 | n=>n,fun | n=>n⟩
theorem Tryz.sortN:Go.Proofs.SlLaysF0.n6 Tryz.prog Tryz.sortN_ren:={
 mixed:=by kernel_rfl,
 f6:=⟨Tryz.f72.name,by decide,Tryz.func72.trans (congrArg some (by kernel_rfl))⟩,
 f14:=⟨Tryz.f119.name,by decide,Tryz.func119.trans (congrArg some (by kernel_rfl))⟩,
 f15:=Tryz.func120.trans (congrArg some (by kernel_rfl)),
 f20:=⟨Tryz.f166.name,by decide,Tryz.func166.trans (congrArg some (by kernel_rfl))⟩,
 f21:=⟨Tryz.f167.name,by decide,Tryz.func167.trans (congrArg some (by kernel_rfl))⟩,
 f22:=⟨Tryz.f168.name,by decide,Tryz.func168.trans (congrArg some (by kernel_rfl))⟩,
 f23:=⟨Tryz.f169.name,by decide,Tryz.func169.trans (congrArg some (by kernel_rfl))⟩,
 f24:=⟨Tryz.f170.name,by decide,Tryz.func170.trans (congrArg some (by kernel_rfl))⟩,
 f25:=⟨Tryz.f171.name,by decide,Tryz.func171.trans (congrArg some (by kernel_rfl))⟩,
 f26:=⟨Tryz.f172.name,by decide,Tryz.func172.trans (congrArg some (by kernel_rfl))⟩,
 f27:=⟨Tryz.f173.name,by decide,Tryz.func173.trans (congrArg some (by kernel_rfl))⟩,
 f28:=Tryz.func174.trans (congrArg some (by kernel_rfl)),
 f29:=Tryz.func175.trans (congrArg some (by kernel_rfl)),
 f46:=⟨Tryz.f205.name,by decide,Tryz.func205.trans (congrArg some (by kernel_rfl))⟩,
 f47:=Tryz.func206.trans (congrArg some (by kernel_rfl)),
 f48:=Tryz.func207.trans (congrArg some (by kernel_rfl)),
 f49:=⟨Tryz.f208.name,by decide,Tryz.func208.trans (congrArg some (by kernel_rfl))⟩,
 f50:=⟨Tryz.f209.name,by decide,Tryz.func209.trans (congrArg some (by kernel_rfl))⟩,
 f57:=⟨Tryz.f216.name,by decide,Tryz.func216.trans (congrArg some (by kernel_rfl))⟩,
 t0:=Tryz.underlying0,
 a0:=Tryz.isAgg0,
 z0:=Tryz.sizeOf0,
 v0:=Tryz.zeroValue0,
 t3:=Tryz.underlying3,
 a3:=Tryz.isAgg3,
 z3:=Tryz.sizeOf3,
 v3:=Tryz.zeroValue3,
 t4:=Tryz.underlying4,
 a4:=Tryz.isAgg4,
 z4:=Tryz.sizeOf4,
 v4:=Tryz.zeroValue4,
 t5:=Tryz.underlying5,
 a5:=Tryz.isAgg5,
 z5:=Tryz.sizeOf5,
 v5:=Tryz.zeroValue5,
 t9:=Tryz.underlying9,
 a9:=Tryz.isAgg9,
 z9:=Tryz.sizeOf9,
 v9:=Tryz.zeroValue9,
 t22:=Tryz.underlying58,
 a22:=Tryz.isAgg58,
 z22:=Tryz.sizeOf58,
 v22:=Tryz.zeroValue58,
 t25:=Tryz.underlying131,
 a25:=Tryz.isAgg131,
 z25:=Tryz.sizeOf131,
 v25:=Tryz.zeroValue131,
 t39:=Tryz.underlying188,
 a39:=Tryz.isAgg188,
 z39:=Tryz.sizeOf188,
 v39:=Tryz.zeroValue188,
 t45:=Tryz.underlying242,
 a45:=Tryz.isAgg242,
 z45:=Tryz.sizeOf242,
 v45:=Tryz.zeroValue242,
 t46:=Tryz.underlying243,
 a46:=Tryz.isAgg243,
 z46:=Tryz.sizeOf243,
 v46:=Tryz.zeroValue243,
 t50:=Tryz.underlying203,
 a50:=Tryz.isAgg203,
 z50:=Tryz.sizeOf203,
 v50:=Tryz.zeroValue203,
 t53:=Tryz.underlying249,
 a53:=Tryz.isAgg249,
 z53:=Tryz.sizeOf249,
 v53:=Tryz.zeroValue249,
 t55:=Tryz.underlying251,
 a55:=Tryz.isAgg251,
 z55:=Tryz.sizeOf251,
 v55:=Tryz.zeroValue251,
 t66:=Tryz.underlying273,
 a66:=Tryz.isAgg273,
 z66:=Tryz.sizeOf273,
 v66:=Tryz.zeroValue273,
 t70:=Tryz.underlying177,
 a70:=Tryz.isAgg177,
 z70:=Tryz.sizeOf177,
 v70:=Tryz.zeroValue177,
 t76:=Tryz.underlying283,
 a76:=Tryz.isAgg283,
 z76:=Tryz.sizeOf283,
 v76:=Tryz.zeroValue283,
 t77:=Tryz.underlying284,
 a77:=Tryz.isAgg284,
 z77:=Tryz.sizeOf284,
 v77:=Tryz.zeroValue284 }
open Go.Pv Go.Pv.Cd
set_option maxRecDepth 100000
set_option maxHeartbeats 8000000
theorem j1g:∀ l m:List Int,l.length=m.length->q6c (List.replicate l.length LK.int) (l.map PV.int) (m.map PV.int)=some (decide (l=m))
 | [],[],_=>rfl
 | [],_::_,h=>by simp at h
 | _::_,[],h=>by simp at h
 | a::l,b::m,h=>by
  have ih:=j1g l m (by simpa using h)
  show q6c (LK.int::List.replicate l.length LK.int) (PV.int a::l.map PV.int) (PV.int b::m.map PV.int)=_
  rw [z5a,ih]
  by_cases h1:a=b <;> by_cases h2:l=m <;> simp [h1,h2,y8n]
theorem j9a {x y:Note}(h:x.ints=y.ints):x=y:=by rw [<-k4w x,h,k4w]
@[simp] theorem Note.eqC (x y:Note):q6c [LK.int,LK.int,LK.int,LK.int,LK.int,LK.int,LK.int,LK.int,LK.int,LK.int,LK.int,LK.int,LK.int,LK.int,LK.int,LK.int,LK.int,LK.int,LK.int,LK.int,LK.int,LK.int,LK.int,LK.int] x.enc y.enc=some (decide (x=y)):=by
 rw [Note.enc_ints,Note.enc_ints]
 refine (j1g x.ints y.ints rfl).trans ?_
 by_cases h:x=y
 ·subst h; simp
 ·rw [decide_eq_false h,decide_eq_false fun e=>h (j9a e)]
theorem z63 (l:List Note)(i:Nat)(h:i<=l.length):Note.row (l.take i)=(Note.row l).take (i*24)/\Note.row (l.drop i)=(Note.row l).drop (i*24):=by
 have h1:(Note.row (l.take i)).length=i*24:=by simp; omega
 have e:Note.row l=Note.row (l.take i)++Note.row (l.drop i):=by rw [<-Note.row_append,List.take_append_drop]
 rw [e]
 exact⟨(List.take_left' h1).symm,(List.drop_left' h1).symm⟩
theorem z9u (l:List Note)(h:Rise q6p okN l)(hl:l.length<=1000)(x:Note)(hx:okN x)(st:q5f):Rets P F.q3m [Note.lst false l,x.pv] st (.tuple [Note.lst false (k78 q6p l x),.int 0]):=by
 have hrl:=Note.row_len l
 have hpos:=j47 (c:=q6p) l x
 have hspec:=k5s cmpN_ord h x
 obtain⟨p,hp⟩:∃ p,p=k9e q6p l x:=⟨_,rfl⟩
 have hlt:∀ i (hi:i<l.length),i<p->q6p l[i] x<0:=fun i hi hip=>hspec.1 _ (List.mem_take_iff_getElem.2 ⟨i,by omega,rfl⟩)
 have hge:∀ hi:p<l.length,¬ q6p l[p] x<0:=fun hi=>hspec.2 _ (by rw [<-hp]; exact List.mem_drop_iff_getElem.2 ⟨0,by omega,by simp⟩)
 have hat:=j49 cmpN_ord h (x:=x)
 rw [<-hp] at hat hpos
 have hput:k78 q6p l x=if x ∈ l then l else l.take p++x::l.drop p:=by unfold k78; rw [<-hp]
 clear hspec hp
 have hok:=Hid.mk h.1
 have hx24:l.length*24-p*24=(l.length-p)*24:=by omega
 refine H.q3m.view q5n rfl rfl ?_
 repeat' (first 
  | (with_reducible refine Fresh.intro fun b hb=>?_) <;> (try simp -dsimp -implicitDefEqProofs [*] at hb)
  | (simp -dsimp -implicitDefEqProofs [*]))
 refine q5h (fun i:Nat=>[(3,.ptr b 0),(0,Note.lst false l),(6,.int i),(4,.nil),(5,.int 0)]) (fun _=>(b,.arr T.apiNote x.enc)::st) (fun i=>i<=p) (fun i=>p-i) 0 (Nat.zero_le _) (by simp) (.refl _) ?_
 intro i hi
 by_cases hip:i<p
 ·have hil:i<l.length:=by omega
  have hwi:=q5i (n:=i) (by omega)
  have bs:=fun st=>k41 l[i] x (hok.out _ (List.getElem_mem hil)) hx st
  have hsub:=Note.row_sub l i hil
  rw [decide_eq_true (hlt i hil hip)] at bs
  clear hlt hge hat hput
  generalize l[i]=y at *
  repeat' (first 
   | (with_reducible refine Rets.xcall (bs _) ?_)
   | (with_reducible refine DrawLate.intro [] ?_)
   | (simp -dsimp -implicitDefEqProofs [*]))
  exact Next.intro (i+1) (by omega) (by omega) (by simp) q5o
 obtain rfl:i=p:=by omega
 by_cases hil:i<l.length
 ·have bs:=fun st=>k41 l[i] x (hok.out _ (List.getElem_mem hil)) hx st
  have hsub:=Note.row_sub l i hil
  rw [decide_eq_false (hge hil)] at bs
  rw [List.getElem?_eq_getElem hil] at hat
  by_cases hy:l[i]=x
  ·have hin:x ∈ l:=hat.2 (by rw [hy])
   rw [if_pos hin] at hput
   rw [hput]
   clear hlt hge hat hput hin
   rw [hy] at hsub bs
   clear hy
   repeat' (first 
    | (with_reducible refine Rets.xcall (bs _) ?_)
    | (with_reducible refine DrawLate.intro [] ?_)
    | (simp -dsimp -implicitDefEqProofs [*]))
   exact RetView.drop (st':=st) q5o ⟨rfl,rfl⟩
  ·have hin:¬ x ∈ l:=fun h=>hy (by simpa using hat.1 h)
   rw [if_neg hin] at hput
   rw [hput]
   clear hlt hge hat hput hin
   generalize l[i]=y at *
   have h4:¬ (l.length:Int)=4096:=by omega
   repeat' (first 
    | (with_reducible refine Rets.xcall (bs _) ?_)
    | (with_reducible refine DrawLate.intro [] ?_)
    | (simp -dsimp -implicitDefEqProofs [-q5g, *]))
   have rt:=z63 l i hpos
   have lt:(l.take i).length=i:=by rw [List.length_take]; omega
   have ld:(l.drop i).length=l.length-i:=List.length_drop ..
   refine q6r (bytes:=192) Note.row_len Note.row_append (none:Option (Acc Note)) trivial (l.take i) rt.1 lt (by simp; omega) fun o ho hol=>?_
   refine q6f (q7p ho (Cls.self _ _)) ?_
   have kl:Hid (q50 o=l.take i):=⟨hol⟩
   have kll:Hid ((q50 o).length=i):=⟨by rw [hol]; exact lt⟩
   clear hol
   repeat' (simp -dsimp -implicitDefEqProofs [-q5g, *])
   refine q6r (bytes:=192) Note.row_len Note.row_append o ho [x] (by simp) rfl (by rw [kll.out]; omega) fun o2 ho2 hl2=>?_
   refine q6f (q7p ho2 (Cls.self _ _)) ?_
   have kl2:Hid (q50 o2=l.take i++[x]):=⟨by rw [hl2,kl.out]⟩
   have kll2:Hid ((q50 o2).length=i+1):=⟨by rw [hl2,List.length_append,kll.out]; rfl⟩
   clear hl2
   repeat' (simp -dsimp -implicitDefEqProofs [-q5g, *])
   refine q6r (bytes:=192) Note.row_len Note.row_append o2 ho2 (l.drop i) rt.2 ld (by rw [kll2.out]; omega) fun o3 ho3 hl3=>?_
   refine q6f (q7p ho3 (Cls.self _ _)) ?_
   have kl3:Hid (q50 o3=l.take i++x::l.drop i):=⟨by rw [hl3,kl2.out]; simp⟩
   clear hl3
   repeat' (simp -dsimp -implicitDefEqProofs [-q5g, *])
   exact RetView.accQ2 rfl ho3 (.drop q5o ⟨by rw [kl3.out],rfl⟩)
 ·have hin:¬ x ∈ l:=fun h=>by
   have:=hat.1 h
   rw [List.getElem?_eq_none (by omega)] at this
   cases this
  rw [if_neg hin] at hput
  rw [hput]
  clear hlt hge hat hput hin
  obtain rfl:i=l.length:=by omega
  have h4:¬ (l.length:Int)=4096:=by omega
  repeat' (first 
   | (with_reducible refine DrawLate.intro [] ?_)
   | (simp -dsimp -implicitDefEqProofs [-q5g, *]))
  have rt:=z63 l l.length hpos
  have lt:(l.take l.length).length=l.length:=by rw [List.length_take]; omega
  have ld:(l.drop l.length).length=l.length-l.length:=List.length_drop ..
  refine q6r (bytes:=192) Note.row_len Note.row_append (none:Option (Acc Note)) trivial (l.take l.length) rt.1 lt (by simp; omega) fun o ho hol=>?_
  refine q6f (q7p ho (Cls.self _ _)) ?_
  have kl:Hid (q50 o=l.take l.length):=⟨hol⟩
  have kll:Hid ((q50 o).length=l.length):=⟨by rw [hol]; exact lt⟩
  clear hol
  repeat' (simp -dsimp -implicitDefEqProofs [-q5g, *])
  refine q6r (bytes:=192) Note.row_len Note.row_append o ho [x] (by simp) rfl (by rw [kll.out]; omega) fun o2 ho2 hl2=>?_
  refine q6f (q7p ho2 (Cls.self _ _)) ?_
  have kl2:Hid (q50 o2=l.take l.length++[x]):=⟨by rw [hl2,kl.out]⟩
  have kll2:Hid ((q50 o2).length=l.length+1):=⟨by rw [hl2,List.length_append,kll.out]; rfl⟩
  clear hl2
  repeat' (simp -dsimp -implicitDefEqProofs [-q5g, *])
  refine q6r (bytes:=192) Note.row_len Note.row_append o2 ho2 (l.drop l.length) rt.2 (by rw [ld]; omega) (by rw [kll2.out]; omega) fun o3 ho3 hl3=>?_
  refine q6f (q7p ho3 (Cls.self _ _)) ?_
  have kl3:Hid (q50 o3=l.take l.length++x::l.drop l.length):=⟨by rw [hl3,kl2.out]; simp⟩
  clear hl3
  repeat' (simp -dsimp -implicitDefEqProofs [-q5g, *])
  exact RetView.accQ2 rfl ho3 (.drop q5o ⟨by rw [kl3.out]; simp,rfl⟩)
open Go.Pv Go.Pv.Cd
set_option maxRecDepth 100000
set_option maxHeartbeats 4000000
abbrev FN:={ n:Note // q5q n=true }
instance:Inhabited FN:=⟨⟨⟨1,⟨3,1,0,3,0,0,5,7,8⟩,zeroD⟩,by decide⟩⟩
def y24 (x:FN):List Value:=x.1.ints.map (Value.int .i64)
def cfF (x y:FN):Int:=q6p x.1 y.1
theorem j6a (x:FN):(y24 x).map PV.val=x.1.enc:=by
 rw [Note.enc_ints]
 unfold y24
 rw [List.map_map]
 rfl
theorem v0c:Go.Sort.SWO (ltOf cfF) where
 irrefl x:=by
  unfold ltOf cfF
  rw [cmpN_ord.self]
  decide
 trans x y z h1 h2:=by
  unfold ltOf cfF at *
  rw [decide_eq_true_eq] at *
  exact cmpN_ord.trans _ _ _ h1 h2
 ntrans x y z h1 h2:=by
  unfold ltOf cfF at *
  rw [decide_eq_false_iff_not] at *
  intro h
  by_cases e:y.1=x.1
  ·rw [<-e] at h; exact h2 h
  ·exact h2 (cmpN_ord.trans _ _ _ (cmpN_ord.gt x.2 y.2 h1 (fun e2=>e e2.symm)) h)
theorem j9b (x y:FN):Rets P F.q09 [.agg ((y24 x).map PV.val),.agg ((y24 y).map PV.val)] [] (.int (cfF x y)):=by
 rw [j6a,j6a]
 exact k3c x.1 y.1 x.2 y.2 []
theorem y8a (l:List FN):(l.flatMap y24).map PV.val=Note.row (l.map (·.1)):=by
 unfold Note.row
 rw [List.map_flatMap,List.flatMap_map]
 congr 1
theorem j22 (l:List FN)(hl:l.length<=100000)(b cap:Nat)(C:List PV)(st:q5f) :
  Does P F.q0l [.own b 0 l.length cap,.func (.func F.q09) [] []] ((b,.arr T.apiNote (Note.row (l.map (·.1))++C))::st) (.tuple []) ((b,.arr T.apiNote (Note.row ((k27 cfF l).map (·.1))++C))::st):=by
 have:=y2q (P:=P) y24 24 cfF Tryz.sortN (f:=F.q0l) (g:=F.q09) rfl H.q0l.enters H.q09.enters Tryz.isAgg34 Tryz.sizeOf34 (fun x=>by unfold y24; rw [List.length_map]; rfl)
  (fun x v hv=>by obtain⟨n, -,rfl⟩:=List.mem_map.1 hv; rfl) v0c j9b (T:=T.apiNote) (l:=l) (b:=b) (cap:=cap) (C:=C) (st:=st) (by omega)
 rw [y8a,y8a] at this
 exact this
open Go.Pv Go.Pv.Cd
set_option maxRecDepth 100000
set_option maxHeartbeats 400000
def j6b (b:List (BitVec 8)):Option FN:=match h:q8f b with
 | some n=>some ⟨n,(k8c h).1⟩
 | none=>none
theorem k66 {b:List (BitVec 8)}{n:Note}(h:q8f b=some n):j6b b=some ⟨n,(k8c h).1⟩:=by
 unfold j6b
 split
 ·rename_i m hm
  rw [h] at hm
  cases hm
  rfl
 ·rename_i hm
  rw [h] at hm
  cases hm
theorem j23 {b:List (BitVec 8)}(h:q8f b=none):j6b b=none:=by
 unfold j6b
 split
 ·rename_i m hm
  rw [h] at hm
  cases hm
 ·rfl
def k4f (L:List (List (BitVec 8))):List FN:=L.filterMap j6b
def z9v (L:List (List (BitVec 8))):List Note:=q9m eqD ((k27 cfF (k4f L)).map (·.1))
def z36 (L:List (List (BitVec 8))):Bool:=L.all fun b=>(q8f b).isSome
def z37 (L:List (List (BitVec 8))):List Note:=if z36 L then z9v L else []
def z38 (L:List (List (BitVec 8))):Int:=if z36 L then 0 else 580
theorem z9w (L:List (List (BitVec 8))):Rise q6p okN (z9v L)/\∀ x,x ∈ z9v L ↔ ∃ b ∈ L,q8f b=some x:=by
 unfold z9v
 obtain⟨h1,h2⟩:=k2f cfF v0c (k4f L)
 have h2':(k27 cfF (k4f L)).Pairwise fun x y=>¬ q6p y.1 x.1<0:=h2
 clear h2
 generalize k27 cfF (k4f L)=S at *
 have hp:(S.map (·.1)).Pairwise fun x y=>¬ q6p y x<0:=by
  rw [List.pairwise_map]
  exact h2'
 have ho:∀ x ∈ S.map (·.1),q5q x=true:=fun x hx=>by
  obtain⟨y, -,rfl⟩:=List.mem_map.1 hx
  exact y.2
 have H0:=j5b cmpN_ord ho hp
 obtain⟨h3,h4⟩:=H0
 refine⟨h3,fun x=>?_⟩
 rw [h4,List.mem_map]
 constructor
 ·rintro⟨y,hy,rfl⟩
  obtain⟨b,hb,e⟩:=List.mem_filterMap.1 (h1.mem_iff.1 hy)
  refine⟨b,hb, ?_⟩
  cases hr:q8f b with
  | none=>rw [j23 hr] at e; cases e
  | some n=>rw [k66 hr] at e; cases e; rfl
 ·rintro⟨b,hb,e⟩
  exact⟨⟨x,(k8c e).1⟩,h1.mem_iff.2 (List.mem_filterMap.2 ⟨b,hb,k66 e⟩),rfl⟩
open Go.Pv
set_option maxRecDepth 100000
set_option maxHeartbeats 8000000
namespace CompNote
abbrev eqB (x y:Note):Bool:=decide (x=y)
abbrev rowO (l:List Note)(C:List PV):PObj:=.arr T.apiNote (Note.row l++C)
def CompQ (l:List Note)(b cap:Nat)(st:q5f)(e:PEnd)(s:q5f):Prop:=∃ R,(Note.row (q9m eqB l)++R).length=cap*24/\e=.ret (.own b 0 (q9m eqB l).length cap)/\s=(b,.arr T.apiNote (Note.row (q9m eqB l)++R))::st
@[simp] theorem own_sub {l:List Note}{i:Nat}{C:List PV}(h:i<l.length):sub (Note.row l++C) (i*24) 24=some (l[i]).enc:=Go.Pv.own_sub Note.len h
@[simp] theorem own_set {l:List Note}{i:Nat}{x:Note}{C:List PV}(h:i<l.length):q5j (Note.row l++C) (i*24) x.enc=Note.row (l.set i x)++C:=Go.Pv.own_set Note.len h
theorem cmpB_few {l:List Note}(h:l.length<2):q9m eqB l=l:=by
 match l,h with
 | [],_=>rfl
 | [_],_=>rfl
 | _::_::_,h=>simp at h; omega
theorem clear_ret {c:PV->PEnd}{p:PV}{b:Nat}{T:TypeId}{st:q5f}{Q:PEnd->q5f->Prop}(m:List Note)(C:List PV)(w cap:Nat)(hw:w<=m.length)(hC:(Note.row m++C).length=cap*24)
  (h:∀ R,(Note.row (m.take w)++R).length=cap*24->RetView c p ((b,.arr T (Note.row (m.take w)++R))::st) Q) (Z:List PV):RetView c p ((b,.arr T (q5j (Note.row m++C) (w*24) Z))::st) Q:=by
 have h1:Note.row m++C=Note.row (m.take w)++(Note.row (m.drop w)++C):=by rw [<-List.append_assoc,<-Note.row_append,List.take_append_drop]
 have h2:(Note.row (m.take w)).length=w*24:=by rw [Note.row_len,List.length_take]; omega
 have h3:q5j (Note.row m++C) (w*24) Z=Note.row (m.take w)++q5j (Note.row (m.drop w)++C) 0 Z:=by
  rw [h1,<-h2]
  exact q5w Z _ _ 0
 rw [h3]
 refine h _ ?_
 rw [List.length_append,q7u,<-List.length_append,<-h1,hC]
theorem compact_spec {l:List Note}{C:List PV}{b cap N:Nat}(hN:l.length=N)(hN2:N<=100000)(hcap:N<=cap/\cap<=9223372036854775807)(hC:(Note.row l++C).length=cap*24)(st:q5f) :
  PCalls P F.q0p [.own b 0 N cap] ((b,rowO l C)::st) (CompQ l b cap st):=by
 have hrl:=Note.row_len l
 refine H.q0p.view q5n rfl rfl ?_
 by_cases h2:N<2
 ·have e:q9m eqB l=l:=cmpB_few (by omega)
  have h3:(N:Int)<2:=by omega
  repeat' (simp -dsimp -implicitDefEqProofs [*])
  exact .same ⟨C,by rw [e]; exact hC,by rw [e,hN],by rw [e]⟩
 have h3:¬ (N:Int)<2:=by omega
 repeat' (simp -dsimp -implicitDefEqProofs [*])
 refine q5h (fun i:Nat=>[(0,.own b 0 N cap),(3,.int i)]) (fun _=>(b,rowO l C)::st) (fun i=>(1<=i/\i<=N)/\Hid (q9m eqB (l.take i)=l.take i)) (fun i=>N-i) 1 ⟨⟨Nat.le_refl _,by omega⟩,⟨z3j eqB l⟩⟩ (by simp) (.refl _) ?_
 rintro i ⟨⟨hi1,hi⟩,hI⟩
 by_cases hin:i<N
 case neg=>
  obtain rfl:i=N:=by omega
  have e:q9m eqB l=l:=by
   have:=hI.out
   rwa [List.take_of_length_le (by omega)] at this
  clear hI
  repeat' (simp -dsimp -implicitDefEqProofs [*])
  exact .same ⟨C,by rw [e]; exact hC,by rw [e,hN],by rw [e]⟩
 have hil:i<l.length:=by omega
 have hil1:i-1<l.length:=by omega
 have hwi:=q5i (n:=i) (by omega)
 have hwm:IntKind.i64.wrap ((i:Int)-1)=((i-1:Nat):Int):=by rw [q5l (by omega) (by omega)]; omega
 have st1:=k26 eqB l (i-1) (by omega)
 have ei:i-1+1=i:=by omega
 have ei2:i-1+2=i+1:=by omega
 simp only [ei,ei2] at st1
 have g1:=own_sub (C:=C) hil
 have g2:=own_sub (C:=C) hil1
 skip
 by_cases hk:eqB l[i] l[i-1]=true
 case neg=>
  rw [if_neg hk] at st1
  have nx:Hid (q9m eqB (l.take (i+1))=l.take (i+1)):=⟨by rw [st1,hI.out,List.take_succ_eq_append_getElem hil]⟩
  clear st1 hI
  skip
  repeat' (first 
   | ((with_reducible refine q5v ?_ fun hk=>?_); omega)
   | (simp -dsimp -implicitDefEqProofs [*]))
  exact Next.intro (i+1) ⟨⟨by omega,by omega⟩,nx⟩ (by omega) (by simp) q5o
 rw [if_pos hk,List.append_nil] at st1
 have nx:Hid (Cmp2 eqB l (i+1) i l):=⟨Cmp2.start hI.out (by omega) hi1 (by rw [st1,hI.out])⟩
 clear st1 hI
 skip
 repeat' (first 
  | (with_reducible refine And.intro (fun h=>?_) (fun h=>?_)) <;> (try (exfalso; omega))
  | ((with_reducible refine q5v ?_ fun hk=>?_); omega)
  | (simp -dsimp -implicitDefEqProofs [*]))
 clear g1 g2
 refine q5h (σ:=Nat × Nat × List Note) (fun x=>[(0,.own b 0 N cap),(3,.int (x.2.1:Nat)),(4,.own b (i*24) (N-i) (cap-i)),(5,.int (x.1:Nat))]) (fun x=>(b,rowO x.2.2 C)::st) (fun x=>(1<=x.1/\i+x.1<=N)/\Hid (Cmp2 eqB l (i+x.1) x.2.1 x.2.2)) (fun x=>N-i-x.1) (1,i,l) ⟨⟨Nat.le_refl _,by simp only; omega⟩,nx⟩ (by simp) (.refl _) ?_
 rintro⟨k,w,m⟩ ⟨⟨hk1,hk2⟩,hI⟩
 simp only at hk1 hk2 hI
 have hlt:=hI.out.lt
 have hml:=hI.out.len
 have hmr:(Note.row m++C).length=cap*24:=by rw [List.length_append,Note.row_len,hml,<-Note.row_len,<-List.length_append,hC]
 by_cases hkn:i+k<N
 case neg=>
  have hdone:Hid (m.take w=q9m eqB l):=⟨by rw [hI.out.done,List.take_of_length_le (by omega)]⟩
  have hwl:Hid ((q9m eqB l).length=w):=⟨by rw [<-hdone.out,List.length_take]; omega⟩
  clear hI nx
  have hkk:¬ (k:Int)<(N-i:Nat):=by omega
  have hwN:w<=N:=by omega
  have hwc:w<=cap:=by omega
  have hb2:w*24+(N-w)*24<=cap*24:=by omega
  repeat' (first 
   | (with_reducible refine And.intro (fun h=>?_) (fun h=>?_)) <;> (try (exfalso; omega))
   | (simp -dsimp -implicitDefEqProofs [*]))
  refine clear_ret m C w cap (by omega) hmr (fun R hR=>?_) _
  exact .same ⟨R,by rw [<-hdone.out]; exact hR,by rw [hwl.out],by rw [<-hdone.out]⟩
 obtain⟨j,hj⟩:∃ j,i+k=j+1:=⟨i+k-1,by omega⟩
 have hjl:j+1<l.length:=by omega
 have hwk:=q5i (n:=k) (by omega)
 have hww:=q5i (n:=w) (by omega)
 have hwm2:IntKind.i64.wrap ((k:Int)-1)=((k-1:Nat):Int):=by rw [q5l (by omega) (by omega)]; omega
 have a1:m[j+1]?=some l[j+1]:=hI.out.rest (j+1) hjl (by omega)
 have a2:m[j]?=some l[j]:=hI.out.rest j (by omega) (by omega)
 have b1:j+1<m.length:=by omega
 have b2:j<m.length:=by omega
 rw [List.getElem?_eq_getElem b1,Option.some.injEq] at a1
 rw [List.getElem?_eq_getElem b2,Option.some.injEq] at a2
 have g3:sub (Note.row m++C) (i*24+k*24) 24=some (l[j+1]).enc:=by rw [show i*24+k*24=(j+1)*24 by omega,<-a1]; exact own_sub b1
 have g4:sub (Note.row m++C) (i*24+(k-1)*24) 24=some (l[j]).enc:=by rw [show i*24+(k-1)*24=j*24 by omega,<-a2]; exact own_sub b2
 clear a1 a2
 have g5:∀ x:Note,q5j (Note.row m++C) (w*24) x.enc=Note.row (m.set w x)++C:=fun x=>own_set (by omega)
 have hkk:(k:Int)<(N-i:Nat):=by omega
 have hkc:i*24+k*24+24<=cap*24:=by omega
 rw [hj] at hI
 skip
 by_cases hq:eqB l[j+1] l[j]=true
 case pos=>
  have nx2:Hid (Cmp2 eqB l (i+(k+1)) w m):=⟨by rw [show i+(k+1)=j+2 by omega]; exact hI.out.same hjl hq⟩
  clear hI nx
  skip
  generalize l[j+1]=x at *
  generalize l[j]=y at *
  repeat' (first 
   | ((with_reducible refine q5v ?_ fun hk=>?_); omega)
   | (simp -dsimp -implicitDefEqProofs [*]))
  exact Next.intro (k+1,w,m) ⟨⟨by simp only; omega,by simp only; omega⟩,nx2⟩ (by simp only; omega) (by simp) q5o
 have nx2:Hid (Cmp2 eqB l (i+(k+1)) (w+1) (m.set w l[j+1])):=⟨by rw [show i+(k+1)=j+2 by omega]; exact hI.out.keep hjl (by simpa using hq)⟩
 clear hI nx
 skip
 generalize l[j+1]=x at *
 generalize l[j]=y at *
 repeat' (first 
  | ((with_reducible refine q5v ?_ fun hk=>?_); omega)
  | (simp -dsimp -implicitDefEqProofs [*]))
 exact Next.intro (k+1,w+1,m.set w x) ⟨⟨by simp only; omega,by simp only; omega⟩,nx2⟩ (by simp only; omega) (by simp) q5o
theorem compact0 (st:q5f):Rets P F.q0p [.nil] st .nil:=by
 refine H.q0p.view q5n rfl rfl ?_
 repeat' (simp -dsimp -implicitDefEqProofs [*])
 exact .same ⟨rfl,rfl⟩
theorem acc_row {a:Acc Note}(h:a.Ok Note.row 24):∃ C,a.R=Note.row a.l++C/\(Note.row a.l++C).length=a.cap*24:=
 ⟨a.R.drop (a.l.length*24),by rw [<-h.row,List.take_append_drop],by rw [<-h.row,List.take_append_drop,h.len]⟩
theorem ok_of {l:List Note}{C:List PV}{b cap:Nat}(h1:l.length<=cap)(h2:cap<=9223372036854775807)(h3:(Note.row l++C).length=cap*24):Acc.Ok Note.row 24 ⟨l,b,cap,Note.row l++C⟩:=
 ⟨h1,h2,h3,by rw [<-Note.row_len]; exact List.take_left⟩
theorem compact_acc (o:Option (Acc Note))(hl:(q50 o).length<=100000)(st:q5f)(ho:accOk Note.row 24 st o) :
  PCalls P F.q0p [q7s o] (q6e T.apiNote st o) fun e s=>∃ o',accOk Note.row 24 st o'/\(q50 o'=q9m eqB (q50 o)/\e=.ret (q7s o'))/\s=q6e T.apiNote st o':=by
 cases o with
 | none=>exact PCalls.mono (compact0 st) fun e s ⟨h1,h2⟩=>⟨none,trivial,⟨rfl,h1⟩,h2⟩
 | some a=>
  obtain⟨ha,hb⟩:=ho
  obtain⟨C,h1,h2⟩:=acc_row ha
  have:=compact_spec (b:=a.b) (cap:=a.cap) (N:=a.l.length) rfl hl ⟨ha.le,ha.cap⟩ h2 st
  simp only [q7b,q52,q7k] at *
  rw [h1]
  refine PCalls.mono this fun e s ⟨R,k1,k2,k3⟩=>⟨some ⟨q9m eqB a.l,a.b,a.cap,Note.row (q9m eqB a.l)++R⟩,⟨ok_of (Nat.le_trans (z3k eqB a.l) ha.le) ha.cap k1,hb⟩,⟨rfl,k2⟩,k3⟩
end CompNote
end Go.Proofs.YtmlmoaimjifpgaaGreat

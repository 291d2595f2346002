/- slices.SortFunc on notes, laid at this seat (its text printed by the kit's own command). -/
import Derived.Test.YtmlmoaimjifpgaaGreatProg
import Derived.Shelf.SlLaysF0
import Derived.Test.YtmlmoaimjifpgaaGreatD58E
import Derived.Test.YtmlmoaimjifpgaaGreatLCd
namespace Go.Proofs.YtmlmoaimjifpgaaGreat
open Go.Shelf
def Tryz.sortN_ren:Go.Shelf.Ren:=⟨fun | 6=>72 | 15=>120 | 14=>119 | 28=>174 | 29=>175 | 20=>166 | 21=>167 | 22=>168 | 23=>169 | 24=>170 | 25=>171 | 26=>172 | 27=>173 | 46=>205 | 47=>206 | 48=>207 | 49=>208 | 50=>209 | 57=>216 | n=>n,fun | 22=>58 | 24=>34 | 25=>131 | 3=>3 | 39=>188 | 0=>0 | 53=>249 | 55=>251 | 4=>4 | 46=>243 | 45=>242 | 50=>203 | 5=>5 | 9=>9 | 66=>273 | 70=>177 | 76=>283 | 77=>284 | n=>n,fun | n=>n⟩
theorem Tryz.sortN:Go.Proofs.SlLaysF0.n6 Tryz.prog Tryz.sortN_ren:={
 mixed:=by kernel_rfl,
 f6:=⟨Tryz.f72.name,by decide,Tryz.func72.trans (congrArg some (by kernel_rfl))⟩,
 f14:=⟨Tryz.f119.name,by decide,Tryz.func119.trans (congrArg some (by kernel_rfl))⟩,
 f15:=Tryz.func120.trans (congrArg some (by kernel_rfl)),
 f20:=⟨Tryz.f166.name,by decide,Tryz.func166.trans (congrArg some (by kernel_rfl))⟩,
 f21:=⟨Tryz.f167.name,by decide,Tryz.func167.trans (congrArg some (by kernel_rfl))⟩,
 f22:=⟨Tryz.f168.name,by decide,Tryz.func168.trans (congrArg some (by kernel_rfl))⟩,
 f23:=⟨Tryz.f169.name,by decide,Tryz.func169.trans (congrArg some (by kernel_rfl))⟩,
 f24:=⟨Tryz.f170.name,by decide,Tryz.func170.trans (congrArg some (by kernel_rfl))⟩,
 f25:=⟨Tryz.f171.name,by decide,Tryz.func171.trans (congrArg some (by kernel_rfl))⟩,
 f26:=⟨Tryz.f172.name,by decide,Tryz.func172.trans (congrArg some (by kernel_rfl))⟩,
 f27:=⟨Tryz.f173.name,by decide,Tryz.func173.trans (congrArg some (by kernel_rfl))⟩,
 f28:=Tryz.func174.trans (congrArg some (by kernel_rfl)),
 f29:=Tryz.func175.trans (congrArg some (by kernel_rfl)),
 f46:=⟨Tryz.f205.name,by decide,Tryz.func205.trans (congrArg some (by kernel_rfl))⟩,
 f47:=Tryz.func206.trans (congrArg some (by kernel_rfl)),
 f48:=Tryz.func207.trans (congrArg some (by kernel_rfl)),
 f49:=⟨Tryz.f208.name,by decide,Tryz.func208.trans (congrArg some (by kernel_rfl))⟩,
 f50:=⟨Tryz.f209.name,by decide,Tryz.func209.trans (congrArg some (by kernel_rfl))⟩,
 f57:=⟨Tryz.f216.name,by decide,Tryz.func216.trans (congrArg some (by kernel_rfl))⟩,
 t0:=Tryz.underlying0,
 a0:=Tryz.isAgg0,
 z0:=Tryz.sizeOf0,
 v0:=Tryz.zeroValue0,
 t3:=Tryz.underlying3,
 a3:=Tryz.isAgg3,
 z3:=Tryz.sizeOf3,
 v3:=Tryz.zeroValue3,
 t4:=Tryz.underlying4,
 a4:=Tryz.isAgg4,
 z4:=Tryz.sizeOf4,
 v4:=Tryz.zeroValue4,
 t5:=Tryz.underlying5,
 a5:=Tryz.isAgg5,
 z5:=Tryz.sizeOf5,
 v5:=Tryz.zeroValue5,
 t9:=Tryz.underlying9,
 a9:=Tryz.isAgg9,
 z9:=Tryz.sizeOf9,
 v9:=Tryz.zeroValue9,
 t22:=Tryz.underlying58,
 a22:=Tryz.isAgg58,
 z22:=Tryz.sizeOf58,
 v22:=Tryz.zeroValue58,
 t25:=Tryz.underlying131,
 a25:=Tryz.isAgg131,
 z25:=Tryz.sizeOf131,
 v25:=Tryz.zeroValue131,
 t39:=Tryz.underlying188,
 a39:=Tryz.isAgg188,
 z39:=Tryz.sizeOf188,
 v39:=Tryz.zeroValue188,
 t45:=Tryz.underlying242,
 a45:=Tryz.isAgg242,
 z45:=Tryz.sizeOf242,
 v45:=Tryz.zeroValue242,
 t46:=Tryz.underlying243,
 a46:=Tryz.isAgg243,
 z46:=Tryz.sizeOf243,
 v46:=Tryz.zeroValue243,
 t50:=Tryz.underlying203,
 a50:=Tryz.isAgg203,
 z50:=Tryz.sizeOf203,
 v50:=Tryz.zeroValue203,
 t53:=Tryz.underlying249,
 a53:=Tryz.isAgg249,
 z53:=Tryz.sizeOf249,
 v53:=Tryz.zeroValue249,
 t55:=Tryz.underlying251,
 a55:=Tryz.isAgg251,
 z55:=Tryz.sizeOf251,
 v55:=Tryz.zeroValue251,
 t66:=Tryz.underlying273,
 a66:=Tryz.isAgg273,
 z66:=Tryz.sizeOf273,
 v66:=Tryz.zeroValue273,
 t70:=Tryz.underlying177,
 a70:=Tryz.isAgg177,
 z70:=Tryz.sizeOf177,
 v70:=Tryz.zeroValue177,
 t76:=Tryz.underlying283,
 a76:=Tryz.isAgg283,
 z76:=Tryz.sizeOf283,
 v76:=Tryz.zeroValue283,
 t77:=Tryz.underlying284,
 a77:=Tryz.isAgg284,
 z77:=Tryz.sizeOf284,
 v77:=Tryz.zeroValue284 }
open Go.Pv Go.Pv.Sha
set_option maxRecDepth 100000
set_option maxHeartbeats 4000000
theorem q9a {α:Type}{row:List α->List PV}{k:Nat}(hrl:∀ l,(row l).length=l.length*k)(hra:∀ l m,row (l++m)=row l++row m){T:TypeId}{bytes:Nat}{st:q5c}{K:PV->q5c->Prop}
  (ys xs:List α) {new:List PV} {m n:Nat} (hn:ys.length=n) (hnew:row xs=new) (hm:xs.length=m) (hm0:0<m) (hsz:(n+m)*bytes<=140737488355328)
  (h:∀ o':Option (Acc α),accOk row k st o'->q5u o'=ys++xs->K (q7n o') (q6c T st o')):q61 T bytes k (.list true (row ys) n) new m st K:=by
 have h1:q61 T bytes k .nil (row ys++new) (n+m) st K:=q9j hrl (ys++xs) (by rw [hra,hnew]) (by rw [List.length_append,hn,hm]) (by omega) (by simpa using hsz) fun a' ha' hl' hb'=>h (some a') ⟨ha',hb'⟩ (by simpa using hl')
 rw [k4i] at h1
 rw [q5d]
 exact⟨fun h=>absurd h (by omega),fun _=>⟨rfl,by rw [hrl,hn],h1.2 (by omega)⟩⟩
theorem k51 (n:Nat):0<(k0v n).length:=by
 by_cases h:n<128
 ·rw [k6s h]; simp
 ·rw [k9o h]; simp
theorem k3r (u:Nat):u<18446744073709551616->∀ st,Rets P F.q1t [.val (.int .u64 (u:Int))] st (q54 false (k0v u)):=by
 induction u using Nat.strongRecOn with
 | ind u ih=>
  intro hu st
  refine H.q1t.view q5l rfl rfl ?_
  have hb:=k5t u
  by_cases h128:u<128
  ·have h:(u:Int)<128:=by omega
   rw [k6s h128]
   generalize BitVec.ofNat 8 u=x at *
   repeat' (first 
    | (with_reducible refine Lit.imm ?_)
    | (simp -dsimp -implicitDefEqProofs [*]))
   exact .loose1 (.same ⟨rfl,rfl⟩)
  ·have h:¬ (u:Int)<128:=by omega
   have ih':=fun st=>ih (u / 128) (by omega) (by omega) st
   clear ih hb
   obtain⟨v,hv⟩:∃ v,u / 128=v:=⟨_,rfl⟩
   obtain⟨r,hr⟩:∃ r,u % 128=r:=⟨_,rfl⟩
   have hr1:(u:Int) % 128=r:=by omega
   have hr2:(u:Int).tmod 128=r:=by rw [Int.tmod_eq_emod_of_nonneg (by omega)]; omega
   have hv1:(u:Int) / 128=v:=by omega
   have w1:IntKind.u64.wrap (v:Int)=v:=q7g (by omega) (by omega)
   have w2:IntKind.u64.wrap ((r:Int)+128)=(r:Int)+128:=q7g (by omega) (by omega)
   have w3:IntKind.u64.wrap (r:Int)=r:=q7g (by omega) (by omega)
   have hb:PV.val (.int .u8 (IntKind.u8.wrap ((r:Int)+128)))=bv (BitVec.ofNat 8 (r+128)):=k5t (r+128)
   rw [k9o h128,hr,hv]
   rw [hv] at ih'
   have hnl:=q63 (n:=v) (by omega)
   have hnp:=k51 v
   clear hv hr
   generalize BitVec.ofNat 8 (r+128)=x at *
   generalize k0v v=E at *
   repeat' (first 
    | (with_reducible refine Rets.xcall (ih' _) ?_)
    | (with_reducible refine Lit.imm ?_)
    | (simp -dsimp -implicitDefEqProofs [-q5d, *]))
   refine q9a (bytes:=1) (n:=1) q6o q5w [x] E rfl rfl rfl hnp (by omega) fun o ho hol=>?_
   have kl:Hid (q5u o=x::E):=⟨hol⟩
   clear hol
   repeat' (simp -dsimp -implicitDefEqProofs [-q5d, *])
   exact RetView.accP1 rfl ho (.same ⟨by rw [kl.out],rfl⟩)
theorem z9x (n:Nat)(hn:n<1000000000000)(st:q5c):Rets P F.q1z [.int (n:Int)] st (.val (.int .u64 ((2*n:Nat):Int))):=by
 refine H.q1z.pure q5l rfl rfl ?_
 have h1:IntKind.u64.wrap (n:Int)=n:=q7g (by omega) (by omega)
 have h2:IntKind.u64.wrap (2*(n:Int))=2*(n:Int):=q7g (by omega) (by omega)
 repeat' (simp -dsimp -implicitDefEqProofs [*])
theorem j6b (n:Nat)(hn:n<1000000000000)(st:q5c):Rets P F.q0i [.agg (j3t n)] st (q54 false (1#8::k0v (2*n))):=by
 refine H.q0i.view q5l rfl rfl ?_
 have hu:=fun st=>z9x n hn st
 have hm:=fun st=>k3r (2*n) (by omega) st
 have hnl:=q63 (n:=2*n) (by omega)
 have hnp:=k51 (2*n)
 have e:((2*n:Nat):Int)=2*(n:Int):=by omega
 rw [e] at hu hm
 generalize k0v (2*n)=E at *
 repeat' (first 
  | (with_reducible refine Fresh.intro fun b hb=>?_) <;> (try simp -dsimp -implicitDefEqProofs [*] at hb)
  | (with_reducible refine Rets.xcall (hu _) ?_)
  | (with_reducible refine Rets.xcall (hm _) ?_)
  | (with_reducible refine Lit.imm ?_)
  | (simp -dsimp -implicitDefEqProofs [-q5d, *]))
 refine q9a (bytes:=1) (n:=1) q6o q5w [1#8] E rfl rfl rfl hnp (by omega) fun o ho hol=>?_
 have kl:Hid (q5u o=1#8::E):=⟨hol⟩
 clear hol
 repeat' (simp -dsimp -implicitDefEqProofs [-q5d, *])
 exact RetView.accP1 rfl ho (.drop q5m ⟨by rw [kl.out],rfl⟩)
theorem j29 (x:ByteArray)(hx:x.size<=1000)(st:q5c):Rets P F.q0i [.agg (y2k x)] st (q54 false (2#8::(k0v x.size++y7w x))):=by
 refine H.q0i.view q5l rfl rfl ?_
 have hm:=fun st=>k3r x.size (by omega) st
 have hsz:IntKind.u64.wrap (x.size:Int)=(x.size:Int):=q7g (by omega) (by omega)
 have hnl:=q63 (n:=x.size) (by omega)
 have hnp:=k51 x.size
 generalize k0v x.size=E at *
 repeat' (first 
  | (with_reducible refine Fresh.intro fun b hb=>?_) <;> (try simp -dsimp -implicitDefEqProofs [*] at hb)
  | (with_reducible refine Rets.xcall (hm _) ?_)
  | (with_reducible refine DrawLate.intro [] ?_)
  | (simp -dsimp -implicitDefEqProofs [-q5d, *]))
 refine q9a (bytes:=1) (n:=1) q6o q5w [2#8] E rfl rfl rfl hnp (by omega) fun o ho hol=>?_
 have kl:Hid (q5u o=2#8::E):=⟨hol⟩
 clear hol
 refine⟨q6h ho (Cls.self _ _), ?_⟩
 repeat' (simp -dsimp -implicitDefEqProofs [-q5d, *])
 refine q8r q6o q5w o ho (y7w x) (k9b x).symm (j8r x) (by rw [kl.out]; simp; omega) fun o3 ho3 hl3=>?_
 have kl3:Hid (q5u o3=2#8::(E++y7w x)):=⟨by rw [hl3,kl.out]; simp⟩
 clear hl3 kl
 refine⟨q6h ho3 (Cls.self _ _), ?_⟩
 repeat' (simp -dsimp -implicitDefEqProofs [-q5d, *])
 exact RetView.accP1 rfl ho3 (.drop q5m ⟨by rw [kl3.out],rfl⟩)
theorem z2f (l:List Wv)(hl:l.length<=1000)(hB:∀ v ∈ l,v.B.length<=2000)(hok:∀ v ∈ l,∀ st,Rets P F.q0i [.agg v.row] st (q54 false v.B))(st:q5c):Rets P F.q0i [.agg (q9o (l.flatMap Wv.row) l.length)] st (q54 false (3#8::(k0v l.length++l.flatMap Wv.B))):=by
 refine H.q0i.view q5l rfl rfl ?_
 have hm:=fun st=>k3r l.length (by omega) st
 have hsz:IntKind.u64.wrap (l.length:Int)=(l.length:Int):=q7g (by omega) (by omega)
 have hnl:=q63 (n:=l.length) (by omega)
 have hnp:=k51 l.length
 generalize k0v l.length=E at *
 repeat' (first 
  | (with_reducible refine Fresh.intro fun b hb=>?_) <;> (try simp -dsimp -implicitDefEqProofs [*] at hb)
  | (with_reducible refine Rets.xcall (hm _) ?_)
  | (with_reducible refine Lit.imm ?_)
  | (simp -dsimp -implicitDefEqProofs [-q5d, *]))
 refine q9a (bytes:=1) (n:=1) q6o q5w [3#8] E rfl rfl rfl hnp (by omega) fun o ho hol=>?_
 have kl:Hid (q5u o=3#8::E):=⟨hol⟩
 clear hol hm hsz
 repeat' (simp -dsimp -implicitDefEqProofs [-q5d, *])
 have hgb:q55 ((b,.arr T.apiValue (q9o (l.flatMap Wv.row) l.length))::st) b=some (.arr T.apiValue (q9o (l.flatMap Wv.row) l.length)):=by simp
 have hns:q50 st b:=‹_›
 have hle:∀ q:Option (Acc (BitVec 8)),accOk q5k 1 ((b,.arr T.apiValue (q9o (l.flatMap Wv.row) l.length))::st) q->RetView .ret (q7n q) (q6c T.uint8 ((b,.arr T.apiValue (q9o (l.flatMap Wv.row) l.length))::st) q) (fun e s=>e=.ret (q54 false (q5u q))/\s=st):=fun q hq=>RetView.accP1 rfl hq (.drop (.fresh hns) ⟨rfl,rfl⟩)
 have kle:Hid (∀ q:Option (Acc (BitVec 8)),accOk q5k 1 ((b,.arr T.apiValue (q9o (l.flatMap Wv.row) l.length))::st) q->RetView .ret (q7n q) (q6c T.uint8 ((b,.arr T.apiValue (q9o (l.flatMap Wv.row) l.length))::st) q) (fun e s=>e=.ret (q54 false (q5u q))/\s=st)):=⟨hle⟩
 clear hle hns
 have hlrow:∃ rows,l.flatMap Wv.row=rows/\rows.length=l.length*4:=⟨_,rfl,q53 (enc:=Wv.row) (k:=4) (fun _=>rfl) l⟩
 obtain⟨rows,hrows,hfl⟩:=hlrow
 rw [hrows] at hgb kle ho
 rw [hrows]
 generalize hst1:(b,PObj.arr T.apiValue (q9o rows l.length))::st=st1 at *
 have kok:Hid (∀ v ∈ l,∀ st,Rets P F.q0i [.agg v.row] st (q54 false v.B)):=⟨hok⟩
 have kB:Hid (∀ v ∈ l,v.B.length<=2000):=⟨hB⟩
 have krows:Hid (l.flatMap Wv.row=rows):=⟨hrows⟩
 clear hok hB hst1 hrows
 refine q5e (fun y:Nat × Option (Acc (BitVec 8))=>[(1,.ptr b 0),(3,q7n y.2),(4,.int (y.1:Nat))]) (fun y=>q6c T.uint8 st1 y.2) (fun y=>y.1<=l.length/\accOk q5k 1 st1 y.2/\q5u y.2=3#8::(E++(l.take y.1).flatMap Wv.B)) (fun y=>l.length-y.1) (0,o) ⟨by omega,ho,by rw [kl.out]; simp⟩ (by simp) (.refl _) ?_
 clear kl ho
 clear o
 rintro⟨i,q⟩ ⟨hi,hq,hql⟩
 simp only at hi hq hql
 have kl:Hid (q5u q=3#8::(E++(l.take i).flatMap Wv.B)):=⟨hql⟩
 clear hql
 have hgq:=k1v (T:=T.uint8) hq hgb
 by_cases hil:i<l.length
 ·have hv:=kok.out l[i] (List.getElem_mem hil)
  have hs:=q7i (enc:=Wv.row) (k:=4) (fun _=>rfl) l i hil
  rw [krows.out] at hs
  have kT:Hid ((l.take (i+1)).flatMap Wv.B=(l.take i).flatMap Wv.B++l[i].B):=⟨by rw [List.take_succ_eq_append_getElem hil,List.flatMap_append,List.flatMap_cons,List.flatMap_nil,List.append_nil]⟩
  have hwi:=q5f (n:=i) (by omega)
  have hb2:=kB.out l[i] (List.getElem_mem hil)
  have hlq:(q5u q).length<=10000000:=by
   rw [kl.out]
   have h1:=k5u (l.take i) fun v hv=>kB.out v (List.mem_of_mem_take hv)
   simp only [List.length_append,List.length_cons,List.length_take] at h1 ⊢
   omega
  generalize l[i]=v at *
  repeat' (first 
   | (with_reducible refine Rets.xcall (hv _) ?_)
   | (simp -dsimp -implicitDefEqProofs [-q5d, *]))
  refine q8r q6o q5w q hq v.B rfl rfl (by omega) fun q2 hq2 hl2=>?_
  have kl2:Hid (q5u q2=3#8::(E++(l.take (i+1)).flatMap Wv.B)):=⟨by rw [hl2,kl.out,kT.out]; simp⟩
  clear hl2 kl
  repeat' (simp -dsimp -implicitDefEqProofs [-q5d, *])
  exact Next.intro (i+1,q2) ⟨by simp only; omega,hq2,kl2.out⟩ (by simp only; omega) (by simp) q5m
 ·have e:i=l.length:=by omega
  subst e
  have kl2:Hid (q5u q=3#8::(E++l.flatMap Wv.B)):=⟨by rw [kl.out,List.take_length]⟩
  have hend:=kle.out q hq
  clear kl
  rw [kl2.out] at hend
  repeat' (simp -dsimp -implicitDefEqProofs [-q5d, *])
open Go.Pv Go.Pv.Sha
set_option maxRecDepth 100000
set_option maxHeartbeats 4000000
def DepthN (D:Nat)(st:q5c)(e:PEnd)(s:q5c):Prop:=∃ d:Nat,d<=D/\e=.ret (.int (d:Int))/\s=st
theorem z6w (n:Nat)(st:q5c):Rets P F.q0m [.agg (j3t n)] st (.bool true):=by
 refine H.q0m.pure q5l rfl rfl ?_
 repeat' (first 
  | (with_reducible refine Fresh.intro fun b hb=>?_) <;> (try simp -dsimp -implicitDefEqProofs [*] at hb)
  | (simp -dsimp -implicitDefEqProofs [*]))
theorem k52 (x:ByteArray)(st:q5c):Rets P F.q0m [.agg (y2k x)] st (.bool true):=by
 refine H.q0m.pure q5l rfl rfl ?_
 repeat' (first 
  | (with_reducible refine Fresh.intro fun b hb=>?_) <;> (try simp -dsimp -implicitDefEqProofs [*] at hb)
  | (simp -dsimp -implicitDefEqProofs [*]))
theorem z9y (n:Nat)(st:q5c):PCalls P F.q0p [.agg (j3t n)] st (DepthN 0 st):=by
 refine H.q0p.view q5l rfl rfl ?_
 repeat' (first 
  | (with_reducible refine Fresh.intro fun b hb=>?_) <;> (try simp -dsimp -implicitDefEqProofs [*] at hb)
  | (simp -dsimp -implicitDefEqProofs [*]))
 exact .drop q5m ⟨0,Nat.le_refl _,rfl,rfl⟩
theorem k7l (x:ByteArray)(st:q5c):PCalls P F.q0p [.agg (y2k x)] st (DepthN 0 st):=by
 refine H.q0p.view q5l rfl rfl ?_
 repeat' (first 
  | (with_reducible refine Fresh.intro fun b hb=>?_) <;> (try simp -dsimp -implicitDefEqProofs [*] at hb)
  | (simp -dsimp -implicitDefEqProofs [*]))
 exact .drop q5m ⟨0,Nat.le_refl _,rfl,rfl⟩
theorem k53 (l:List Wv)(hl:l.length<=1000)(st:q5c)(hf:∀ v ∈ l,∀ st,Rets P F.q0m [.agg v.row] st (.bool true)):Rets P F.q0m [.agg (q9o (l.flatMap Wv.row) l.length)] st (.bool true):=by
 refine H.q0m.pure q5l rfl rfl ?_
 have hfl:=q53 (enc:=Wv.row) (k:=4) (fun _=>rfl) l
 have hs:=fun i h=>q7i (enc:=Wv.row) (k:=4) (fun _=>rfl) l i h
 generalize l.flatMap Wv.row=rows at *
 repeat' (first 
  | (with_reducible refine Fresh.intro fun b hb=>?_) <;> (try simp -dsimp -implicitDefEqProofs [*] at hb)
  | (simp -dsimp -implicitDefEqProofs [*]))
 refine q5e (fun i:Nat=>[(1,.ptr b 0),(3,.int (i:Nat))]) (fun _=>(b,.arr T.apiValue (q9o rows l.length))::st) (fun i=>i<=l.length) (fun i=>l.length-i) 0 (by omega) (by simp) (.refl _) ?_
 intro i hi
 by_cases hil:i<l.length
 ·have hv:=hf l[i] (List.getElem_mem hil)
  have hs':=hs i hil
  clear hs
  have hwi:=q5f (n:=i) (by omega)
  generalize l[i]=v at *
  repeat' (first 
   | (with_reducible refine Rets.xcall (hv _) ?_)
   | (simp -dsimp -implicitDefEqProofs [*]))
  exact Next.intro (i+1) (by omega) (by omega) (by simp) q5m
 ·have e:i=l.length:=by omega
  subst e
  repeat' (simp -dsimp -implicitDefEqProofs [*])
theorem k7m (D:Nat)(hD:D<=100)(l:List Wv)(hl:l.length<=1000)(st:q5c)(hf:∀ v ∈ l,∀ st,PCalls P F.q0p [.agg v.row] st (DepthN D st)) :
  PCalls P F.q0p [.agg (q9o (l.flatMap Wv.row) l.length)] st (DepthN (D+1) st):=by
 refine H.q0p.view q5l rfl rfl ?_
 have hfl:=q53 (enc:=Wv.row) (k:=4) (fun _=>rfl) l
 have hs:=fun i h=>q7i (enc:=Wv.row) (k:=4) (fun _=>rfl) l i h
 generalize l.flatMap Wv.row=rows at *
 repeat' (first 
  | (with_reducible refine Fresh.intro fun b hb=>?_) <;> (try simp -dsimp -implicitDefEqProofs [*] at hb)
  | (simp -dsimp -implicitDefEqProofs [*]))
 refine q5e (fun y:Nat × Nat=>[(1,.ptr b 0),(3,.int (y.2:Nat)),(4,.int (y.1:Nat))]) (fun _=>(b,.arr T.apiValue (q9o rows l.length))::st) (fun y=>y.1<=l.length/\y.2<=D) (fun y=>l.length-y.1) (0,0) ⟨by omega,by omega⟩ (by simp) (.refl _) ?_
 rintro⟨i,d⟩ ⟨hi,hd⟩
 simp only at hi hd
 by_cases hil:i<l.length
 ·have hv:=hf l[i] (List.getElem_mem hil)
  have hs':=hs i hil
  clear hs hf
  have hwi:=q5f (n:=i) (by omega)
  generalize l[i]=v at *
  repeat' (simp -dsimp -implicitDefEqProofs [*])
  refine q5h (hv _) ?_
  rintro e s2 ⟨d2,hd2,rfl,rfl⟩
  rw [q5v]
  clear hv
  by_cases hdd:d<d2
  ·repeat' (simp -dsimp -implicitDefEqProofs [*])
   exact Next.intro (i+1,d2) ⟨by simp only; omega,hd2⟩ (by simp only; omega) (by simp) q5m
  ·repeat' (simp -dsimp -implicitDefEqProofs [*])
   exact Next.intro (i+1,d) ⟨by simp only; omega,hd⟩ (by simp only; omega) (by simp) q5m
 ·have e:i=l.length:=by omega
  subst e
  have hwd:=q5f (n:=d) (by omega)
  repeat' (simp -dsimp -implicitDefEqProofs [*])
  exact .drop q5m ⟨d+1,by omega,by simp,rfl⟩
open Go.Pv Go.Pv.Cd
set_option maxRecDepth 100000
set_option maxHeartbeats 8000000
theorem z9z {x:Int}(h:0<=x):(iv x).row=j3t x.toNat:=by
 have e:((x.toNat:Nat):Int)=x:=by omega
 unfold j3t
 rw [e]
 rfl
theorem k27 (c0 c1 c2 c3:PV)(D:Nat)(hD:D<=16)(st:q5c)(hf:∀ st,Rets P F.q0m [.agg [c0,c1,c2,c3]] st (.bool true))(hd:∀ st,PCalls P F.q0p [.agg [c0,c1,c2,c3]] st (DepthN D st)):Rets P F.q14 [.agg [c0,c1,c2,c3]] st (.int 0):=by
 refine H.q14.pure q5l rfl rfl ?_
 repeat' (first 
  | (with_reducible refine Fresh.intro fun b hb=>?_) <;> (try simp -dsimp -implicitDefEqProofs [*] at hb)
  | (with_reducible refine Rets.xcall (hf _) ?_)
  | (simp -dsimp -implicitDefEqProofs [*]))
 clear hf
 refine q5h (hd _) ?_
 rintro e s ⟨d,hd,rfl,rfl⟩
 rw [q5v]
 have h16:¬ (16:Int)<d:=by omega
 repeat' (simp -dsimp -implicitDefEqProofs [*])
theorem z0u (c0 c1 c2 c3:PV)(B:List (BitVec 8))(st:q5c)(hc:∀ st,Rets P F.q14 [.agg [c0,c1,c2,c3]] st (.int 0))(he:∀ st,Rets P F.q0i [.agg [c0,c1,c2,c3]] st (q54 false B)) :
  Rets P F.q19 [.agg [c0,c1,c2,c3]] st (.tuple [q54 false B,.int 0]):=by
 refine H.q19.pure q5l rfl rfl ?_
 repeat' (first 
  | (with_reducible refine Fresh.intro fun b hb=>?_) <;> (try simp -dsimp -implicitDefEqProofs [*] at hb)
  | (with_reducible refine Rets.xcall (hc _) ?_)
  | (with_reducible refine Rets.xcall (he _) ?_)
  | (simp -dsimp -implicitDefEqProofs [*]))
theorem z0v (l:List Int)(hl:l.length<=100)(h:∀ x ∈ l,0<=x/\x<=2097152)(st:q5c) :
  Rets P F.q19 [.agg (q9o (rI l) l.length)] st (.tuple [q54 false (Vl.list (l.map .int)).enc,.int 0]):=by
 have hr:=j50 l
 have hb:=z33 l fun x hx=>(h x hx).1
 have hlen:(l.map iv).length=l.length:=List.length_map ..
 have h1:∀ v ∈ l.map iv,∀ st,Rets P F.q0m [.agg v.row] st (.bool true):=fun v hv st=>by
  obtain⟨x,hx,rfl⟩:=List.mem_map.1 hv
  rw [z9z (h x hx).1]
  exact z6w _ st
 have h2:∀ v ∈ l.map iv,∀ st,PCalls P F.q0p [.agg v.row] st (DepthN 0 st):=fun v hv st=>by
  obtain⟨x,hx,rfl⟩:=List.mem_map.1 hv
  rw [z9z (h x hx).1]
  exact z9y _ st
 have h3:∀ v ∈ l.map iv,∀ st,Rets P F.q0i [.agg v.row] st (q54 false v.B):=fun v hv st=>by
  obtain⟨x,hx,rfl⟩:=List.mem_map.1 hv
  have hx:=h x hx
  rw [z9z hx.1]
  exact j6b x.toNat (by omega) st
 have h4:∀ v ∈ l.map iv,v.B.length<=2000:=fun v hv=>by
  obtain⟨x,hx,rfl⟩:=List.mem_map.1 hv
  have hx:=h x hx
  show (1#8::k0v (2*x.toNat)).length<=2000
  have:=q63 (n:=2*x.toNat) (by omega)
  simp only [List.length_cons]
  omega
 have e1:=k53 (l.map iv) (by rw [hlen]; omega)
 have e2:=k7m 0 (by omega) (l.map iv) (by rw [hlen]; omega)
 have e3:=z2f (l.map iv) (by rw [hlen]; omega) h4 h3
 rw [hr,hlen] at e1 e2
 rw [hr,hlen,hb,q9l] at e3
 rw [Vl.enc,List.length_map]
 exact z0u _ _ _ _ _ st (fun st=>k27 _ _ _ _ 1 (by omega) st (fun st=>e1 st h1) (fun st=>e2 st h2)) fun st=>e3 st
theorem k36 (e:Event)(st:q5c):Rets P F.q21 [e.pv] st (q6l true e.ints):=by
 refine H.q21.view q5l rfl rfl ?_
 repeat' (first 
  | (with_reducible refine Fresh.intro fun b hb=>?_) <;> (try simp -dsimp -implicitDefEqProofs [*] at hb)
  | (with_reducible refine Lit.imm ?_)
  | (simp -dsimp -implicitDefEqProofs [*]))
 exact RetView.drop (st':=st) q5m ⟨rfl,rfl⟩
theorem z6x (n:Note)(st:q5c):Rets P F.q26 [n.pv] st (q6l false n.ints):=by
 refine H.q26.view q5l rfl rfl ?_
 repeat' (first 
  | (with_reducible refine Fresh.intro fun b hb=>?_) <;> (try simp -dsimp -implicitDefEqProofs [*] at hb)
  | (with_reducible refine Rets.xcall (k36 _ _) ?_)
  | (with_reducible refine DrawLate.intro [] ?_)
  | (simp -dsimp -implicitDefEqProofs [-q5d, *]))
 revert b; intro bd hbd
 have hsz:(q5u (none:Option (Acc Int))).length=0:=rfl
 refine q9a (bytes:=8) (n:=1) k3j q9u [n.kind] n.ev.ints rfl rfl rfl (by show 0<9; omega) (by show (1+9)*8<=_; omega) fun o ho hol=>?_
 refine q59 (q6h ho (Cls.self _ _)) ?_
 have g1:=k1v (T:=T.int) ho (b:=bd) (x:=.arr T.apiDecision n.dec.enc) (by simp [*])
 have kl:Hid (q5u o=n.kind::n.ev.ints):=⟨hol⟩
 have hol2:(q5u o).length=10:=by rw [hol]; rfl
 clear hol
 repeat' (first 
  | (with_reducible refine Lit.imm ?_)
  | (simp -dsimp -implicitDefEqProofs [-q5d, *]))
 refine q9k k3j q9u o ho [n.dec.no,n.dec.known,n.dec.kind,n.dec.target,n.dec.value] rfl rfl (by omega) (by rw [hol2]; omega) fun o2 ho2 hl2=>?_
 have g2:=k1v (T:=T.int) ho2 (b:=bd) (x:=.arr T.apiDecision n.dec.enc) (by simp [*])
 have kl2:Hid (q5u o2=n.kind::(n.ev.ints++[n.dec.no,n.dec.known,n.dec.kind,n.dec.target,n.dec.value])):=⟨by rw [hl2,kl.out]; rfl⟩
 have hol3:(q5u o2).length=15:=by rw [kl2.out]; rfl
 clear hl2 kl hol2 g1 ho
 repeat' (first 
  | (with_reducible refine Rets.xcall (k36 _ _) ?_)
  | (simp -dsimp -implicitDefEqProofs [-q5d, *]))
 refine q9k k3j q9u o2 ho2 n.dec.event.ints rfl rfl (by show 0<9; omega) (by rw [hol3]; show (15+9)*8<=_; omega) fun o3 ho3 hl3=>?_
 have kl3:Hid (q5u o3=n.ints):=⟨by rw [hl3,kl2.out]; rfl⟩
 clear hl3 kl2 hol3 g2 ho2
 repeat' (simp -dsimp -implicitDefEqProofs [-q5d, *])
 exact RetView.accP1 rfl ho3 (.drop q5m ⟨by rw [kl3.out],rfl⟩)
theorem q9w (n:Note)(hn:q5s n=true)(st:q5c):Rets P F.q1p [n.pv] st (q54 false (msg n)):=by
 have hs:=k0m hn
 have he:=fun st=>z0v n.ints (by simp) hs st
 refine H.q1p.view q5l rfl rfl ?_
 repeat' (first 
  | (with_reducible refine Fresh.intro fun b hb=>?_) <;> (try simp -dsimp -implicitDefEqProofs [*] at hb)
  | (with_reducible refine Rets.xcall (z6x _ _) ?_)
  | (simp -dsimp -implicitDefEqProofs [*]))
 have hil24:n.ints.length=24:=rfl
 revert b; intro bv hbv
 refine q5e (fun y:Nat × Option (Acc Int)=>[(3,.ptr bv 0),(4,q6l false n.ints),(5,.int y.1)]) (fun y=>(bv,.arr T.apiValue [.int 3,.int 0,q6y,q7n y.2])::q6c T.apiValue ((b,.arr T.apiNote n.enc)::st) y.2) (fun y=>y.1<=24/\accOk rI 4 ((bv,.arr 0 [])::(b,.arr T.apiNote n.enc)::st) y.2/\Hid (q5u y.2=n.ints.take y.1)) (fun y=>24-y.1) (0,none) ⟨Nat.zero_le _,trivial,⟨rfl⟩⟩ (by simp) (.refl _) ?_
 rintro⟨i,o⟩ ⟨hi,ho,hol⟩
 replace hi:i<=24:=hi
 replace ho:accOk rI 4 ((bv,.arr 0 [])::(b,.arr T.apiNote n.enc)::st) o:=ho
 replace hol:Hid (q5u o=n.ints.take i):=hol
 simp only
 by_cases hil:i<24
 case neg=>
  obtain rfl:i=24:=by omega
  have hL:q5u o=n.ints:=hol.out
  have he2:∀ st,Rets P F.q19 [.agg [.int 3,.int 0,q6y,.list false (rI n.ints) 24]] st (.tuple [q54 false (msg n),.int 0]):=he
  clear he hol
  cases o with
  | none=>exact absurd (congrArg List.length hL) (by rw [hil24]; simp)
  | some a=>
   obtain⟨ha,hb2⟩:=ho
   replace hL:a.l=n.ints:=hL
   have hfr:=Frz.acc (T:=T.apiValue) ha
   rw [hL] at hfr
   rw [hil24] at hfr
   have hl24:a.l.length=24:=by rw [hL,hil24]
   repeat' (simp -dsimp -implicitDefEqProofs [*])
   simp only [q7d] at hb2
   refine k88 (b:=a.b) (o:=.arr T.apiValue a.R) (st':=st) hb2.2.2 q5m (.cons (.agg (.cons (.refl _) (.cons (.refl _) (.cons (.refl _) (.cons hfr .nil))))) .nil) (he2 _) ?_
   clear hfr he2 ha
   repeat' (simp -dsimp -implicitDefEqProofs [*])
   exact RetView.drop (st':=st) q5m ⟨rfl,rfl⟩
 have hwi:=q5f (n:=i) (by omega)
 have q1:(q7v n.ints)[i]?=some (.int n.ints[i]):=k6n _ _ _
 have Q1:=q6b q1
 have hx:Hid (n.ints.take (i+1)=n.ints.take i++[n.ints[i]]):=⟨List.take_succ_eq_append_getElem (by simpa using hil)⟩
 obtain⟨x,hxd⟩:∃ x,x=n.ints[i]:=⟨_,rfl⟩
 rw [<-hxd] at q1 hx
 simp only [<-hxd] at Q1
 clear hs he hxd
 cases o with
 | none=>
  have hi0:i=0:=by have:=congrArg List.length hol.out; rw [List.length_take] at this; simp at this; omega
  subst hi0
  repeat' (simp -dsimp -implicitDefEqProofs [*])
  refine DrawLate.by (fun _=>True) trivial ?_
  repeat' (simp -dsimp -implicitDefEqProofs [*])
  refine q9j j1m [x] rfl rfl (by omega) (by omega) fun a ha hl hb2=>?_
  simp only [q7d] at hb2
  refine⟨trivial, ?_⟩
  have hw1:IntKind.i64.wrap 1=1:=rfl
  repeat' (simp -dsimp -implicitDefEqProofs [*])
  have hl1:a.l.length=1:=by rw [hl]; rfl
  refine Next.intro (1,some a) ⟨by simp only; omega,⟨ha,by simp [*]⟩,⟨by rw [hx.out]; exact hl⟩⟩ (by simp only; omega) (by simp) ?_
  show StLe ((bv,.arr T.apiValue [.int 3,.int 0,q6y,.own a.b 0 a.l.length a.cap])::(a.b,.arr T.apiValue a.R)::(b,.arr T.apiNote n.enc)::st) _
  rw [hl1]
  exact StLe.swap hb2.1.1
 | some a=>
  obtain⟨ha,hb2⟩:=ho
  have hal:a.l.length=i:=by have:=congrArg List.length hol.out; rw [List.length_take,hil24] at this; simp at this; omega
  simp only [q7d] at hb2
  repeat' (first 
   | (with_reducible refine And.intro (fun h=>?_) (fun h=>?_)) <;> (try (exfalso; omega))
   | (simp -dsimp -implicitDefEqProofs [*]))
  refine DrawLate.by (fun _=>True) trivial ?_
  repeat' (simp -dsimp -implicitDefEqProofs [*])
  rw [<-hal]
  refine q7t j1m z6o ha (by simp [*]) [x] rfl rfl (by omega) fun a' ha' hl hb3=>?_
  have kl:Hid (a'.l=n.ints.take (i+1)):=⟨by rw [hl,hx.out]; exact congrArg (·++[x]) hol.out⟩
  have hl2:a'.l.length=i+1:=by rw [hl,List.length_append,hal]; rfl
  simp -dsimp -implicitDefEqProofs [*] at hb3
  refine⟨trivial, ?_⟩
  clear hl
  repeat' (simp -dsimp -implicitDefEqProofs [*])
  refine Next.intro (i+1,some a') ⟨by simp only; omega,⟨ha',by simp [*]⟩,kl⟩ (by simp only; omega) (by simp) ?_
  show StLe ((bv,.arr T.apiValue [.int 3,.int 0,q6y,.own a'.b 0 a'.l.length a'.cap])::(a'.b,.arr T.apiValue a'.R)::(b,.arr T.apiNote n.enc)::st) _
  rw [hl2]
  exact StLe.swap hb3.1.1
theorem y2v (t:Bool)(l:List (BitVec 8))(st:q5c)(K:PV->Prop):q67 (.strOf (.const (q54 t l))) (q57 []) st K=K (.str (k6b l)):=by
 show (match q6m 1 st (q54 t l) with | some (cs,_)=>(match q8n cs with | some bs=>K (.str ⟨bs.toArray⟩) | none=>False) | none=>False)=_
 have:q6m 1 st (q54 t l)=some (q5k l,l.length):=by
  show (if (q5k l).length=l.length*1 then some (q5k l,l.length) else none)=_
  rw [if_pos (by rw [q6o])]
 rw [this]
 simp only [q89]
 rfl
theorem q72 {P:Program}{Cl:q5c->Prop}{K1 QP:PV->q5c->Prop}{e:Env}{st:q5c}(x:MX)(t:Bool)(l:List (BitVec 8))(hx:q57 e x=q54 t l)(h:K1 (.str (k6b l)) st):k5j P Cl .late (.val (.strOf x)) e st K1 QP:=by
 refine⟨.str (k6b l),fun s _=>?_,h⟩
 have:=y2v t l s (fun q=>q=.str (k6b l))
 rw [<-hx] at this
 exact this.symm ▸ rfl
theorem z2g (a:Note):(k6b (msg a)).toList=toU (msg a):=by
 rw [ByteArray.toList_eq]
 rfl
theorem z4a (a b:Note):Op.bytesLess (k6b (msg a)).toList (k6b (msg b)).toList=decide (q6v a b<0):=by
 rw [z2g,z2g,z10]
 rfl
theorem k4u (x y:Note)(hx:q5s x=true)(hy:q5s y=true)(st:q5c):Rets P F.q2s [x.pv,y.pv] st (.bool (decide (q6v x y<0))):=by
 have ma:=fun st=>q9w x hx st
 have mb:=fun st=>q9w y hy st
 have hc:=z4a x y
 refine H.q2s.pure q5l rfl rfl ?_
 repeat' (first 
  | (with_reducible refine Fresh.intro fun b hb=>?_) <;> (try simp -dsimp -implicitDefEqProofs [*] at hb)
  | (with_reducible refine Rets.xcall (ma _) ?_)
  | (with_reducible refine DrawLate.intro [] ?_)
  | (simp -dsimp -implicitDefEqProofs [*]))
 refine q72 (MX.tmp 6) false (msg x) rfl ?_
 repeat' (first 
  | (with_reducible refine Rets.xcall (mb _) ?_)
  | (simp -dsimp -implicitDefEqProofs [*]))
 refine q72 (MX.tmp 9) false (msg y) rfl ?_
 repeat' (simp -dsimp -implicitDefEqProofs [*])
end Go.Proofs.YtmlmoaimjifpgaaGreat

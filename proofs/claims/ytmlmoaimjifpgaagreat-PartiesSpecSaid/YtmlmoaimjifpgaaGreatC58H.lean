/- Encodings by the program: numbers. -/
import Derived.Test.YtmlmoaimjifpgaaGreatC58G
namespace Go.Proofs.YtmlmoaimjifpgaaGreat
open Go.Pv Go.Pv.Sha
set_option maxRecDepth 100000
set_option maxHeartbeats 4000000
def j5l (st:q5f)(L:List (BitVec 8))(e:PEnd)(s:q5f):Prop:=∃ o:Option (Acc (BitVec 8)),accOk q5p 1 st o/\q50 o=L/\e=.ret (q7s o)/\s=q6e T.uint8 st o
def k06 (n:Nat):List (BitVec 8):=if n<128 then [BitVec.ofNat 8 n] else BitVec.ofNat 8 (n % 128+128)::k06 (n / 128)
theorem k6z {n:Nat}(h:n<128):k06 n=[BitVec.ofNat 8 n]:=by rw [k06,if_pos h]
theorem k9o {n:Nat}(h:¬ n<128):k06 n=BitVec.ofNat 8 (n % 128+128)::k06 (n / 128):=by rw [k06,if_neg h]
theorem k5x (v:Nat):PV.val (.int .u8 (IntKind.u8.wrap (v:Int)))=bv (BitVec.ofNat 8 v):=by
 rw [z3f,BitVec.ofInt_natCast]
theorem v11:∀ x,x<256->x ||| 128=x % 128+128:=by decide
theorem j8s (v:Nat):(IntKind.u8.wrap (v:Int) % 2 ^ IntKind.u8.bits).toNat=v % 256:=by
 rw [z3f,BitVec.ofInt_natCast]
 have e:IntKind.u8.bits=8:=rfl
 rw [e]
 show (((BitVec.ofNat 8 v).toNat:Int) % 2 ^ 8).toNat=_
 rw [BitVec.toNat_ofNat]
 omega
theorem y2u (v:Nat):PV.val (.int .u8 (IntKind.u8.wrap (((IntKind.u8.wrap (v:Int) % 2 ^ IntKind.u8.bits).toNat ||| 128 % 2 ^ IntKind.u8.bits:Nat):Int)))=bv (BitVec.ofNat 8 (v % 128+128)):=by
 rw [k5x,j8s]
 have e:128 % 2 ^ IntKind.u8.bits=128:=rfl
 rw [e,v11 _ (by omega)]
 congr 2
 omega
theorem v12 (n:Nat)(hn:n<1000000000000):IntKind.u64.wrap (((IntKind.u64.wrap (IntKind.u64.wrap (n:Int)*2 ^ min 1 IntKind.u64.bits) % 2 ^ IntKind.u64.bits).toNat ^^^ (IntKind.u64.wrap ((n:Int).fdiv (2 ^ min 63 IntKind.i64.bits)) % 2 ^ IntKind.u64.bits).toNat:Nat):Int)=2*(n:Int):=by
 have e1:min 1 IntKind.u64.bits=1:=rfl
 have e2:min 63 IntKind.i64.bits=63:=rfl
 have e3:IntKind.u64.bits=64:=rfl
 rw [e1,e2,e3,q7n (n:=(n:Int)) (by omega) (by omega),q7n (n:=(n:Int)*2 ^ 1) (by omega) (by omega)]
 have e4:(n:Int).fdiv (2 ^ 63)=0:=by rw [Int.fdiv_eq_ediv_of_nonneg _ (by decide)]; omega
 rw [e4,q7n (n:=0) (by omega) (by omega)]
 have e5:((0:Int) % 2 ^ 64).toNat=0:=rfl
 have e6:(((n:Int)*2 ^ 1) % 2 ^ 64).toNat=2*n:=by omega
 rw [e5,e6,Nat.xor_zero,q7n (by omega) (by omega)]
 omega
theorem j06:∀ (k n:Nat),n<128 ^ (k+1)->(k06 n).length<=k+1
 | 0,n,h=>by rw [k6z (by simpa using h)]; simp
 | k+1,n,h=>by
  by_cases hn:n<128
  ·rw [k6z hn]; simp
  ·rw [k9o hn,List.length_cons]
   have:=j06 k (n / 128) (by rw [Nat.div_lt_iff_lt_mul (by decide)]; rw [Nat.pow_succ] at h; exact h)
   omega
theorem q69 {n:Nat}(h:n<18446744073709551616):(k06 n).length<=10:=j06 9 n (by
 have:(128:Nat) ^ (9+1)=1180591620717411303424:=by decide
 omega)
theorem k7o (u:Nat)(hu:u<18446744073709551616)(o:Option (Acc (BitVec 8)))(st:q5f)(ho:accOk q5p 1 st o)(hol:(q50 o).length<=10000000):PCalls P F.q4g [q7s o,.val (.int .u64 (u:Int))] (q6e T.uint8 st o) (j5l st (q50 o++k06 u)):=by
 refine H.q4g.view q5n rfl rfl ?_
 repeat' (simp -dsimp -implicitDefEqProofs [-q5g, *])
 refine q5h (fun y:Nat × Option (Acc (BitVec 8))=>[(0,q7s y.2),(1,.val (.int .u64 (y.1:Int)))]) (fun y=>q6e T.uint8 st y.2) (fun y=>y.1<18446744073709551616/\accOk q5p 1 st y.2/\q50 y.2++k06 y.1=q50 o++k06 u) (fun y=>y.1) (u,o) ⟨hu,ho,rfl⟩ (by simp) (.refl _) ?_
 rintro⟨v,q⟩ ⟨hv,hq,hql⟩
 simp only at hv hq hql
 have hqn:Hid ((q50 q).length<=10000010):=⟨by have h1:=congrArg List.length hql; rw [List.length_append,List.length_append] at h1; have h2:=q69 hu; omega⟩
 have hb:=k5x v
 have hb2:=y2u v
 by_cases h128:v<128
 ·rw [k6z h128] at hql
  have h:¬ (128:Int)<=v:=by omega
  have kl:Hid (q50 q++[BitVec.ofNat 8 v]=q50 o++k06 u):=⟨hql⟩
  clear hql
  generalize BitVec.ofNat 8 v=x at *
  repeat' (first 
   | (with_reducible refine Lit.imm ?_)
   | (simp -dsimp -implicitDefEqProofs [-q5g, *]))
  refine q8z q6u q5y q hq [x] rfl rfl (by have:=hqn.out; omega) fun o' ho' hl'=>?_
  have kl':Hid (q50 o'=q50 o++k06 u):=⟨by rw [hl',kl.out]⟩
  clear hl' kl
  repeat' (simp -dsimp -implicitDefEqProofs [-q5g, *])
  exact .same ⟨o',ho',kl'.out,rfl,rfl⟩
 ·rw [k9o h128] at hql
  have h:(128:Int)<=v:=by omega
  have hsh:(v:Int).fdiv (2 ^ min 7 IntKind.u64.bits)=((v / 128:Nat):Int):=by
   have e:min 7 IntKind.u64.bits=7:=rfl
   rw [e,Int.fdiv_eq_ediv_of_nonneg _ (by decide)]
   simp
  have kl:Hid (q50 q++BitVec.ofNat 8 (v % 128+128)::k06 (v / 128)=q50 o++k06 u):=⟨hql⟩
  clear hql hb
  generalize BitVec.ofNat 8 (v % 128+128)=x at *
  repeat' (first 
   | (with_reducible refine Lit.imm ?_)
   | (simp -dsimp -implicitDefEqProofs [-q5g, *]))
  refine q8z q6u q5y q hq [x] rfl rfl (by have:=hqn.out; omega) fun o' ho' hl'=>?_
  have kl':Hid (q50 o'++k06 (v / 128)=q50 o++k06 u):=⟨by rw [hl',<-kl.out]; simp⟩
  clear hl' kl
  repeat' (simp -dsimp -implicitDefEqProofs [-q5g, *])
  exact Next.intro (v / 128,o') ⟨by simp only; omega,ho',kl'.out⟩ (by simp only; omega) (by simp) q5o
theorem z3q (n:Nat)(hn:n<1000000000000)(st:q5f):Rets P F.q4h [.int (n:Int)] st (.val (.int .u64 ((2*n:Nat):Int))):=by
 refine H.q4h.pure q5n rfl rfl ?_
 have hu:=v12 n hn
 repeat' (simp -dsimp -implicitDefEqProofs [*])
open Go.Pv Go.Pv.Sha
set_option maxRecDepth 100000
set_option maxHeartbeats 4000000
abbrev q64:PV:=.val (.string ⟨#[]⟩)
abbrev j3i (n:Nat):List PV:=[.int 1,.int (n:Int),q64,.nil]
abbrev y2v (s:ByteArray):List PV:=[.int 2,.int 0,.str s,.nil]
abbrev q9x (rows:List PV)(n:Nat):List PV:=[.int 3,.int 0,q64,.list false rows n]
def accB {α:Type}:Option (Acc α)->List Nat
 | none=>[]
 | some a=>[a.b]
theorem Cls_box {α:Type}{T:TypeId}{b:Nat}{x:PObj}{st:q5f}(o:Option (Acc α)):Cls ((b,x)::q6e T st o) (accB o) ((b,x)::st):=by
 cases o with
 | none=>exact Cls.self _ _
 | some a=>
  refine j0g fun c hc y hy=>?_
  have h:¬ c=a.b:=by simpa [accB] using hc
  have h2:¬ a.b=c:=fun e=>h e.symm
  simpa [q6e,q55,h,h2] using hy
theorem accB_new {α:Type}{T:TypeId}{b:Nat}{st:q5f}{o:Option (Acc α)}(h:q54 (q6e T st o) b):b ∉ accB o/\q54 st b:=by
 cases o with
 | none=>exact⟨by simp [accB],h⟩
 | some a=>exact⟨by simpa [accB] using h.1.2,h.2⟩
theorem xappend_box {α:Type}{row:List α->List PV}{k:Nat}(hrl:∀ l,(row l).length=l.length*k)(hra:∀ l m,row (l++m)=row l++row m){T T':TypeId}{bytes b:Nat}{R:List PV}{st:q5f}{K:PV->q5f->Prop}
  (o:Option (Acc α)) (ho:accOk row k st o) (hb:q54 (q6e T st o) b) (xs:List α) {new:List PV} {m:Nat} (hnew:row xs=new) (hm:xs.length=m) (hm0:0<m) (hsz:((q50 o).length+m)*bytes<=140737488355328)
  (h:∀ o':Option (Acc α),accOk row k ((b,.arr T' R)::st) o'->q50 o'=q50 o++xs->K (q7s o') (q6e T ((b,.arr T' R)::st) o')):q67 T bytes k (q7s o) new m ((b,.arr T' R)::q6e T st o) K:=
 k7l (row':=fun _:List Unit=>[]) (k':=R.length) (T':=T') hrl hra o (some ⟨[],b,1,R⟩) ho ⟨⟨by simp,by simp,by simp,by simp⟩,hb⟩ xs hnew hm hm0 hsz h
theorem StLe.box {α:Type}{T:TypeId}{b:Nat}{x:PObj}{st:q5f}(o:Option (Acc α))(hb:q54 st b):StLe (q6e T st o) (q6e T ((b,x)::st) o):=by
 cases o with
 | none=>exact .fresh hb
 | some a=>exact q9r (.fresh hb)
theorem accOk.unbox {α:Type}{row:List α->List PV}{k:Nat}{b:Nat}{x:PObj}{st:q5f}{o:Option (Acc α)}(h:accOk row k ((b,x)::st) o):accOk row k st o:=by
 cases o with
 | none=>trivial
 | some a=>exact⟨h.1,h.2.2⟩
theorem z3r (n:Nat)(hn:n<1000000000000)(o:Option (Acc (BitVec 8)))(st:q5f)(ho:accOk q5p 1 st o)(hol:(q50 o).length<=1000000):PCalls P F.q2o [q7s o,.agg (j3i n)] (q6e T.uint8 st o) (j5l st (q50 o++(1#8::k06 (2*n)))):=by
 refine H.q2o.view q5n rfl rfl ?_
 have hu:=fun st=>z3q n hn st
 repeat' (first 
  | (with_reducible refine Fresh.intro fun b hb=>?_) <;> (try simp -dsimp -implicitDefEqProofs [*] at hb)
  | (simp -dsimp -implicitDefEqProofs [-q5g, *]))
 revert b
 intro b hb
 obtain⟨hnb,hns⟩:=accB_new hb
 refine DrawLate.by (Cls ((b,.arr T.apiValue (j3i n))::q6e T.uint8 st o) (accB o)) (Cls.self _ _) ?_
 repeat' (simp -dsimp -implicitDefEqProofs [-q5g, *])
 refine xappend_box q6u q5y o ho hb [1#8] rfl rfl (by omega) (by omega) fun o1 ho1 hl1=>?_
 have hcl:=q7p (T:=T.uint8) ho1 (Cls_box (T:=T.uint8) (b:=b) (x:=.arr T.apiValue (j3i n)) (st:=st) o)
 refine⟨hcl, ?_⟩
 have kl:Hid (q50 o1=q50 o++[1#8]):=⟨hl1⟩
 clear hl1
 repeat' (first 
  | (with_reducible refine Rets.xcall (hu _) ?_)
  | (simp -dsimp -implicitDefEqProofs [-q5g, *]))
 refine q5k (k7o (2*n) (by omega) o1 _ ho1 (by rw [kl.out]; simp; omega)) ?_
 rintro e s ⟨o2,ho2,hl2,rfl,rfl⟩
 rw [q5x]
 have kl2:Hid (q50 o2=q50 o++1#8::k06 (2*n)):=⟨by rw [hl2,kl.out]; simp⟩
 clear hl2 kl hcl
 have hcl:=q7p (T:=T.uint8) ho2 (Cls_box (T:=T.uint8) (b:=b) (x:=.arr T.apiValue (j3i n)) (st:=st) o)
 refine⟨hcl, ?_⟩
 clear hcl
 repeat' (simp -dsimp -implicitDefEqProofs [-q5g, *])
 exact .drop (StLe.box o2 hns) ⟨o2,accOk.unbox ho2,kl2.out,rfl,rfl⟩
open Go.Pv Go.Pv.Sha
set_option maxRecDepth 100000
set_option maxHeartbeats 4000000
theorem k0w {α:Type}{row:List α->List PV}{k:Nat}{T:TypeId}{b:Nat}{x:PObj}{st:q5f}{o:Option (Acc α)}(h:accOk row k st o)(hg:q55 st b=some x):q55 (q6e T st o) b=some x:=by
 cases o with
 | none=>exact hg
 | some a=>
  have:=y2c h.2 hg
  simp [q6e,q55,this,hg]
def wtab (c:PV):List PV:=[.val .nilFunc,.func (.func F.q2o) [] [],.func (.func F.q4z) [] [],.func (.func F.q2p) [] [c]]
abbrev j07 (tab:List PV):PV:=.iptr [.iptr tab 0] 0
structure Wv where
 k:Nat
 c1:PV
 c2:PV
 c3:PV
 B:List (BitVec 8)
abbrev Wv.row (v:Wv):List PV:=[.int (v.k:Int),v.c1,v.c2,v.c3]
structure Wv.Ok (M:Nat)(tab:List PV)(v:Wv):Prop where
 k:v.k<4
 B:v.B.length<=2000
 run:∃ g cs,tab[v.k]?=some (.func (.func g) [] cs)/\∀ (o:Option (Acc (BitVec 8))) (st:q5f),accOk q5p 1 st o->(q50 o).length<=M ->
  PCalls P g ([q7s o,.agg v.row]++cs) (q6e T.uint8 st o) (j5l st (q50 o++v.B))
theorem k5y:∀ l:List Wv,(∀ v ∈ l,v.B.length<=2000)->(l.flatMap Wv.B).length<=l.length*2000
 | [],_=>by simp
 | v::l,h=>by
  have h1:=k5y l fun u hu=>h u (List.mem_cons_of_mem _ hu)
  have h2:=h v List.mem_cons_self
  simp only [List.flatMap_cons,List.length_append,List.length_cons]
  omega
theorem accOk.box {α:Type}{row:List α->List PV}{k:Nat}{T:TypeId}{b:Nat}{x:PObj}{st:q5f}{o:Option (Acc α)}(hb:q54 (q6e T st o) b)(h:accOk row k st o):accOk row k ((b,x)::st) o:=by
 cases o with
 | none=>trivial
 | some a=>exact⟨h.1,⟨hb.1.symm,h.2⟩⟩
theorem StLe.rebox {α:Type}{T:TypeId}{b:Nat}{x:PObj}{st:q5f}{o:Option (Acc α)}(hb:q54 (q6e T st o) b):StLe (q6e T ((b,x)::st) o) ((b,x)::q6e T st o):=by
 cases o with
 | none=>exact .refl _
 | some a=>exact .swap hb.1.1
theorem z0k (M:Nat)(hM:M<=500000)(tab:List PV)(l:List Wv)(hl:l.length<=100)(hok:∀ v ∈ l,v.Ok (M+210000) tab)(o:Option (Acc (BitVec 8)))(st:q5f)(ho:accOk q5p 1 st o)(hol:(q50 o).length<=M) :
  PCalls P F.q2p [q7s o,.agg (q9x (l.flatMap Wv.row) l.length),j07 tab] (q6e T.uint8 st o) (j5l st (q50 o++(3#8::(k06 l.length++l.flatMap Wv.B)))):=by
 refine H.q2p.view q5n rfl rfl ?_
 have hsz:IntKind.u64.wrap (l.length:Int)=(l.length:Int):=q7n (by omega) (by omega)
 repeat' (first 
  | (with_reducible refine Fresh.intro fun b hb=>?_) <;> (try simp -dsimp -implicitDefEqProofs [*] at hb)
  | (simp -dsimp -implicitDefEqProofs [-q5g, *]))
 revert b
 intro b hb
 obtain⟨hnb,hns⟩:=accB_new hb
 refine DrawLate.by (Cls ((b,.arr T.apiValue (q9x (l.flatMap Wv.row) l.length))::q6e T.uint8 st o) (accB o)) (Cls.self _ _) ?_
 repeat' (simp -dsimp -implicitDefEqProofs [-q5g, *])
 generalize hrow:q9x (l.flatMap Wv.row) l.length=RV
 refine xappend_box q6u q5y o ho hb [3#8] rfl rfl (by omega) (by omega) fun o1 ho1 hl1=>?_
 have hcl:=q7p (T:=T.uint8) ho1 (Cls_box (T:=T.uint8) (b:=b) (x:=.arr T.apiValue RV) (st:=st) o)
 refine⟨hcl, ?_⟩
 clear hcl
 have kl:Hid (q50 o1=q50 o++[3#8]):=⟨hl1⟩
 clear hl1
 repeat' (simp -dsimp -implicitDefEqProofs [-q5g, *])
 refine q5k (k7o l.length (by omega) o1 _ ho1 (by rw [kl.out]; simp; omega)) ?_
 rintro e st2 ⟨o2,ho2,hl2,rfl,rfl⟩
 rw [q5x]
 have kl2:Hid (q50 o2=q50 o++3#8::k06 l.length):=⟨by rw [hl2,kl.out]; simp⟩
 clear hl2 kl
 have hcl:=q7p (T:=T.uint8) ho2 (Cls_box (T:=T.uint8) (b:=b) (x:=.arr T.apiValue RV) (st:=st) o)
 refine⟨hcl, ?_⟩
 clear hcl
 subst hrow
 have hgb:=k0w (T:=T.uint8) ho2 (b:=b) (x:=.arr T.apiValue (q9x (l.flatMap Wv.row) l.length)) (by simp)
 repeat' (simp -dsimp -implicitDefEqProofs [-q5g, *])
 clear hgb
 have hle:∀ q:Option (Acc (BitVec 8)),StLe (q6e T.uint8 st q) (q6e T.uint8 ((b,.arr T.apiValue (q9x (l.flatMap Wv.row) l.length))::st) q):=fun q=>StLe.box q hns
 have hub:∀ q:Option (Acc (BitVec 8)),accOk q5p 1 ((b,.arr T.apiValue (q9x (l.flatMap Wv.row) l.length))::st) q->accOk q5p 1 st q:=fun q=>accOk.unbox
 generalize (b,PObj.arr T.apiValue (q9x (l.flatMap Wv.row) l.length))::st=st1 at *
 have kf:Hid ((∀ q,StLe (q6e T.uint8 st q) (q6e T.uint8 st1 q))/\∀ q,accOk q5p 1 st1 q->accOk q5p 1 st q):=⟨hle,hub⟩
 clear hle hub hnb hns hb
 have kok:Hid (∀ v ∈ l,v.Ok (M+210000) tab):=⟨hok⟩
 clear hok
 refine q5h (fun y:Nat × Option (Acc (BitVec 8))=>[(0,q7s y.2),(2,j07 tab),(17,.list false (l.flatMap Wv.row) l.length),(18,.int l.length),(19,.int (y.1:Nat))]) (fun y=>q6e T.uint8 st1 y.2) (fun y=>y.1<=l.length/\accOk q5p 1 st1 y.2/\q50 y.2=q50 o++3#8::(k06 l.length++(l.take y.1).flatMap Wv.B)) (fun y=>l.length-y.1) (0,o2) ⟨by omega,ho2,by rw [kl2.out]; simp⟩ (by simp) (.refl _) ?_
 clear kl2 ho2
 clear o2
 rintro⟨i,q⟩ ⟨hi,hq,hql⟩
 simp only at hi hq hql
 have kl:Hid (q50 q=q50 o++3#8::(k06 l.length++(l.take i).flatMap Wv.B)):=⟨hql⟩
 clear hql
 by_cases hil:i<l.length
 ·have hv:=kok.out l[i] (List.getElem_mem hil)
  have hs:=q8v (enc:=Wv.row) (k:=4) (fun _=>rfl) l i hil
  have kB:Hid ((l.take (i+1)).flatMap Wv.B=(l.take i).flatMap Wv.B++l[i].B):=⟨by rw [List.take_succ_eq_append_getElem hil,List.flatMap_append,List.flatMap_cons,List.flatMap_nil,List.append_nil]⟩
  have hfl:=q6h (enc:=Wv.row) (k:=4) (fun _=>rfl) l
  have hwi:=q5i (n:=i) (by omega)
  obtain⟨hk,hB,g,cs,htab,hrun⟩:=hv
  have kr:Hid (∀ (o:Option (Acc (BitVec 8))) (st:q5f),accOk q5p 1 st o->(q50 o).length<=M+210000 ->
   PCalls P g ([q7s o,.agg l[i].row]++cs) (q6e T.uint8 st o) (j5l st (q50 o++l[i].B))):=⟨hrun⟩
  clear hrun
  generalize l[i]=v at *
  obtain⟨k,c1,c2,c3,B⟩:=v
  simp only [Wv.row] at hk htab hB hs
  generalize hrows:l.flatMap Wv.row=rows at *
  repeat' (first 
   | (with_reducible refine Fresh.intro fun b hb=>?_) <;> (try simp -dsimp -implicitDefEqProofs [*] at hb)
   | (simp -dsimp -implicitDefEqProofs [-q5g, *]))
  revert b
  intro x hx
  obtain⟨hnb,hns⟩:=accB_new hx
  refine DrawLate.by (Cls ((x,.arr T.apiValue [.int (k:Int),c1,c2,c3])::q6e T.uint8 st1 q) (accB q)) (Cls.self _ _) ?_
  repeat' (first 
   | ((with_reducible refine q5v ?_ fun hk=>?_); omega)
   | (simp -dsimp -implicitDefEqProofs [-q5g, *]))
  have hlq:(q50 q).length<=M+210000:=by
   rw [kl.out]
   have h1:=k5y (l.take i) fun v hv=>(kok.out v (List.mem_of_mem_take hv)).B
   have h2:=q69 (n:=l.length) (by omega)
   simp only [List.length_append,List.length_cons,List.length_take] at h1 ⊢
   omega
  refine q5k (PCalls.le (StLe.rebox hx) (kr.out q ((x,.arr T.apiValue [.int (k:Int),c1,c2,c3])::st1) (accOk.box hx hq) hlq)) ?_
  rintro e st2 ⟨q2,hq2,hl2,rfl,rfl⟩
  rw [q5x]
  have kl2:Hid (q50 q2=q50 o++3#8::(k06 l.length++(l.take (i+1)).flatMap Wv.B)):=⟨by rw [hl2,kl.out,kB.out]; simp⟩
  clear hl2 kl hlq kr kB
  have hcl:=q7p (T:=T.uint8) hq2 (Cls_box (T:=T.uint8) (b:=x) (x:=.arr T.apiValue [.int (k:Int),c1,c2,c3]) (st:=st1) q)
  refine⟨hcl, ?_⟩
  clear hcl
  have hle:=StLe.box (T:=T.uint8) (x:=.arr T.apiValue [.int (k:Int),c1,c2,c3]) q2 hns
  repeat' (simp -dsimp -implicitDefEqProofs [-q5g, *])
  exact Next.intro (i+1,q2) ⟨by simp only; omega,accOk.unbox hq2,kl2.out⟩ (by simp only; omega) (by simp) (by simpa using hle)
 ·have e:i=l.length:=by omega
  subst e
  have kl2:Hid (q50 q=q50 o++3#8::(k06 l.length++l.flatMap Wv.B)):=⟨by rw [kl.out,List.take_length]⟩
  clear kl
  repeat' (simp -dsimp -implicitDefEqProofs [-q5g, *])
  exact .drop (kf.out.1 q) ⟨q,kf.out.2 q hq,kl2.out,rfl,rfl⟩
end Go.Proofs.YtmlmoaimjifpgaaGreat

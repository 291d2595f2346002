/- Encodings by the reference: any values. -/
import Derived.Test.YtmlmoaimjifpgaaGreatR58G
import Derived.Test.YtmlmoaimjifpgaaGreatO58A
import Derived.Test.YtmlmoaimjifpgaaGreatD58E
import Derived.Test.YtmlmoaimjifpgaaGreatN58G
import Derived.Test.YtmlmoaimjifpgaaGreatLFr
namespace Go.Proofs.YtmlmoaimjifpgaaGreat
open Go.Pv Go.Pv.Cd
set_option maxRecDepth 100000
set_option maxHeartbeats 4000000
theorem z65 (n:Int)(hn:-9223372036854775808<=n/\n<9223372036854775808)(st:q5c):Rets P F.q1z [.int n] st (.val (.int .u64 (zig n:Nat))):=by
 refine H.q1z.pure q5l rfl rfl ?_
 by_cases h0:0<=n
 ·have e:zig n=2*n.toNat:=by unfold zig; rw [if_pos h0]
  have h1:IntKind.u64.wrap n=n:=q7g (by omega) (by omega)
  have h2:IntKind.u64.wrap (2*n)=2*n:=q7g (by omega) (by omega)
  repeat' (simp -dsimp -implicitDefEqProofs [*])
  all_goals omega
 ·have e:zig n=2*(-(n+1)).toNat+1:=by unfold zig; rw [if_neg h0]
  have h1:IntKind.i64.wrap (n+1)=n+1:=q5i (by omega) (by omega)
  have h2:IntKind.i64.wrap (-(n+1))=-(n+1):=q5i (by omega) (by omega)
  have h3:IntKind.u64.wrap (-(n+1))=-(n+1):=q7g (by omega) (by omega)
  have h4:IntKind.u64.wrap (2 * -(n+1))=2 * -(n+1):=q7g (by omega) (by omega)
  have h5:IntKind.u64.wrap (2 * -(n+1)+1)=2 * -(n+1)+1:=q7g (by omega) (by omega)
  repeat' (simp -dsimp -implicitDefEqProofs [*])
  all_goals omega
theorem z2i (n:Int)(hn:-9223372036854775808<=n/\n<9223372036854775808)(st:q5c):Rets P F.q0i [.agg [.int 1,.int n,q6y,.nil]] st (q54 false (Vl.int n).enc):=by
 refine H.q0i.view q5l rfl rfl ?_
 have hu:=fun st=>z65 n hn st
 have hz:=j5h hn
 have hm:=fun st=>k3r (zig n) hz st
 have hnl:=q63 (n:=zig n) hz
 have hnp:=k51 (zig n)
 rw [Vl.enc,<-q9l]
 generalize k0v (zig n)=E at *
 generalize zig n=u at *
 repeat' (first 
  | (with_reducible refine Fresh.intro fun b hb=>?_) <;> (try simp -dsimp -implicitDefEqProofs [*] at hb)
  | (with_reducible refine Rets.xcall (hu _) ?_)
  | (with_reducible refine Rets.xcall (hm _) ?_)
  | (with_reducible refine Lit.imm ?_)
  | (simp -dsimp -implicitDefEqProofs [-q5d, *]))
 refine q9a (bytes:=1) (n:=1) q6o q5w [1#8] E rfl rfl rfl hnp (by omega) fun o ho hol=>?_
 have kl:Hid (q5u o=1#8::E):=⟨hol⟩
 clear hol
 repeat' (simp -dsimp -implicitDefEqProofs [-q5d, *])
 exact RetView.accP1 rfl ho (.drop q5m ⟨by rw [kl.out],rfl⟩)
theorem j6r (s:List (BitVec 8)):y7w (k6b s)=s:=by
 show ((s.map UInt8.ofBitVec).toArray).toList.map (·.toBitVec)=s
 have e:((fun x:UInt8=>x.toBitVec) ∘ UInt8.ofBitVec)=id:=funext fun x=>rfl
 simp [e]
theorem strL_size (s:List (BitVec 8)):(k6b s).size=s.length:=by
 show ((s.map UInt8.ofBitVec).toArray).size=s.length
 simp
theorem k94 (s:List (BitVec 8))(hs:s.length<=1000)(st:q5c):Rets P F.q0i [.agg (q6n (.text s))] st (q54 false (Vl.text s).enc):=by
 have h:=j29 (k6b s) (by rw [strL_size]; exact hs) st
 rw [strL_size,j6r,q9l] at h
 exact h
theorem z67:∀ l:List Vl,(l.map z4f).flatMap Wv.B=Vl.encs l
 | []=>rfl
 | v::l=>by
  show (z4f v).B++(l.map z4f).flatMap Wv.B=_
  rw [z67 l,Vl.encs]
  cases v <;> rfl
theorem k58:∀ (l:List Vl) (v:Vl),v ∈ l->v.enc.length<=(Vl.encs l).length
 | [],_,h=>nomatch h
 | w::l,v,h=>by
  rw [Vl.encs,List.length_append]
  rcases List.mem_cons.1 h with h | h
  ·subst h; omega
  ·have:=k58 l v h; omega
theorem k8f:∀ (d:Nat) (l:List Vl),Vl.fits d l->∀ v ∈ l,Vl.fit d v
 | _,[],_,_,h=>nomatch h
 | d,w::l,hf,v,h=>by
  rw [Vl.fits] at hf
  rcases List.mem_cons.1 h with h | h
  ·subst h; exact hf.1
  ·exact k8f d l hf.2 v h
theorem y0z (v:Vl):(z4f v).B=v.enc:=by cases v <;> rfl
theorem k29 (l:List Vl):l.length<=(Vl.list l).enc.length/\(Vl.encs l).length<=(Vl.list l).enc.length:=by
 have:=Vl.encs_len l
 rw [Vl.enc,List.length_cons,List.length_append]
 omega
theorem y27:∀ (d:Nat) (v:Vl),Vl.fit d v->v.enc.length<=1000->∀ st,Rets P F.q0i [.agg (q6n v)] st (q54 false v.enc):=by
 intro d
 induction d with
 | zero=>
  intro v hf hl st
  cases v with
  | int n=>exact z2i n (by simpa [Vl.fit] using hf) st
  | text s=>exact k94 s (by rw [Vl.enc] at hl; simp at hl; omega) st
  | list l=>simp [Vl.fit] at hf
 | succ d ih=>
  intro v hf hl st
  cases v with
  | int n=>exact z2i n (by simpa [Vl.fit] using hf) st
  | text s=>exact k94 s (by rw [Vl.enc] at hl; simp at hl; omega) st
  | list l=>
   have hf2:=(show l.length<18446744073709551616/\Vl.fits d l by simpa [Vl.fit] using hf).2
   have hll:=k29 l
   have h:=z2f (l.map z4f) (by rw [List.length_map]; omega) (fun w hw=>by
    obtain⟨v,hv,rfl⟩:=List.mem_map.1 hw
    rw [y0z]
    have:=k58 l v hv
    omega) (fun w hw st=>by
    obtain⟨v,hv,rfl⟩:=List.mem_map.1 hw
    rw [y0z,k55]
    exact ih v (k8f d l hf2 v hv) (by have:=k58 l v hv; omega) st) st
   rw [z67,List.length_map,q9l] at h
   have e:(l.map z4f).flatMap Wv.row=q8t l:=k57 l
   rw [e] at h
   exact h
theorem k59 (n:Int)(st:q5c):Rets P F.q0m [.agg [.int 1,.int n,q6y,.nil]] st (.bool true):=by
 refine H.q0m.pure q5l rfl rfl ?_
 repeat' (first 
  | (with_reducible refine Fresh.intro fun b hb=>?_) <;> (try simp -dsimp -implicitDefEqProofs [*] at hb)
  | (simp -dsimp -implicitDefEqProofs [*]))
theorem k7n (d:Nat)(n:Int)(st:q5c):PCalls P F.q0p [.agg [.int 1,.int n,q6y,.nil]] st (DepthN d st):=by
 refine H.q0p.view q5l rfl rfl ?_
 repeat' (first 
  | (with_reducible refine Fresh.intro fun b hb=>?_) <;> (try simp -dsimp -implicitDefEqProofs [*] at hb)
  | (simp -dsimp -implicitDefEqProofs [*]))
 exact .drop q5m ⟨0,Nat.zero_le _,rfl,rfl⟩
theorem j3d:∀ (d:Nat) (v:Vl),Vl.fit d v->v.enc.length<=1000->∀ st,Rets P F.q0m [.agg (q6n v)] st (.bool true):=by
 intro d
 induction d with
 | zero=>
  intro v hf hl st
  cases v with
  | int n=>exact k59 n st
  | text s=>exact k52 (k6b s) st
  | list l=>simp [Vl.fit] at hf
 | succ d ih=>
  intro v hf hl st
  cases v with
  | int n=>exact k59 n st
  | text s=>exact k52 (k6b s) st
  | list l=>
   have hf2:=(show l.length<18446744073709551616/\Vl.fits d l by simpa [Vl.fit] using hf).2
   have hll:=k29 l
   have h:=k53 (l.map z4f) (by rw [List.length_map]; omega) st (fun w hw st=>by
    obtain⟨v,hv,rfl⟩:=List.mem_map.1 hw
    rw [k55]
    exact ih v (k8f d l hf2 v hv) (by have:=k58 l v hv; omega) st)
   rw [List.length_map,show (l.map z4f).flatMap Wv.row=q8t l from k57 l] at h
   exact h
theorem DepthN.more {D E:Nat}{st:q5c}{e:PEnd}{s:q5c}(h:DepthN D st e s)(hDE:D<=E):DepthN E st e s:=by
 obtain⟨d,h1,h2⟩:=h
 exact⟨d,by omega,h2⟩
theorem j6s:∀ (d:Nat) (v:Vl),d<=16->Vl.fit d v->v.enc.length<=1000->∀ st,PCalls P F.q0p [.agg (q6n v)] st (DepthN d st):=by
 intro d
 induction d with
 | zero=>
  intro v hd hf hl st
  cases v with
  | int n=>exact k7n 0 n st
  | text s=>exact k7l (k6b s) st
  | list l=>simp [Vl.fit] at hf
 | succ d ih=>
  intro v hd hf hl st
  cases v with
  | int n=>exact k7n (d+1) n st
  | text s=>exact PCalls.mono (k7l (k6b s) st) fun e s h=>h.more (by omega)
  | list l=>
   have hf2:=(show l.length<18446744073709551616/\Vl.fits d l by simpa [Vl.fit] using hf).2
   have hll:=k29 l
   have h:=k7m d (by omega) (l.map z4f) (by rw [List.length_map]; omega) st (fun w hw st=>by
    obtain⟨v,hv,rfl⟩:=List.mem_map.1 hw
    rw [k55]
    exact ih v (by omega) (k8f d l hf2 v hv) (by have:=k58 l v hv; omega) st)
   rw [List.length_map,show (l.map z4f).flatMap Wv.row=q8t l from k57 l] at h
   exact h
theorem j6t (v:Vl)(hf:Vl.fit 16 v)(hl:v.enc.length<=1000)(st:q5c):Rets P F.q14 [.agg (q6n v)] st (.int 0):=by
 have h1:=j3d 16 v hf hl
 have h2:=j6s 16 v (by omega) hf hl
 have H0:∃ a b c d,q6n v=[a,b,c,d]:=by cases v <;> exact⟨_,_,_,_,rfl⟩
 obtain⟨a,b,c,d,hv⟩:=H0
 rw [hv] at h1 h2 ⊢
 exact k27 a b c d 16 (by omega) st h1 h2
open Go.Pv Go.Pv.Cd
set_option maxRecDepth 100000
set_option maxHeartbeats 8000000
theorem z95 {L:List (BitVec 8)}{v:Vl}{r:List (BitVec 8)}(h:decV 16 L=some (v,r)):j1k L=(if r=[] then q6n v else v0)/\j1l L=(if r=[] then 0 else 10):=by
 unfold j1k j1l Go.Pv.Cd.decode
 rw [h]
 cases r <;> simp
theorem z96 {L:List (BitVec 8)}(h:decV 16 L=none):j1k L=v0/\j1l L=10:=by
 unfold j1k j1l Go.Pv.Cd.decode
 rw [h]
 exact⟨rfl,rfl⟩
theorem z0x (L:List (BitVec 8))(hL:L.length<=1000)(st:q5c):Rets P F.q3a [q54 false L] st (.tuple [.agg (j1k L),.int (j1l L)]):=by
 have vs:=z94 16 (by omega) L (by omega) 0 (by omega)
 rw [show (16:Int)-((16:Nat):Int)=0 by decide] at vs
 refine H.q3a.view q5l rfl rfl ?_
 repeat' (first 
  | (with_reducible refine Fresh.intro fun b hb=>?_) <;> (try simp -dsimp -implicitDefEqProofs [*] at hb)
  | (simp -dsimp -implicitDefEqProofs [*]))
 refine q5h (vs b _ hb) ?_
 clear vs
 intro en s h
 unfold ValR at h
 rw [List.drop_zero] at h
 cases hd:decV 16 L with
 | none=>
  rw [hd] at h
  obtain⟨a',ha',⟨q,e1⟩,e2⟩:=h
  subst e1
  subst e2
  obtain⟨c1,c2⟩:=z96 hd
  rw [c1,c2]
  clear hd c1 c2
  repeat' (first 
   | (with_reducible refine Fresh.intro fun b hb=>?_) <;> (try simp -dsimp -implicitDefEqProofs [*] at hb)
   | (with_reducible refine DrawLate.intro [] ?_)
   | (simp -dsimp -implicitDefEqProofs [*]))
  exact RetView.drop (st':=st) q5m ⟨rfl,rfl⟩
 | some t=>
  obtain⟨v,r⟩:=t
  rw [hd] at h
  obtain⟨a',ha',hr,e1,e2⟩:=h
  subst e1
  subst e2
  obtain⟨c1,c2⟩:=z95 hd
  rw [c1,c2]
  obtain⟨hi,hfit⟩:=z3r 16 L v r hd
  have H0:∃ w1 w2 w3 w4,q6n v=[w1,w2,w3,w4]:=by cases v <;> exact⟨_,_,_,_,rfl⟩
  by_cases h0:r=[]
  case neg=>
   have hne:¬ (a':Int)=L.length:=fun h=>h0 (by
    rw [<-hr,show a'=L.length by omega,List.drop_length])
   rw [if_neg h0,if_neg h0]
   obtain⟨w1,w2,w3,w4,hW⟩:=H0
   rw [hW]
   clear hd hi hfit c1 c2 hr hW
   repeat' (first 
    | (with_reducible refine Fresh.intro fun b hb=>?_) <;> (try simp -dsimp -implicitDefEqProofs [*] at hb)
    | (with_reducible refine DrawLate.intro [] ?_)
    | (simp -dsimp -implicitDefEqProofs [*]))
   exact RetView.drop (st':=st) q5m ⟨rfl,rfl⟩
  subst h0
  rw [List.append_nil] at hi
  have hal:a'=L.length:=by
   have:=congrArg List.length hr
   rw [List.length_drop] at this
   simp at this
   omega
  subst hal
  have ck:=fun st=>j6t v hfit (by rw [<-hi]; exact hL) st
  have en:=fun st=>y27 16 v hfit (by rw [<-hi]; exact hL) st
  rw [<-hi] at en
  rw [if_pos rfl,if_pos rfl]
  obtain⟨w1,w2,w3,w4,hW⟩:=H0
  rw [hW] at ck en ⊢
  clear hd hi hfit c1 c2 hr hW
  repeat' (first 
   | (with_reducible refine Fresh.intro fun b hb=>?_) <;> (try simp -dsimp -implicitDefEqProofs [*] at hb)
   | (with_reducible refine Rets.xcall (ck _) ?_)
   | (with_reducible refine DrawLate.intro [] ?_)
   | (simp -dsimp -implicitDefEqProofs [*]))
  refine q72 (MX.tmp 33) false L rfl ?_
  repeat' (first 
   | (with_reducible refine Rets.xcall (en _) ?_)
   | (simp -dsimp -implicitDefEqProofs [*]))
  refine q72 (MX.tmp 31) false L rfl ?_
  repeat' (simp -dsimp -implicitDefEqProofs [*])
  exact RetView.drop (st':=st) q5m ⟨rfl,rfl⟩
open Go.Pv Go.Pv.Cd
set_option maxRecDepth 100000
set_option maxHeartbeats 4000000
theorem z4g (d:Decision)(st:q5c):Rets P F.q3k [d.pv] st (.bool (q7l d)):=by
 refine H.q3k.pure q5l rfl rfl ?_
 by_cases h1:d.no<0
 ·have hv:q7l d=false:=by simp [q7l,btw]; intros; omega
  repeat' (first 
   | (with_reducible refine Fresh.intro fun b hb=>?_) <;> (try simp -dsimp -implicitDefEqProofs [*] at hb)
   | (simp -dsimp -implicitDefEqProofs [q71, *]))
 by_cases h2:1048576<d.no
 ·have hv:=k3o (d:=d) (by omega)
  repeat' (first 
   | (with_reducible refine Fresh.intro fun b hb=>?_) <;> (try simp -dsimp -implicitDefEqProofs [*] at hb)
   | (simp -dsimp -implicitDefEqProofs [q71, *]))
 by_cases h3:d.known<0
 ·have hv:=k3o (d:=d) (by omega)
  repeat' (first 
   | (with_reducible refine Fresh.intro fun b hb=>?_) <;> (try simp -dsimp -implicitDefEqProofs [*] at hb)
   | (simp -dsimp -implicitDefEqProofs [q71, *]))
 by_cases h4:2097152<=d.known
 ·have hv:=k3o (d:=d) (by omega)
  repeat' (first 
   | (with_reducible refine Fresh.intro fun b hb=>?_) <;> (try simp -dsimp -implicitDefEqProofs [*] at hb)
   | (simp -dsimp -implicitDefEqProofs [q71, *]))
 have hv:q7l d=q8a d:=k9l (last:=-1) (by omega) (by omega) (by omega) (by omega) (by omega)
 rw [hv]
 clear hv
 by_cases k1:d.kind=1
 ·have hr:q8a d=k4n d:=by simp [q8a,k1]
  rw [hr]
  unfold k4n k24
  repeat' (first 
   | (with_reducible refine Fresh.intro fun b hb=>?_) <;> (try simp -dsimp -implicitDefEqProofs [*] at hb)
   | (with_reducible refine And.intro (fun h=>?_) (fun h=>?_)) <;> (try (exfalso; omega))
   | (simp -dsimp -implicitDefEqProofs [q71, *]))
  all_goals first | (intros; omega) | grind
 by_cases k2:d.kind=2
 ·have hr:q8a d=k9k d:=by simp [q8a,k2]
  rw [hr]
  unfold k9k k24
  repeat' (first 
   | (with_reducible refine Fresh.intro fun b hb=>?_) <;> (try simp -dsimp -implicitDefEqProofs [*] at hb)
   | (with_reducible refine And.intro (fun h=>?_) (fun h=>?_)) <;> (try (exfalso; omega))
   | (simp -dsimp -implicitDefEqProofs [q71, *]))
  all_goals first | (intros; omega) | grind
 by_cases k3:d.kind=3
 ·have hr:q8a d=addD d:=by simp [q8a,k3]
  rw [hr]
  unfold addD
  repeat' (first 
   | (with_reducible refine Fresh.intro fun b hb=>?_) <;> (try simp -dsimp -implicitDefEqProofs [*] at hb)
   | (with_reducible refine Rets.xcall (j2w _ _) ?_)
   | (with_reducible refine And.intro (fun h=>?_) (fun h=>?_)) <;> (try (exfalso; omega))
   | (simp -dsimp -implicitDefEqProofs [q71, *]))
  all_goals first | (intros; omega) | grind
 ·have hr:q8a d=false:=by simp [q8a,k1,k2,k3]
  rw [hr]
  repeat' (first 
   | (with_reducible refine Fresh.intro fun b hb=>?_) <;> (try simp -dsimp -implicitDefEqProofs [*] at hb)
   | (simp -dsimp -implicitDefEqProofs [q71, *]))
  all_goals first | (intros; omega) | grind
theorem z0y (t:Bool)(l:List Decision)(st:q5c):Rets P F.q20 [Decision.lst t l] st (.int (q8y l)):=by
 refine H.q20.pure q5l rfl rfl ?_
 repeat' (first 
  | (with_reducible refine And.intro (fun h=>?_) (fun h=>?_)) <;> (try (exfalso; omega))
  | (simp -dsimp -implicitDefEqProofs [*]))
 ·simp [q8y]; omega
 ·refine q5e (fun i=>[(0,Decision.lst t l),(3,.int (i:Nat))]) (fun _=>st) (fun i=>i<=l.length/\okD (l.take i)) (fun i=>l.length-i) 0 ?_ ?_ ?_ ?_
  ·exact⟨Nat.zero_le _,by simpa using z86⟩
  ·simp
  ·exact StLe.refl _
  rintro i ⟨hi,hok⟩
  have hw:=q5f (n:=i) (by omega)
  have hw2:IntKind.i64.wrap ((i:Int)-1)=(i:Int)-1:=q5i (by omega) (by omega)
  have ht:((i:Int)-1).toNat=i-1:=by omega
  have hlast:0<i->∀ h:i-1<l.length,k5p (l.take i)=l[i-1].no:=fun h0 h=>by
   have:=z17 h
   rwa [Nat.sub_add_cancel h0] at this
  have hl0:i=0->k5p (l.take i)=-1:=fun h=>by subst h; simp
  have hno:=fun (hil:i<l.length) hn=>(z6h hil hok (by omega) hn)
  have hst:=fun (hil:i<l.length)=>(z3z hil hok)
  have hfin:l.length<=i->q8y l=0:=fun h=>by rw [List.take_of_length_le h] at hok; exact (k4o.2 ⟨by omega,hok⟩)
  clear hok
  generalize k5p (l.take i)=last at *
  repeat' (first 
   | (with_reducible refine Rets.xcall (z4g _ _) ?_)
   | (with_reducible refine DrawLate.intro [] ?_)
   | (with_reducible refine And.intro (fun h=>?_) (fun h=>?_)) <;> (try (exfalso; omega))
   | ((with_reducible refine q5r ?_ fun hk=>?_); omega)
   | (simp -dsimp -implicitDefEqProofs [*]))
  ·have e:last<(l[i]'(by assumption)).no:=by rw [hlast (by omega) (by omega)]; exact h
   exact Next.intro (i+1) ⟨by omega,(hst (by assumption)).2 ⟨by assumption,e⟩⟩ (by omega) (by simp [*]) q5m
  ·subst h
   have hv:q7l (l[0]'(by assumption))=true:=by assumption
   have e:last<(l[0]'(by assumption)).no:=by rw [hl0 rfl]; have:=k5q hv; omega
   exact Next.intro 1 ⟨by omega,(hst (by assumption)).2 ⟨hv,e⟩⟩ (by omega) (by simp) q5m
theorem z0z (d:Decision)(st:q5c):Rets P F.q20 [.list true d.enc 1] st (.int (q8y [d])):=by
 have:=z0y true [d] st
 have e:Decision.lst true [d]=.list true d.enc 1:=by simp [Decision.lst]
 rwa [e] at this
theorem k7o (n:Note)(st:q5c):Rets P F.q1j [n.pv] st (.bool (q5s n)):=by
 have k2:=z18 n.dec
 have c1:=fun st=>k5o n.ev st
 have c2:=fun st=>z0z n.dec st
 generalize q8y [n.dec]=E2 at *
 by_cases h1:n.kind=1
 ·have ef:q5s n=(q79 n.ev && decide (n.dec=zeroD)):=by unfold q5s; rw [if_pos h1]
  rw [ef]
  clear ef k2 c2
  by_cases hz:n.dec=zeroD
  ·rw [decide_eq_true hz,Bool.and_true]
   generalize q79 n.ev=E1 at *
   have hs:=n.subDec
   rw [hz] at hs
   refine H.q1j.pure q5l rfl rfl ?_
   repeat' (first 
    | (with_reducible refine Fresh.intro fun b hb=>?_) <;> (try simp -dsimp -implicitDefEqProofs [*] at hb)
    | (with_reducible refine Rets.xcall (c1 _) ?_)
    | (simp -dsimp -implicitDefEqProofs [k5w, *]))
  ·rw [decide_eq_false hz,Bool.and_false]
   refine H.q1j.pure q5l rfl rfl ?_
   repeat' (first 
    | (with_reducible refine Fresh.intro fun b hb=>?_) <;> (try simp -dsimp -implicitDefEqProofs [*] at hb)
    | (with_reducible refine Rets.xcall (c1 _) ?_)
    | (simp -dsimp -implicitDefEqProofs [k5w, *]))
 by_cases h2:n.kind=2
 ·have ef:q5s n=(q7l n.dec && decide (n.ev=zeroE)):=by unfold q5s; rw [if_neg h1,decide_eq_true h2,Bool.true_and]
  rw [ef]
  clear ef c1
  by_cases hz:n.ev=zeroE
  ·have e:(q7l n.dec && decide (n.ev=zeroE))=decide (E2=0):=by
    rw [decide_eq_true hz,Bool.and_true,Bool.eq_iff_iff,decide_eq_true_eq]
    exact k2.symm
   rw [e]
   clear e k2
   have hs:=n.subEv
   rw [hz] at hs
   refine H.q1j.pure q5l rfl rfl ?_
   repeat' (first 
    | (with_reducible refine Fresh.intro fun b hb=>?_) <;> (try simp -dsimp -implicitDefEqProofs [*] at hb)
    | (with_reducible refine Rets.xcall (c2 _) ?_)
    | (with_reducible refine Lit.imm ?_)
    | (simp -dsimp -implicitDefEqProofs [q71, *]))
  ·rw [decide_eq_false hz,Bool.and_false]
   clear k2
   refine H.q1j.pure q5l rfl rfl ?_
   repeat' (first 
    | (with_reducible refine Fresh.intro fun b hb=>?_) <;> (try simp -dsimp -implicitDefEqProofs [*] at hb)
    | (with_reducible refine Rets.xcall (c2 _) ?_)
    | (with_reducible refine Lit.imm ?_)
    | (simp -dsimp -implicitDefEqProofs [q71, *]))
 ·have ef:q5s n=false:=by unfold q5s; rw [if_neg h1,decide_eq_false h2]; rfl
  rw [ef]
  clear ef k2 c1 c2
  refine H.q1j.pure q5l rfl rfl ?_
  repeat' (first 
   | (with_reducible refine Fresh.intro fun b hb=>?_) <;> (try simp -dsimp -implicitDefEqProofs [*] at hb)
   | (simp -dsimp -implicitDefEqProofs [*]))
theorem k19 (l:List Note)(hl:l.length<=100000)(r:Bool)(hr:r=true ↔ Rise q6v okN l/\l.length<=4096)(st:q5c):Rets P F.q2x [.agg [Note.lst false l]] st (.bool r):=by
 have hno:Hid (¬ Rise q6v okN l->r=false):=⟨fun h=>by
  rw [<-Bool.not_eq_true]
  exact fun h2=>h (hr.1 h2).1⟩
 have hye:Hid (Rise q6v okN l->r=decide ((l.length:Int)<=4096)):=⟨fun h=>by
  rw [Bool.eq_iff_iff,hr,decide_eq_true_eq]
  exact⟨fun h2=>by omega,fun h2=>⟨h,by omega⟩⟩⟩
 clear hr
 refine H.q2x.view q5l rfl rfl ?_
 repeat' (first 
  | (with_reducible refine Fresh.intro fun b hb=>?_) <;> (try simp -dsimp -implicitDefEqProofs [*] at hb)
  | (simp -dsimp -implicitDefEqProofs [*]))
 refine q5e (fun i:Nat=>[(1,.ptr b 0),(3,.int (i:Nat))]) (fun _=>(b,.arr T.apiPeer [Note.lst false l])::st) (fun i=>i<=l.length/\Hid (Rise q6v okN (l.take i))) (fun i=>l.length-i) 0 ⟨Nat.zero_le _,⟨.nil⟩⟩ (by simp) (.refl _) ?_
 rintro i ⟨hi,hI⟩
 by_cases hil:i<l.length
 case neg=>
  obtain rfl:i=l.length:=by omega
  have hR:=hI.out
  rw [List.take_length] at hR
  have e:=hye.out hR
  rw [e]
  clear hR e hye hno hI
  repeat' (simp -dsimp -implicitDefEqProofs [*])
  all_goals exact RetView.drop (st':=st) q5m ⟨rfl,rfl⟩
 have hwi:=q5f (n:=i) (by omega)
 have hs:=Note.row_sub l i hil
 have hrl:=Note.row_len l
 have f:=fun st=>k7o l[i] st
 cases hf:q5s l[i] with
 | false=>
  rw [hf] at f
  have e:=hno.out fun h=>by
   have:=h.1 _ (List.getElem_mem hil)
   unfold okN at this
   rw [hf] at this
   cases this
  subst e
  clear hye hno hI hf
  generalize l[i]=x at *
  repeat' (first 
   | (with_reducible refine Rets.xcall (f _) ?_)
   | (with_reducible refine DrawLate.intro [] ?_)
   | (simp -dsimp -implicitDefEqProofs [*]))
  all_goals exact RetView.drop (st':=st) q5m ⟨rfl,rfl⟩
 | true=>
  rw [hf] at f
  by_cases h0:i=0
  ·subst h0
   have e:=Hid.mk (k5y hil hI.out hf (fun h=>absurd h (Nat.lt_irrefl 0)))
   clear hye hf hI
   have hw0:IntKind.i64.wrap 1=1:=rfl
   generalize l[0]=x at *
   repeat' (first 
    | (with_reducible refine Rets.xcall (f _) ?_)
    | (with_reducible refine DrawLate.intro [] ?_)
    | (simp -dsimp -implicitDefEqProofs [*]))
   all_goals exact Next.intro 1 ⟨by omega,e⟩ (by omega) (by simp) q5m
  ·have hi1:i-1<l.length:=by omega
   have hw1:IntKind.i64.wrap ((i:Int)-1)=((i-1:Nat):Int):=by rw [q5i (by omega) (by omega)]; omega
   have hp:0<i:=by omega
   have hs1:=Note.row_sub l (i-1) hi1
   have hf1:q5s l[i-1]=true:=hI.out.1 _ (by
    have h2:i-1<(l.take i).length:=by rw [List.length_take]; omega
    have:=List.getElem_mem h2
    rwa [List.getElem_take] at this)
   have c:=fun st=>k4u l[i-1] l[i] hf1 hf st
   by_cases hc:q6v l[i-1] l[i]<0
   ·have e:=Hid.mk (k5y hil hI.out hf (fun _ _=>hc))
    have hc2:¬ 0<=q6v l[i-1] l[i]:=by omega
    clear hye hno hf hf1 hI
    generalize q6v l[i-1] l[i]=n at *
    generalize l[i-1]=y at *
    generalize l[i]=x at *
    repeat' (first 
     | (with_reducible refine Rets.xcall (f _) ?_)
     | (with_reducible refine Rets.xcall (c _) ?_)
     | (with_reducible refine DrawLate.intro [] ?_)
     | (simp -dsimp -implicitDefEqProofs [*]))
    all_goals exact Next.intro (i+1) ⟨by omega,e⟩ (by omega) (by simp) q5m
   ·have e:=hno.out fun h=>hc (j56 h (by omega) hil)
    have hc2:0<=q6v l[i-1] l[i]:=by omega
    subst e
    clear hye hno hf hf1 hI
    generalize q6v l[i-1] l[i]=n at *
    generalize l[i-1]=y at *
    generalize l[i]=x at *
    repeat' (first 
     | (with_reducible refine Rets.xcall (f _) ?_)
     | (with_reducible refine Rets.xcall (c _) ?_)
     | (with_reducible refine DrawLate.intro [] ?_)
     | (simp -dsimp -implicitDefEqProofs [*]))
    all_goals exact RetView.drop (st':=st) q5m ⟨rfl,rfl⟩
open Go.Pv Go.Pv.Cd
set_option maxRecDepth 100000
set_option maxHeartbeats 8000000
theorem j6u (t:Bool)(e:Event)(st:q5c):Rets P F.q3s [.list t (q7v e.ints) 9] st e.pv:=by
 have hr:q7v e.ints=[.int e.no,.int e.kind,.int e.round,.int e.entry,.int e.judge,.int e.item,.int e.value,.int e.at',.int e.known]:=rfl
 rw [hr]
 refine H.q3s.view q5l rfl rfl ?_
 repeat' (first 
  | (with_reducible refine Fresh.intro fun b hb=>?_) <;> (try simp -dsimp -implicitDefEqProofs [*] at hb)
  | (simp -dsimp -implicitDefEqProofs [*]))
 exact RetView.drop (st':=st) q5m ⟨rfl,rfl⟩
abbrev z24:List PV:=[.int 0,.int 0,.int 0,.int 0,.int 0,.int 0,.int 0,.int 0,.int 0,.int 0,.int 0,.int 0,.int 0,.int 0,.int 0,.int 0,.int 0,.int 0,.int 0,.int 0,.int 0,.int 0,.int 0,.int 0]
theorem y28 (n:Note):q5g (q5g [.int n.kind,.int 0,.int 0,.int 0,.int 0,.int 0,.int 0,.int 0,.int 0,.int 0,.int 0,.int 0,.int 0,.int 0,.int 0,.int 0,.int 0,.int 0,.int 0,.int 0,.int 0,.int 0,.int 0,.int 0] 1 n.ev.enc) 10 (q5g [.int n.dec.no,.int n.dec.known,.int n.dec.kind,.int n.dec.target,.int n.dec.value,.int 0,.int 0,.int 0,.int 0,.int 0,.int 0,.int 0,.int 0,.int 0] 5 n.dec.event.enc)=n.enc:=by
 simp only [Event.enc,Note.enc,Decision.enc,Decision.event,q5g,List.set_cons_succ,List.set_cons_zero,List.cons_append,List.nil_append]
structure RdJ (l:List Vl)(i:Nat)(k:List Int):Prop where
 len:k.length=i
 is:q8w l=(q8w (l.drop i)).map (k++·)
theorem RdJ.zero (l:List Vl):RdJ l 0 []:=⟨rfl,by
 rw [List.drop_zero]
 cases q8w l with
 | none=>rfl
 | some k=>rfl⟩
theorem RdJ.bad {l:List Vl}{i:Nat}{k:List Int}(h:RdJ l i k)(hi:i<l.length)(hk:¬ z9k l[i]=1):q8w l=none:=by
 rw [h.is,<-List.getElem_cons_drop hi]
 cases e:l[i] with
 | int n=>rw [e] at hk; exact absurd rfl hk
 | text s=>rfl
 | list s=>rfl
theorem RdJ.next {l:List Vl}{i:Nat}{k:List Int}(h:RdJ l i k)(hi:i<l.length)(hk:z9k l[i]=1):RdJ l (i+1) (k++[j52 l[i]]):=by
 refine⟨by rw [List.length_append,h.len]; rfl, ?_⟩
 rw [h.is,<-List.getElem_cons_drop hi]
 cases e:l[i] with
 | int n=>
  rw [q8w]
  cases q8w (l.drop (i+1)) with
  | none=>rfl
  | some k=>simp [j52]
 | text s=>rw [e] at hk; exact absurd hk (show ¬ (2:Int)=1 by decide)
 | list s=>rw [e] at hk; exact absurd hk (show ¬ (3:Int)=1 by decide)
theorem RdJ.done {l:List Vl}{k:List Int}(h:RdJ l 24 k)(hl:l.length=24):q8w l=some k:=by
 rw [h.is,List.drop_eq_nil_of_le (by omega)]
 simp [q8w]
theorem z68 (L:List (BitVec 8))(hL:L.length<=1000)(st:q5c):PCalls P F.q10 [q54 false L] st (ReadP L st):=by
 have dc:=fun st=>z0x L hL st
 unfold j1k j1l at dc
 cases hd:Go.Pv.Cd.decode L with
 | none=>
  rw [hd] at dc
  simp only at dc
  have e:=Hid.mk (ReadP.no (L:=L) (st:=st) (by unfold q8c; rw [hd]) (q8b []))
  clear hd
  refine H.q10.view q5l rfl rfl ?_
  repeat' (first 
   | (with_reducible refine Fresh.intro fun b hb=>?_) <;> (try simp -dsimp -implicitDefEqProofs [*] at hb)
   | (with_reducible refine Rets.xcall (dc _) ?_)
   | (simp -dsimp -implicitDefEqProofs [*]))
  exact RetView.drop (st':=st) q5m e.out
 | some v=>
  rw [hd] at dc
  simp only at dc
  cases v with
  | int n=>
   have e:=Hid.mk (ReadP.no (L:=L) (st:=st) (by unfold q8c; rw [hd]) (q8b []))
   clear hd
   simp only [q6n] at dc
   refine H.q10.view q5l rfl rfl ?_
   repeat' (first 
    | (with_reducible refine Fresh.intro fun b hb=>?_) <;> (try simp -dsimp -implicitDefEqProofs [*] at hb)
    | (with_reducible refine Rets.xcall (dc _) ?_)
    | (simp -dsimp -implicitDefEqProofs [*]))
   exact RetView.drop (st':=st) q5m e.out
  | text s=>
   have e:=Hid.mk (ReadP.no (L:=L) (st:=st) (by unfold q8c; rw [hd]) (q8b []))
   clear hd
   simp only [q6n] at dc
   refine H.q10.view q5l rfl rfl ?_
   repeat' (first 
    | (with_reducible refine Fresh.intro fun b hb=>?_) <;> (try simp -dsimp -implicitDefEqProofs [*] at hb)
    | (with_reducible refine Rets.xcall (dc _) ?_)
    | (simp -dsimp -implicitDefEqProofs [*]))
   exact RetView.drop (st':=st) q5m e.out
  | list l=>
   simp only [q6n] at dc
   by_cases hl:l.length=24
   case neg=>
    have e:=Hid.mk (ReadP.no (L:=L) (st:=st) (by
     unfold q8c
     rw [hd]
     simp only
     cases e:q8w l with
     | none=>rfl
     | some k=>
      simp only
      rw [if_neg]
      rintro⟨h1, -⟩
      have:=congrArg List.length (k5r e)
      rw [List.length_map] at this
      omega) (q8b []))
    have hl2:¬ (l.length:Int)=24:=by omega
    clear hd
    refine H.q10.view q5l rfl rfl ?_
    repeat' (first 
     | (with_reducible refine Fresh.intro fun b hb=>?_) <;> (try simp -dsimp -implicitDefEqProofs [*] at hb)
     | (with_reducible refine Rets.xcall (dc _) ?_)
     | (simp -dsimp -implicitDefEqProofs [*]))
    exact RetView.drop (st':=st) q5m e.out
   have e0:=Hid.mk (RdJ.zero l)
   replace hd:=Hid.mk hd
   have hrl:=k5v l
   refine H.q10.view q5l rfl rfl ?_
   repeat' (first 
    | (with_reducible refine Fresh.intro fun b hb=>?_) <;> (try simp -dsimp -implicitDefEqProofs [*] at hb)
    | (with_reducible refine Rets.xcall (dc _) ?_)
    | (with_reducible refine Lit.own (cs:=[]) (len:=0) fun b hb=>?_) <;> (try simp -dsimp -implicitDefEqProofs [*] at hb)
    | (simp -dsimp -implicitDefEqProofs [*]))
   revert b; intro ab hab
   rename_i q hq
   refine j8f (fun y:Nat × Acc Int=>[(2,.ptr q 0),(3,.bool false),(4,.ptr b 0),(6,.own y.2.b 0 y.2.l.length y.2.cap),(7,.int (y.1:Nat))])
    (fun y=>(y.2.b,.arr T.int y.2.R)::(b,.arr T.apiValue [.int 3,.int 0,q6y,.list false (q8t l) 24])::(q,.arr T.apiNote z24)::st)
    (fun y=>y.1<=24/\y.2.Ok q7v 1/\q50 ((b,.arr T.apiValue [.int 3,.int 0,q6y,.list false (q8t l) 24])::(q,.arr T.apiNote z24)::st) y.2.b/\Hid (RdJ l y.1 y.2.l)) (fun y=>24-y.1) (fun y=>y.1=24)
    (fun y=>[(2,.ptr q 0),(3,.bool false),(4,.ptr b 0),(6,.list false (q7v y.2.l) y.2.l.length),(7,.int (y.1:Nat))]) (fun _=>(b,.arr T.apiValue [.int 3,.int 0,q6y,.list false (q8t l) 24])::(q,.arr T.apiNote z24)::st)
    (fun y hy _=>View.acc (a:=some y.2) (row:=q7v) (k:=1) (T:=T.int) rfl ⟨hy.2.1,hy.2.2.1⟩ (.refl _) (by simp)) (0,⟨[],ab,0,[]⟩)
    ⟨Nat.zero_le _,.nil rfl _,by simp [*],e0⟩ (by simp) (.refl _) ?_ ?_
   ·clear e0 dc
    rintro⟨i,a⟩ ⟨_,_,_,hI⟩ hi24
    replace hi24:i=24:=hi24
    replace hI:Hid (RdJ l i a.l):=hI
    subst hi24
    simp only
    obtain⟨A,ab,cap,C⟩:=a
    simp only at hI ⊢
    have hk:=hI.out.done hl
    have hX:A.length=24:=hI.out.len
    obtain⟨n,hn⟩:∃ n,n=q8b A:=⟨_,rfl⟩
    have hA:A=n.ints:=by rw [hn,k4q hX]
    rw [hA]
    have fm:=fun st=>k7o n st
    have e:Hid (ReadP L st (.ret (.tuple [n.pv,.bool (q5s n)])) st):=⟨n,_,rfl,rfl,by
     unfold q8c
     rw [hd.out]
     simp only
     rw [hk]
     simp only
     by_cases hf:q5s n=true
     ·rw [if_pos ⟨hX,by rw [<-hn]; exact hf⟩]
      exact⟨hf,hn⟩
     ·rw [if_neg fun h=>hf (by rw [hn]; exact h.2)]
      simpa using hf⟩
    have o1:=fun st=>j6u false n.ev st
    have o2:=fun st=>j6u false n.dec.event st
    clear hk hd hI hA hn hX
    have hr:q7v n.ints=[.int n.kind,.int n.ev.no,.int n.ev.kind,.int n.ev.round,.int n.ev.entry,.int n.ev.judge,.int n.ev.item,.int n.ev.value,.int n.ev.at',.int n.ev.known,.int n.dec.no,.int n.dec.known,.int n.dec.kind,.int n.dec.target,.int n.dec.value,.int n.dec.eno,.int n.dec.ekind,.int n.dec.eround,.int n.dec.eentry,.int n.dec.ejudge,.int n.dec.eitem,.int n.dec.evalue,.int n.dec.eat,.int n.dec.eknown]:=rfl
    have hr1:q7v n.ev.ints=[.int n.ev.no,.int n.ev.kind,.int n.ev.round,.int n.ev.entry,.int n.ev.judge,.int n.ev.item,.int n.ev.value,.int n.ev.at',.int n.ev.known]:=rfl
    have hr2:q7v n.dec.event.ints=[.int n.dec.eno,.int n.dec.ekind,.int n.dec.eround,.int n.dec.eentry,.int n.dec.ejudge,.int n.dec.eitem,.int n.dec.evalue,.int n.dec.eat,.int n.dec.eknown]:=rfl
    rw [hr1] at o1
    rw [hr2] at o2
    rw [hr]
    have hle:n.ints.length=24:=rfl
    rw [hle]
    clear hr hr1 hr2 hle
    have hs:=y28 n
    repeat' (first 
     | (with_reducible refine Fresh.intro fun b hb=>?_) <;> (try simp -dsimp -implicitDefEqProofs [*] at hb)
     | (with_reducible refine q6f (fun _=>o1 _) ?_)
     | (with_reducible refine Rets.xcall (o2 _) ?_)
     | (with_reducible refine Rets.xcall (fm _) ?_)
     | (with_reducible refine DrawLate.intro [] ?_)
     | (with_reducible refine q59 ?_ ?_)
     | (with_reducible exact Cls.self _ _)
     | (with_reducible refine q6p ?_ ?_)
     | (simp -dsimp -implicitDefEqProofs [*]))
    exact RetView.drop (st':=st) q5m e.out
   clear e0 dc
   rintro⟨i,a⟩ ⟨hi,ha,hb2,hI⟩ hi24
   replace hi24:¬ i=24:=hi24
   replace hi:i<=24:=hi
   replace ha:a.Ok q7v 1:=ha
   replace hb2:q50 ((b,.arr T.apiValue [.int 3,.int 0,q6y,.list false (q8t l) 24])::(q,.arr T.apiNote z24)::st) a.b:=hb2
   replace hI:Hid (RdJ l i a.l):=hI
   simp only
   simp only [q50] at hb2
   have hil:i<24:=by omega
   have hil2:i<l.length:=by omega
   have hal:a.l.length<=24:=by rw [hI.out.len]; exact hi
   have k1:=z19 l i hil2
   have K1:=q6b k1
   have n1:=z6p l i hil2
   have N1:=q6b n1
   have hwi:=q5f (n:=i) (by omega)
   by_cases hkd:z9k l[i]=1
   case neg=>
    have e:=Hid.mk (ReadP.no (L:=L) (st:=st) (by unfold q8c; rw [hd.out]; simp only; rw [hI.out.bad hil2 hkd]) (q8b []))
    clear hd hI
    repeat' (first 
     | (with_reducible refine And.intro (fun h=>?_) (fun h=>?_)) <;> (try (exfalso; omega))
     | ((with_reducible refine q5r ?_ fun hk=>?_); omega)
     | (simp -dsimp -implicitDefEqProofs [*]))
    exact RetView.drop (st':=st) q5m e.out
   have hn:=Hid.mk (hI.out.next hil2 hkd)
   rw [hkd] at k1
   simp only [hkd] at K1
   obtain⟨x,hx⟩:∃ x,x=j52 l[i]:=⟨_,rfl⟩
   rw [<-hx] at n1 hn
   simp only [<-hx] at N1
   clear hx hkd hd hI
   repeat' (first 
    | (with_reducible refine Lit.imm ?_)
    | (with_reducible refine And.intro (fun h=>?_) (fun h=>?_)) <;> (try (exfalso; omega))
    | ((with_reducible refine q5r ?_ fun hk=>?_); omega)
    | (simp -dsimp -implicitDefEqProofs [-q5d, *]))
   refine q7t (bytes:=8) k3j q9u ha (by simp) [x] rfl rfl (by omega) fun a' ha' hl' hb3=>?_
   have kl:Hid (a'.l=a.l++[x]):=⟨hl'⟩
   clear hl'
   repeat' (simp -dsimp -implicitDefEqProofs [*])
   refine NextF.intro (fun y hy _=>View.acc (a:=some y.2) (row:=q7v) (k:=1) (T:=T.int) rfl ⟨hy.2.1,hy.2.2.1⟩ (.refl _) (by simp)) (i+1,a') ⟨by simp only; omega,ha',by simpa [*] using hb3,⟨?_⟩⟩ (by simp only; omega) (by simp) (.refl _)
   show RdJ l (i+1) a'.l
   rw [kl.out]
   exact hn.out
end Go.Proofs.YtmlmoaimjifpgaaGreat

/- All parties come to know all notes, and have the same world. -/
import Derived.Test.YtmlmoaimjifpgaaGreatR58D
import Derived.Test.YtmlmoaimjifpgaaGreatK58D
import Derived.Test.YtmlmoaimjifpgaaGreatK58B
namespace Go.Proofs.YtmlmoaimjifpgaaGreat
open Go.Pv Go.Pv.Cd
set_option maxRecDepth 100000
set_option maxHeartbeats 4000000
theorem j3m (l:List Note):(k90 l).length<=l.length:=by
 unfold k90
 rw [k78]
 refine Nat.le_trans (k5n _ _) ?_
 rw [q9y]
 exact z4c l
theorem j3n (l:List Note):(k91 l).length<=l.length:=by
 unfold k91
 rw [k78]
 refine Nat.le_trans (k5n _ _) ?_
 rw [q9y]
 exact k8e l
open Go.Pv Go.Pv.Cd
set_option maxRecDepth 100000
set_option maxHeartbeats 8000000
def z0a (L:List (List (BitVec 8))):Prop:=(L.length<=40\/4096<L.length)/\∀ b ∈ L,b.length<=1000
theorem z7h (L:List (List (BitVec 8)))(st:q5c):PCalls P F.q2k [.list false (k1z L) L.length] st (FewP (z0a L) st):=by
 have yes:=Hid.mk fun h=>FewP.yes (st:=st) (F:=z0a L) h true
 have no:=FewP.no (st:=st) (F:=z0a L)
 have hrl:=k50 L
 refine H.q2k.view q5l rfl rfl ?_
 by_cases h1:40<L.length/\L.length<=4096
 ·have h2:(40:Int)<L.length:=by omega
  have h3:(L.length:Int)<=4096:=by omega
  repeat' (simp -dsimp -implicitDefEqProofs [*])
  exact .same no
 by_cases h4:(4200:Int)<L.length
 ·have h2:(40:Int)<L.length:=by omega
  have h3:¬ (L.length:Int)<=4096:=by omega
  repeat' (simp -dsimp -implicitDefEqProofs [*])
  exact .same no
 have hb:L.length<=40\/4096<L.length:=by omega
 have h5:¬ (40:Int)<L.length\/((40:Int)<L.length/\¬ (L.length:Int)<=4096):=by omega
 clear h1
 rcases h5 with h5 |⟨h5,h6⟩
 all_goals
  repeat' (simp -dsimp -implicitDefEqProofs [*])
  refine q5e (fun i:Nat=>[(0,.list false (k1z L) L.length),(3,.int i)]) (fun _=>st) (fun i=>i<=L.length/\Hid (∀ b ∈ L.take i,b.length<=1000)) (fun i=>L.length-i) 0 ⟨Nat.zero_le _,⟨fun _ h=>by cases h⟩⟩ (by simp) (.refl _) ?_
  rintro i ⟨hi,hI⟩
  by_cases hil:i<L.length
  case neg=>
   obtain rfl:i=L.length:=by omega
   rw [List.take_length] at hI
   have e:=yes.out ⟨hb,hI.out⟩
   clear yes hI
   repeat' (simp -dsimp -implicitDefEqProofs [*])
   exact .same e
  have hwi:=q5f (n:=i) (by omega)
  have g:=k8d L i hil
  have G:=q6b g
  have hn:Hid (L[i].length<=1000->∀ b ∈ L.take (i+1),b.length<=1000):=⟨fun h1 t ht=>by
   rw [List.take_succ_eq_append_getElem hil] at ht
   rcases List.mem_append.1 ht with h | h
   ·exact hI.out t h
   ·rw [List.mem_singleton] at h
    subst h
    exact h1⟩
  clear yes hI
  generalize L[i]=x at *
  by_cases hx:(1000:Int)<x.length
  ·clear hn
   repeat' (simp -dsimp -implicitDefEqProofs [*])
   exact .same no
  have hm:=hn.out (by omega)
  replace hm:=Hid.mk hm
  clear hn
  repeat' (simp -dsimp -implicitDefEqProofs [*])
  exact Next.intro (i+1) ⟨by omega,hm⟩ (by omega) (by simp) q5m
theorem y8k (c:C44)(hc:∀ st,Rets P F.q0r [.agg c.l,.agg c.l] st (.bool true))(l:List Note)(hl:l.length<=900):∃ (d:C44) (A:List Event) (B:List Decision) (e:Int) (R:List (List (BitVec 8))),A.length<=100000/\B.length<=100000/\R.length<=100000 ∧
  (∀ st,Rets P F.q0r [.agg d.l,.agg d.l] st (.bool true)) ∧
  (∀ st,Rets P F.q2h [.agg c.l,.agg [Note.lst false l]] st (.tuple [.agg (d.row (Event.lst false A) (Decision.lst false B)),.int e])) ∧
  (∀ st,Rets P F.q13 [.agg c.l,.agg [Note.lst false l]] st (.tuple [.agg (d.row (Event.lst false A) (Decision.lst false B)),.int e])) ∧
  (∀ st,Rets P F.q1x [.agg [Note.lst false l]] st (.tuple [.list false (k1z R) R.length,.int e])) ∧
  (∀ st,Rets P F.q1s [.agg [Note.lst false l]] st (.tuple [.list false (k1z R) R.length,.int e])):=by
 by_cases hr:Rise q6v okN l
 ·have hml:(l.map msg).length=l.length:=List.length_map ..
  refine⟨c,k90 l,k91 l,0,l.map msg, ?_, ?_, ?_,hc,z2h c l hr (by omega),z4j c l hr hl, ?_, ?_⟩
  ·have:=j3m l; omega
  ·have:=j3n l; omega
  ·omega
  ·rw [hml]; exact k7k l hr (by omega)
  ·rw [hml]; exact k99 l hr hl
 ·have hn:¬ (Rise q6v okN l/\l.length<=4096):=fun h=>hr h.1
  exact⟨zC,[],[],580,[],by simp,by simp,by simp,k7z,j6y c l hn hl,z7e c l hn hl,j0e l hn hl,z04 l hn hl⟩
theorem j6z (L:List (List (BitVec 8))):(k28 L).length<=L.length:=by
 unfold k28
 split
 ·unfold z6z
  have h1:∀ l:List Note,(q8x eqD l).length<=l.length:=fun l=>by
   cases l with
   | nil=>exact Nat.le_refl _
   | cons x l=>
    rw [q8x,List.length_cons,List.length_cons]
    have:=k9f (e:=eqD) l x
    omega
  have h2:=h1 ((k2i cfF (k1d L)).map (·.1))
  have h3:=(k0c cfF y8b (k1d L)).1.length_eq
  have h4:(k1d L).length<=L.length:=List.length_filterMap_le ..
  rw [List.length_map] at h2
  omega
 ·simp
theorem j9l (L:List (List (BitVec 8)))(h:z0a L):∃ (A:List Note) (e:Int),A.length<=100000 ∧
  (∀ st,Rets P F.q15 [.list false (k1z L) L.length] st (.tuple [.agg [Note.lst false A],.int e])) ∧
  (∀ st,Rets P F.q2b [.list false (k1z L) L.length] st (.tuple [.agg [Note.lst false A],.int e])):=by
 obtain⟨h1,h2⟩:=h
 by_cases h3:4096<L.length
 ·exact⟨[],2,by simp,j6f false L h3,z7f false L h3⟩
 ·refine⟨k28 L,k4v L, ?_,k9x false L (by omega) (fun b hb=>by have:=h2 b hb; omega),z7g false L (by omega) h2⟩
  have:=j6z L
  omega
theorem z4k (c:Con)(hw:c.rules.ties.length<=9223372036854775807)(l:List Note)(L:List (List (BitVec 8))):Rets P F.q1q [.agg c.enc,.agg [Note.lst false l],.list false (k1z L) L.length] [] (.bool true):=by
 have f50:=fun st=>j3j c hw st
 have fR:=fun st=>z7h L st
 have ws:=Hid.mk fun (h:c.Fit) (hl:l.length<=900)=>y8k c.c44 (k7x c h) l hl
 have ls:=Hid.mk (j9l L)
 have hcl:sub c.enc 0 44=some c.enc:=c.c44.all
 have hlen:=c.len
 have hce:c.c44.l=c.enc:=rfl
 simp only [hce] at ws
 clear hce
 generalize c.Fit=FC at *
 generalize z0a L=FL at *
 generalize c.enc=C at *
 clear hw
 refine H.q1q.view q5l rfl rfl ?_
 repeat' (first 
  | (with_reducible refine Fresh.intro fun b hb=>?_) <;> (try simp -dsimp -implicitDefEqProofs [*] at hb)
  | (with_reducible refine Rets.xcall (j6m _) ?_)
  | (simp -dsimp -implicitDefEqProofs [*]))
 refine q5h (f50 _) ?_
 clear f50
 rintro e s ⟨r,rfl,rfl,hr⟩
 rw [q5v]
 cases r with
 | false=>
  clear ws ls hr
  repeat' (simp -dsimp -implicitDefEqProofs [*])
  exact .drop (st':=[]) (fun _ _ h=>by cases h) ⟨rfl,rfl⟩
 | true=>
 replace ws:=Hid.mk (ws.out (hr rfl))
 clear hr
 by_cases hl:30<l.length
 ·have hlI:(30:Int)<l.length:=by omega
  clear ws ls
  repeat' (simp -dsimp -implicitDefEqProofs [*])
  exact .drop (st':=[]) (fun _ _ h=>by cases h) ⟨rfl,rfl⟩
 have hlI:¬ (30:Int)<l.length:=by omega
 repeat' (simp -dsimp -implicitDefEqProofs [*])
 refine q5h (fR _) ?_
 clear fR
 rintro e s ⟨r,rfl,rfl,hr⟩
 rw [q5v]
 cases r with
 | false=>
  clear ws ls hr
  repeat' (simp -dsimp -implicitDefEqProofs [*])
  exact .drop (st':=[]) (fun _ _ h=>by cases h) ⟨rfl,rfl⟩
 | true=>
 have H0:=ws.out (by omega)
 obtain⟨d,A,B,e,R,hA,hB,hR,hc,w1,w2,r1,r2⟩:=H0
 have H1:=ls.out (hr rfl)
 obtain⟨N,en,hN,l1,l2⟩:=H1
 have sW:=fun st=>z0w d A B hA hB hc st
 have sR:=fun st=>k70 false false R hR st
 have sN:=fun st=>k37 false false N hN st
 clear ws ls hr hc
 repeat' (first 
  | (with_reducible refine Fresh.intro fun b hb=>?_) <;> (try simp -dsimp -implicitDefEqProofs [*] at hb)
  | (with_reducible refine Rets.xcall (w1 _) ?_)
  | (with_reducible refine Rets.xcall (w2 _) ?_)
  | (with_reducible refine Rets.xcall (r1 _) ?_)
  | (with_reducible refine Rets.xcall (r2 _) ?_)
  | (with_reducible refine Rets.xcall (l1 _) ?_)
  | (with_reducible refine Rets.xcall (l2 _) ?_)
  | (with_reducible refine Rets.xcall (sW _) ?_)
  | (with_reducible refine Rets.xcall (sR _) ?_)
  | (with_reducible refine Rets.xcall (sN _) ?_)
  | (simp -dsimp -implicitDefEqProofs [*]))
 exact .drop (st':=[]) (fun _ _ h=>by cases h) ⟨rfl,rfl⟩
open Go.ChangeShapes Go.WideShapes Go.ChangeAt Go.RowKit Go.Pv
set_option maxRecDepth 100000 in
theorem k0t (H:Type)(enc:TypeId × Value->H)(W:World)(base:Nat)(args:Array Value)(ds gs:List (DataW H))(before:List MemPlace)
  (hval0:∀ (j:Nat) t v,Tryz.f4.params[j]?=some t->args[j]?=some v->Value.okWide Tryz.prog W .any base t v)
  (hW:DataW.Whole enc Tryz.prog Tryz.f4.params.toList Rows.partiesWorldSpecSpec.vars false W args.toList ds gs before) :
  Calls Tryz.prog 4 args W fun e W'=>∃ v,e=.returned v/\Rows.partiesWorldSpecSpec.post enc Tryz.prog Tryz.f4 false true false false W args v W':=by
 have hval:∀ (j:Nat) t v,Tryz.f4.params[j]?=some t->args[j]?=some v->Value.okWide Tryz.prog W .any base t v:=hval0
 have hW':=hW
 obtain⟨p,q,hA0,hV,rfl,hfz,hnd⟩:=hW
 have hA:DataW.TrodAll enc Tryz.prog W 0 (fun _=>true) true Tryz.f4.params.toList args.toList ds p:=hA0
 rw [Tryz.params4] at hA hval
 obtain⟨v0,vs0,d0,ds0,p0,q0,hargs,rfl,rfl,h0,r0⟩:=trodAll_cons hA
 obtain⟨v1,vs1,d1,ds1,p1,q1,rfl,rfl,rfl,h1,r1⟩:=trodAll_cons r0
 obtain⟨v2,vs2,d2,ds2,p2,q2,rfl,rfl,rfl,h2,r2⟩:=trodAll_cons r1
 obtain⟨rfl,rfl,rfl⟩:=trodAll_nil r2
 obtain rfl:args=#[v0,v1,v2]:=by cases args; simp_all
 obtain⟨rfl,rfl⟩:=trodVars_none hV
 have k0:=h0
 have lt0:∀ x ∈ p0,x.block<W.heap.size:=by obtain⟨m,hm⟩:=k0; exact DataW.trod_lt m _ _ _ hm
 obtain⟨x0,g0,w0⟩:=Opens.argS (gl:=[]) j3g Tryz.underlying57 (hval 0 57 v0 rfl rfl) h0
 have k1:=h1
 have lt1:∀ x ∈ p1,x.block<W.heap.size:=by obtain⟨m,hm⟩:=k1; exact DataW.trod_lt m _ _ _ hm
 obtain⟨x1,g1,w1⟩:=Opens.argS (gl:=[]) y26 Tryz.underlying60 (hval 1 60 v1 rfl rfl) h1
 have k2:=h2
 have lt2:∀ x ∈ p2,x.block<W.heap.size:=by obtain⟨m,hm⟩:=k2; exact DataW.trod_lt m _ _ _ hm
 obtain⟨x2,g2,w2⟩:=Opens.argL (gl:=[]) y24 Tryz.underlying61 (hval 2 61 v2 rfl rfl) h2
 clear hA0 hval0
 refine ((_root_.Go.Proofs.YtmlmoaimjifpgaaGreat.H.q1q).bridgeG (gl:=[]) (z4k x0 (j9h w0) x1 x2) (w:=W) (fun _ _ _ h=>by cases h) (vs:=[v0,v1,v2]) ⟨w0,w1,w2,trivial⟩).mono fun e W' ⟨he,bel⟩=>?_
 subst he
 exact⟨_,rfl,_,_,_,[],_,[],hW',trodAll_mk1 (shut_bool Tryz.underlying4 _),(trodAll_cons_mk (Go.RowKit.Below.trod z93 (by kernel_rfl) (of_decide_eq_true (by kernel_rfl)) k0 bel lt0) (trodAll_cons_mk (Go.RowKit.Below.trod z93 (by kernel_rfl) (of_decide_eq_true (by kernel_rfl)) k1 bel lt1) (trodAll_cons_mk (Go.RowKit.Below.trod z93 (by kernel_rfl) (of_decide_eq_true (by kernel_rfl)) k2 bel lt2) trodAll_mk0))),rfl,bel.frame _,fun h=>by cases h⟩
set_option maxRecDepth 100000 in
theorem k2b (os:Os)(started:os.Started)(H:Type)(enc:TypeId × Value->H) :
  ReturnsInHanded {} Tryz.checked os 4 .any (Rows.partiesWorldSpecSpec.pre6 enc Tryz.prog Tryz.f4 Rows.partiesWorldSpecRow.domain false) (Rows.partiesWorldSpecSpec.post enc Tryz.prog Tryz.f4 false true false false):=by
 refine returnsInHanded_of_change (C:=Tryz.checked) own started (by kernel_rfl) Tryz.func4
  (ChangeSpec.witness6 (enc:=enc) (C:=Tryz.checked) false ⟨#[],#[.agg #[.string ⟨#[]⟩,.slice none 0 0,.slice none 0 0,.slice none 0 0,.slice none 0 0,.slice none 0 0,.slice none 0 0,.slice none 0 0,.int .i64 0,.slice none 0 0,.slice none 0 0,.slice none 0 0,.int .u8 0,.int .u8 0,.int .u8 0,.int .u8 0,.int .u8 0,.int .u8 0,.int .u8 0,.int .u8 0,.int .u8 0,.int .u8 0,.int .u8 0,.int .u8 0,.int .u8 0,.int .u8 0,.int .u8 0,.int .u8 0,.int .u8 0,.int .u8 0,.int .u8 0,.int .u8 0,.int .u8 0,.int .u8 0,.int .u8 0,.int .u8 0,.int .u8 0,.int .u8 0,.int .u8 0,.int .u8 0,.int .u8 0,.int .u8 0,.int .u8 0,.int .u8 0],.agg #[.slice none 0 0],.slice none 0 0],[]⟩ 8 (by kernel_rfl) (by kernel_rfl) (by kernel_rfl) (by kernel_rfl)) ?_
 intro W base args ds gs before hval hW _ _
 exact k0t H enc W base args ds gs before hval hW
theorem partiesWorldSpec_holds:Rows.PartiesWorldSpecSaid:=
 OpenClaim.holds_of_wide 4 Tryz.f4 rfl rfl rfl rfl rfl rfl rfl ⟨rfl,rfl,rfl,rfl,rfl⟩ rfl rfl rfl rfl rfl (by kernel_rfl) Tryz.func4 (by kernel_rfl)
  (of_decide_eq_true (by kernel_rfl)) (by unfold Func.isWrapper; first | (rw [if_pos (by decide +kernel)]; kernel_rfl) | (rw [if_neg (by decide +kernel)]; exact⟨rfl,rfl⟩))
  (fun os started H enc _=>k2b os started H enc)
end Go.Proofs.YtmlmoaimjifpgaaGreat

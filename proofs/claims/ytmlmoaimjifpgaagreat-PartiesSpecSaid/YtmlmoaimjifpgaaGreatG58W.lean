/- The arguments of the laws, opened. -/
import Derived.Test.YtmlmoaimjifpgaaGreatRows
import Derived.WalkKit
import Derived.ProofKit
import Derived.OpenShut
import Derived.ChangeOld
import Derived.Below
import Derived.JoinedCond
import Derived.Test.YtmlmoaimjifpgaaGreatLBr
import Derived.Test.YtmlmoaimjifpgaaGreatLRd
import Derived.Test.YtmlmoaimjifpgaaGreatA58B
namespace Go.Proofs.YtmlmoaimjifpgaaGreat
set_option maxRecDepth 100000
set_option maxHeartbeats 4000000
open Go.ChangeShapes Go.WideShapes Go.ChangeAt Go.RowKit Go.Pv
theorem own:ownKnob Tryz.prog.godebug=none:=by kernel_rfl
theorem j6m:laidOutB Tryz.prog=true:=by kernel_rfl
theorem z4c {α:Type}(f:α->PV):∀ l:List α,(l.flatMap fun x=>[f x])=l.map f
 | []=>rfl
 | x::l=>by rw [List.flatMap_cons,z4c f l]; rfl
theorem v2c {n:Int}(h:(Lit.int .u8 n).wf=true):0<=n/\n<256:=by
 simp [Lit.wf,IntKind.min,IntKind.max,IntKind.bits,IntKind.signed] at h
 omega
instance:Inhabited (Mv Note):=⟨⟨0,0,0,0,z65⟩⟩
instance:Inhabited Note:=⟨z65⟩
section
variable {H:Type} {enc:TypeId × Value->H} {W:World} {base:Nat} {spare:Nat->Bool} {held:Bool}
theorem v2d:Opens enc Tryz.prog W base spare held [] 5 1 (fun b:BitVec 8=>[bv b]) (fun _=>True):=
 ⟨by kernel_rfl,fun {fuel cs y} h=>by
  obtain⟨k,rfl, -,hwf⟩:=DataW.trod_int Tryz.underlying5 h
  have hk:=v2c hwf
  have e:(((BitVec.ofInt 8 k).toNat:Nat):Int)=k:=by rw [BitVec.toNat_ofInt]; omega
  have e2:bv (BitVec.ofInt 8 k)=.val (.int .u8 k):=by unfold bv u8; rw [e]
  exact⟨BitVec.ofInt 8 k,trivial,by rw [e2]; simp [vcells,vrep,Value.oneCell'],rfl⟩⟩
theorem j9h:Opens enc Tryz.prog W base spare held [] 79 1 (fun l:List (BitVec 8)=>[q53 false l]) (fun _=>True):=
 (Opens.slice OffE.nil Tryz.underlying79 (by kernel_rfl) (by decide) v2d).conv id (fun l=>by rw [z4c]; rfl) (fun _ _=>trivial)
theorem j1i:Opens enc Tryz.prog W base spare held [] 30 9 (fun x:Event=>x.enc) (fun _=>True):=
 (Opens.struct Tryz.underlying30 (by kernel_rfl) (.cons rfl (Opens.i64 Tryz.underlying3 (by kernel_rfl)) (.cons rfl (Opens.i64 Tryz.underlying3 (by kernel_rfl)) (.cons rfl (Opens.i64 Tryz.underlying3 (by kernel_rfl)) (.cons rfl (Opens.i64 Tryz.underlying3 (by kernel_rfl)) (.cons rfl (Opens.i64 Tryz.underlying3 (by kernel_rfl)) (.cons rfl (Opens.i64 Tryz.underlying3 (by kernel_rfl)) (.cons rfl (Opens.i64 Tryz.underlying3 (by kernel_rfl)) (.cons rfl (Opens.i64 Tryz.underlying3 (by kernel_rfl)) (.cons rfl (Opens.i64 Tryz.underlying3 (by kernel_rfl)) .nil)))))))))).conv (fun x=>⟨x.1,x.2.1,x.2.2.1,x.2.2.2.1,x.2.2.2.2.1,x.2.2.2.2.2.1,x.2.2.2.2.2.2.1,x.2.2.2.2.2.2.2.1,x.2.2.2.2.2.2.2.2.1⟩) (fun _=>rfl) (fun _ _=>trivial)
theorem y8d:Opens enc Tryz.prog W base spare held [] 32 14 (fun x:Decision=>x.enc) (fun _=>True):=
 (Opens.struct Tryz.underlying32 (by kernel_rfl) (.cons rfl (Opens.i64 Tryz.underlying3 (by kernel_rfl)) (.cons rfl (Opens.i64 Tryz.underlying3 (by kernel_rfl)) (.cons rfl (Opens.i64 Tryz.underlying3 (by kernel_rfl)) (.cons rfl (Opens.i64 Tryz.underlying3 (by kernel_rfl)) (.cons rfl (Opens.i64 Tryz.underlying3 (by kernel_rfl)) (.cons rfl j1i .nil))))))).conv (fun x=>⟨x.1,x.2.1,x.2.2.1,x.2.2.2.1,x.2.2.2.2.1,x.2.2.2.2.2.1.no,x.2.2.2.2.2.1.kind,x.2.2.2.2.2.1.round,x.2.2.2.2.2.1.entry,x.2.2.2.2.2.1.judge,x.2.2.2.2.2.1.item,x.2.2.2.2.2.1.value,x.2.2.2.2.2.1.at',x.2.2.2.2.2.1.known⟩) (fun _=>rfl) (fun _ _=>trivial)
theorem j6n:Opens enc Tryz.prog W base spare held [] 34 24 (fun x:Note=>x.enc) (fun _=>True):=
 (Opens.struct Tryz.underlying34 (by kernel_rfl) (.cons rfl (Opens.i64 Tryz.underlying3 (by kernel_rfl)) (.cons rfl j1i (.cons rfl y8d .nil)))).conv (fun x=>⟨x.1,x.2.1,x.2.2.1⟩) (fun _=>rfl) (fun _ _=>trivial)
theorem y3c:Opens enc Tryz.prog W base spare held [] 36 28 (fun x:Mv Note=>mvE x) (fun _=>True):=
 (Opens.struct Tryz.underlying36 (by kernel_rfl) (.cons rfl (Opens.i64 Tryz.underlying3 (by kernel_rfl)) (.cons rfl (Opens.i64 Tryz.underlying3 (by kernel_rfl)) (.cons rfl (Opens.i64 Tryz.underlying3 (by kernel_rfl)) (.cons rfl (Opens.i64 Tryz.underlying3 (by kernel_rfl)) (.cons rfl j6n .nil)))))).conv (fun x=>⟨x.1,x.2.1,x.2.2.1,x.2.2.2.1,x.2.2.2.2.1⟩) (fun _=>rfl) (fun _ _=>trivial)
theorem j9i:Opens enc Tryz.prog W base spare held [] 58 1 (fun l:List Note=>[Note.lst false l]) (fun _=>True):=
 (Opens.slice OffE.nil Tryz.underlying58 (by kernel_rfl) (by decide) j6n).conv id (fun _=>rfl) (fun _ _=>trivial)
theorem y3d:Opens enc Tryz.prog W base spare held [] 60 1 (fun l:List Note=>[Note.lst false l]) (fun _=>True):=
 (Opens.struct Tryz.underlying60 (by kernel_rfl) (.cons rfl j9i .nil)).conv (fun x=>x.1) (fun _=>rfl) (fun _ _=>trivial)
end
end Go.Proofs.YtmlmoaimjifpgaaGreat

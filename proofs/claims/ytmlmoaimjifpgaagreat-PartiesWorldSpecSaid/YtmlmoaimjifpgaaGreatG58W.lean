/- The arguments of the laws, opened. -/
import Derived.Test.YtmlmoaimjifpgaaGreatRows
import Derived.WalkKit
import Derived.ProofKit
import Derived.OpenShut
import Derived.ChangeOld
import Derived.Below
import Derived.JoinedCond
import Derived.Test.YtmlmoaimjifpgaaGreatLBr
import Derived.Test.YtmlmoaimjifpgaaGreatLRd
import Derived.Test.YtmlmoaimjifpgaaGreatA58A
namespace Go.Proofs.YtmlmoaimjifpgaaGreat
set_option maxRecDepth 100000
set_option maxHeartbeats 4000000
open Go.ChangeShapes Go.WideShapes Go.ChangeAt Go.RowKit Go.Pv
theorem own:ownKnob Tryz.prog.godebug=none:=by kernel_rfl
theorem z93:laidOutB Tryz.prog=true:=by kernel_rfl
theorem k3s {α:Type}(f:α->PV):∀ l:List α,(l.flatMap fun x=>[f x])=l.map f
 | []=>rfl
 | x::l=>by rw [List.flatMap_cons,k3s f l]; rfl
theorem v2c {n:Int}(h:(Lit.int .u8 n).wf=true):0<=n/\n<256:=by
 simp [Lit.wf,IntKind.min,IntKind.max,IntKind.bits,IntKind.signed] at h
 omega
instance:Inhabited (Mv Note):=⟨⟨0,0,0,0,z60⟩⟩
instance:Inhabited Note:=⟨z60⟩
section
variable {H:Type} {enc:TypeId × Value->H} {W:World} {base:Nat} {spare:Nat->Bool} {held:Bool}
theorem v2d:Opens enc Tryz.prog W base spare held [] 5 1 (fun b:BitVec 8=>[bv b]) (fun _=>True):=
 ⟨by kernel_rfl,fun {fuel cs y} h=>by
  obtain⟨k,rfl, -,hwf⟩:=DataW.trod_int Tryz.underlying5 h
  have hk:=v2c hwf
  have e:(((BitVec.ofInt 8 k).toNat:Nat):Int)=k:=by rw [BitVec.toNat_ofInt]; omega
  have e2:bv (BitVec.ofInt 8 k)=.val (.int .u8 k):=by unfold bv u8; rw [e]
  exact⟨BitVec.ofInt 8 k,trivial,by rw [e2]; simp [vcells,vrep,Value.oneCell'],rfl⟩⟩
theorem j9c:Opens enc Tryz.prog W base spare held [] 79 1 (fun l:List (BitVec 8)=>[q54 false l]) (fun _=>True):=
 (Opens.slice OffE.nil Tryz.underlying79 (by kernel_rfl) (by decide) v2d).conv id (fun l=>by rw [k3s]; rfl) (fun _ _=>trivial)
theorem y24:Opens enc Tryz.prog W base spare held [] 61 1 (fun l:List (List (BitVec 8))=>[.list false (k1z l) l.length]) (fun _=>True):=
 (Opens.slice OffE.nil Tryz.underlying61 (by kernel_rfl) (by decide) j9c).conv id (fun l=>by rw [k3s]; rfl) (fun _ _=>trivial)
theorem j1r:Opens enc Tryz.prog W base spare held [] 30 9 (fun x:Event=>x.enc) (fun _=>True):=
 (Opens.struct Tryz.underlying30 (by kernel_rfl) (.cons rfl (Opens.i64 Tryz.underlying3 (by kernel_rfl)) (.cons rfl (Opens.i64 Tryz.underlying3 (by kernel_rfl)) (.cons rfl (Opens.i64 Tryz.underlying3 (by kernel_rfl)) (.cons rfl (Opens.i64 Tryz.underlying3 (by kernel_rfl)) (.cons rfl (Opens.i64 Tryz.underlying3 (by kernel_rfl)) (.cons rfl (Opens.i64 Tryz.underlying3 (by kernel_rfl)) (.cons rfl (Opens.i64 Tryz.underlying3 (by kernel_rfl)) (.cons rfl (Opens.i64 Tryz.underlying3 (by kernel_rfl)) (.cons rfl (Opens.i64 Tryz.underlying3 (by kernel_rfl)) .nil)))))))))).conv (fun x=>⟨x.1,x.2.1,x.2.2.1,x.2.2.2.1,x.2.2.2.2.1,x.2.2.2.2.2.1,x.2.2.2.2.2.2.1,x.2.2.2.2.2.2.2.1,x.2.2.2.2.2.2.2.2.1⟩) (fun _=>rfl) (fun _ _=>trivial)
theorem y8f:Opens enc Tryz.prog W base spare held [] 32 14 (fun x:Decision=>x.enc) (fun _=>True):=
 (Opens.struct Tryz.underlying32 (by kernel_rfl) (.cons rfl (Opens.i64 Tryz.underlying3 (by kernel_rfl)) (.cons rfl (Opens.i64 Tryz.underlying3 (by kernel_rfl)) (.cons rfl (Opens.i64 Tryz.underlying3 (by kernel_rfl)) (.cons rfl (Opens.i64 Tryz.underlying3 (by kernel_rfl)) (.cons rfl (Opens.i64 Tryz.underlying3 (by kernel_rfl)) (.cons rfl j1r .nil))))))).conv (fun x=>⟨x.1,x.2.1,x.2.2.1,x.2.2.2.1,x.2.2.2.2.1,x.2.2.2.2.2.1.no,x.2.2.2.2.2.1.kind,x.2.2.2.2.2.1.round,x.2.2.2.2.2.1.entry,x.2.2.2.2.2.1.judge,x.2.2.2.2.2.1.item,x.2.2.2.2.2.1.value,x.2.2.2.2.2.1.at',x.2.2.2.2.2.1.known⟩) (fun _=>rfl) (fun _ _=>trivial)
theorem y25:Opens enc Tryz.prog W base spare held [] 34 24 (fun x:Note=>x.enc) (fun _=>True):=
 (Opens.struct Tryz.underlying34 (by kernel_rfl) (.cons rfl (Opens.i64 Tryz.underlying3 (by kernel_rfl)) (.cons rfl j1r (.cons rfl y8f .nil)))).conv (fun x=>⟨x.1,x.2.1,x.2.2.1⟩) (fun _=>rfl) (fun _ _=>trivial)
theorem j9d:Opens enc Tryz.prog W base spare held [] 58 1 (fun l:List Note=>[Note.lst false l]) (fun _=>True):=
 (Opens.slice OffE.nil Tryz.underlying58 (by kernel_rfl) (by decide) y25).conv id (fun _=>rfl) (fun _ _=>trivial)
theorem y26:Opens enc Tryz.prog W base spare held [] 60 1 (fun l:List Note=>[Note.lst false l]) (fun _=>True):=
 (Opens.struct Tryz.underlying60 (by kernel_rfl) (.cons rfl j9d .nil)).conv (fun x=>x.1) (fun _=>rfl) (fun _ _=>trivial)
end
end Go.Proofs.YtmlmoaimjifpgaaGreat

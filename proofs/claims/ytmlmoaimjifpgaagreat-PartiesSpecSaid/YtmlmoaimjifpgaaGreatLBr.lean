/- From what the arguments read as, to pure values; from a pure answer to the call's own. -/
import Derived.ProofKit
import Derived.OpenShut
import Derived.ChangeOld
import Derived.Deep.Slices
import Derived.Test.YtmlmoaimjifpgaaGreatLLo
namespace Go.Pv
open Go.ChangeShapes Go.WideShapes Go.Deep Go.RowKit
def j79 (w:World):Imm:=fun b=>w.heap[b]?
theorem j0l (w:World):SRep (j79 w) [] w:=⟨fun _ _ h=>h,fun b o h=>by simp [q55] at h,trivial⟩
section
variable {H:Type} {enc:TypeId × Value->H} {P:Program} {w:World} {base:Nat} {spare:Nat->Bool} {held:Bool}
def I64 (n:Int):Prop:=-9223372036854775808<=n/\n<=9223372036854775807
theorem I64.of_wf {n:Int}(h:(Lit.int .i64 n).wf=true):I64 n:=by
 simp [Lit.wf,IntKind.min,IntKind.max,IntKind.bits,IntKind.signed] at h
 unfold I64
 omega
theorem k86 {w:World}{b off:Nat}{v:Value}(h:w.cell? ⟨b,off,none⟩=some v):∃ arr T fz,w.heap[b]?=some (.cells arr T fz)/\arr[off]?=some v:=by
 unfold World.cell? at h
 split at h
 ·exact⟨_,_,_,‹_›,by simpa using h⟩
 ·cases h
theorem j4o {α β:Type}(g:α->List β)(k:Nat):∀ (l:List α) (i j:Nat),(∀ x ∈ l,(g x).length=k)->j<k->∀ h:i<l.length,(l.flatMap g)[i*k+j]?=(g l[i])[j]?
 | x::l,0,j,hm,hj,_=>by
  have:=hm x (by simp)
  simp only [List.flatMap_cons,Nat.zero_mul,Nat.zero_add,List.getElem_cons_zero]
  rw [List.getElem?_append_left (by omega)]
 | x::l,i+1,j,hm,hj,h=>by
  have h1:=hm x (by simp)
  simp only [List.flatMap_cons,List.getElem_cons_succ]
  rw [List.getElem?_append_right (by rw [h1,Nat.succ_mul]; omega),h1,<-j4o g k l i j (fun y hy=>hm y (by simp [hy])) hj (by simpa using h)]
  congr 1
  rw [Nat.succ_mul]; omega
theorem z3b {α β:Type}(g:α->List β)(k:Nat):∀ (l:List α),(∀ x ∈ l,(g x).length=k)->(l.flatMap g).length=l.length*k
 | [],_=>by simp
 | x::l,hm=>by
  simp only [List.flatMap_cons,List.length_append,List.length_cons]
  rw [hm x (by simp),z3b g k l (fun y hy=>hm y (by simp [hy])),Nat.succ_mul]; omega
end
end Go.Pv

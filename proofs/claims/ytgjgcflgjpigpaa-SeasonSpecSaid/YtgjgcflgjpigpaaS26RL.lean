/- The reference: the records among scores. -/
import Derived.Test.YtgjgcflgjpigpaaS26RH
namespace Go.Proofs.Ytgjgcflgjpigpaa
open Go.Pv
set_option maxRecDepth 100000
set_option maxHeartbeats 8000000
def CmpAllR (l : List Rec) : Prop := ∀ x ∈ l, ∀ y ∈ l, ∃ c : Int, (c < 0 ↔ x.score.val < y.score.val) ∧ ∀ st, Rets P F.podiumref10_Cmp [x.score.pv, y.score.pv] st (.tuple [.int c, .int 0])
theorem CmpAllR.srt {l : List Rec} (h : CmpAllR l) : CmpAllR (srt SortRec.key l) := fun x hx y hy => h x (mem_srt.1 hx) y (mem_srt.1 hy)
abbrev sOf (l : List Rec) (i : Nat) : List Rec := srt SortRec.key (l.take i)
theorem Rec.row_drop (l : List Rec) (i : Nat) : (Rec.row l).drop (i * 7) = Rec.row (l.drop i) := flat_drop Rec.enc 7 Rec.len l i
end Go.Proofs.Ytgjgcflgjpigpaa

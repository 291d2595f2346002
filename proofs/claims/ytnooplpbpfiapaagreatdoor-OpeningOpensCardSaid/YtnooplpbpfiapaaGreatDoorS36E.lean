/- SHA-256 by the reference. -/
import Derived.Test.YtnooplpbpfiapaaGreatDoorS36A
namespace Go.Proofs.YtnooplpbpfiapaaGreatDoor
open Go.Pv Go.Pv.Sha
set_option maxRecDepth 100000
set_option maxHeartbeats 4000000
abbrev q9r (s : ByteArray) : List (BitVec 8) := s.data.toList.map (·.toBitVec)
theorem k3x (s : ByteArray) : (q9r s).length = s.size := by rw [List.length_map]; rfl
end Go.Proofs.YtnooplpbpfiapaaGreatDoor

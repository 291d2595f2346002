/- The reference: what is few. -/
import Derived.Test.YtnooplpbpfiapaaGreatDoorS36ZA
namespace Go.Proofs.YtnooplpbpfiapaaGreatDoor
open Go.Pv
set_option maxRecDepth 100000
set_option maxHeartbeats 16000000
open Go.Pv
set_option maxRecDepth 100000
set_option maxHeartbeats 8000000
open Go.Pv
set_option maxRecDepth 100000
set_option maxHeartbeats 8000000
open Go.Pv
set_option maxRecDepth 100000
set_option maxHeartbeats 8000000
open Go.Pv
set_option maxRecDepth 100000
set_option maxHeartbeats 8000000
section
variable {α : Type}
end
end Go.Proofs.YtnooplpbpfiapaaGreatDoor

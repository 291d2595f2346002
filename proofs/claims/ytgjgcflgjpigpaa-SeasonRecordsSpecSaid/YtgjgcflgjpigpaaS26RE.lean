/- The reference's Total: walk. -/
import Derived.Test.YtgjgcflgjpigpaaS26ZF
namespace Go.Proofs.Ytgjgcflgjpigpaa
open Go.Pv
set_option maxRecDepth 100000
set_option maxHeartbeats 8000000
end Go.Proofs.Ytgjgcflgjpigpaa

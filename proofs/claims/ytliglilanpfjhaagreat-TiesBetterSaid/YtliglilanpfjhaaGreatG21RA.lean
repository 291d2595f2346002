/- The reference's comparing of entries. -/
import Derived.Test.YtliglilanpfjhaaGreatG21ZQ
namespace Go.Proofs.YtliglilanpfjhaaGreat
open Go.Pv
set_option maxRecDepth 100000
set_option maxHeartbeats 8000000
theorem Ky.Len.wide {x : Ky} (h : x.Len) : x.Wide := ⟨by have := h.lt; omega, by have := h.lp; omega⟩
end Go.Proofs.YtliglilanpfjhaaGreat

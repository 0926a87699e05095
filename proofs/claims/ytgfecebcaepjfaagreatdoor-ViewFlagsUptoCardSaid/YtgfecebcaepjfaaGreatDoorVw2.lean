/- live. -/
import Derived.Test.YtgfecebcaepjfaaGreatDoorVw1
namespace Go.Vw
open Go Go.Ev
set_option maxRecDepth 100000
theorem live_true : F10 ((), ()) = some (true, ()) := by kernel_rfl
end Go.Vw

import Derived.Test.YtbaocindligcmaaG1
namespace Go.Dt
open Go Go.Ev
set_option maxRecDepth 100000
theorem live12 : F12 ((), ()) = some (true, ()) := by kernel_rfl
#print axioms live12
#print F3
#print F4
#print F5
#print F13
#print F14
end Go.Dt

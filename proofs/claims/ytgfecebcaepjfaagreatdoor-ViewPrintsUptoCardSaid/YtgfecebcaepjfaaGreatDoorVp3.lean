/- live is true, whatever is asked. -/
import Derived.Test.YtgfecebcaepjfaaGreatDoorVpO
import Derived.Test.YtgfecebcaepjfaaGreatDoorVp2
namespace Go.Vw
open Go Go.Ev
set_option maxRecDepth 100000
theorem live_true : F10 ((), ()) = some (true, ()) := by kernel_rfl

noncomputable def O10t : Orc := ⟨.nil, [], .kb true, [], fun _ => some ((), ())⟩

theorem ok10t : O10t.OK Go.Proofs.Tryz.prog 10 := by
  refine ⟨ok10.enters, by kernel_rfl, fun p r h => ?_⟩
  exact ok10.run p _ live_true
end Go.Vw

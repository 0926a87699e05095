/- What always is. -/
import Derived.Test.YtppghnjcgliekaaDoorHo1
import Derived.Test.YtppghnjcgliekaaDoorLoopL
namespace Go.Hd
open Go Go.Ev
set_option maxRecDepth 100000

theorem live14 : F14 ((([65]:List UInt8), ([98, 32, 99]:List UInt8), ()), ()) = some (([65, 58, 32, 98, 32, 99, 13, 10], 0, ()), ()) := by kernel_rfl
theorem live17 : F17 ((([32, 60, 97, 64, 98, 62, 32]:List UInt8), ()), ()) = some (([97, 64, 98], true, ()), ()) := by kernel_rfl
theorem live10 : F10 ((([65, 58, 32, 98, 13, 10, 32, 99, 13, 10, 13, 10, 120]:List UInt8), ()), ()) = some (((), 12, 0, ()), ([([65], [98, 32, 99], 0, ())], ())) := by kernel_rfl

theorem live33 : F33 ((([66, 111, 98, 32, 60, 98, 64, 99, 62, 44, 32, 34, 120, 34, 32, 40, 121, 41, 32, 60, 100, 64, 101, 62]:List UInt8), ()), ()) = some (([([66, 111, 98], (([98], ([99], ())), ())), ([120], (([100], ([101], ())), ()))], 0, 0, ()), ()) := by kernel_rfl

theorem live12 : F12 ((), ()) = some (true, ()) := by
  unfold F12 F12a
  have e : (!(List.isEmpty ([65, 58, 32, 98, 13, 10, 32, 99, 13, 10, 13, 10, 120]:List UInt8))) = true := rfl
  rw [e, cond_true, live10]
  simp only [Option.bind_some]
  rw [live33]
  simp only [Option.bind_some]
  rw [live14]
  simp only [Option.bind_some]
  rw [live17]
  simp only [Option.bind_some]
  rfl

end Go.Hd

/- What the library's functions do for this seat, by their contracts. -/
import Derived.Test.YtfajnpikmhnnlaaDoorEvSt
import Derived.Test.YtfajnpikmhnnlaaDoorShG
import Derived.Test.YtfajnpikmhnnlaaDoorProg
namespace Go.Gl
open Go Go.Ev Go.Proofs
set_option maxRecDepth 100000

theorem zJoin31 : ZOK Tryd.prog 31 (zPvr pJoinS) := pJoinS_ok Tryd.call31 Tryd.strings_Join_none Tryd.strings_Join

theorem zSort33 : ZOK Tryd.prog 33 zSortT := zSortT_ok Tryd.call33 Tryd.slices_Sort_string_none Tryd.slices_Sort_string

theorem zCompact34 : ZOK Tryd.prog 34 zCompactT := zCompactT_ok Tryd.call34 Tryd.slices_Compact_string_empty fun blk off cap zs w => Tryd.slices_Compact_string blk off cap zs w

end Go.Gl

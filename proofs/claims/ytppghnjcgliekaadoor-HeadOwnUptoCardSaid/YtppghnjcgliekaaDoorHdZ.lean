/- What the library's functions do for this seat, by their contracts. -/
import Derived.Test.YtppghnjcgliekaaDoorEvNt
import Derived.Test.YtppghnjcgliekaaDoorShH
import Derived.Shelf.Strings.SlTrimAscii
import Derived.Test.YtppghnjcgliekaaDoorProg
import Derived.KernelRfl
import Derived.Tactics
namespace Go.Hd
open Go Go.Ev Go.Proofs
set_option maxRecDepth 100000

theorem info116 : (Tryd.prog.info? (Tryd.lays160_ren.t 116)).map (fun i => (i.zero, i.size)) = some (some (.agg (Array.replicate 256 (.bool false))), 256) := by kernel_rfl

theorem zTrim52 : ZOK Tryd.prog 52 (zPv pTrim) :=
  pTrim_ok Tryd.call52 fun s c w hs hc ha => Any.strings_Trim_ascii Tryd.lays160 (zero_of_info info116).1 (zero_of_info info116).2 s c w hs hc ha

theorem zCut37 : ZOK Tryd.prog 37 (zPv pCut) :=
  pCut_ok Tryd.call37 (g := 0) (by kernel_rfl) fun s c m w hs hm => (Tryd.strings_Cut s c m w hs hm).mono fun e w' ⟨he, n, hn⟩ => ⟨he, hn ▸ below_drewNg w n⟩

theorem zContainsAny39 : ZOK Tryd.prog 39 (zPv pContainsAny) :=
  pContainsAny_ok Tryd.call39 fun s c w h1 h2 h3 h4 => Tryd.strings_ContainsAny_laid s c w h1 h2 h3 h4

theorem zContains40 : ZOK Tryd.prog 40 zContains :=
  zContains_ok Tryd.call40 (g := 0) (by kernel_rfl) fun s sub m w hs hm => Tryd.strings_Contains s sub m w hs hm

theorem zHasPrefix81 : ZOK Tryd.prog 81 (zPv pHasPrefix) := pHasPrefix_ok Tryd.call81 Tryd.strings_HasPrefix

theorem zIndexByte85 : ZOK Tryd.prog 85 (zPv pIndexByte) := pIndexByte_ok Tryd.call85 Tryd.strings_IndexByte

theorem zIndexByte26 : ZOK Tryd.prog 26 (zPv pBytesIndexByte) :=
  pBytesIndexByte_ok Tryd.call26 fun a n c xs cv w h1 h2 => Tryd.bytes_IndexByte_at a n c xs cv w h1 h2

theorem zIndex44 : ZOK Tryd.prog 44 (zPvr pIndex) :=
  pIndex_ok Tryd.call44 (g := 0) (by kernel_rfl) fun a1 a2 n c1 k c2 xs ys m w hx hy h1 h2 hc1 hc2 hcap hs hk hm =>
    (Tryd.bytes_Index_at a1 a2 n c1 k c2 xs ys m w hx hy h1 h2 hc1 hc2 hcap hs hk hm).mono fun e w' ⟨he, n, hn⟩ => ⟨he, hn ▸ below_drewNg w n⟩

theorem zJoin67 : ZOK Tryd.prog 67 (zPvr pJoin) := pJoin_ok Tryd.call67 Tryd.strings_Join_none Tryd.strings_Join

def blank50 (c : Nat) : Bool := c == 32 || c == 9

theorem walk50 (w : World) : PredGrows Tryd.prog 50 #[] blank50 w := fun W x _ _ => by
  unfold encR
  go_enter Tryd.func50, Tryd.ntmps50
  have e : ((x : Int) == 32 || (x : Int) == 9) = blank50 x := by
    rw [Bool.eq_iff_iff]
    simp [blank50]
    omega
  go_wp2
  all_goals
    go_ret
    refine ⟨?_, RowKit.Below.refl _ _⟩
    rw [← e]
    simp_all

theorem zFields49 : ZOK Tryd.prog 49 (zPvr (pFields 50 blank50)) :=
  pFields_ok Tryd.call49 walk50 fun s w hs hp => Tryd.strings_FieldsFunc_grows 50 #[] Tryd.call50 blank50 s w hs hp

end Go.Hd

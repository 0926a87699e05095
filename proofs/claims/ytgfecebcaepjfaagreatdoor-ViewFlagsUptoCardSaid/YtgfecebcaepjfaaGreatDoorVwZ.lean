/- What the library's functions do for this seat, by their contracts. -/
import Derived.Test.YtgfecebcaepjfaaGreatDoorEvNu
import Derived.Test.YtgfecebcaepjfaaGreatDoorShV
import Derived.Shelf.Strings.SlTrimAscii
import Derived.Test.YtgfecebcaepjfaaGreatDoorProg
import Derived.KernelRfl
import Derived.Tactics
namespace Go.Vw
open Go Go.Ev Go.Proofs
set_option maxRecDepth 100000

theorem zJoin23 : ZOK Tryz.prog 23 (zOr (zPvr pJoin) (zPvr pJoinS)) :=
  zOr_ok (pJoin_ok Tryz.call23 Tryz.strings_Join_none Tryz.strings_Join) (pJoinS_ok Tryz.call23 Tryz.strings_Join_none Tryz.strings_Join)

theorem infoTrim : (Tryz.prog.info? (Tryz.lays160_ren.t 116)).map (fun i => (i.zero, i.size)) = some (some (.agg (Array.replicate 256 (.bool false))), 256) := by kernel_rfl

theorem zTrim166 : ZOK Tryz.prog 166 (zPv pTrim) :=
  pTrim_ok Tryz.call166 fun s c w hs hc ha => Any.strings_Trim_ascii Tryz.lays160 (zero_of_info infoTrim).1 (zero_of_info infoTrim).2 s c w hs hc ha

theorem zIndexByte95 : ZOK Tryz.prog 95 (zPv pIndexByte) := pIndexByte_ok Tryz.call95 Tryz.strings_IndexByte

theorem zBytesIndexByte109 : ZOK Tryz.prog 109 (zPv pBytesIndexByte) :=
  pBytesIndexByte_ok Tryz.call109 fun a n c xs cv w h1 h2 => Tryz.bytes_IndexByte_at a n c xs cv w h1 h2

theorem zIndex125 : ZOK Tryz.prog 125 (zPvr pIndexB) :=
  pIndexB_ok Tryz.call125 (g := 0) (by kernel_rfl) fun a1 a2 n c1 k c2 xs ys m w hx hy h1 h2 hc1 hc2 hcap hs hk hm =>
    (Tryz.bytes_Index_at a1 a2 n c1 k c2 xs ys m w hx hy h1 h2 hc1 hc2 hcap hs hk hm).mono fun e w' ⟨he, n, hn⟩ => ⟨he, hn ▸ below_drewNg w n⟩

end Go.Vw

/- What the library's functions do for this seat, by their contracts. -/
import Derived.Test.YtgfecebcaepjfaaGreatDoorEvNu
import Derived.Test.YtgfecebcaepjfaaGreatDoorMapL
import Derived.Test.YtgfecebcaepjfaaGreatDoorNewL
import Derived.Test.YtgfecebcaepjfaaGreatDoorVpA
import Derived.Test.YtgfecebcaepjfaaGreatDoorShV
import Derived.Shelf.Strings.SlTrimAscii
import Derived.Test.YtgfecebcaepjfaaGreatDoorProg
import Derived.KernelRfl
import Derived.Tactics
namespace Go.Vw
open Go Go.Ev Go.Proofs
set_option maxRecDepth 100000

theorem zJoin23 : ZOK Tryz.prog 23 (zOr (zPvr pJoin) (zPvr pJoinS)) :=
  zOr_ok (pJoin_ok Tryz.call23 Tryz.strings_Join_none Tryz.strings_Join) (pJoinS_ok Tryz.call23 Tryz.strings_Join_none Tryz.strings_Join)

theorem infoTrim : (Tryz.prog.info? (Tryz.lays160_ren.t 116)).map (fun i => (i.zero, i.size)) = some (some (.agg (Array.replicate 256 (.bool false))), 256) := by kernel_rfl

theorem zTrim166 : ZOK Tryz.prog 166 (zPv pTrim) :=
  pTrim_ok Tryz.call166 fun s c w hs hc ha => Any.strings_Trim_ascii Tryz.lays160 (zero_of_info infoTrim).1 (zero_of_info infoTrim).2 s c w hs hc ha

theorem zIndexByte95 : ZOK Tryz.prog 95 (zPv pIndexByte) := pIndexByte_ok Tryz.call95 Tryz.strings_IndexByte

theorem zBytesIndexByte109 : ZOK Tryz.prog 109 (zPv pBytesIndexByte) :=
  pBytesIndexByte_ok Tryz.call109 fun a n c xs cv w h1 h2 => Tryz.bytes_IndexByte_at a n c xs cv w h1 h2

theorem zIndex125 : ZOK Tryz.prog 125 (zPvr pIndexB) :=
  pIndexB_ok Tryz.call125 (g := 0) (by kernel_rfl) fun a1 a2 n c1 k c2 xs ys m w hx hy h1 h2 hc1 hc2 hcap hs hk hm =>
    (Tryz.bytes_Index_at a1 a2 n c1 k c2 xs ys m w hx hy h1 h2 hc1 hc2 hcap hs hk hm).mono fun e w' ⟨he, n, hn⟩ => ⟨he, hn ▸ below_drewNg w n⟩

theorem zCut98 : ZOK Tryz.prog 98 (zPv pCut) :=
  pCut_ok Tryz.call98 (g := 0) (by kernel_rfl) fun s c m w hs hm => (Tryz.strings_Cut s c m w hs hm).mono fun e w' ⟨he, n, hn⟩ => ⟨he, hn ▸ below_drewNg w n⟩

theorem zTrimRight175 : ZOK Tryz.prog 175 (zPv pTrimRight) :=
  pTrimRight_ok Tryz.call175 fun s c w hs hc ha => Any.strings_TrimRight_ascii Tryz.lays162 (zero_of_info infoTrim).1 (zero_of_info infoTrim).2 s c w hs hc ha

theorem zHasPrefix43 : ZOK Tryz.prog 43 (zPv pHasPrefix) := pHasPrefix_ok Tryz.call43 Tryz.strings_HasPrefix

theorem zValid169 : ZOK Tryz.prog 169 (zPv pValid) := pValid_ok Tryz.call169 (by kernel_rfl) (by kernel_rfl) Tryz.utf8_ValidString

def blank158 (c : Nat) : Bool := c == 32 || c == 9

theorem walk158 (w : World) : PredGrows Tryz.prog 158 #[] blank158 w := fun W x _ _ => by
  unfold encR
  go_enter Tryz.func158, Tryz.ntmps158
  have e : ((x : Int) == 32 || (x : Int) == 9) = blank158 x := by
    rw [Bool.eq_iff_iff]
    simp [blank158]
    omega
  go_wp2
  all_goals
    go_ret
    refine ⟨?_, RowKit.Below.refl _ _⟩
    rw [← e]
    simp_all

theorem zFields157 : ZOK Tryz.prog 157 (zPvr (pFields 158 blank158)) :=
  pFields_ok Tryz.call157 walk158 fun s w hs hp => Tryz.strings_FieldsFunc_grows 158 #[] Tryz.call158 blank158 s w hs hp

/-- strings.IndexAny, of ASCII texts -/
def pIndexAny : Pvs
  | [.s l, .s c] => some (decide (c.length < 4294967281) && ascii c && decide (l.length < 4294967281) && ascii l, .i .i64 (Lib.indexAny l c))
  | _ => none

theorem zIndexAny74 : ZOK Tryz.prog 74 (zPv pIndexAny) := by
  refine zPv_ok ⟨Tryz.call74, fun args v h w N μ H vals ht hr => ?_⟩
  unfold pIndexAny at h
  split at h
  · rename_i l c
    simp only [Option.some.injEq, Prod.mk.injEq, Bool.and_eq_true, decide_eq_true_eq] at h
    obtain ⟨⟨⟨⟨h2, h4⟩, h1⟩, h3⟩, rfl⟩ := h
    simp only [RelVs, RelV] at hr
    obtain ⟨_, _, rfl, rfl, _, _, rfl, rfl, rfl⟩ := hr
    refine (Tryz.strings_IndexAny_laid ⟨l.toArray⟩ ⟨c.toArray⟩ w (by simpa [ByteArray.size] using h1) (by simpa [ByteArray.size] using h2) (by simpa using ascii_at h3) (by simpa using ascii_at h4)).mono fun e w' ⟨he, bel⟩ => ⟨_, he, fun w1 N1 μ1 H1 => ?_, bel⟩
    simp [RelV]
  · cases h

end Go.Vw

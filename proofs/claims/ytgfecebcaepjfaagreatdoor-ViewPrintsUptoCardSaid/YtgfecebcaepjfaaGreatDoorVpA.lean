/- utf8.ValidString, told. -/
import Derived.Test.YtgfecebcaepjfaaGreatDoorEvNu
import Derived.Test.YtgfecebcaepjfaaGreatDoorShV
import Derived.Shelf.Unicode.ValidAny
namespace Go.Proofs
open Go.Shelf Go.RowKit Go.Lib
set_option maxRecDepth 100000
def Tryz.lays196_ren : Go.Shelf.Ren := ⟨fun | 196 => 169 | 259 => 191 | n => n, fun | 0 => 0 | 3 => 3 | 4 => 4 | 5 => 5 | 9 => 9 | 12 => 12 | 46 => 169 | 53 => 208 | 119 => 178 | 138 => 180 | 139 => 181 | n => n, fun | 3 => 1 | 4 => 2 | n => n⟩
theorem Tryz.lays196 : Go.Proofs.Lays.n196 Tryz.prog Tryz.lays196_ren := {
  mixed := by kernel_rfl
  f196 := Tryz.func169.trans (congrArg some (by kernel_rfl))
  f259 := Tryz.func191.trans (congrArg some (by kernel_rfl))
  t0 := Tryz.underlying0
  a0 := Tryz.isAgg0
  z0 := Tryz.sizeOf0
  v0 := Tryz.zeroValue0
  t3 := Tryz.underlying3
  a3 := Tryz.isAgg3
  z3 := Tryz.sizeOf3
  v3 := Tryz.zeroValue3
  t4 := Tryz.underlying4
  a4 := Tryz.isAgg4
  z4 := Tryz.sizeOf4
  v4 := Tryz.zeroValue4
  t5 := Tryz.underlying5
  a5 := Tryz.isAgg5
  z5 := Tryz.sizeOf5
  v5 := Tryz.zeroValue5
  t9 := Tryz.underlying9
  a9 := Tryz.isAgg9
  z9 := Tryz.sizeOf9
  v9 := Tryz.zeroValue9
  t12 := Tryz.underlying12
  a12 := Tryz.isAgg12
  z12 := Tryz.sizeOf12
  v12 := Tryz.zeroValue12
  t46 := Tryz.underlying169
  a46 := Tryz.isAgg169
  z46 := Tryz.sizeOf169
  v46 := Tryz.zeroValue169
  t53 := Tryz.underlying208
  a53 := Tryz.isAgg208
  z53 := Tryz.sizeOf208
  v53 := Tryz.zeroValue208
  t119 := Tryz.underlying178
  a119 := Tryz.isAgg178
  z119 := Tryz.sizeOf178
  t138 := Tryz.underlying180
  a138 := Tryz.isAgg180
  z138 := Tryz.sizeOf180
  v138 := Tryz.zeroValue180
  t139 := Tryz.underlying181
  a139 := Tryz.isAgg181
  z139 := Tryz.sizeOf181
  v139 := Tryz.zeroValue181
  g3 := by kernel_rfl
  g4 := by kernel_rfl
  }
theorem Tryz.utf8_ValidString (s : ByteArray) (w : World) (hs : s.size ≤ 9223372036854775807) (hT : Lib.Utf8Tabs 1 2 w) :
    Calls Tryz.prog 169 #[.string s] w fun e w' => e = .returned (.bool (Lib.validD s.data.toList)) ∧ Below w.heap.size w w' := Any.utf8_ValidString Tryz.lays196 s w hs hT
end Go.Proofs
namespace Go.Ev
open Go Go.Proofs

/-- utf8.ValidString -/
def pValid : Pvs
  | [.s l] => some (decide (l.length ≤ 9223372036854775807), .b (Lib.validD l))
  | _ => none

theorem pValid_ok {P : Program} {f : FuncId} {g3 g4 : Nat} (hen : Enters P f) (h3 : globAt P "unicode/utf8.first" = some g3) (h4 : globAt P "unicode/utf8.acceptRanges" = some g4)
    (hc : ∀ s w, s.size ≤ 9223372036854775807 → Lib.Utf8Tabs g3 g4 w → Calls P f #[.string s] w fun e w' => e = .returned (.bool (Lib.validD s.data.toList)) ∧ RowKit.Below w.heap.size w w') : ZOK P f (zPv pValid) := by
  refine zPv_ok ⟨hen, fun args v h w N μ H vals ht hr => ?_⟩
  unfold pValid at h
  split at h
  · rename_i l
    simp only [Option.some.injEq, Prod.mk.injEq, decide_eq_true_eq] at h
    obtain ⟨hl, rfl⟩ := h
    simp only [RelVs, RelV] at hr
    obtain ⟨_, _, rfl, rfl, rfl⟩ := hr
    refine (hc ⟨l.toArray⟩ w (by simpa [ByteArray.size] using hl) (ht.1 g3 g4 h3 h4)).mono fun e w' ⟨he, bel⟩ => ⟨_, he, fun w1 N1 μ1 H1 => ?_, bel⟩
    simp only [RelV]
  · cases h

end Go.Ev

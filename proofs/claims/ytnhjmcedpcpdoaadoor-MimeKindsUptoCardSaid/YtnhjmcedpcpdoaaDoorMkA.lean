/- utf8.ValidString, told. -/
import Derived.Test.YtnhjmcedpcpdoaaDoorMiZ
import Derived.Test.YtnhjmcedpcpdoaaDoorEvY
import Derived.Shelf.Unicode.ValidAny
namespace Go.Proofs
open Go.Shelf Go.RowKit Go.Lib
def Tryd.lays196_ren : Go.Shelf.Ren := ⟨fun | 196 => 65 | 259 => 79 | n => n, fun | 9 => 9 | 3 => 3 | 4 => 4 | 5 => 5 | 0 => 0 | 12 => 12 | 46 => 107 | 53 => 118 | 119 => 111 | 139 => 114 | 138 => 113 | n => n, fun | 3 => 1 | 4 => 2 | n => n⟩
theorem Tryd.lays196 : Go.Proofs.Lays.n196 Tryd.prog Tryd.lays196_ren := {
  mixed := by kernel_rfl
  f196 := Tryd.func65.trans (congrArg some (by kernel_rfl))
  f259 := Tryd.func79.trans (congrArg some (by kernel_rfl))
  t0 := Tryd.underlying0
  a0 := Tryd.isAgg0
  z0 := Tryd.sizeOf0
  v0 := Tryd.zeroValue0
  t3 := Tryd.underlying3
  a3 := Tryd.isAgg3
  z3 := Tryd.sizeOf3
  v3 := Tryd.zeroValue3
  t4 := Tryd.underlying4
  a4 := Tryd.isAgg4
  z4 := Tryd.sizeOf4
  v4 := Tryd.zeroValue4
  t5 := Tryd.underlying5
  a5 := Tryd.isAgg5
  z5 := Tryd.sizeOf5
  v5 := Tryd.zeroValue5
  t9 := Tryd.underlying9
  a9 := Tryd.isAgg9
  z9 := Tryd.sizeOf9
  v9 := Tryd.zeroValue9
  t12 := Tryd.underlying12
  a12 := Tryd.isAgg12
  z12 := Tryd.sizeOf12
  v12 := Tryd.zeroValue12
  t46 := Tryd.underlying107
  a46 := Tryd.isAgg107
  z46 := Tryd.sizeOf107
  v46 := Tryd.zeroValue107
  t53 := Tryd.underlying118
  a53 := Tryd.isAgg118
  z53 := Tryd.sizeOf118
  v53 := Tryd.zeroValue118
  t119 := Tryd.underlying111
  a119 := Tryd.isAgg111
  z119 := Tryd.sizeOf111
  t138 := Tryd.underlying113
  a138 := Tryd.isAgg113
  z138 := Tryd.sizeOf113
  v138 := Tryd.zeroValue113
  t139 := Tryd.underlying114
  a139 := Tryd.isAgg114
  z139 := Tryd.sizeOf114
  v139 := Tryd.zeroValue114
  g3 := by kernel_rfl
  g4 := by kernel_rfl }
theorem Tryd.utf8_ValidString (s : ByteArray) (w : World) (hs : s.size ≤ 9223372036854775807) (hT : Lib.Utf8Tabs 1 2 w) :
    Calls Tryd.prog 65 #[.string s] w fun e w' => e = .returned (.bool (Lib.validD s.data.toList)) ∧ Below w.heap.size w w' := Any.utf8_ValidString Tryd.lays196 s w hs hT
end Go.Proofs
namespace Go.Ev
open Go Go.Proofs

/-- utf8.ValidString -/
def pValid : Pvs
  | [.s l] => some (decide (l.length ≤ 9223372036854775807), .b (Lib.validD l))
  | _ => none

theorem pValid_ok {P : Program} {f : FuncId} {g3 g4 : Nat} (hen : Enters P f) (h3 : globAt P "unicode/utf8.first" = some g3) (h4 : globAt P "unicode/utf8.acceptRanges" = some g4)
    (hc : ∀ s w, s.size ≤ 9223372036854775807 → Lib.Utf8Tabs g3 g4 w → Calls P f #[.string s] w fun e w' => e = .returned (.bool (Lib.validD s.data.toList)) ∧ RowKit.Below w.heap.size w w') : ZOK P f (zPv pValid) := by
  refine zPv_ok ⟨hen, fun args v h w N μ H vals ht hr => ?_⟩
  unfold pValid at h
  split at h
  · rename_i l
    simp only [Option.some.injEq, Prod.mk.injEq, decide_eq_true_eq] at h
    obtain ⟨hl, rfl⟩ := h
    simp only [RelVs, RelV] at hr
    obtain ⟨_, _, rfl, rfl, rfl⟩ := hr
    refine (hc ⟨l.toArray⟩ w (by simpa [ByteArray.size] using hl) (ht.1 g3 g4 h3 h4)).mono fun e w' ⟨he, bel⟩ => ⟨_, he, fun w1 N1 μ1 H1 => ?_, bel⟩
    simp only [RelV]
  · cases h

end Go.Ev
namespace Go.Mi
open Go Go.Ev
theorem zValid65 : ZOK Go.Proofs.Tryd.prog 65 (zPv pValid) := pValid_ok Go.Proofs.Tryd.call65 (by kernel_rfl) (by kernel_rfl) Go.Proofs.Tryd.utf8_ValidString
end Go.Mi

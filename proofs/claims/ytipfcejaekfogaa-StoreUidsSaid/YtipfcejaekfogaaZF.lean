/- Texts that the last one leans on, 6. -/
import Derived.Test.YtipfcejaekfogaaZE
import Derived.Shelf.Strings.Builder1
import Derived.Shelf.Small.Bits
import Derived.Shelf.Small.Strs
import Derived.Shelf.Small.Wraps
import Derived.Shelf.Strings.BuilderF
import Derived.Shelf.Strings.BuilderK
import Derived.Shelf.Strings.BuilderRune
import Derived.Shelf.Utf8.AppendRune
import Derived.Shelf.Utf8.AppendRunePlain
import Derived.Shelf.Strconv.Itoa0
import Derived.Shelf.Strings.Prefix
import Derived.Shelf.Strings.BuilderCap
import Derived.Ground.Names2Prog
import Derived.Shelf.Slices.SearchI
import Derived.Lib.ValidLaws
import Derived.Lib.TrimUEq
import Derived.Lib.MapLaws
import Derived.WalkKit
import Derived.BigCall
import Derived.Deep.LoopGhost
import Derived.Deep.DeepMust
import Derived.Deep.DeepBigQuietO
import Derived.Deep.CutBlock
import Derived.Deep.DeepCutAuto
import Derived.RangeFuncRecord
import Derived.Laws.IdiomCopy
import Derived.Shelf.SlMaps.Clone
import Derived.Shelf.Spec.SlicesInsertGrow
import Derived.Shelf.Slices.Delete
/-
  DERIVED: THE SHELF's CONTRACTS AT THIS DUMP, IN PLAIN WORDS (tools/lay-plain.mjs out of 'YtipfcejaekfogaaShelf.lean', which tools/lay-shelf.mjs wrote): THE SAME DECLARATIONS UNDER THE SAME NAMES: 'import', 'namespace', 'open', 'def', 'theorem' AND NOTHING ELSE: no command of the shelf's: FOR A HAND-IN. Each laying: the table of numbers ('.._ren') and one theorem, a field a fact of the dump's own or the kernel's comparison; each contract: ONE APPLICATION.
-/
namespace Go.Proofs
open Go.Shelf
def Try.lays169_ren : Go.Shelf.Ren := ⟨fun | 169 => 71 | n => n, fun | 70 => 117 | 9 => 9 | 0 => 0 | 72 => 119 | 37 => 27 | 127 => 114 | 3 => 3 | 5 => 5 | n => n, fun | n => n⟩
theorem Try.lays169 : Go.Proofs.Lays.n169 Try.prog Try.lays169_ren := {
  mixed := by kernel_rfl
  f169 := Try.func71.trans (congrArg some (by kernel_rfl))
  t0 := Try.underlying0
  a0 := Try.isAgg0
  z0 := Try.sizeOf0
  v0 := Try.zeroValue0
  t3 := Try.underlying3
  a3 := Try.isAgg3
  z3 := Try.sizeOf3
  v3 := Try.zeroValue3
  t9 := Try.underlying9
  a9 := Try.isAgg9
  z9 := Try.sizeOf9
  v9 := Try.zeroValue9
  t37 := Try.underlying27
  a37 := Try.isAgg27
  z37 := Try.sizeOf27
  v37 := Try.zeroValue27
  t70 := Try.underlying117
  a70 := Try.isAgg117
  z70 := Try.sizeOf117
  v70 := Try.zeroValue117
  t72 := Try.underlying119
  a72 := Try.isAgg119
  z72 := Try.sizeOf119
  v72 := Try.zeroValue119
  t127 := Try.underlying114
  a127 := Try.isAgg114
  z127 := Try.sizeOf114
  v127 := Try.zeroValue114 }
theorem Try.Builder_Extra_169 : Builder.Extra Try.prog Try.lays169_ren := {
  sizeBuilder := by kernel_rfl
  liesBuilder := by kernel_rfl
  t5 := Try.underlying5
  a5 := Try.isAgg5
  z5 := Try.sizeOf5
  v5 := Try.zeroValue5
  infoByte := by kernel_rfl
  cellsByte := by kernel_rfl
  sizeByte := by kernel_rfl
  neB5 := by decide }
open Go.RowKit in
/-- (*strings.Builder).String: "String returns the accumulated string.": OF A BUILDER THAT HOLDS AT LEAST ONE BYTE. ✋ THE MODEL FREEZES THOSE BYTES IN THE BUFFER (unsafe.String): a later write INTO them ends the model's run without an answer; a later append BEHIND them goes on. The statement's order of evaluation is drawn: one draw. (LAID: no walk: one application.) -/
theorem Try.Builder_String (B b : Nat) (l : List UInt8) (w : World) (h : Lib.IsBuilder 119 5 B b (Lib.byteCells l) w) (h0 : l ≠ []) :
    Calls Try.prog 71 #[.pointer (some ⟨b, 0, none⟩)] w fun e w' => e = .returned (.string ⟨l.toArray⟩) ∧ Below B w w' := Any.Builder_String Try.lays169 Try.Builder_Extra_169 B b l w h h0
open Go.RowKit in
/-- (*strings.Builder).String OF A BUILDER THAT HOLDS NO BYTE: the empty string. (Its buffer is nil, or a row of which it has taken nothing yet; where that row has NO capacity the model lays one new block for unsafe.SliceData's 'some address'.) One draw. (LAID: no walk: one application.) -/
theorem Try.Builder_String_empty (B b : Nat) (w : World) (h : Lib.IsBuilder 119 5 B b [] w) (hBw : B ≤ w.heap.size) :
    Calls Try.prog 71 #[.pointer (some ⟨b, 0, none⟩)] w fun e w' => e = .returned (.string ⟨#[]⟩) ∧ Below B w w' := Any.Builder_String_empty Try.lays169 Try.Builder_Extra_169 B b w h hBw
open Go.RowKit in
/-- (*strings.Builder).String: "String returns the accumulated string.": WHATEVER THE BUILDER HOLDS. (LAID: no walk: one application.) -/
theorem Try.Builder_String_any (B b : Nat) (l : List UInt8) (w : World) (h : Lib.IsBuilder 119 5 B b (Lib.byteCells l) w) (hBw : B ≤ w.heap.size) :
    Calls Try.prog 71 #[.pointer (some ⟨b, 0, none⟩)] w fun e w' => e = .returned (.string ⟨l.toArray⟩) ∧ Below B w w' := Any.Builder_String_any Try.lays169 Try.Builder_Extra_169 B b l w h hBw
def Try.lays128_ren : Go.Shelf.Ren := ⟨fun | 128 => 84 | n => n, fun | 51 => 136 | 3 => 3 | 4 => 4 | 46 => 71 | 5 => 5 | 9 => 9 | n => n, fun | n => n⟩
theorem Try.lays128 : Go.Proofs.Lays.n128 Try.prog Try.lays128_ren := {
  mixed := by kernel_rfl
  f128 := Try.func84.trans (congrArg some (by kernel_rfl))
  t3 := Try.underlying3
  a3 := Try.isAgg3
  z3 := Try.sizeOf3
  v3 := Try.zeroValue3
  t4 := Try.underlying4
  a4 := Try.isAgg4
  z4 := Try.sizeOf4
  v4 := Try.zeroValue4
  t5 := Try.underlying5
  a5 := Try.isAgg5
  z5 := Try.sizeOf5
  v5 := Try.zeroValue5
  t9 := Try.underlying9
  a9 := Try.isAgg9
  z9 := Try.sizeOf9
  v9 := Try.zeroValue9
  t46 := Try.underlying71
  a46 := Try.isAgg71
  z46 := Try.sizeOf71
  v46 := Try.zeroValue71
  t51 := Try.underlying136
  a51 := Try.isAgg136
  z51 := Try.sizeOf136
  v51 := Try.zeroValue136 }
/-- bits.Len32: "Len32 returns the minimum number of bits required to represent x; the result is 0 for x == 0.": IT RETURNS 'Lib.bitLen x'; the world is as it was. ('h0', 'h1': x is a uint32.) (LAID: no walk: one application.) -/
theorem Try.bits_Len32 (x : Int) (w : World) (h0 : 0 ≤ x) (h1 : x ≤ 4294967295) :
    Calls Try.prog 84 #[.int .u32 x] w fun e w' => e = .returned (.int .i64 (Lib.bitLen x.toNat)) ∧ w' = w := Any.bits_Len32 Try.lays128 x w h0 h1
def Try.lays125_ren : Go.Shelf.Ren := ⟨fun | 125 => 62 | 128 => 84 | 129 => 85 | n => n, fun | 46 => 71 | 3 => 3 | 51 => 136 | 53 => 138 | 4 => 4 | 5 => 5 | 9 => 9 | n => n, fun | n => n⟩
theorem Try.lays125 : Go.Proofs.Lays.n125 Try.prog Try.lays125_ren := {
  mixed := by kernel_rfl
  f125 := Try.func62.trans (congrArg some (by kernel_rfl))
  f128 := Try.func84.trans (congrArg some (by kernel_rfl))
  f129 := Try.func85.trans (congrArg some (by kernel_rfl))
  t3 := Try.underlying3
  a3 := Try.isAgg3
  z3 := Try.sizeOf3
  v3 := Try.zeroValue3
  t4 := Try.underlying4
  a4 := Try.isAgg4
  z4 := Try.sizeOf4
  v4 := Try.zeroValue4
  t5 := Try.underlying5
  a5 := Try.isAgg5
  z5 := Try.sizeOf5
  v5 := Try.zeroValue5
  t9 := Try.underlying9
  a9 := Try.isAgg9
  z9 := Try.sizeOf9
  v9 := Try.zeroValue9
  t46 := Try.underlying71
  a46 := Try.isAgg71
  z46 := Try.sizeOf71
  v46 := Try.zeroValue71
  t51 := Try.underlying136
  a51 := Try.isAgg136
  z51 := Try.sizeOf136
  v51 := Try.zeroValue136
  t53 := Try.underlying138
  a53 := Try.isAgg138
  z53 := Try.sizeOf138
  v53 := Try.zeroValue138 }
/-- bits.Len: "Len returns the minimum number of bits required to represent x; the result is 0 for x == 0.": IT RETURNS 'Lib.bitLen x'; the world is as it was. (A uint has 64 bits in the model.) ITS CALLEE bits.Len64 IS MET BY ITS OWN CONTRACT OFF THE SHELF (lay that first). (LAID: no walk: one application.) -/
theorem Try.bits_Len (x : Int) (w : World) (h0 : 0 ≤ x) (h1 : x ≤ 18446744073709551615) :
    Calls Try.prog 62 #[.int .u64 x] w fun e w' => e = .returned (.int .i64 (Lib.bitLen x.toNat)) ∧ w' = w := Any.bits_Len Try.lays125 x w h0 h1
def Try.lays213_ren : Go.Shelf.Ren := ⟨fun | 213 => 27 | 265 => 49 | n => n, fun | 9 => 9 | 3 => 3 | n => n, fun | n => n⟩
theorem Try.lays213 : Go.Proofs.Lays.n213 Try.prog Try.lays213_ren := {
  mixed := by kernel_rfl
  f213 := Try.func27.trans (congrArg some (by kernel_rfl))
  f265 := Try.func49.trans (congrArg some (by kernel_rfl))
  t3 := Try.underlying3
  a3 := Try.isAgg3
  z3 := Try.sizeOf3
  v3 := Try.zeroValue3
  t9 := Try.underlying9
  a9 := Try.isAgg9
  z9 := Try.sizeOf9
  v9 := Try.zeroValue9 }
open Go.RowKit in
/-- internal/bytealg.CompareString (what strings.Compare calls): IT RETURNS 'Lib.compareBytes a b'; the world is as it was. (LAID: no walk: one application.) -/
theorem Try.bytealg_CompareString (a b : ByteArray) (w : World) :
    Calls Try.prog 27 #[.string a, .string b] w fun e w' => e = .returned (.int .i64 (Lib.compareBytes a.data.toList b.data.toList)) ∧ w' = w := Any.bytealg_CompareString Try.lays213 a b w
def Try.lays106_ren : Go.Shelf.Ren := ⟨fun | 106 => 17 | 213 => 27 | 265 => 49 | n => n, fun | 9 => 9 | 3 => 3 | n => n, fun | n => n⟩
theorem Try.lays106 : Go.Proofs.Lays.n106 Try.prog Try.lays106_ren := {
  mixed := by kernel_rfl
  f106 := Try.func17.trans (congrArg some (by kernel_rfl))
  f213 := Try.func27.trans (congrArg some (by kernel_rfl))
  f265 := Try.func49.trans (congrArg some (by kernel_rfl))
  t3 := Try.underlying3
  a3 := Try.isAgg3
  z3 := Try.sizeOf3
  v3 := Try.zeroValue3
  t9 := Try.underlying9
  a9 := Try.isAgg9
  z9 := Try.sizeOf9
  v9 := Try.zeroValue9 }
open Go.RowKit in
/-- strings.Compare: "Compare returns an integer comparing two strings lexicographically. The result will be 0 if a == b, -1 if a < b, and +1 if a > b.": IT RETURNS 'Lib.compareBytes a b'; the world is as it was. (LAID: no walk: one application.) -/
theorem Try.strings_Compare (a b : ByteArray) (w : World) :
    Calls Try.prog 17 #[.string a, .string b] w fun e w' => e = .returned (.int .i64 (Lib.compareBytes a.data.toList b.data.toList)) ∧ w' = w := Any.strings_Compare Try.lays106 a b w
def Try.lays215_ren : Go.Shelf.Ren := ⟨fun | 215 => 99 | n => n, fun | 3 => 3 | 4 => 4 | n => n, fun | n => n⟩
theorem Try.lays215 : Go.Proofs.Lays.n215 Try.prog Try.lays215_ren := {
  mixed := by kernel_rfl
  f215 := Try.func99.trans (congrArg some (by kernel_rfl))
  t3 := Try.underlying3
  a3 := Try.isAgg3
  z3 := Try.sizeOf3
  v3 := Try.zeroValue3
  t4 := Try.underlying4
  a4 := Try.isAgg4
  z4 := Try.sizeOf4
  v4 := Try.zeroValue4 }
open Go.RowKit in
/-- cmp.isNaN at int: 'x != x': false. (LAID: no walk: one application.) -/
theorem Try.cmp_isNaN_int (x : Int) (w : World) :
    Calls Try.prog 99 #[.int .i64 x] w fun e w' => e = .returned (.bool false) ∧ w' = w := Any.cmp_isNaN_int Try.lays215 x w
def Try.lays122_ren : Go.Shelf.Ren := ⟨fun | 122 => 88 | 215 => 99 | n => n, fun | 3 => 3 | 4 => 4 | n => n, fun | n => n⟩
theorem Try.lays122 : Go.Proofs.Lays.n122 Try.prog Try.lays122_ren := {
  mixed := by kernel_rfl
  f122 := Try.func88.trans (congrArg some (by kernel_rfl))
  f215 := Try.func99.trans (congrArg some (by kernel_rfl))
  t3 := Try.underlying3
  a3 := Try.isAgg3
  z3 := Try.sizeOf3
  v3 := Try.zeroValue3
  t4 := Try.underlying4
  a4 := Try.isAgg4
  z4 := Try.sizeOf4
  v4 := Try.zeroValue4 }
open Go.RowKit in
/-- cmp.Compare at int: "Compare returns -1 if x is less than y, 0 if x equals y, +1 if x is greater than y.": IT RETURNS 'Lib.compareInt x y'; the world is as it was. (LAID: no walk: one application.) -/
theorem Try.cmp_Compare_int (x y : Int) (w : World) :
    Calls Try.prog 88 #[.int .i64 x, .int .i64 y] w fun e w' => e = .returned (.int .i64 (Lib.compareInt x y)) ∧ w' = w := Any.cmp_Compare_int Try.lays122 x y w
open Go.RowKit in
/-- (*strings.Builder).String: "String returns the accumulated string.": OF A BUILDER THAT HOLDS AT LEAST ONE BYTE. ✋ THE MODEL FREEZES THOSE BYTES IN THE BUFFER (unsafe.String): a later write INTO them ends the model's run without an answer; a later append BEHIND them goes on. The statement's order of evaluation is drawn: one draw. THE FORM '_f': IT SAYS BESIDES THAT THE BUILDER IS A BUILDER STILL ('Lib.IsBuilderF', the same bytes): SO IT CAN BE WRITTEN ON: 'b.WriteString(b.String()[:k])'. (LAID: no walk: one application.) -/
theorem Try.Builder_String_f (B b : Nat) (l : List UInt8) (w : World) (h : Lib.IsBuilderF 119 5 B b (Lib.byteCells l) w) (h0 : l ≠ []) :
    Calls Try.prog 71 #[.pointer (some ⟨b, 0, none⟩)] w fun e w' => e = .returned (.string ⟨l.toArray⟩) ∧ (Lib.IsBuilderF 119 5 B b (Lib.byteCells l) w' ∧ Below B w w') := Any.Builder_String_f Try.lays169 Try.Builder_Extra_169 B b l w h h0
open Go.RowKit in
/-- (*strings.Builder).String OF A BUILDER THAT HOLDS NO BYTE: the empty string; THE FORM '_f': a builder still. (LAID: no walk: one application.) -/
theorem Try.Builder_String_empty_f (B b : Nat) (w : World) (h : Lib.IsBuilderF 119 5 B b [] w) (hBw : B ≤ w.heap.size) :
    Calls Try.prog 71 #[.pointer (some ⟨b, 0, none⟩)] w fun e w' => e = .returned (.string ⟨#[]⟩) ∧ (Lib.IsBuilderF 119 5 B b [] w' ∧ Below B w w') := Any.Builder_String_empty_f Try.lays169 Try.Builder_Extra_169 B b w h hBw
open Go.RowKit in
/-- (*strings.Builder).String: "String returns the accumulated string.": WHATEVER THE BUILDER HOLDS; THE FORM '_f': OF A BUILDER THAT MAY HAVE BEEN READ BEFORE; AND IT IS A BUILDER STILL, holding the same bytes: it can be written on. (LAID: no walk: one application.) -/
theorem Try.Builder_String_any_f (B b : Nat) (l : List UInt8) (w : World) (h : Lib.IsBuilderF 119 5 B b (Lib.byteCells l) w) (hBw : B ≤ w.heap.size) :
    Calls Try.prog 71 #[.pointer (some ⟨b, 0, none⟩)] w fun e w' => e = .returned (.string ⟨l.toArray⟩) ∧ (Lib.IsBuilderF 119 5 B b (Lib.byteCells l) w' ∧ Below B w w') := Any.Builder_String_any_f Try.lays169 Try.Builder_Extra_169 B b l w h hBw
open Go.RowKit in
/-- (*strings.Builder).String: "String returns the accumulated string.": OF A BUILDER THAT HOLDS AT LEAST ONE BYTE. ✋ THE MODEL FREEZES THOSE BYTES IN THE BUFFER (unsafe.String): a later write INTO them ends the model's run without an answer; a later append BEHIND them goes on. The statement's order of evaluation is drawn: one draw. THE FORM '_k': OVER 'Lib.IsBuilderF' (a builder that 'String()' may have read), AND WITH THE FRAME THAT REACHES ABOVE THE BUILDER: 'Lib.OthersKept': every block that is not b and is no row of uint8's stands as it stood: the iterator of a range among them. (LAID: no walk: one application.) -/
theorem Try.Builder_String_k (B b : Nat) (l : List UInt8) (w : World) (h : Lib.IsBuilderF 119 5 B b (Lib.byteCells l) w) (h0 : l ≠ []) :
    Calls Try.prog 71 #[.pointer (some ⟨b, 0, none⟩)] w fun e w' => e = .returned (.string ⟨l.toArray⟩) ∧ (Lib.IsBuilderF 119 5 B b (Lib.byteCells l) w' ∧ Below B w w' ∧ Lib.OthersKept 5 (some b) w w') := Any.Builder_String_k Try.lays169 Try.Builder_Extra_169 B b l w h h0
open Go.RowKit in
/-- (*strings.Builder).String OF A BUILDER THAT HOLDS NO BYTE: the empty string; THE FORM '_k': OVER 'Lib.IsBuilderF' (a builder that 'String()' may have read), AND WITH THE FRAME THAT REACHES ABOVE THE BUILDER: 'Lib.OthersKept': every block that is not b and is no row of uint8's stands as it stood: the iterator of a range among them. (LAID: no walk: one application.) -/
theorem Try.Builder_String_empty_k (B b : Nat) (w : World) (h : Lib.IsBuilderF 119 5 B b [] w) (hBw : B ≤ w.heap.size) :
    Calls Try.prog 71 #[.pointer (some ⟨b, 0, none⟩)] w fun e w' => e = .returned (.string ⟨#[]⟩) ∧ (Lib.IsBuilderF 119 5 B b [] w' ∧ Below B w w' ∧ Lib.OthersKept 5 (some b) w w') := Any.Builder_String_empty_k Try.lays169 Try.Builder_Extra_169 B b w h hBw
open Go.RowKit in
/-- (*strings.Builder).String: "String returns the accumulated string.": WHATEVER THE BUILDER HOLDS; THE FORM '_k': OVER 'Lib.IsBuilderF' (a builder that 'String()' may have read), AND WITH THE FRAME THAT REACHES ABOVE THE BUILDER: 'Lib.OthersKept': every block that is not b and is no row of uint8's stands as it stood: the iterator of a range among them. (LAID: no walk: one application.) -/
theorem Try.Builder_String_any_k (B b : Nat) (l : List UInt8) (w : World) (h : Lib.IsBuilderF 119 5 B b (Lib.byteCells l) w) (hBw : B ≤ w.heap.size) :
    Calls Try.prog 71 #[.pointer (some ⟨b, 0, none⟩)] w fun e w' => e = .returned (.string ⟨l.toArray⟩) ∧ (Lib.IsBuilderF 119 5 B b (Lib.byteCells l) w' ∧ Below B w w' ∧ Lib.OthersKept 5 (some b) w w') := Any.Builder_String_any_k Try.lays169 Try.Builder_Extra_169 B b l w h hBw
def Try.lays278_ren : Go.Shelf.Ren := ⟨fun | 278 => 101 | n => n, fun | 37 => 27 | 21 => 21 | 51 => 136 | 4 => 4 | 46 => 71 | 5 => 5 | n => n, fun | n => n⟩
theorem Try.lays278 : Go.Proofs.Lays.n278 Try.prog Try.lays278_ren := {
  mixed := by kernel_rfl
  f278 := Try.func101.trans (congrArg some (by kernel_rfl))
  t4 := Try.underlying4
  a4 := Try.isAgg4
  z4 := Try.sizeOf4
  v4 := Try.zeroValue4
  t5 := Try.underlying5
  a5 := Try.isAgg5
  z5 := Try.sizeOf5
  v5 := Try.zeroValue5
  t21 := Try.underlying21
  a21 := Try.isAgg21
  z21 := Try.sizeOf21
  v21 := Try.zeroValue21
  t37 := Try.underlying27
  a37 := Try.isAgg27
  z37 := Try.sizeOf27
  v37 := Try.zeroValue27
  t46 := Try.underlying71
  a46 := Try.isAgg71
  z46 := Try.sizeOf71
  v46 := Try.zeroValue71
  t51 := Try.underlying136
  a51 := Try.isAgg136
  z51 := Try.sizeOf136
  v51 := Try.zeroValue136 }
open Go.RowKit in
/-- unicode/utf8.appendRuneNonASCII (what AppendRune calls for all but ASCII), ONTO A ROW OF BYTES THAT THE CALL OWNS: every int32 that is no ASCII rune: 'Lib.runeCells r' goes in behind what the row holds. (LAID: no walk: one application.) -/
theorem Try.utf8_appendRuneNonASCII_row (B : Nat) (v : Value) (n : Nat) (xs : List Value) (r : Int) (hr0 : -2147483648 ≤ r) (hr1 : r ≤ 2147483647) (hna : r < 0 ∨ 128 ≤ r) (w : World) (hown : w.ownsRowF B 5 1 v n xs) (hlen : n + 4 ≤ 140737488355328) (hBw : B ≤ w.heap.size) :
    Calls Try.prog 101 #[v, .int .i32 r] w fun e w' => ∃ v', e = .returned v' ∧ w'.ownsRowF B 5 1 v' (n + (Lib.runeCells r).length) (xs ++ Lib.runeCells r) ∧ ∃ o, (w.alloc o).grownBy w' v.ownBlock := Any.utf8_appendRuneNonASCII_row Try.lays278 (by kernel_rfl) B v n xs r hr0 hr1 hna w hown hlen hBw
def Try.lays242_ren : Go.Shelf.Ren := ⟨fun | 242 => 91 | 278 => 101 | n => n, fun | 37 => 27 | 21 => 21 | 51 => 136 | 4 => 4 | 5 => 5 | 46 => 71 | n => n, fun | n => n⟩
theorem Try.lays242 : Go.Proofs.Lays.n242 Try.prog Try.lays242_ren := {
  mixed := by kernel_rfl
  f242 := Try.func91.trans (congrArg some (by kernel_rfl))
  f278 := Try.func101.trans (congrArg some (by kernel_rfl))
  t4 := Try.underlying4
  a4 := Try.isAgg4
  z4 := Try.sizeOf4
  v4 := Try.zeroValue4
  t5 := Try.underlying5
  a5 := Try.isAgg5
  z5 := Try.sizeOf5
  v5 := Try.zeroValue5
  t21 := Try.underlying21
  a21 := Try.isAgg21
  z21 := Try.sizeOf21
  v21 := Try.zeroValue21
  t37 := Try.underlying27
  a37 := Try.isAgg27
  z37 := Try.sizeOf27
  v37 := Try.zeroValue27
  t46 := Try.underlying71
  a46 := Try.isAgg71
  z46 := Try.sizeOf71
  v46 := Try.zeroValue71
  t51 := Try.underlying136
  a51 := Try.isAgg136
  z51 := Try.sizeOf136
  v51 := Try.zeroValue136 }
open Go.RowKit in
/-- unicode/utf8.AppendRune: "AppendRune appends the UTF-8 encoding of r to the end of p and returns the extended buffer. If the rune is out of range, it appends the encoding of RuneError.": ONTO A ROW OF BYTES THAT THE CALL OWNS (its head frozen or not): EVERY int32: 'Lib.runeCells r' goes in behind what the row holds; the world: one new block (the bytes as the call's variadic argument), then what 'append' does to the row. (LAID: no walk: one application.) -/
theorem Try.utf8_AppendRune_row (B : Nat) (v : Value) (n : Nat) (xs : List Value) (r : Int) (hr0 : -2147483648 ≤ r) (hr1 : r ≤ 2147483647) (w : World) (hown : w.ownsRowF B 5 1 v n xs) (hlen : n + 4 ≤ 140737488355328) (hBw : B ≤ w.heap.size) :
    Calls Try.prog 91 #[v, .int .i32 r] w fun e w' => ∃ v', e = .returned v' ∧ w'.ownsRowF B 5 1 v' (n + (Lib.runeCells r).length) (xs ++ Lib.runeCells r) ∧ ∃ o, (w.alloc o).grownBy w' v.ownBlock := Any.utf8_AppendRune_row Try.lays242 (by kernel_rfl) B v n xs r hr0 hr1 w hown hlen hBw
open Go.RowKit in
/-- unicode/utf8.appendRuneNonASCII (what AppendRune calls for all but ASCII), ONTO A ROW OF BYTES THAT THE CALL OWNS: every int32 that is no ASCII rune: 'Lib.runeCells r' goes in behind what the row holds. (LAID: no walk: one application.) -/
theorem Try.utf8_appendRuneNonASCII_plain (B : Nat) (v : Value) (n : Nat) (xs : List Value) (r : Int) (hr0 : -2147483648 ≤ r) (hr1 : r ≤ 2147483647) (hna : r < 0 ∨ 128 ≤ r) (w : World) (hown : w.ownsRow B 5 1 v n xs) (hlen : n + 4 ≤ 140737488355328) (hBw : B ≤ w.heap.size) :
    Calls Try.prog 101 #[v, .int .i32 r] w fun e w' => ∃ v', e = .returned v' ∧ w'.ownsRow B 5 1 v' (n + (Lib.runeCells r).length) (xs ++ Lib.runeCells r) ∧ ∃ o, (w.alloc o).grownBy w' v.ownBlock := Any.utf8_appendRuneNonASCII_plain Try.lays278 (by kernel_rfl) B v n xs r hr0 hr1 hna w hown hlen hBw
open Go.RowKit in
/-- unicode/utf8.AppendRune: "AppendRune appends the UTF-8 encoding of r to the end of p and returns the extended buffer. If the rune is out of range, it appends the encoding of RuneError.": ONTO A ROW OF BYTES THAT THE CALL OWNS (its head frozen or not): EVERY int32: 'Lib.runeCells r' goes in behind what the row holds; the world: one new block (the bytes as the call's variadic argument), then what 'append' does to the row. (LAID: no walk: one application.) -/
theorem Try.utf8_AppendRune_plain (B : Nat) (v : Value) (n : Nat) (xs : List Value) (r : Int) (hr0 : -2147483648 ≤ r) (hr1 : r ≤ 2147483647) (w : World) (hown : w.ownsRow B 5 1 v n xs) (hlen : n + 4 ≤ 140737488355328) (hBw : B ≤ w.heap.size) :
    Calls Try.prog 91 #[v, .int .i32 r] w fun e w' => ∃ v', e = .returned v' ∧ w'.ownsRow B 5 1 v' (n + (Lib.runeCells r).length) (xs ++ Lib.runeCells r) ∧ ∃ o, (w.alloc o).grownBy w' v.ownBlock := Any.utf8_AppendRune_plain Try.lays242 (by kernel_rfl) B v n xs r hr0 hr1 w hown hlen hBw
def Try.lays129_ren : Go.Shelf.Ren := ⟨fun | 129 => 85 | n => n, fun | 53 => 138 | 3 => 3 | 4 => 4 | 46 => 71 | 5 => 5 | 9 => 9 | n => n, fun | n => n⟩
theorem Try.lays129 : Go.Proofs.Lays.n129 Try.prog Try.lays129_ren := {
  mixed := by kernel_rfl
  f129 := Try.func85.trans (congrArg some (by kernel_rfl))
  t3 := Try.underlying3
  a3 := Try.isAgg3
  z3 := Try.sizeOf3
  v3 := Try.zeroValue3
  t4 := Try.underlying4
  a4 := Try.isAgg4
  z4 := Try.sizeOf4
  v4 := Try.zeroValue4
  t5 := Try.underlying5
  a5 := Try.isAgg5
  z5 := Try.sizeOf5
  v5 := Try.zeroValue5
  t9 := Try.underlying9
  a9 := Try.isAgg9
  z9 := Try.sizeOf9
  v9 := Try.zeroValue9
  t46 := Try.underlying71
  a46 := Try.isAgg71
  z46 := Try.sizeOf71
  v46 := Try.zeroValue71
  t53 := Try.underlying138
  a53 := Try.isAgg138
  z53 := Try.sizeOf138
  v53 := Try.zeroValue138 }
/-- bits.Len64: "Len64 returns the minimum number of bits required to represent x; the result is 0 for x == 0.": IT RETURNS 'Lib.bitLen x'; the world is as it was. ('h0', 'h1': x is a uint64.) (LAID: no walk: one application.) -/
theorem Try.bits_Len64 (x : Int) (w : World) (h0 : 0 ≤ x) (h1 : x ≤ 18446744073709551615) :
    Calls Try.prog 85 #[.int .u64 x] w fun e w' => e = .returned (.int .i64 (Lib.bitLen x.toNat)) ∧ w' = w := Any.bits_Len64 Try.lays129 x w h0 h1
def Try.lays206_ren : Go.Shelf.Ren := ⟨fun | 206 => 75 | n => n, fun | 9 => 9 | 4 => 4 | 3 => 3 | n => n, fun | n => n⟩
theorem Try.lays206 : Go.Proofs.Lays.n206 Try.prog Try.lays206_ren := {
  mixed := by kernel_rfl
  f206 := Try.func75.trans (congrArg some (by kernel_rfl))
  t3 := Try.underlying3
  a3 := Try.isAgg3
  z3 := Try.sizeOf3
  v3 := Try.zeroValue3
  t4 := Try.underlying4
  a4 := Try.isAgg4
  z4 := Try.sizeOf4
  v4 := Try.zeroValue4
  t9 := Try.underlying9
  a9 := Try.isAgg9
  z9 := Try.sizeOf9
  v9 := Try.zeroValue9 }
open Go.RowKit Go.Lib in
/-- internal/stringslite.HasPrefix (what strings.HasPrefix calls). (LAID: no walk: one application.) -/
theorem Try.stringslite_HasPrefix (s p : ByteArray) (w : World) :
    Calls Try.prog 75 #[.string s, .string p] w fun e w' => e = .returned (.bool (Lib.hasPrefix s.data.toList p.data.toList)) ∧ w' = w := Any.stringslite_HasPrefix Try.lays206 s p w
def Try.lays99_ren : Go.Shelf.Ren := ⟨fun | 99 => 60 | 206 => 75 | n => n, fun | 9 => 9 | 4 => 4 | 3 => 3 | n => n, fun | n => n⟩
theorem Try.lays99 : Go.Proofs.Lays.n99 Try.prog Try.lays99_ren := {
  mixed := by kernel_rfl
  f99 := Try.func60.trans (congrArg some (by kernel_rfl))
  f206 := Try.func75.trans (congrArg some (by kernel_rfl))
  t3 := Try.underlying3
  a3 := Try.isAgg3
  z3 := Try.sizeOf3
  v3 := Try.zeroValue3
  t4 := Try.underlying4
  a4 := Try.isAgg4
  z4 := Try.sizeOf4
  v4 := Try.zeroValue4
  t9 := Try.underlying9
  a9 := Try.isAgg9
  z9 := Try.sizeOf9
  v9 := Try.zeroValue9 }
open Go.RowKit Go.Lib in
/-- strings.HasPrefix: "HasPrefix reports whether the string s begins with prefix.": IT RETURNS 'Lib.hasPrefix s prefix'; the world is as it was. (LAID: no walk: one application.) -/
theorem Try.strings_HasPrefix (s p : ByteArray) (w : World) :
    Calls Try.prog 60 #[.string s, .string p] w fun e w' => e = .returned (.bool (Lib.hasPrefix s.data.toList p.data.toList)) ∧ w' = w := Any.strings_HasPrefix Try.lays99 s p w
def Try.laysNm237_ren : Go.Shelf.Ren := ⟨fun | 37 => 99 | n => n, fun | 3 => 3 | 4 => 4 | n => n, fun | n => n⟩
theorem Try.laysNm237 : Go.Proofs.Lays2.n37 Try.prog Try.laysNm237_ren := {
  mixed := by kernel_rfl
  f37 := Try.func99.trans (congrArg some (by kernel_rfl))
  t3 := Try.underlying3
  a3 := Try.isAgg3
  z3 := Try.sizeOf3
  v3 := Try.zeroValue3
  t4 := Try.underlying4
  a4 := Try.isAgg4
  z4 := Try.sizeOf4
  v4 := Try.zeroValue4 }
open Go.RowKit Go.Lib in
/-- cmp.isNaN[int]: 'x != x': false. (LAID: no walk: one application.) -/
theorem Try.cmp_isNaN_int2 (x : Int) (w : World) :
    Calls Try.prog 99 #[.int .i64 x] w fun e w' => e = .returned (.bool false) ∧ w' = w := Any.cmp_isNaN_int2 Try.laysNm237 x w
end Go.Proofs
/- strings.Builder at this seat. -/
namespace Go.Proofs
open Go.Shelf Go.RowKit Go.Lib
set_option maxRecDepth 100000

def Try.lays167_ren : Go.Shelf.Ren := ⟨fun | 167 => 67 | 240 => 90 | 276 => 100 | n => n, fun | 0 => 0 | 4 => 4 | 5 => 5 | 9 => 9 | 20 => 20 | 37 => 27 | 70 => 117 | 72 => 119 | 75 => 121 | 80 => 79 | 164 => 151 | n => n, fun | n => n⟩
theorem Try.lays167 : Go.Proofs.Lays.n167 Try.prog Try.lays167_ren := {
  mixed := by kernel_rfl
  f167 := Try.func67.trans (congrArg some (by kernel_rfl))
  f240 := Try.func90.trans (congrArg some (by kernel_rfl))
  f276 := Try.func100.trans (congrArg some (by kernel_rfl))
  t0 := Try.underlying0
  a0 := Try.isAgg0
  z0 := Try.sizeOf0
  v0 := Try.zeroValue0
  t4 := Try.underlying4
  a4 := Try.isAgg4
  z4 := Try.sizeOf4
  v4 := Try.zeroValue4
  t5 := Try.underlying5
  a5 := Try.isAgg5
  z5 := Try.sizeOf5
  v5 := Try.zeroValue5
  t9 := Try.underlying9
  a9 := Try.isAgg9
  z9 := Try.sizeOf9
  v9 := Try.zeroValue9
  t20 := Try.underlying20
  a20 := Try.isAgg20
  z20 := Try.sizeOf20
  v20 := Try.zeroValue20
  t37 := Try.underlying27
  a37 := Try.isAgg27
  z37 := Try.sizeOf27
  v37 := Try.zeroValue27
  t70 := Try.underlying117
  a70 := Try.isAgg117
  z70 := Try.sizeOf117
  v70 := Try.zeroValue117
  t72 := Try.underlying119
  a72 := Try.isAgg119
  z72 := Try.sizeOf119
  v72 := Try.zeroValue119
  t75 := Try.underlying121
  a75 := Try.isAgg121
  z75 := Try.sizeOf121
  v75 := Try.zeroValue121
  t164 := Try.underlying151
  a164 := Try.isAgg151
  z164 := Try.sizeOf151
  v164 := Try.zeroValue151
  }
def Try.lays168_ren : Go.Shelf.Ren := ⟨fun | 168 => 70 | 240 => 90 | 242 => 91 | 276 => 100 | 278 => 101 | n => n, fun | 0 => 0 | 3 => 3 | 4 => 4 | 5 => 5 | 9 => 9 | 20 => 20 | 21 => 21 | 37 => 27 | 46 => 71 | 51 => 136 | 70 => 117 | 72 => 119 | 75 => 121 | 80 => 79 | 164 => 151 | n => n, fun | n => n⟩
theorem Try.lays168 : Go.Proofs.Lays.n168 Try.prog Try.lays168_ren := {
  mixed := by kernel_rfl
  f168 := Try.func70.trans (congrArg some (by kernel_rfl))
  f240 := Try.func90.trans (congrArg some (by kernel_rfl))
  f242 := Try.func91.trans (congrArg some (by kernel_rfl))
  f276 := Try.func100.trans (congrArg some (by kernel_rfl))
  f278 := Try.func101.trans (congrArg some (by kernel_rfl))
  t0 := Try.underlying0
  a0 := Try.isAgg0
  z0 := Try.sizeOf0
  v0 := Try.zeroValue0
  t3 := Try.underlying3
  a3 := Try.isAgg3
  z3 := Try.sizeOf3
  v3 := Try.zeroValue3
  t4 := Try.underlying4
  a4 := Try.isAgg4
  z4 := Try.sizeOf4
  v4 := Try.zeroValue4
  t5 := Try.underlying5
  a5 := Try.isAgg5
  z5 := Try.sizeOf5
  v5 := Try.zeroValue5
  t9 := Try.underlying9
  a9 := Try.isAgg9
  z9 := Try.sizeOf9
  v9 := Try.zeroValue9
  t20 := Try.underlying20
  a20 := Try.isAgg20
  z20 := Try.sizeOf20
  v20 := Try.zeroValue20
  t21 := Try.underlying21
  a21 := Try.isAgg21
  z21 := Try.sizeOf21
  v21 := Try.zeroValue21
  t37 := Try.underlying27
  a37 := Try.isAgg27
  z37 := Try.sizeOf27
  v37 := Try.zeroValue27
  t46 := Try.underlying71
  a46 := Try.isAgg71
  z46 := Try.sizeOf71
  v46 := Try.zeroValue71
  t51 := Try.underlying136
  a51 := Try.isAgg136
  z51 := Try.sizeOf136
  v51 := Try.zeroValue136
  t70 := Try.underlying117
  a70 := Try.isAgg117
  z70 := Try.sizeOf117
  v70 := Try.zeroValue117
  t72 := Try.underlying119
  a72 := Try.isAgg119
  z72 := Try.sizeOf119
  v72 := Try.zeroValue119
  t75 := Try.underlying121
  a75 := Try.isAgg121
  z75 := Try.sizeOf121
  v75 := Try.zeroValue121
  t164 := Try.underlying151
  a164 := Try.isAgg151
  z164 := Try.sizeOf151
  v164 := Try.zeroValue151
  }
theorem Try.bX167 : Builder.Extra Try.prog Try.lays167_ren := { sizeBuilder := by kernel_rfl, liesBuilder := by kernel_rfl, t5 := Try.underlying5, a5 := Try.isAgg5, z5 := Try.sizeOf5, v5 := Try.zeroValue5, infoByte := by kernel_rfl, cellsByte := by kernel_rfl, sizeByte := by kernel_rfl, neB5 := by decide }
theorem Try.bX168 : Builder.Extra Try.prog Try.lays168_ren := { sizeBuilder := by kernel_rfl, liesBuilder := by kernel_rfl, t5 := Try.underlying5, a5 := Try.isAgg5, z5 := Try.sizeOf5, v5 := Try.zeroValue5, infoByte := by kernel_rfl, cellsByte := by kernel_rfl, sizeByte := by kernel_rfl, neB5 := by decide }
theorem Try.bX169 : Builder.Extra Try.prog Try.lays169_ren := { sizeBuilder := by kernel_rfl, liesBuilder := by kernel_rfl, t5 := Try.underlying5, a5 := Try.isAgg5, z5 := Try.sizeOf5, v5 := Try.zeroValue5, infoByte := by kernel_rfl, cellsByte := by kernel_rfl, sizeByte := by kernel_rfl, neB5 := by decide }
end Go.Proofs
/- text.Quote, told: by its walk. -/
namespace Go.Ev
open Go Go.Proofs
section
variable {P : Program} {w : World}

theorem hp_none {w : World} (ht : (tabsOf P).tab w) : Hp (noF : Frm (tabsOf P)) (fun _ => none) (unBlks [] ()) 0 w :=
  ⟨fun b => by simp [unBlks, RelB], fun b g h => absurd rfl h, fun b b' g h => absurd rfl h, fun _ _ => rfl, fun b g h => absurd rfl h, fun g h => h.elim, ht, fun b g h => absurd rfl h, fun b g h => by cases h⟩

/-- A function that yields a number. -/
theorem toldI {f : FuncId} {A : VSh} {k : IntKind} {run : A.den × blksDen [] → Option (VSh.den (.i k) × blksDen [])} (ho : Orc.OK P f ⟨A, [], .i k, [], run⟩) {p : A.den} {n : Int} (hrun : run (p, ()) = some (n, ())) {vals : List Value} (ht : (tabsOf P).tab w)
    (hargs : RelVs w (Not (noF : Frm (tabsOf P)) (fun _ => none) fun _ => .dead) (fun _ => none) (fun _ => .dead) (unL A p) vals) :
    Calls P f vals.toArray w fun e w' => e = .returned (.int k n) ∧ RowKit.Below w.heap.size w w' := by
  refine (ho.run (p, ()) _ hrun noF (fun _ => none) w vals (hp_none ht) hargs).mono fun e w' ⟨val, μ', nx', h1, h2, h3, h4, _⟩ => ⟨?_, h4.os, h4.tape, h4.output, h4.size, fun k hk => h4.keep k hk fun ⟨j, h, _⟩ => h rfl⟩
  have h1 : e = .returned val := h1
  simp only [unV, RelV] at h3
  rw [h1, h3]

/-- A function that yields a truth. -/
theorem toldB {f : FuncId} {A : VSh} {run : A.den × blksDen [] → Option (VSh.den .b × blksDen [])} (ho : Orc.OK P f ⟨A, [], .b, [], run⟩) {p : A.den} {x : Bool} (hrun : run (p, ()) = some (x, ())) {vals : List Value} (ht : (tabsOf P).tab w)
    (hargs : RelVs w (Not (noF : Frm (tabsOf P)) (fun _ => none) fun _ => .dead) (fun _ => none) (fun _ => .dead) (unL A p) vals) :
    Calls P f vals.toArray w fun e w' => e = .returned (.bool x) ∧ RowKit.Below w.heap.size w w' := by
  refine (ho.run (p, ()) _ hrun noF (fun _ => none) w vals (hp_none ht) hargs).mono fun e w' ⟨val, μ', nx', h1, h2, h3, h4, _⟩ => ⟨?_, h4.os, h4.tape, h4.output, h4.size, fun k hk => h4.keep k hk fun ⟨j, h, _⟩ => h rfl⟩
  have h1 : e = .returned val := h1
  simp only [unV, RelV] at h3
  rw [h1, h3]

theorem tab_below {w w' : World} (ht : (tabsOf P).tab w) (hb : RowKit.Below w.heap.size w w') : (tabsOf P).tab w' :=
  (tabsOf P).stays w w' (fun g hg => hb.block g ((tabsOf P).lt w g ht hg)) ht

end
end Go.Ev
namespace Go.Qw
open Go Go.Ev
set_option maxRecDepth 100000

theorem F69_eq (s : List UInt8) (a : Nat) (hs : s.length ≤ 1100000) (ha : a < s.length) : F69 ((s, (a : Int), ()), ()) = some (((Lib.decodeL (s.drop a)).2 : Int), ()) := by
  have e1 : (decide ((0 : Int) ≤ (a : Int)) && decide ((a : Int) ≤ (s.length : Int)) && decide ((s.length : Int) ≤ (s.length : Int))) = true := by
    simp; omega
  have ht : List.take ((Int.toNat ((List.length s : Nat) : Int)) - (Int.toNat (a : Int))) (List.drop (Int.toNat (a : Int)) s) = s.drop a := List.take_of_length_le (by simp)
  have hl : (s.drop a).length = s.length - a := by simp
  have hne : s.drop a ≠ [] := fun h => by rw [h] at hl; simp at hl; omega
  have hw := Lib.decodeL_width (s.drop a)
  have hle := Lib.decodeL_le (s.drop a) hne
  simp only [F69, e1, cond_true, ht]
  generalize s.drop a = t at hl hne hw hle
  obtain ⟨r, h1, h2⟩ := loop_ind (f := B69_0) (I := fun p => ∃ pos : Nat, p = ((s, (a : Int), (), ()), ((t, pos), ())) ∧ (pos = 0 ∨ pos = (Lib.decodeL t).2)) (μ := fun p => t.length - p.2.1.2) (Q := fun r => (r = .inl ((s, (a : Int), ()), ()) ∧ (Lib.decodeL t).2 = t.length) ∨ r = .inr ((((Lib.decodeL t).2 : Int), ()), ()))
    (step := fun p hp => by
      obtain ⟨pos, rfl, h⟩ := hp
      rcases h with rfl | rfl
      · have hlt : 0 < t.length := by omega
        refine .inl ⟨((s, (a : Int), (), ()), ((t, 0 + (Utf8.decode ⟨t.toArray⟩ 0).2), ())), ?_, ⟨_, rfl, .inr (Nat.zero_add _)⟩, ?_⟩
        · have : decide ((0 : Int) < ((0 : Nat) : Int)) = false := rfl
          simp only [B69_0, decide_eq_true hlt, cond_true, cond_false, this]
        · show t.length - (0 + (Lib.decodeL t).2) < t.length - 0
          omega
      · by_cases hlt : (Lib.decodeL t).2 < t.length
        · refine .inr ⟨_, ?_, .inr rfl⟩
          have : decide ((0 : Int) < ((Lib.decodeL t).2 : Int)) = true := decide_eq_true (by omega)
          simp only [B69_0, decide_eq_true hlt, cond_true, this]
        · refine .inr ⟨.inl ((s, (a : Int), ()), ()), ?_, .inl ⟨rfl, by omega⟩⟩
          simp only [B69_0, decide_eq_false hlt, cond_false])
    (p := ((s, (a : Int), (), ()), ((t, 0), ()))) ⟨0, rfl, .inl rfl⟩ (by
      have := FUEL_big
      show t.length - 0 < FUEL
      omega)
  have h1' : L69_0 ((s, (a : Int), (), ()), ((t, 0), ())) = some r := h1
  simp only [h1', Option.bind_some]
  rcases h2 with ⟨rfl, g⟩ | rfl
  · have w : w64 ((s.length : Int) - (a : Int)) = ((Lib.decodeL t).2 : Int) := by
      rw [w64_id (by omega) (by omega)]; omega
    show some (w64 ((s.length : Int) - (a : Int)), ()) = _
    rw [w]
  · rfl

def pln (c w : Nat) : Bool := ((decide ((32:Int) ≤ (c : Int))) && (!(decide ((c : Int) = (127:Int))))) && ((!(decide ((c : Int) = (65533:Int)))) || (decide ((w : Int) = (3:Int))))
theorem F68_eq (c n : Nat) : F68 (((c : Int), (n : Int), ()), ()) = some (pln c n, ()) := rfl

theorem width_calls (s : ByteArray) (a : Nat) (hs : s.size ≤ 1100000) (ha : a < s.size) (w : World) (ht : (tabsOf Go.Proofs.Try.prog).tab w) :
    Calls Go.Proofs.Try.prog 69 #[.string s, .int .i64 a] w fun e w' => e = .returned (.int .i64 ((Lib.decodeL (s.data.toList.drop a)).2 : Int)) ∧ RowKit.Below w.heap.size w w' := by
  have hl : s.data.toList.length = s.size := (Lib.size_eq s).symm
  exact toldI ok69 (F69_eq s.data.toList a (by omega) (by omega)) ht ⟨_, _, rfl, rfl, _, _, rfl, rfl, rfl⟩

theorem plain_calls (c n : Nat) (w : World) (ht : (tabsOf Go.Proofs.Try.prog).tab w) :
    Calls Go.Proofs.Try.prog 68 #[.int .i32 c, .int .i64 n] w fun e w' => e = .returned (.bool (pln c n)) ∧ RowKit.Below w.heap.size w w' :=
  toldB ok68 (F68_eq c n) ht ⟨_, _, rfl, rfl, _, _, rfl, rfl, rfl⟩

end Go.Qw
/- text.Quote, told: by its walk. -/
namespace Go.Qw
open Go Go.Ev
set_option maxRecDepth 100000

/-- what stands between signs, from a place on -/
def quoF : Nat → List UInt8 → Nat → List UInt8 → List UInt8 × Int × Int
  | 0, _, _, out => (out ++ [34], 0, 0)
  | k + 1, r, place, out =>
    if r = [] then (out ++ [34], 0, 0)
    else if pln (Lib.decodeL r).1 (Lib.decodeL r).2 = true then
      quoF k (r.drop (Lib.decodeL r).2) (place + 1) ((if (Lib.decodeL r).1 = 34 ∨ (Lib.decodeL r).1 = 92 then out ++ [92] else out) ++ Lib.encodeRune ((Lib.decodeL r).1 : Int))
    else ([], (place : Int), 4)

def quo (s : List UInt8) : List UInt8 × Int × Int := if 1024 < s.length then ([], 0, 6) else quoF s.length s 0 [34]

def vals3 (a : List UInt8 × Int × Int) : Value := .tuple #[.string ⟨a.1.toArray⟩, .int .i64 a.2.1, .int .i64 a.2.2]

end Go.Qw
namespace Go.Proofs
open Go.RowKit Go.Ev Go.Qw Go.Lib

theorem builderBelow {T e : TypeId} {B b : Nat} {p : Value} {bs : List Value} {W W' : World} (h : Lib.BuilderAtF T e B b p bs W) (hb : Below W.heap.size W W') : Lib.BuilderAtF T e B b p bs W' := by
  have hlt := h.lt
  obtain ⟨hB, v, hv, hown, hne⟩ := h
  exact ⟨hB, v, (hb.block b hlt).trans hv, hown.kept (row := none) ⟨hb.os, hb.tape, hb.output, hb.size, fun k hk _ => hb.block k hk⟩ (Classical.em _), hne⟩

theorem cWB (B : Nat) (bs : List Value) (c : Int) (W : World) (h : Lib.IsBuilderF 119 5 B B bs W) (hl : bs.length + 1 ≤ 140737488355328) (hB : B ≤ W.heap.size) :
    Calls Try.prog 67 #[.pointer (some ⟨B, 0, none⟩), .int .u8 c] W fun e w' => e = .returned .nilIface ∧ (Lib.BuilderAtF 119 5 B B (.pointer (some ⟨B, 0, none⟩)) (bs ++ [.int .u8 c]) w' ∧ Below B W w' ∧ Lib.OthersKept 5 (some B) W w') :=
  Any.Builder_WriteByte_k Try.lays167 Try.bX167 B B bs c W h hl hB

theorem cWR (B : Nat) (bs : List Value) (r : Int) (h0 : -2147483648 ≤ r) (h1 : r ≤ 2147483647) (W : World) (h : Lib.IsBuilderF 119 5 B B bs W) (hl : bs.length + 4 ≤ 140737488355328) (hB : B ≤ W.heap.size) :
    Calls Try.prog 70 #[.pointer (some ⟨B, 0, none⟩), .int .i32 r] W fun e w' => e = .returned (.tuple #[.int .i64 (Lib.runeCells r).length, .nilIface]) ∧ (Lib.BuilderAtF 119 5 B B (.pointer (some ⟨B, 0, none⟩)) (bs ++ Lib.runeCells r) w' ∧ Below B W w' ∧ Lib.OthersKept 5 (some B) W w') :=
  Any.Builder_WriteRune_k Try.lays168 Try.bX168 B B bs r h0 h1 W h hl hB

theorem cST (B : Nat) (l : List UInt8) (W : World) (h : Lib.IsBuilderF 119 5 B B (Lib.byteCells l) W) (hB : B ≤ W.heap.size) :
    Calls Try.prog 71 #[.pointer (some ⟨B, 0, none⟩)] W fun e w' => e = .returned (.string ⟨l.toArray⟩) ∧ (Lib.IsBuilderF 119 5 B B (Lib.byteCells l) w' ∧ Below B W w' ∧ Lib.OthersKept 5 (some B) W w') :=
  Any.Builder_String_any_k Try.lays169 Try.bX169 B B l W h hB

set_option maxHeartbeats 40000000 in
set_option maxRecDepth 1000000 in
theorem quote_walk (s : ByteArray) (w : World) (ht : (tabsOf Try.prog).tab w) :
    Calls Try.prog 51 #[.string s] w fun e w' => e = .returned (vals3 (quo s.data.toList)) ∧ Below w.heap.size w w' := by
  have hlen : s.data.toList.length = s.size := (Lib.size_eq s).symm
  obtain ⟨ANS, hANS⟩ : ∃ A, quo s.data.toList = A := ⟨_, rfl⟩
  rw [hANS]
  unfold quo at hANS
  rw [hlen] at hANS
  by_cases hbig : 1024 < s.size
  · rw [if_pos hbig] at hANS
    subst hANS
    have hbz : (1024 : Int) < (s.size : Int) := by omega
    go_enter Try.func51, Try.ntmps51
    go_wp2
    go_ret3
    exact ⟨rfl, Below.refl _ _⟩
  · rw [if_neg hbig] at hANS
    have hbz : ¬ (1024 : Int) < (s.size : Int) := by omega
    go_enter Try.func51, Try.ntmps51
    go_wp2_with (go_at_call 67; go_must (refine (cWB _ [] 34 _ (Lib.IsBuilderF.of (Lib.fresh_isBuilder 119 5 w)) (by simp) (by simp)).mono ?_; rintro e W1 ⟨rfl, hb1, bw1, ok1⟩))
    have hsz1 : w.heap.size + 1 ≤ W1.heap.size := by have := bw1.size; simpa using this
    have hbw1 : Below w.heap.size w W1 := ((Below.refl _ w).alloc (Nat.le_refl _) _).trans bw1
    go_loopg [6] s.size (fun gk s6 wx => ∃ (pos place : Nat) (out : List UInt8), s6 = .int .i64 place ∧ Lib.BuilderAtF 119 5 w.heap.size w.heap.size (.pointer (some ⟨w.heap.size, 0, none⟩)) (Lib.byteCells out) wx ∧ wx.heap[W1.heap.size]? = some (.stringIter s pos) ∧ Below w.heap.size w wx ∧
      quoF gk (s.data.toList.drop pos) place out = ANS ∧ s.size ≤ pos + gk ∧ pos ≤ s.size ∧ place ≤ pos ∧ out.length ≤ 1 + 5 * pos)
    case atStart =>
      refine ⟨0, 0, [34], rfl, ?_, ?_, ?_, hANS, by omega, by omega, Nat.le_refl _, by simp⟩
      · exact hb1.alloc _
      · have := World.iter_heap W1 s 0
        simpa using this
      · exact hbw1.alloc (by omega) _
    case round =>
      obtain ⟨pos, place, out, rfl, hI, hit, hbw, hq, hfu, hps, hpl, hout⟩ := hrel
      have hszr : W1.heap.size < wr.heap.size := (Array.getElem?_eq_some_iff.1 hit).1
      by_cases hlt : pos < s.size
      · obtain ⟨g', rfl⟩ : ∃ g', gk = g' + 1 := ⟨gk - 1, by omega⟩
        have hnx : ∀ ty, (Instr.next (.pointer (some ⟨W1.heap.size, 0, none⟩)) true ty).run Try.prog wr = _ := fun ty => Lib.run_next_any_at wr W1.heap.size s pos ty hit hlt
        have hne : s.data.toList.drop pos ≠ [] := fun h0 => by
          have := congrArg List.length h0
          rw [List.length_drop, hlen] at this
          simp at this
          omega
        have hdL : Lib.decodeL (s.data.toList.drop pos) = Utf8.decode s pos := Lib.decodeL_drop s pos
        have hwd := Lib.width_pos s pos
        have hwn : pos + (Utf8.decode s pos).2 ≤ s.size := by
          have := Lib.decodeL_le _ hne
          rw [hdL, List.length_drop, hlen] at this
          omega
        have hrl := Lib.rune_le s pos
        rw [quoF, if_neg hne, hdL] at hq
        have hwid := width_calls s pos (by omega) hlt
        rw [hdL] at hwid
        obtain ⟨R, hR⟩ : ∃ R, (Utf8.decode s pos).1 = R := ⟨_, rfl⟩
        obtain ⟨N, hN⟩ : ∃ N, (Utf8.decode s pos).2 = N := ⟨_, rfl⟩
        rw [hR, hN] at hq hnx
        rw [hN] at hwd hwn hwid
        rw [hR] at hrl
        rw [List.drop_drop] at hq
        have hI2 := hI.iterAt hit (pos + N)
        have hit2 := Lib.iterAt_heap wr W1.heap.size s pos (pos + N) hit
        have hbw2 := Lib.below_iterAt hbw (k := W1.heap.size) (by omega) s (pos + N)
        have hszi : (wr.iterAt W1.heap.size s (pos + N)).heap.size = wr.heap.size := Lib.iterAt_size _ _ _ _
        obtain ⟨W, hW⟩ : ∃ W, wr.iterAt W1.heap.size s (pos + N) = W := ⟨_, rfl⟩
        rw [hW] at hnx hI2 hit2 hbw2 hszi
        have htW : (tabsOf Try.prog).tab W := tab_below ht hbw2
        go_wp2_with (go_at_call 69; go_must (refine (hwid W htW).mono ?_; rintro e W3 ⟨rfl, b3⟩))
        refine (plain_calls R N W3 (tab_below htW b3)).mono ?_
        rintro e W4 ⟨rfl, b4⟩
        have b34 : Below W.heap.size W W4 := b3.trans (b4.mono b3.size)
        have hI4 := builderBelow hI2 b34
        have hit4 : W4.heap[W1.heap.size]? = some (.stringIter s (pos + N)) := (b34.block W1.heap.size (by omega)).trans hit2
        have hbw4 : Below w.heap.size w W4 := hbw2.trans (b34.mono (by omega))
        have hsz4 : w.heap.size ≤ W4.heap.size := by have := hbw4.size; omega
        clear b3 b34 hI2 hit2 hbw2 hnx hwid hI hit hbw hW hdL hszi htW hszr hne hR hN hb1 ok1
        obtain ⟨pl, hpl'⟩ : ∃ x, pln R N = x := ⟨_, rfl⟩
        rw [hpl'] at hq ⊢
        cases pl
        · rw [if_neg (by decide)] at hq
          subst hq
          go_wp2
          go_ret3
          exact ⟨rfl, hbw4⟩
        · rw [if_pos rfl] at hq
          by_cases h34 : R = 34
          · have e34 : ((R : Int) == 34) = true := by simp [h34]
            have e34z : (R : Int) = 34 := by omega
            go_wp2_with (go_at_call 67; go_must (refine (cWB _ (Lib.byteCells out) 92 W4 (.inr hI4) (by rw [Lib.byteCells_length]; omega) hsz4).mono ?_; rintro e W5 ⟨rfl, hI5, b5, k5⟩))
            have hit5 := k5.iter hit4 (by omega)
            have hbw5 : Below w.heap.size w W5 := hbw4.trans b5
            have hsz5 : w.heap.size ≤ W5.heap.size := by have := hbw5.size; omega
            have hE : Lib.byteCells out ++ [Value.int .u8 92] = Lib.byteCells (out ++ [92]) := by rw [Lib.byteCells_append]; rfl
            rw [hE] at hI5
            clear k5 b5 hI4 hit4 hbw4
            go_wp2_with (go_at_call 70; go_must (refine (cWR _ (Lib.byteCells (out ++ [92])) 34 (by decide) (by decide) W5 (.inr hI5) (by rw [Lib.byteCells_length]; simp; omega) hsz5).mono ?_; rintro e W6 ⟨rfl, hI6, b6, k6⟩))
            have hit6 := k6.iter hit5 (by omega)
            have hE6 : Lib.byteCells (out ++ [92]) ++ Lib.runeCells (34 : Int) = Lib.byteCells (out ++ [92] ++ Lib.encodeRune (R : Int)) := by rw [e34z]; rw [Lib.byteCells_append (out ++ [92]), Lib.byteCells_encodeRune]
            rw [hE6] at hI6
            have hl4 := Lib.runeCells_le (R : Int)
            rw [Lib.runeCells_length] at hl4
            go_roundg g'
            case measure => omega
            case rel => exact ⟨pos + N, place + 1, out ++ [92] ++ Lib.encodeRune (R : Int), by simp, hI6, hit6, hbw5.trans b6, by rw [if_pos (by omega)] at hq; exact hq, by omega, hwn, by omega, by simp; omega⟩
          · have e34 : ((R : Int) == 34) = false := by simp; omega
            have e34z : ¬ (R : Int) = 34 := by omega
            by_cases h92 : R = 92
            · have e92 : ((R : Int) == 92) = true := by simp [h92]
              have e92z : (R : Int) = 92 := by omega
              go_wp2_with (go_at_call 67; go_must (refine (cWB _ (Lib.byteCells out) 92 W4 (.inr hI4) (by rw [Lib.byteCells_length]; omega) hsz4).mono ?_; rintro e W5 ⟨rfl, hI5, b5, k5⟩))
              have hit5 := k5.iter hit4 (by omega)
              have hbw5 : Below w.heap.size w W5 := hbw4.trans b5
              have hsz5 : w.heap.size ≤ W5.heap.size := by have := hbw5.size; omega
              have hE : Lib.byteCells out ++ [Value.int .u8 92] = Lib.byteCells (out ++ [92]) := by rw [Lib.byteCells_append]; rfl
              rw [hE] at hI5
              clear k5 b5 hI4 hit4 hbw4
              go_wp2_with (go_at_call 70; go_must (refine (cWR _ (Lib.byteCells (out ++ [92])) 92 (by decide) (by decide) W5 (.inr hI5) (by rw [Lib.byteCells_length]; simp; omega) hsz5).mono ?_; rintro e W6 ⟨rfl, hI6, b6, k6⟩))
              have hit6 := k6.iter hit5 (by omega)
              have hE6 : Lib.byteCells (out ++ [92]) ++ Lib.runeCells (92 : Int) = Lib.byteCells (out ++ [92] ++ Lib.encodeRune (R : Int)) := by rw [e92z]; rw [Lib.byteCells_append (out ++ [92]), Lib.byteCells_encodeRune]
              rw [hE6] at hI6
              have hl4 := Lib.runeCells_le (R : Int)
              rw [Lib.runeCells_length] at hl4
              go_roundg g'
              case measure => omega
              case rel => exact ⟨pos + N, place + 1, out ++ [92] ++ Lib.encodeRune (R : Int), by simp, hI6, hit6, hbw5.trans b6, by rw [if_pos (by omega)] at hq; exact hq, by omega, hwn, by omega, by simp; omega⟩
            · have e92 : ((R : Int) == 92) = false := by simp; omega
              have e92z : ¬ (R : Int) = 92 := by omega
              go_wp2_with (go_at_call 70; go_must (refine (cWR _ (Lib.byteCells out) R (by omega) (by omega) W4 (.inr hI4) (by rw [Lib.byteCells_length]; omega) hsz4).mono ?_; rintro e W6 ⟨rfl, hI6, b6, k6⟩))
              have hit6 := k6.iter hit4 (by omega)
              have hE6 : Lib.byteCells out ++ Lib.runeCells (R : Int) = Lib.byteCells (out ++ Lib.encodeRune (R : Int)) := by rw [Lib.byteCells_append, Lib.byteCells_encodeRune]
              rw [hE6] at hI6
              have hl4 := Lib.runeCells_le (R : Int)
              rw [Lib.runeCells_length] at hl4
              go_roundg g'
              case measure => omega
              case rel => exact ⟨pos + N, place + 1, out ++ Lib.encodeRune (R : Int), by simp, hI6, hit6, hbw4.trans b6, by rw [if_neg (by omega)] at hq; exact hq, by omega, hwn, by omega, by simp; omega⟩
      · have hend : pos = s.size := by omega
        subst hend
        have hnx : ∀ ty, (Instr.next (.pointer (some ⟨W1.heap.size, 0, none⟩)) true ty).run Try.prog wr = _ := fun ty => Lib.run_next_end_at wr W1.heap.size s s.size ty hit hlt
        have hq' : (out ++ [34], 0, 0) = ANS := by
          rw [List.drop_eq_nil_of_le (by omega)] at hq
          rw [← hq]
          cases gk <;> simp [quoF]
        subst hq'
        have hsz0 : w.heap.size ≤ wr.heap.size := by have := hbw.size; omega
        go_wp2_with (go_at_call 67; go_must (refine (cWB _ (Lib.byteCells out) 34 wr (.inr hI) (by rw [Lib.byteCells_length]; omega) hsz0).mono ?_; rintro e W5 ⟨rfl, hI5, b5, k5⟩))
        have hE : Lib.byteCells out ++ [Value.int .u8 34] = Lib.byteCells (out ++ [34]) := by rw [Lib.byteCells_append]; rfl
        rw [hE] at hI5
        have hbw5 : Below w.heap.size w W5 := hbw.trans b5
        have hsz5 : w.heap.size ≤ W5.heap.size := by have := hbw5.size; omega
        go_wp2_with (go_at_call 71; go_must (refine (cST _ (out ++ [34]) _ (.inr hI5) hsz5).mono ?_; rintro e W6 ⟨rfl, hI6, b6, k6⟩))
        go_ret3
        exact ⟨rfl, hbw5.trans b6⟩

end Go.Proofs
namespace Go.Qw
open Go Go.Ev

/-- text.Quote -/
def pQuote : Pvs
  | [.s l] => some (true, .tup [.s (quo l).1, .i .i64 (quo l).2.1, .i .i64 (quo l).2.2])
  | _ => none

theorem zQuote51 : ZOK Go.Proofs.Try.prog 51 (zPv pQuote) := by
  refine zPv_ok ⟨Go.Proofs.Try.call51, fun args v h w N μ H vals ht hr => ?_⟩
  unfold pQuote at h
  split at h
  · rename_i l
    simp only [Option.some.injEq, Prod.mk.injEq, true_and] at h
    subst h
    simp only [RelVs, RelV] at hr
    obtain ⟨_, _, rfl, rfl, rfl⟩ := hr
    refine (Go.Proofs.quote_walk ⟨l.toArray⟩ w ht).mono fun e w' ⟨he, bel⟩ => ⟨_, he, fun w1 N1 μ1 H1 => ?_, bel⟩
    simp only [RelV, RelVs, vals3]
    exact ⟨_, rfl, _, _, rfl, rfl, _, _, rfl, rfl, _, _, rfl, rfl, rfl⟩
  · cases h

end Go.Qw
/- A slice that a function has made. -/
namespace Go.Ev
open Go Go.Proofs
theorem turned_new {T : Tb} {F : Frm T} {μ : Nat → Option Nat} {H : Nat → Blk} {nx : Nat} {w w' : World} (hp : Hp F μ H nx w) (hb : Go.RowKit.Below w.heap.size w w') {g' : Option Nat} {B : Blk} (hB : B ≠ .dead) (hg : ∀ g, g' = some g → w.heap.size ≤ g ∧ g < w'.heap.size) (hmk : unm B = true → ∀ g, g' = some g → NoMark w' g) :
    Turned F μ H nx w [] nx g' B (nx + 1) w' where
  hp := hp
  os := hb.os
  tape := hb.tape
  output := hb.output
  size := hb.size
  keep := fun g hg _ => hb.block g hg
  at_ := fun g h => .inr (hg g h)
  mono := Nat.le_succ _
  lt := Nat.lt_succ_self _
  live := hB
  kind := fun h => absurd h (Nat.lt_irrefl _)
  mark := hmk
  self := fun _ h => absurd (hp.dead nx (Nat.le_refl _)) h

theorem new_dataN {P : Program} {F : Frm (tabsOf P)} {μ : Nat → Option Nat} {S : St} {w w' : World} {gb c : Nat} {t : Ty} {l : List t.den} (hp : Hp F μ S.H S.nx w) (hb : Go.RowKit.Below w.heap.size w w') (hg : w.heap.size ≤ gb) (hg' : gb < w'.heap.size) (hcl : l.length ≤ c) (hroom : room w' gb (c * t.size)) (hmk : decide (t ≠ .u8) = true → NoMark w' gb)
    (hrow : ∀ i (h : i < l.length), ∃ es : List Value, es.length = t.size ∧ rowAt w' gb (i * t.size) es ∧ RelD w' (Not F (updM μ S.nx (some gb)) (updH S.H S.nx (.data t l))) t l[i] es) :
    ∃ μ' kl, (⟨S.E, updH S.H S.nx (.data t l), S.nx + 1, S.kl⟩ : St).E = killsE kl S.E ∧ (⟨S.E, updH S.H S.nx (.data t l), S.nx + 1, S.kl⟩ : St).kl = S.kl ++ kl ∧ Hp F μ' (updH S.H S.nx (.data t l)) (S.nx + 1) w' ∧ Pl F μ S.H S.nx w kl μ' (updH S.H S.nx (.data t l)) (S.nx + 1) w' ∧ RelV w' (Not F μ' (updH S.H S.nx (.data t l))) μ' (updH S.H S.nx (.data t l)) (.wh S.nx) (.slice (some ⟨gb, 0, none⟩) l.length c) := by
  have T := turned_new hp hb (g' := some gb) (B := .data t l) (by simp) (fun g h => by cases h; exact ⟨hg, hg'⟩) (fun hu g h => by cases h; exact hmk hu)
  refine ⟨updM μ S.nx (some gb), [], rfl, by simp, T.hp' ?_, T.pl, ?_⟩
  · simp only [RelB]
    exact .inr ⟨gb, updM_same _ _ _, fun k hk => hroom k (Nat.lt_of_lt_of_le hk (Nat.mul_le_mul_right _ hcl)), fun i hi => hrow i hi⟩
  · simp only [RelV]
    exact ⟨t, l, updH_same _ _ _, .inl ⟨gb, c, updM_same _ _ _, rfl, hcl, hroom⟩⟩

theorem new_nilN {P : Program} {F : Frm (tabsOf P)} {μ : Nat → Option Nat} {S : St} {w w' : World} {t : Ty} (hp : Hp F μ S.H S.nx w) (hb : Go.RowKit.Below w.heap.size w w') :
    ∃ μ' kl, (⟨S.E, updH S.H S.nx (.data t []), S.nx + 1, S.kl⟩ : St).E = killsE kl S.E ∧ (⟨S.E, updH S.H S.nx (.data t []), S.nx + 1, S.kl⟩ : St).kl = S.kl ++ kl ∧ Hp F μ' (updH S.H S.nx (.data t [])) (S.nx + 1) w' ∧ Pl F μ S.H S.nx w kl μ' (updH S.H S.nx (.data t [])) (S.nx + 1) w' ∧ RelV w' (Not F μ' (updH S.H S.nx (.data t []))) μ' (updH S.H S.nx (.data t [])) (.wh S.nx) (.slice none 0 0) := by
  have T := turned_new hp hb (g' := none) (B := .data t []) (by simp) (fun g h => by cases h) (fun _ g h => by cases h)
  refine ⟨updM μ S.nx none, [], rfl, by simp, T.hp' ?_, T.pl, ?_⟩
  · simp only [RelB]
    exact .inl ⟨updM_same _ _ _, trivial⟩
  · simp only [RelV]
    exact ⟨t, [], updH_same _ _ _, .inr ⟨updM_same _ _ _, rfl, trivial⟩⟩

end Go.Ev
/- Maps: one's own copy of a map (maps.Clone), as a deed. -/
namespace Go.Ev
open Go Go.Proofs Go.RowKit
set_option maxRecDepth 100000

def zClone : Deed := fun args S => match args with
  | [.mp m] => match S.H m with
    | .mapd kt vt ag l => some (true, .mp S.nx, ⟨S.E, updH S.H S.nx (.mapd kt vt ag l), S.nx + 1, S.kl⟩)
    | _ => none
  | _ => none

theorem zClone_ok {P : Program} {f : FuncId} (hen : Go.Ev.Enters P f)
    (hc : ∀ (w : World) (b : Nat) (es : Array MapEntry) (clock : Nat), w.heap[b]? = some (.map es clock) → Calls P f #[.map (some b)] w fun e w' => e = .returned (.map (some w.heap.size)) ∧ w' = w.alloc (.map es clock)) : ZOK P f zClone := by
  refine ⟨hen, fun args S v S' h F μ w vals hp hr => ?_⟩
  unfold zClone at h
  split at h
  · rename_i m
    split at h
    · rename_i kt vt ag l hm
      rw [Option.some.injEq, Prod.mk.injEq, Prod.mk.injEq] at h
      obtain ⟨_, rfl, rfl⟩ := h
      simp only [RelVs, RelV] at hr
      obtain ⟨v1, _, rfl, ⟨hml, gm, hgm, rfl⟩, rfl⟩ := hr
      have hM := hp.blk m
      simp only [hm, RelB] at hM
      rcases hM with hM | ⟨gm', es, c, hgm', hh, hst, hrel⟩
      · rw [hgm] at hM; cases hM
      rw [hgm] at hgm'
      cases hgm'
      refine (hc w gm es c hh).mono fun e w' ⟨he, hw⟩ => ?_
      subst hw
      have hbl : Go.RowKit.Below w.heap.size w (w.alloc (.map es c)) := (Below.refl _ w).alloc (Nat.le_refl _) _
      have T := turned_new hp hbl (g' := some w.heap.size) (B := .mapd kt vt ag l) (by simp) (fun g h => by cases h; exact ⟨Nat.le_refl _, by simp⟩) (fun h => by cases h)
      refine ⟨updM μ S.nx (some w.heap.size), [], _, he, rfl, by simp, T.hp' ?_, T.pl, ?_⟩
      · simp only [RelB]
        refine .inr ⟨w.heap.size, es, c, updM_same _ _ _, World.alloc_heap_new w _, hst, ?_⟩
        exact hrel.keep T.keepN T.notN
      · simp only [RelV]
        exact ⟨by simp [updH_same], _, updM_same _ _ _, rfl⟩
    · cases h
  · cases h


/-- strings.Compare -/
def pCompare : Pvs
  | [.s l, .s c] => some (true, .i .i64 (Lib.compareBytes l c))
  | _ => none

theorem pCompare_ok {P : Program} {f : FuncId} (hen : Go.Ev.Enters P f)
    (hc : ∀ (s c : ByteArray) (w : World), Calls P f #[.string s, .string c] w fun e w' => e = .returned (.int .i64 (Lib.compareBytes s.data.toList c.data.toList)) ∧ w' = w) : ZOK P f (zPv pCompare) := by
  refine zPv_ok ⟨hen, fun args v h w N μ H vals ht hr => ?_⟩
  unfold pCompare at h
  split at h
  · rename_i l c
    simp only [Option.some.injEq, Prod.mk.injEq, true_and] at h
    subst h
    simp only [RelVs, RelV] at hr
    obtain ⟨_, _, rfl, rfl, _, _, rfl, rfl, rfl⟩ := hr
    refine (hc ⟨l.toArray⟩ ⟨c.toArray⟩ w).mono fun e w' ⟨he, hw⟩ => ⟨_, he, fun w1 N1 μ1 H1 => ?_, hw ▸ RowKit.Below.refl _ _⟩
    simp [RelV]
  · cases h

end Go.Ev
/- slices.Insert of one element, slices.Delete of some: what they do to a slice of one's own. -/
namespace Go.Ev
open Go Go.Proofs Go.RowKit
set_option maxRecDepth 100000

def insOK {α : Type} (l : List α) (i : Int) (vs : List α) : Bool := decide (0 ≤ i) && decide (i ≤ (l.length : Int)) && decide (l.length + vs.length ≤ 1000000)
def insL {α : Type} (l : List α) (i : Int) (vs : List α) : List α := l.take i.toNat ++ vs ++ l.drop i.toNat
def delOK {α : Type} (l : List α) (i j : Int) : Bool := decide (0 ≤ i) && decide (i ≤ j) && decide (j ≤ (l.length : Int)) && decide (l.length ≤ 1000000)
def delL {α : Type} (l : List α) (i j : Int) : List α := l.take i.toNat ++ l.drop j.toNat

/-- slices.Insert of one element -/
def zInsert (y : Ty) : Deed := fun args S => match args with
  | [.wh b, .i .i64 n, .wh c] => match S.H b, S.H c with
    | .data t l, .data t' vs => if h : t = y ∧ t' = y then
        some ((!(Nat.beq b c)) && decide (vs.length = 1) && insOK (h.1 ▸ l : List y.den) n (h.2 ▸ vs : List y.den), .wh b, ⟨killsE [b] S.E, updH (killsH [b] S.H) b (.data y (insL (h.1 ▸ l : List y.den) n (h.2 ▸ vs : List y.den))), S.nx, S.kl ++ [b]⟩) else none
    | _, _ => none
  | _ => none

/-- slices.Delete -/
def zDelete (y : Ty) : Deed := fun args S => match args with
  | [.wh b, .i .i64 n, .i .i64 m] => match S.H b with
    | .data t l => if h : t = y then some (delOK (h ▸ l : List y.den) n m, .wh b, ⟨killsE [b] S.E, updH (killsH [b] S.H) b (.data y (delL (h ▸ l : List y.den) n m)), S.nx, S.kl ++ [b]⟩) else none
    | _ => none
  | _ => none

/-- what is left: a slice of n elements with these cells, in its old block or in a new one -/
def RowPost (size : Nat) (w : World) (base : Option Nat) (n : Nat) (cs : List Value) (e : Ending) (w' : World) : Prop :=
  ∃ g' c', e = .returned (.slice (some ⟨g', 0, none⟩) n c') ∧ n ≤ c' ∧ room w' g' (c' * size) ∧ rowAt w' g' 0 cs ∧ (base = some g' ∨ (w.heap.size ≤ g' ∧ g' < w'.heap.size)) ∧ w'.os = w.os ∧ w'.tape = w.tape ∧ w'.output = w.output ∧ w.heap.size ≤ w'.heap.size ∧
    (∀ k, k < w.heap.size → base ≠ some k → w'.heap[k]? = w.heap[k]?) ∧ NoMark w' g'

theorem one_cells {w : World} {N : Nat → Prop} {y : Ty} {l : List y.den} {cs : List Value} (hl : cs.length = l.length * y.size) (rel : ∀ i, (h : i < l.length) → RelD w N y l[i] ((cs.drop (i * y.size)).take y.size)) : ∀ v ∈ cs, v.oneCell' = true := by
  intro v hv
  obtain ⟨j, hj⟩ := List.getElem?_of_mem hv
  obtain ⟨hjl, hjv⟩ := List.getElem?_eq_some_iff.1 hj
  have hpos : 0 < y.size := by
    rcases Nat.eq_zero_or_pos y.size with h0 | h0
    · rw [hl, h0] at hjl; simp at hjl
    · exact h0
  have hq : j / y.size < l.length := by rw [Nat.div_lt_iff_lt_mul hpos]; omega
  have hrel := RelVs_encc (μ := fun _ => none) (H := fun _ => .dead) (rel (j / y.size) hq)
  have hok : (encc y l[j / y.size]).all okCell = true := encc_ok _ _
  refine okCells_one hrel hok v ?_
  have hmod := Nat.mod_lt j hpos
  have hdm := Nat.div_add_mod j y.size
  have : ((cs.drop (j / y.size * y.size)).take y.size)[j % y.size]? = some v := by
    rw [List.getElem?_take_of_lt hmod, List.getElem?_drop, Nat.mul_comm, hdm]; exact hj
  exact List.mem_of_getElem? this

/-- the cells of a block that is tracked -/
theorem cells_of {T : Tb} {F : Frm T} {μ : Nat → Option Nat} {H : Nat → Blk} {nx : Nat} {w : World} (hp : Hp F μ H nx w) {b g : Nat} {y : Ty} {l : List y.den} (hb : H b = .data y l) (hm : μ b = some g) :
    ∃ cs : List Value, cs.length = l.length * y.size ∧ rowAt w g 0 cs ∧ ∀ i, (h : i < l.length) → RelD w (Not F μ H) y l[i] ((cs.drop (i * y.size)).take y.size) := by
  have hB := hp.blk b
  simp only [hb, RelB] at hB
  rcases hB with ⟨hn, _⟩ | ⟨g', hm', _, hrows⟩
  · rw [hm] at hn; cases hn
  · rw [hm] at hm'
    cases hm'
    exact rows_flat l 0 (by simpa using hrows)

theorem drop_take_app {α : Type} (a b : List α) (k s : Nat) (h : k + s ≤ a.length) : ((a ++ b).drop k).take s = (a.drop k).take s := by
  rw [List.drop_append_of_le_length (by omega), List.take_append_of_le_length (by simp; omega)]

theorem drop_app_right {α : Type} (a b : List α) (k : Nat) (h : a.length ≤ k) : (a ++ b).drop k = b.drop (k - a.length) := by
  rw [List.drop_append, List.drop_of_length_le h, List.nil_append]

/-- the end of both -/
theorem row_end {P : Program} {F : Frm (tabsOf P)} {μ : Nat → Option Nat} {S : St} {w w' : World} {e : Ending} {b : Nat} {y : Ty} {l0 L : List y.den} {cs : List Value} (hp : Hp F μ S.H S.nx w) (hb : S.H b = .data y l0)
    (h : RowPost y.size w (μ b) L.length cs e w') (hcl : cs.length = L.length * y.size) (hrel : ∀ i, (h : i < L.length) → RelD w (Not F μ S.H) y L[i] ((cs.drop (i * y.size)).take y.size)) :
    ∃ μ' kl val, e = .returned val ∧ (⟨killsE [b] S.E, updH (killsH [b] S.H) b (.data y L), S.nx, S.kl ++ [b]⟩ : St).E = killsE kl S.E ∧ (⟨killsE [b] S.E, updH (killsH [b] S.H) b (.data y L), S.nx, S.kl ++ [b]⟩ : St).kl = S.kl ++ kl ∧
      Hp F μ' (updH (killsH [b] S.H) b (.data y L)) S.nx w' ∧ Pl F μ S.H S.nx w kl μ' (updH (killsH [b] S.H) b (.data y L)) S.nx w' ∧ RelV w' (Not F μ' (updH (killsH [b] S.H) b (.data y L))) μ' (updH (killsH [b] S.H) b (.data y L)) (.wh b) val := by
  obtain ⟨g', c', he, hc, hroom, hrow, hat, hos, htape, hout, hsz, hkeep, hmk⟩ := h
  have hl : S.H b ≠ .dead := by rw [hb]; simp
  have T : Turned F μ S.H S.nx w [b] b (some g') (.data y L) S.nx w' :=
    { hp := hp, os := hos, tape := htape, output := hout, size := hsz, live := by simp, mono := Nat.le_refl _
      keep := fun k hk hne => hkeep k hk (hne hl)
      at_ := fun k hk => by
        cases hk
        rcases hat with h | h
        · exact .inl ⟨hl, h⟩
        · exact .inr h
      lt := by
        rcases Nat.lt_or_ge b S.nx with h | h
        · exact h
        · exact absurd (hp.dead b h) hl
      kind := fun _ => Pin.zero rfl
      mark := fun _ k hk => by cases hk; exact hmk
      self := fun hk _ => by simp [hasN] at hk }
  refine ⟨updM μ b (some g'), [b], _, he, rfl, rfl, T.hp' ?_, T.pl, ?_⟩
  · simp only [RelB]
    refine .inr ⟨g', updM_same _ _ _, fun k hk => hroom k (Nat.lt_of_lt_of_le hk (Nat.mul_le_mul_right _ hc)), rows_new hrow fun i hi => ⟨?_, (hrel i hi).keep T.keepN T.notN⟩⟩
    rw [hcl, ← Nat.succ_mul]
    exact Nat.mul_le_mul_right _ hi
  · simp only [RelV]
    exact ⟨y, L, updH_same _ _ _, .inl ⟨g', c', updM_same _ _ _, rfl, hc, hroom⟩⟩

theorem zInsert_ok {P : Program} {f : FuncId} (y : Ty) (hy : decide (y ≠ .u8) = true) (hen : Go.Ev.Enters P f)
    (hc : ∀ (base : Option Nat) (n c i vb vc : Nat) (cs vs : List Value) (w : World), (base = none → n = 0 ∧ c = 0) → i ≤ n → n + 1 ≤ 1000000 → n ≤ c → 1 ≤ vc → cs.length = n * y.size → vs.length = y.size → (∀ v ∈ cs, v.oneCell' = true) → (∀ v ∈ vs, v.oneCell' = true) →
      (∀ g, base = some g → rowAt w g 0 cs ∧ room w g (c * y.size) ∧ g ≠ vb ∧ NoMark w g ∧ g < w.heap.size) → rowAt w vb 0 vs → room w vb y.size → NoMark w vb → vb < w.heap.size →
      Calls P f #[.slice (base.map fun g => ⟨g, 0, none⟩) n c, .int .i64 i, .slice (some ⟨vb, 0, none⟩) 1 vc] w (RowPost y.size w base (n + 1) (cs.take (i * y.size) ++ vs ++ cs.drop (i * y.size)))) : ZOK P f (zInsert y) := by
  refine ⟨hen, fun args S v S' h F μ w vals hp hr => ?_⟩
  unfold zInsert at h
  split at h
  · rename_i b n c
    split at h
    · rename_i t l t' vs hb hcv
      split at h
      · rename_i hty
        obtain ⟨rfl, rfl⟩ := hty
        simp only [Option.some.injEq, Prod.mk.injEq, Bool.and_eq_true, decide_eq_true_eq, insOK, Bool.not_eq_true'] at h
        obtain ⟨⟨⟨hbc, hv1⟩, ⟨h1, h2⟩, h3⟩, rfl, rfl⟩ := h
        have hbc : b ≠ c := fun h => by subst h; simp at hbc
        simp only [RelVs, RelV] at hr
        obtain ⟨v1, _, rfl, ⟨T1, l1, hb1, hx1⟩, v2, _, rfl, rfl, v3, _, rfl, ⟨T3, l3, hc3, hx3⟩, rfl⟩ := hr
        rw [hb] at hb1
        injection hb1 with e1 e2
        subst e1
        have e2 := eq_of_heq e2
        subst e2
        rw [hcv] at hc3
        injection hc3 with e1 e2
        subst e1
        have e2 := eq_of_heq e2
        subst e2
        obtain ⟨x, rfl⟩ : ∃ x, vs = [x] := List.length_eq_one_iff.mp hv1
        obtain ⟨i, rfl⟩ : ∃ i : Nat, n = (i : Int) := ⟨n.toNat, by omega⟩
        have hil : i ≤ l.length := by omega
        rcases hx3 with ⟨vb, vc, hmc, rfl, hvc, hroomv⟩ | ⟨_, hnil, _⟩
        rotate_left
        · cases hnil
        obtain ⟨vcs, q1, q2, q3⟩ := cells_of hp hcv hmc
        have q1' : vcs.length = t'.size := by simpa using q1
        have q3' : RelD w (Not F μ S.H) t' x vcs := by
          have := q3 0 (by simp)
          simpa [← q1'] using this
        have hov := one_cells q1 q3
        have hlc : S.H c ≠ .dead := by rw [hcv]; simp
        have hlb : S.H b ≠ .dead := by rw [hb]; simp
        have hvbl := hp.lt c vb hlc hmc
        have hmkv := hp.mark c vb (by rw [hcv]; exact hy) hmc
        have hroomv' : room w vb t'.size := fun k hk => hroomv k (Nat.lt_of_lt_of_le hk (by simpa using Nat.mul_le_mul_right t'.size hvc))
        have hLl : (insL l (i : Int) [x]).length = l.length + 1 := by simp [insL]; omega
        -- both ways end so
        have fin : ∀ (cs : List Value), cs.length = l.length * t'.size → (∀ j, (h : j < l.length) → RelD w (Not F μ S.H) t' l[j] ((cs.drop (j * t'.size)).take t'.size)) → ∀ e w', RowPost t'.size w (μ b) (l.length + 1) (cs.take (i * t'.size) ++ vcs ++ cs.drop (i * t'.size)) e w' →
            ∃ μ' kl val, e = .returned val ∧ (⟨killsE [b] S.E, updH (killsH [b] S.H) b (.data t' (insL l (i : Int) [x])), S.nx, S.kl ++ [b]⟩ : St).E = killsE kl S.E ∧ (⟨killsE [b] S.E, updH (killsH [b] S.H) b (.data t' (insL l (i : Int) [x])), S.nx, S.kl ++ [b]⟩ : St).kl = S.kl ++ kl ∧
              Hp F μ' (updH (killsH [b] S.H) b (.data t' (insL l (i : Int) [x]))) S.nx w' ∧ Pl F μ S.H S.nx w kl μ' (updH (killsH [b] S.H) b (.data t' (insL l (i : Int) [x]))) S.nx w' ∧ RelV w' (Not F μ' (updH (killsH [b] S.H) b (.data t' (insL l (i : Int) [x])))) μ' (updH (killsH [b] S.H) b (.data t' (insL l (i : Int) [x]))) (.wh b) val := fun cs hcl hrel e w' hpost => by
          have hi1 : i * t'.size ≤ cs.length := by rw [hcl]; exact Nat.mul_le_mul_right _ hil
          refine row_end hp hb (L := insL l (i : Int) [x]) (by rw [hLl]; exact hpost) ?_ fun j hj => ?_
          · rw [hLl]
            simp only [List.length_append, List.length_take, List.length_drop, Nat.succ_mul, q1', hcl] at *
            omega
          · rw [hLl] at hj
            have htl : (cs.take (i * t'.size)).length = i * t'.size := by rw [List.length_take]; omega
            rcases Nat.lt_trichotomy j i with hji | hji | hji
            · have h4 : j * t'.size + t'.size ≤ i * t'.size := by rw [← Nat.succ_mul]; exact Nat.mul_le_mul_right _ hji
              rw [List.append_assoc, drop_take_app _ _ _ _ (by rw [htl]; exact h4)]
              have h5 : ((cs.take (i * t'.size)).drop (j * t'.size)).take t'.size = (cs.drop (j * t'.size)).take t'.size := by
                rw [List.drop_take, List.take_take, Nat.min_eq_left (by omega)]
              rw [h5]
              have h6 : (insL l (i : Int) [x])[j]'(by rw [hLl]; omega) = l[j]'(by omega) := by
                simp only [insL, Int.toNat_natCast, List.append_assoc]
                rw [List.getElem_append_left (by rw [List.length_take]; omega), List.getElem_take]
              rw [h6]
              exact hrel j (by omega)
            · subst hji
              rw [List.append_assoc, drop_app_right _ _ _ (by rw [htl]; exact Nat.le_refl _), htl, Nat.sub_self, List.drop_zero, List.take_append_of_le_length (by omega), List.take_of_length_le (by omega)]
              have h6 : (insL l (j : Int) [x])[j]'(by rw [hLl]; omega) = x := by
                simp only [insL, Int.toNat_natCast, List.append_assoc]
                rw [List.getElem_append_right (by rw [List.length_take]; omega)]
                simp [Nat.min_eq_left hil]
              rw [h6]
              exact q3'
            · obtain ⟨k, rfl⟩ : ∃ k, j = k + 1 := ⟨j - 1, by omega⟩
              have h4 : i * t'.size ≤ k * t'.size := Nat.mul_le_mul_right _ (by omega)
              rw [drop_app_right _ _ _ (by rw [List.length_append, htl, q1', Nat.succ_mul]; omega), List.length_append, htl, q1', Nat.succ_mul, List.drop_drop, show i * t'.size + (k * t'.size + t'.size - (i * t'.size + t'.size)) = k * t'.size by omega]
              have h6 : (insL l (i : Int) [x])[k + 1]'(by rw [hLl]; omega) = l[k]'(by omega) := by
                simp only [insL, Int.toNat_natCast]
                rw [List.getElem_append_right (by simp; omega), List.getElem_drop]
                congr 1
                simp
                omega
              rw [h6]
              exact hrel k (by omega)
        rcases hx1 with ⟨g, c', hmb, rfl, hlc', hroomb⟩ | ⟨hmb, rfl, rfl⟩
        · obtain ⟨cs, p1, p2, p3⟩ := cells_of hp hb hmb
          have hgl := hp.lt b g hlb hmb
          refine (hc (some g) l.length c' i vb vc cs vcs w (fun h => by cases h) hil (by simpa using h3) hlc' (by simpa using hvc) p1 q1' (one_cells p1 p3) hov (fun g' hg' => ?_) q2 hroomv' hmkv hvbl).mono fun e w' hpost => ?_
          · cases hg'
            exact ⟨p2, hroomb, fun hgv => hbc (hp.inj b c g hlb hlc hmb (by rw [hgv]; exact hmc)), hp.mark b g (by rw [hb]; exact hy) hmb, hgl⟩
          · exact fin cs p1 p3 e w' (by rw [hmb]; exact hpost)
        · refine (hc none 0 0 i vb vc [] vcs w (fun _ => ⟨rfl, rfl⟩) (by simpa using hil) (by omega) (Nat.le_refl _) (by simpa using hvc) (by simp) q1' (fun v hv => by cases hv) hov (fun g' hg' => by cases hg') q2 hroomv' hmkv hvbl).mono fun e w' hpost => ?_
          exact fin [] (by simp) (fun j hj => absurd hj (by simp)) e w' (by rw [hmb]; exact hpost)
      · cases h
    · cases h
  · cases h

theorem zDelete_ok {P : Program} {f : FuncId} (y : Ty) (hy : decide (y ≠ .u8) = true) (hen : Go.Ev.Enters P f)
    (h0 : ∀ (w : World), Calls P f #[.slice none 0 0, .int .i64 0, .int .i64 0] w fun e w' => e = .returned (.slice none 0 0) ∧ w' = w)
    (hc : ∀ (g n c i j : Nat) (cs : List Value) (w : World), i ≤ j → j ≤ n → n ≤ 1000000 → n ≤ c → cs.length = n * y.size → (∀ v ∈ cs, v.oneCell' = true) → rowAt w g 0 cs → room w g (c * y.size) → NoMark w g → g < w.heap.size →
      Calls P f #[.slice (some ⟨g, 0, none⟩) n c, .int .i64 i, .int .i64 j] w (RowPost y.size w (some g) (n - (j - i)) (cs.take (i * y.size) ++ cs.drop (j * y.size)))) : ZOK P f (zDelete y) := by
  refine ⟨hen, fun args S v S' h F μ w vals hp hr => ?_⟩
  unfold zDelete at h
  split at h
  · rename_i b n m
    split at h
    · rename_i t l hb
      split at h
      · rename_i hty
        subst hty
        simp only [Option.some.injEq, Prod.mk.injEq, Bool.and_eq_true, decide_eq_true_eq, delOK] at h
        obtain ⟨⟨⟨⟨h1, h2⟩, h3⟩, h4⟩, rfl, rfl⟩ := h
        simp only [RelVs, RelV] at hr
        obtain ⟨v1, _, rfl, ⟨t1, l1, hb1, hx1⟩, v2, _, rfl, rfl, v3, _, rfl, rfl, rfl⟩ := hr
        rw [hb] at hb1
        injection hb1 with e1 e2
        subst e1
        have e2 := eq_of_heq e2
        subst e2
        obtain ⟨i, rfl⟩ : ∃ i : Nat, n = (i : Int) := ⟨n.toNat, by omega⟩
        obtain ⟨j, rfl⟩ : ∃ j : Nat, m = (j : Int) := ⟨m.toNat, by omega⟩
        have hij : i ≤ j := by omega
        have hjl : j ≤ l.length := by omega
        have hlb : S.H b ≠ .dead := by rw [hb]; simp
        have hLl : (delL l (i : Int) (j : Int)).length = l.length - (j - i) := by simp [delL]; omega
        rcases hx1 with ⟨g, c', hmb, rfl, hlc', hroomb⟩ | ⟨hmb, rfl, rfl⟩
        · obtain ⟨cs, p1, p2, p3⟩ := cells_of hp hb hmb
          have hgl := hp.lt b g hlb hmb
          refine (hc g l.length c' i j cs w hij hjl h4 hlc' p1 (one_cells p1 p3) p2 hroomb (hp.mark b g (by rw [hb]; exact hy) hmb) hgl).mono fun e w' hpost => ?_
          have hi1 : i * t.size ≤ cs.length := by rw [p1]; exact Nat.mul_le_mul_right _ (by omega)
          have hj1 : j * t.size ≤ l.length * t.size := Nat.mul_le_mul_right _ hjl
          have htl : (cs.take (i * t.size)).length = i * t.size := by rw [List.length_take]; omega
          refine row_end hp hb (L := delL l (i : Int) (j : Int)) (by rw [hLl, hmb]; exact hpost) ?_ fun k hk => ?_
          · rw [hLl, show l.length - (j - i) = i + (l.length - j) by omega, Nat.add_mul, Nat.sub_mul, List.length_append, htl, List.length_drop, p1]
          · rw [hLl] at hk
            by_cases hki : k < i
            · have h4 : k * t.size + t.size ≤ i * t.size := by rw [← Nat.succ_mul]; exact Nat.mul_le_mul_right _ hki
              rw [drop_take_app _ _ _ _ (by rw [htl]; exact h4)]
              have h5 : ((cs.take (i * t.size)).drop (k * t.size)).take t.size = (cs.drop (k * t.size)).take t.size := by
                rw [List.drop_take, List.take_take, Nat.min_eq_left (by omega)]
              rw [h5]
              have h6 : (delL l (i : Int) (j : Int))[k]'(by rw [hLl]; omega) = l[k]'(by omega) := by
                simp only [delL, Int.toNat_natCast]
                rw [List.getElem_append_left (by rw [List.length_take]; omega), List.getElem_take]
              rw [h6]
              exact p3 k (by omega)
            · have h4 : i * t.size ≤ k * t.size := Nat.mul_le_mul_right _ (by omega)
              have h7 : (k - i) * t.size = k * t.size - i * t.size := Nat.sub_mul _ _ _
              rw [drop_app_right _ _ _ (by rw [htl]; exact h4), htl, List.drop_drop, ← h7, ← Nat.add_mul]
              have h6 : (delL l (i : Int) (j : Int))[k]'(by rw [hLl]; omega) = l[j + (k - i)]'(by omega) := by
                simp only [delL, Int.toNat_natCast]
                rw [List.getElem_append_right (by rw [List.length_take]; omega), List.getElem_drop]
                congr 1
                rw [List.length_take]
                omega
              rw [h6]
              exact p3 (j + (k - i)) (by omega)
        · have hj0 : j = 0 := by simpa using hjl
          have hi0 : i = 0 := by omega
          subst hj0 hi0
          refine (h0 w).mono fun e w' ⟨he, hw⟩ => ?_
          subst hw
          have T : Turned F μ S.H S.nx w' [b] b none (.data t (delL [] ((0 : Nat) : Int) ((0 : Nat) : Int))) S.nx w' :=
            { hp := hp, os := rfl, tape := rfl, output := rfl, size := Nat.le_refl _, live := by simp, mono := Nat.le_refl _
              keep := fun k hk hne => rfl
              at_ := fun k hk => by cases hk
              lt := by
                rcases Nat.lt_or_ge b S.nx with h | h
                · exact h
                · exact absurd (hp.dead b h) hlb
              kind := fun _ => Pin.zero rfl
              mark := fun _ k hk => by cases hk
              self := fun hk _ => by simp [hasN] at hk }
          refine ⟨updM μ b none, [b], _, he, rfl, rfl, T.hp' ?_, T.pl, ?_⟩
          · simp only [RelB]
            exact .inl ⟨updM_same _ _ _, by simp [delL]⟩
          · simp only [RelV]
            exact ⟨t, _, updH_same _ _ _, .inr ⟨updM_same _ _ _, by simp [delL], trivial⟩⟩
      · cases h
    · cases h
  · cases h

/-- copy, of elements of several cells -/
theorem run_copy_cellsK {P : Program} (w : World) (dT sT ty elem : TypeId) (i : TypeInfo) (b o dLen dCap : Nat) (a : Addr) (sLen sCap n : Nat) (cs : List Value)
    (hu : P.underlying dT = some (.slice elem)) (hi : P.info? elem = some i) (hmin : n = Nat.min sLen dLen) (hn : cs.length = n * i.size)
    (hsrc : ∀ j v, cs[j]? = some v → w.cell? (a.add j) = some v) (hc : ∀ j, j < cs.length → (w.cell? ⟨b, o + j, none⟩).isSome = true) (hf : ∀ j, j < cs.length → w.frozen? ⟨b, o + j, none⟩ = false) (h1 : ∀ v ∈ cs, v.oneCell' = true) :
    (Builtin.copy_ #[dT, sT] ty #[.slice (some ⟨b, o, none⟩) dLen dCap, .slice (some a) sLen sCap]).run P w = .ok (goInt n) (w.setCells b o cs) := by
  have hl := run_loadCells_list (P := P) w a cs hsrc
  rw [hn] at hl
  have hst := run_storeCells_cells (P := P) b o cs 0 w (by simpa using hc) (by simpa using hf) h1
  simp [Builtin.copy_, run_underlying hu, Builtin.lenOf, Builtin.firstCells, sizeOf, typeInfo, hi, ← hmin, hl, hst]

theorem NoMark.setCells {g b : Nat} : ∀ (vs : List Value) (o : Nat) {w : World}, NoMark w g → NoMark (w.setCells b o vs) g
  | [], _, _, h => h
  | v :: vs, o, w, h => by
    refine NoMark.setCells vs (o + 1) ?_
    by_cases hb : g = b
    · subst hb; exact h.setCell o v
    · exact h.of_heap (heap_setCell_other w _ g v hb)

theorem heap_setCells {b g : Nat} (hg : g ≠ b) : ∀ (vs : List Value) (o : Nat) (w : World), (w.setCells b o vs).heap[g]? = w.heap[g]?
  | [], _, _ => rfl
  | v :: vs, o, w => by
    rw [World.setCells, heap_setCells hg vs (o + 1)]
    exact heap_setCell_other w _ g v hg

theorem size_setCells {b : Nat} : ∀ (vs : List Value) (o : Nat) (w : World), (w.setCells b o vs).heap.size = w.heap.size
  | [], _, _ => rfl
  | v :: vs, o, w => by
    rw [World.setCells, size_setCells vs (o + 1)]
    simp

theorem os_setCells {b : Nat} : ∀ (vs : List Value) (o : Nat) (w : World), (w.setCells b o vs).os = w.os ∧ (w.setCells b o vs).tape = w.tape ∧ (w.setCells b o vs).output = w.output
  | [], _, _ => ⟨rfl, rfl, rfl⟩
  | v :: vs, o, w => by
    rw [World.setCells]
    obtain ⟨h1, h2, h3⟩ := os_setCells (b := b) vs (o + 1) (w.setCell ⟨b, o, none⟩ v)
    exact ⟨h1, h2, h3⟩

theorem some_setCells {b : Nat} {a : Addr} : ∀ (vs : List Value) (o : Nat) (w : World), (w.cell? a).isSome = true → ((w.setCells b o vs).cell? a).isSome = true
  | [], _, _, h => h
  | v :: vs, o, w, h => by
    rw [World.setCells]
    refine some_setCells vs (o + 1) _ ?_
    by_cases he : (⟨b, o, none⟩ : Addr) = a
    · subst he
      obtain ⟨u, hu⟩ := Option.isSome_iff_exists.1 h
      rw [World.cell?_setCell_same w _ _ hu]
      rfl
    · rw [World.cell?_setCell_other w _ _ _ he]
      exact h

theorem room_setCells {g b n : Nat} {vs : List Value} {o : Nat} {w : World} (h : room w g n) : room (w.setCells b o vs) g n := fun k hk =>
  ⟨some_setCells _ _ _ (h k hk).1, by rw [World.frozen?_setCells]; exact (h k hk).2⟩

/-- the row behind a write -/
theorem row_setCells {g o : Nat} {us vs : List Value} {w : World} (hr : rowAt w g 0 us) (hroom : room w g (o + vs.length)) (ho : o ≤ us.length) :
    rowAt (w.setCells g o vs) g 0 (us.take o ++ vs ++ us.drop (o + vs.length)) := fun i hi => by
  rw [Nat.zero_add]
  simp only [List.length_append, List.length_take, List.length_drop] at hi
  by_cases h1 : i < o
  · rw [World.cell?_setCells_out _ _ _ _ _ (fun _ _ => .inl h1)]
    have := hr i (by omega)
    rw [Nat.zero_add] at this
    rw [this, List.getElem_append_left (by rw [List.length_append, List.length_take]; omega), List.getElem_append_left (by rw [List.length_take]; omega), List.getElem_take]
  · by_cases h2 : i < o + vs.length
    · have := World.cell?_setCells_in g vs o w (fun j hj => (hroom (o + j) (by omega)).1) (i - o) (by omega)
      rw [show o + (i - o) = i by omega] at this
      rw [this, List.getElem_append_left (by rw [List.length_append, List.length_take]; omega), List.getElem_append_right (by rw [List.length_take]; omega)]
      congr 2
      rw [List.length_take]
      omega
    · rw [World.cell?_setCells_out _ _ _ _ _ (fun _ _ => .inr (by show o + vs.length ≤ i; omega))]
      have := hr i (by omega)
      rw [Nat.zero_add] at this
      rw [this, List.getElem_append_right (by rw [List.length_append, List.length_take]; omega), List.getElem_drop]
      congr 2
      rw [List.length_append, List.length_take]
      omega

end Go.Ev
/- strings.Compare and maps.Clone of this seat, walked. -/
namespace Go.Su
open Go Go.Ev Go.Proofs Go.RowKit
set_option maxRecDepth 100000

theorem mixedW : Try.prog.follows .mixedOrders = true := by kernel_rfl

theorem compareString27 (a b : ByteArray) (w : World) :
    Calls Try.prog 27 #[.string a, .string b] w fun e w' => e = .returned (.int .i64 (Lib.compareBytes a.data.toList b.data.toList)) ∧ w' = w := by
  have mixed := mixedW
  go_enter Try.func27, Try.ntmps27
  go_wp2
  rw [run_callFunc_extern Try.func49 (by kernel_rfl) (by kernel_rfl) (by kernel_rfl) (e := Extern.BytealgCompare.compare) (by kernel_rfl), Lib.run_compareString]
  simp only [Result.andThen]
  rw [Oper.upon_value]
  go_wp2
  go_ret
  exact ⟨rfl, rfl⟩

theorem compare17 (a b : ByteArray) (w : World) :
    Calls Try.prog 17 #[.string a, .string b] w fun e w' => e = .returned (.int .i64 (Lib.compareBytes a.data.toList b.data.toList)) ∧ w' = w := by
  have mixed := mixedW
  have e27 := Try.call27
  go_enter Try.func17, Try.ntmps17
  have hc := compareString27 a b
  go_wp2_with (refine (hc _).mono ?_; rintro e w' ⟨rfl, rfl⟩)
  go_ret
  exact ⟨rfl, rfl⟩

theorem zCompare17 : ZOK Try.prog 17 (zPv pCompare) := pCompare_ok Try.call17 compare17

theorem clone13 (w : World) {b : Nat} {es : Array MapEntry} {clock : Nat} (hb : w.heap[b]? = some (.map es clock)) :
    Calls Try.prog 13 #[.map (some b)] w fun e w' => e = .returned (.map (some w.heap.size)) ∧ w' = w.alloc (.map es clock) := by
  have mixed := mixedW
  have hq := fun w => run_eql_map_nil_sl (P := Try.prog) w 45 _ _ (some b) Try.underlying45
  go_enter Try.func13, Try.ntmps13
  go_wp2
  rw [run_callFunc_extern Try.func20 (by kernel_rfl) (by kernel_rfl) (by kernel_rfl) (e := Extern.MapsClone.clone) (by kernel_rfl), run_maps_clone_sl w 45 hb]
  simp only [Result.andThen]
  rw [Oper.upon_value]
  go_wp2
  rw [run_typeAssert_map_sl _ 45 20 _ _ _ Try.underlying45]
  simp only [Result.andThen]
  rw [Oper.upon_value]
  go_wp2
  go_ret
  exact ⟨rfl, rfl⟩

theorem zClone13 : ZOK Try.prog 13 zClone := zClone_ok Try.call13 fun w b es clock hb => clone13 w hb

end Go.Su
/- slices.Insert of one box, slices.Delete of some, walked. -/
namespace Go.Su
open Go Go.Ev Go.Proofs Go.RowKit Go.Lib
set_option maxRecDepth 100000

def zBoxV : Value := .agg #[.string ⟨#[]⟩, .int .i64 0, .int .i64 0, .slice none 0 0]
theorem info36 : Try.prog.info? 36 = some Try.t36 := by kernel_rfl

theorem rowAt_get {w : World} {g o : Nat} {cs : List Value} (h : Ev.rowAt w g o cs) : ∀ j v, cs[j]? = some v → w.cell? ⟨g, o + j, none⟩ = some v := fun j v hj => by
  obtain ⟨hl, rfl⟩ := List.getElem?_eq_some_iff.1 hj
  exact h j hl

theorem NoMark.alloc {w : World} {c : Array Value} {e : TypeId} : NoMark (w.alloc (.cells c e)) w.heap.size := fun c' e' m h => by
  rw [World.alloc_heap_new] at h
  cases h
  simp

set_option maxHeartbeats 4000000 in
/-- at the end, with room -/
theorem insert_end_room (g n c vb vc : Nat) (vs : List Value) (w : World) (hroom : n + 1 ≤ c) (hvl : vs.length = 4) (hrm : room w g (c * 4)) (hvs : Ev.rowAt w vb 0 vs) (h1v : ∀ v ∈ vs, v.oneCell' = true) :
    Calls Try.prog 39 #[.slice (some ⟨g, 0, none⟩) n c, .int .i64 n, .slice (some ⟨vb, 0, none⟩) 1 vc] w fun e w' => e = .returned (.slice (some ⟨g, 0, none⟩) (n + 1) c) ∧ w' = w.setCells g (n * 4) vs := by
  have mixed := mixedW
  have hsrc : Go.Src Try.prog Try.t36.size 48 (.slice (some ⟨vb, 0, none⟩) 1 vc) 1 vs w := Go.Src.ofSlice w Try.underlying48 ⟨vb, 0, none⟩ 1 vc vs (by rw [hvl]; rfl) (fun j u hj => by rw [Addr.add_lit]; exact rowAt_get hvs j u hj) h1v
  have hk : ∀ j, j < vs.length → n * 4 + j < c * 4 := fun j hj => by omega
  have hrun : ∀ ty, (Builtin.append_ #[48, 48] ty #[.slice (some ⟨g, 0, none⟩) n c, .slice (some ⟨vb, 0, none⟩) 1 vc]).run Try.prog w = .ok (.slice (some ⟨g, 0, none⟩) (n + 1) c) (w.setCells g (n * 4) vs) := fun ty => by
    have := run_append_room_src w 48 48 ty 36 Try.t36 Try.underlying48 info36 g 0 n c _ 1 vs hsrc hroom (fun j hj => by rw [show (0 : Nat) + n * Try.t36.size + j = n * 4 + j by rw [Nat.zero_add]; rfl]; exact (hrm _ (hk j hj)).1) (fun j hj => by rw [show (0 : Nat) + n * Try.t36.size + j = n * 4 + j by rw [Nat.zero_add]; rfl]; exact (hrm _ (hk j hj)).2)
    rw [show (0 : Nat) + n * Try.t36.size = n * 4 by rw [Nat.zero_add]; rfl] at this
    exact this
  go_enter Try.func39, Try.ntmps39
  go_wp2_with (at_builtin; refine Lib.wpList_append_run _ rfl _ _ _ _ rfl _ _ rfl rfl _ _ (hrun _) ?_)
  go_ret
  exact ⟨rfl, rfl⟩

set_option maxHeartbeats 4000000 in
/-- at the end, without room -/
theorem insert_end_grow (base : Option Nat) (n c vb vc : Nat) (cs vs : List Value) (w : World) (hb : base = none → n = 0 ∧ c = 0) (hroom : c < n + 1) (hn : n + 1 ≤ 1000000) (hcl : cs.length = n * 4) (hvl : vs.length = 4) (hcs : ∀ g, base = some g → Ev.rowAt w g 0 cs) (hvs : Ev.rowAt w vb 0 vs) (h1v : ∀ v ∈ vs, v.oneCell' = true) :
    Calls Try.prog 39 #[.slice (base.map fun g => ⟨g, 0, none⟩) n c, .int .i64 n, .slice (some ⟨vb, 0, none⟩) 1 vc] w fun e w' => e = .returned (.slice (some ⟨w.heap.size, 0, none⟩) (n + 1) (grownCap w (n + 1) c 36)) ∧ w' = w.drew.alloc (.cells ((cs ++ vs).toArray ++ Builtin.zeroCells zBoxV.cells (grownCap w (n + 1) c 36 - (n + 1))) 36) := by
  have mixed := mixedW
  have hsrc : Go.Src Try.prog Try.t36.size 48 (.slice (some ⟨vb, 0, none⟩) 1 vc) 1 vs w := Go.Src.ofSlice w Try.underlying48 ⟨vb, 0, none⟩ 1 vc vs (by rw [hvl]; rfl) (fun j u hj => by rw [Addr.add_lit]; exact rowAt_get hvs j u hj) h1v
  have hold : (Builtin.firstCells Try.t36.size n (.slice (base.map fun g => ⟨g, 0, none⟩) n c)).run Try.prog w.drew = .ok cs.toArray w.drew := by
    cases base with
    | none =>
      obtain ⟨h0, h1⟩ := hb rfl
      subst h0
      rw [List.length_eq_zero_iff.1 (by omega : cs.length = 0)]
      exact run_firstCells_none w.drew _ 0 0 c
    | some g => exact run_firstCells_some w.drew _ n ⟨g, 0, none⟩ n c cs (by rw [hcl]; rfl) (fun j v hj => by rw [Addr.add_lit]; exact rowAt_get (hcs g rfl) j v hj)
  have hrun : ∀ ty, (Builtin.append_ #[48, 48] ty #[.slice (base.map fun g => ⟨g, 0, none⟩) n c, .slice (some ⟨vb, 0, none⟩) 1 vc]).run Try.prog w = _ := fun ty =>
    run_append_grow_src w 48 48 ty 36 Try.t36 zBoxV Try.underlying48 info36 rfl _ n c cs hold _ 1 vs hsrc hroom (by omega) (by rw [show Try.t36.bytes = 56 from rfl]; exact growslice_fits hroom (by omega))
  go_enter Try.func39, Try.ntmps39
  cases base with
  | none =>
    obtain ⟨h0, h1⟩ := hb rfl
    subst h0
    subst h1
    simp only [Option.map_none] at hrun ⊢
    go_wp2_with (at_builtin; refine Lib.wpList_append_run _ rfl _ _ _ _ rfl _ _ rfl rfl _ _ (hrun _) ?_)
    go_ret
    exact ⟨rfl, rfl⟩
  | some g =>
    simp only [Option.map_some] at hrun ⊢
    go_wp2_with (at_builtin; refine Lib.wpList_append_run _ rfl _ _ _ _ rfl _ _ rfl rfl _ _ (hrun _) ?_)
    all_goals (go_ret; exact ⟨rfl, rfl⟩)

theorem len_setCells {g : Nat} (vs : List Value) (o : Nat) (w : World) : (w.drew.setCells g o vs).heap.size = w.heap.size := size_setCells vs o _

set_option maxHeartbeats 4000000 in
/-- in the midst, with room -/
theorem insert_shift (g n c i vb vc : Nat) (cs vs : List Value) (w : World) (hi : i < n) (hn : n + 1 ≤ 1000000) (hroom : n + 1 ≤ c) (hvb : vb ≠ g) (hcl : cs.length = n * 4) (hvl : vs.length = 4) (hcs : Ev.rowAt w g 0 cs) (hrm : room w g (c * 4)) (hvs : Ev.rowAt w vb 0 vs)
    (h1c : ∀ v ∈ cs, v.oneCell' = true) (h1v : ∀ v ∈ vs, v.oneCell' = true) (hmv : NoMark w vb) (hrv : room w vb 4) :
    Calls Try.prog 39 #[.slice (some ⟨g, 0, none⟩) n c, .int .i64 i, .slice (some ⟨vb, 0, none⟩) 1 vc] w fun e w' => e = .returned (.slice (some ⟨g, 0, none⟩) (n + 1) c) ∧ w' = (w.drew.setCells g ((i + 1) * 4) (cs.drop (i * 4))).setCells g (i * 4) vs := by
  have mixed := mixedW
  have hz2 : ¬ ((i : Int) = (n : Int)) := by omega
  obtain ⟨kA, eA, mA, hA⟩ : ∃ c0 e0 m0, w.heap[vb]? = some (.cells c0 e0 m0) := by
    have := (hrv 0 (by omega)).1
    unfold World.cell? at this
    simp only at this
    split at this
    · rename_i c0 e0 m0 hh
      exact ⟨c0, e0, m0, hh⟩
    · cases this
  obtain ⟨kB, eB, mB, hB⟩ : ∃ c0 e0 m0, w.heap[g]? = some (.cells c0 e0 m0) := by
    have := (hrm 0 (by omega)).1
    unfold World.cell? at this
    simp only at this
    split at this
    · rename_i c0 e0 m0 hh
      exact ⟨c0, e0, m0, hh⟩
    · cases this
  have hsa : w.shape? vb = some (eA, kA.size) := by unfold World.shape?; rw [hA]
  have hsb : w.shape? g = some (eB, kB.size) := by unfold World.shape?; rw [hB]
  have hkB : kB.size ≠ 0 := by
    have := (hrm 0 (by omega)).1
    unfold World.cell? at this
    simp only [hB] at this
    intro h0
    simp [h0] at this
  have hfa := (hrv 0 (by omega)).2
  have hfe : w.frozen? { block := vb, off := kA.size } = false := by
    unfold World.frozen?
    simp only [hA]
    have := hmv kA eA mA hA
    obtain ⟨m1, m2⟩ := mA
    simpa using this
  have hov : ∀ lb cb, (callFunc 58 #[.slice (some ⟨vb, 0, none⟩) 1 vc, .slice (some ⟨g, (i + 1) * 4, none⟩) lb cb]).run Try.prog w = .ok (.value (.bool false)) w := fun lb cb => by
    rw [run_callFunc_extern Try.func58 (by kernel_rfl) (by kernel_rfl) (by kernel_rfl) (e := Extern.SlicesOverlaps.overlaps #[48, 48] #[4]) (by kernel_rfl),
      Lib.run_overlaps_apart w 48 4 36 Try.underlying48 4 Try.sizeOf36 ⟨vb, 0, none⟩ ⟨g, (i + 1) * 4, none⟩ 1 vc lb cb hvb eA eB kA.size kB.size hsa hsb hkB hfa hfe]
    rfl
  have hdl : (cs.drop (i * 4)).length = (n - i) * 4 := by rw [List.length_drop, hcl]; omega
  have hcp1 : ∀ ty dc sc, (Builtin.copy_ #[48, 48] ty #[.slice (some ⟨g, (i + 1) * 4, none⟩) (n - i) dc, .slice (some ⟨g, i * 4, none⟩) (n + 1 - i) sc]).run Try.prog w.drew = .ok (goInt ((n - i : Nat))) (w.drew.setCells g ((i + 1) * 4) (cs.drop (i * 4))) := fun ty dc sc =>
    run_copy_cellsK w.drew _ _ ty 36 Try.t36 g ((i + 1) * 4) (n - i) dc ⟨g, i * 4, none⟩ (n + 1 - i) sc (n - i) (cs.drop (i * 4)) Try.underlying48 info36 (by simp only [Nat.min_def]; split <;> omega) hdl
      (fun j v hj => by
        rw [Addr.add_lit]
        have := rowAt_get hcs (i * 4 + j) v (by rwa [List.getElem?_drop] at hj)
        rw [Nat.zero_add] at this
        exact this)
      (fun j hj => (hrm _ (by omega)).1) (fun j hj => (hrm _ (by omega)).2) (fun v hv => h1c v (List.mem_of_mem_drop hv))
  obtain ⟨W1, hW1⟩ : ∃ W1, W1 = w.drew.setCells g ((i + 1) * 4) (cs.drop (i * 4)) := ⟨_, rfl⟩
  have hrm1 : room W1 g (c * 4) := by rw [hW1]; exact room_setCells hrm
  have hcp2 : ∀ (W : World), (∀ x, W.cell? x = W1.cell? x) → (∀ x, W.frozen? x = W1.frozen? x) → ∀ ty dc, (Builtin.copy_ #[48, 48] ty #[.slice (some ⟨g, i * 4, none⟩) (n + 1 - i) dc, .slice (some ⟨vb, 0, none⟩) 1 vc]).run Try.prog W = .ok (goInt 1) (W.setCells g (i * 4) vs) := fun W hWc hWf ty dc =>
    run_copy_cellsK W _ _ ty 36 Try.t36 g (i * 4) (n + 1 - i) dc ⟨vb, 0, none⟩ 1 vc 1 vs Try.underlying48 info36 (by simp only [Nat.min_def]; split <;> omega) (by rw [hvl]; rfl)
      (fun j v hj => by
        rw [Addr.add_lit, hWc, hW1, World.cell?_setCells_out g _ _ _ _ (fun h _ => absurd h hvb)]
        exact rowAt_get hvs j v hj)
      (fun j hj => by rw [hWc]; exact (hrm1 _ (by omega)).1) (fun j hj => by rw [hWf]; exact (hrm1 _ (by omega)).2) h1v
  rw [← hW1] at hcp1
  have hw1 : IntKind.i64.wrap ((i : Int) + 1) = (i : Int) + 1 := by rw [IntKind.wrap_i64]; omega
  have hb1 : (0 : Int) ≤ (i : Int) + 1 := by omega
  have hin : i ≤ n := by omega
  have htn : ((i : Int) + 1).toNat = i + 1 := by omega
  have hb2 : ¬ (c = i + 1) := by omega
  have hb3 : (i : Int) ≤ (n : Int) + 1 := by omega
  have hb4 : ¬ (c = i) := by omega
  have hw2 : IntKind.i64.wrap ((n : Int) + 1) = (n : Int) + 1 := by rw [IntKind.wrap_i64]; omega
  go_enter Try.func39, Try.ntmps39
  go_wp2_with (simp only [hov])
  go_region_law_o (refine step_copy_runI rfl _ _ 48 48 rfl _ _ (by simp [Act.eval, Act.put]) (by simp [Act.eval, Act.put]) (hcp1 _ _ _) ?_)
  go_wp2_with (at_builtin; refine wpList_copy_runI _ rfl _ _ 48 48 rfl _ _ rfl rfl (hcp2 _ (fun _ => rfl) (fun _ => rfl) _ _) ?_)
  go_ret
  first | exact ⟨rfl, rfl⟩ | exact ⟨rfl, by rw [hW1]⟩

set_option maxHeartbeats 4000000 in
/-- in the midst, without room -/
theorem insert_grow (g n c i vb vc : Nat) (cs vs : List Value) (w : World) (hi : i < n) (hn : n + 1 ≤ 1000000) (hnc : n ≤ c) (hroom : c < n + 1) (hcl : cs.length = n * 4) (hvl : vs.length = 4) (hcs : Ev.rowAt w g 0 cs) (hvs : Ev.rowAt w vb 0 vs)
    (h1c : ∀ v ∈ cs, v.oneCell' = true) (h1v : ∀ v ∈ vs, v.oneCell' = true) (hgw : g < w.heap.size) (hvw : vb < w.heap.size) :
    Calls Try.prog 39 #[.slice (some ⟨g, 0, none⟩) n c, .int .i64 i, .slice (some ⟨vb, 0, none⟩) 1 vc] w fun e w' => e = .returned (.slice (some ⟨w.heap.size, 0, none⟩) (n + 1) (grownCap w (n + 1) c 36)) ∧
      w' = (((w.alloc (.cells ((cs.take (i * 4)).toArray ++ Builtin.zeroCells zBoxV.cells (n + 1 - i) ++ Builtin.zeroCells zBoxV.cells (grownCap w (n + 1) c 36 - (n + 1))) 36)).drew.setCells w.heap.size (i * 4) vs).drew).setCells w.heap.size ((i + 1) * 4) (cs.drop (i * 4)) := by
  have mixed := mixedW
  have hz2 : ¬ ((i : Int) = (n : Int)) := by omega
  have hz3 : (c : Int) < (n : Int) + 1 := by omega
  have hkk : (n : Int) + 1 - (i : Int) = ((n + 1 - i : Nat) : Int) := by omega
  have hik : i + (n + 1 - i) = n + 1 := by omega
  have hold : (Builtin.firstCells Try.t36.size i (.slice (some ⟨g, 0, none⟩) i c)).run Try.prog w.drew = .ok (cs.take (i * 4)).toArray w.drew :=
    run_firstCells_some w.drew _ i ⟨g, 0, none⟩ i c (cs.take (i * 4)) (by rw [List.length_take, show Try.t36.size = 4 from rfl]; omega) (fun j v hj => by
      rw [Addr.add_lit]
      rw [List.getElem?_take] at hj
      split at hj
      · exact rowAt_get hcs j v hj
      · cases hj)
  have hrz : ∀ ty, (Builtin.append_ #[48, 3] ty #[.slice (some ⟨g, 0, none⟩) i c, .int .i64 ((n : Int) + 1 - (i : Int))]).run Try.prog w =
      .ok (.slice (some ⟨w.heap.size, 0, none⟩) (n + 1) (grownCap w (n + 1) c 36)) (w.drew.alloc (.cells ((cs.take (i * 4)).toArray ++ Builtin.zeroCells zBoxV.cells (n + 1 - i) ++ Builtin.zeroCells zBoxV.cells (grownCap w (n + 1) c 36 - (n + 1))) 36)) := fun ty => by
    have h := Lib.run_append_grow_zeros w 48 3 ty 36 Try.t36 zBoxV .i64 .i64 Try.underlying48 Try.underlying3 info36 rfl (some ⟨g, 0, none⟩) i c (cs.take (i * 4)) hold (n + 1 - i) (by omega) (by decide) (by omega) (by omega) (by rw [show Try.t36.bytes = 56 from rfl]; omega) (by rw [show Try.t36.bytes = 56 from rfl, hik]; exact growslice_fits hroom (by omega))
    rw [hik] at h
    rw [hkk]
    exact h
  obtain ⟨G, hG⟩ : ∃ G, G = grownCap w (n + 1) c 36 := ⟨_, rfl⟩
  obtain ⟨ROW, hROW⟩ : ∃ ROW : Array Value, ROW = (cs.take (i * 4)).toArray ++ Builtin.zeroCells zBoxV.cells (n + 1 - i) ++ Builtin.zeroCells zBoxV.cells (G - (n + 1)) := ⟨_, rfl⟩
  rw [← hG] at hrz ⊢
  rw [← hROW] at hrz ⊢
  have hRl : (n + 1) * 4 ≤ ROW.size := by
    rw [hROW]
    simp only [Array.size_append, List.size_toArray, List.length_take, size_zeroCells, show zBoxV.cells.size = 4 from rfl]
    omega
  obtain ⟨W1, hW1⟩ : ∃ W1, W1 = w.drew.alloc (.cells ROW 36) := ⟨_, rfl⟩
  rw [← hW1] at hrz
  have hN : ∀ j, j < (n + 1) * 4 → (W1.cell? ⟨w.heap.size, j, none⟩).isSome = true := fun j hj => by
    rw [hW1, World.cell?_alloc_at (w := w.drew) ROW _ w.heap.size j rfl, Array.getElem?_eq_getElem (by omega)]; rfl
  have hNf : ∀ j, W1.frozen? ⟨w.heap.size, j, none⟩ = false := fun j => by rw [hW1]; exact World.frozen?_alloc_at (w := w.drew) ROW _ w.heap.size j rfl
  have hOb : ∀ j v, w.cell? ⟨g, j, none⟩ = some v → W1.cell? ⟨g, j, none⟩ = some v := fun j v h => by rw [hW1, World.cell?_alloc_past (w := w.drew) _ g j hgw]; exact h
  have hOv : ∀ j v, w.cell? ⟨vb, j, none⟩ = some v → W1.cell? ⟨vb, j, none⟩ = some v := fun j v h => by rw [hW1, World.cell?_alloc_past (w := w.drew) _ vb j hvw]; exact h
  have hcpA : ∀ (W : World), (∀ x, W.cell? x = W1.cell? x) → (∀ x, W.frozen? x = W1.frozen? x) → ∀ ty dc, (Builtin.copy_ #[48, 48] ty #[.slice (some ⟨w.heap.size, i * 4, none⟩) (n + 1 - i) dc, .slice (some ⟨vb, 0, none⟩) 1 vc]).run Try.prog W = .ok (goInt 1) (W.setCells w.heap.size (i * 4) vs) := fun W hWc hWf ty dc =>
    run_copy_cellsK W _ _ ty 36 Try.t36 w.heap.size (i * 4) (n + 1 - i) dc ⟨vb, 0, none⟩ 1 vc 1 vs Try.underlying48 info36 (by simp only [Nat.min_def]; split <;> omega) (by rw [hvl]; rfl)
      (fun j v hj => by rw [Addr.add_lit, hWc, Nat.zero_add]; exact hOv _ v (by have := rowAt_get hvs j v hj; rwa [Nat.zero_add] at this))
      (fun j hj => by rw [hWc]; exact hN _ (by omega)) (fun j hj => by rw [hWf]; exact hNf _) h1v
  have hGn : n + 1 ≤ G := by rw [hG]; exact grownCap_ge w _ _ _
  have hG63 : G ≤ 9223372036854775807 := by
    have := grownCap_le_maxLen w (n + 1) c 36 (by unfold maxLen; omega)
    rw [← hG] at this
    unfold maxLen at this
    omega
  have hGi : ¬ (G = i) := by omega
  have hGim : ¬ (G = i + 1) := by omega
  have hci : ¬ (c = i) := by omega
  have hbN : g ≠ w.heap.size := by omega
  have hdl : (cs.drop (i * 4)).length = (n - i) * 4 := by rw [List.length_drop, hcl]; omega
  have hcpB : ∀ (W : World), (∀ x, W.cell? x = (W1.setCells w.heap.size (i * 4) vs).cell? x) → (∀ x, W.frozen? x = (W1.setCells w.heap.size (i * 4) vs).frozen? x) → ∀ ty dc sc, (Builtin.copy_ #[48, 48] ty #[.slice (some ⟨w.heap.size, (i + 1) * 4, none⟩) (n - i) dc, .slice (some ⟨g, i * 4, none⟩) (n - i) sc]).run Try.prog W = .ok (goInt ((n - i : Nat))) (W.setCells w.heap.size ((i + 1) * 4) (cs.drop (i * 4))) := fun W hWc hWf ty dc sc =>
    run_copy_cellsK W _ _ ty 36 Try.t36 w.heap.size ((i + 1) * 4) (n - i) dc ⟨g, i * 4, none⟩ (n - i) sc (n - i) (cs.drop (i * 4)) Try.underlying48 info36 (by simp only [Nat.min_def]; split <;> omega) hdl
      (fun j v hj => by
        rw [Addr.add_lit, hWc, World.cell?_setCells_out _ _ _ _ _ (fun h _ => absurd h hbN)]
        have := rowAt_get hcs (i * 4 + j) v (by rwa [List.getElem?_drop] at hj)
        rw [Nat.zero_add] at this
        exact hOb _ v this)
      (fun j hj => by rw [hWc]; exact some_setCells _ _ _ (hN _ (by omega)))
      (fun j hj => by rw [hWf, World.frozen?_setCells]; exact hNf _) (fun v hv => h1c v (List.mem_of_mem_drop hv))
  subst hW1
  have hE1 : ∀ x, ((w.alloc (.cells ROW 36)).drew).cell? x = (w.drew.alloc (.cells ROW 36)).cell? x := fun x => rfl
  have hE2 : ∀ x, ((w.alloc (.cells ROW 36)).drew).frozen? x = (w.drew.alloc (.cells ROW 36)).frozen? x := fun x => rfl
  have hF1 : ∀ x, (((w.alloc (.cells ROW 36)).drew.setCells w.heap.size (i * 4) vs).drew).cell? x = ((w.drew.alloc (.cells ROW 36)).setCells w.heap.size (i * 4) vs).cell? x := fun x => rfl
  have hF2 : ∀ x, (((w.alloc (.cells ROW 36)).drew.setCells w.heap.size (i * 4) vs).drew).frozen? x = ((w.drew.alloc (.cells ROW 36)).setCells w.heap.size (i * 4) vs).frozen? x := fun x => rfl
  have hw1 : IntKind.i64.wrap ((i : Int) + 1) = (i : Int) + 1 := by rw [IntKind.wrap_i64]; omega
  have hb1 : (0 : Int) ≤ (i : Int) + 1 := by omega
  have hin : i ≤ n := by omega
  have htn : ((i : Int) + 1).toNat = i + 1 := by omega
  have hb3 : (i : Int) ≤ (n : Int) := by omega
  clear hkk hik hold hROW hG hRl
  go_enter Try.func39, Try.ntmps39
  go_wp2_with (first
    | (at_builtin; refine Lib.wpList_append_run _ rfl _ _ _ _ rfl _ _ rfl rfl _ _ (hrz _) ?_)
    | (at_builtin; refine wpList_copy_runI _ rfl _ _ 48 48 rfl _ _ rfl rfl (hcpA _ hE1 hE2 _ _) ?_)
    | (at_builtin; refine wpList_copy_runI _ rfl _ _ 48 48 rfl _ _ rfl rfl (hcpB _ (fun _ => rfl) (fun _ => rfl) _ _ _) ?_))
  go_region_law_o (refine step_copy_runI rfl _ _ 48 48 rfl (.slice (some ⟨w.heap.size, (i + 1) * 4, none⟩) (n - i) (G - (i + 1))) (.slice (some ⟨g, i * 4, none⟩) (n - i) (c - i)) (by simp [Act.eval, Act.put]) (by simp [Act.eval, Act.put]) (hcpB _ hF1 hF2 3 (G - (i + 1)) (c - i)) ?_)
  go_wp2
  go_ret
  exact ⟨rfl, rfl⟩

end Go.Su
/- slices.Delete of boxes, walked; both as deeds. -/
namespace Go.Su
open Go Go.Ev Go.Proofs Go.RowKit Go.Lib
set_option maxRecDepth 100000

abbrev BoxT : Ty := .pair .str (.pair (.int .i64) (.pair (.int .i64) (.pair (.sl (.pair (.int .i64) (.pair .u8 (.pair (.sl .u8) .unit)))) .unit)))

theorem run_clear_boxes (w : World) (ty : TypeId) (b o n c : Nat) (hn : 0 < n) (hc : ∀ j, j < n * 4 → (w.cell? ⟨b, o + j, none⟩).isSome = true) (hf : ∀ j, j < n * 4 → w.frozen? ⟨b, o + j, none⟩ = false) :
    (Builtin.clear_ #[48] ty #[.slice (some ⟨b, o, none⟩) n c]).run Try.prog w = .ok (.tuple #[]) (w.setCells b o (Builtin.zeroCells zBoxV.cells n).toList) := by
  have hv : ∀ w, (zeroValue 36).run Try.prog w = .ok zBoxV w := fun w => by simp [zeroValue, typeInfo, info36, Try.t36, zBoxV]
  have hl : (Builtin.zeroCells zBoxV.cells n).toList.length = n * 4 := by rw [Array.length_toList, size_zeroCells]; rfl
  have h1 : ∀ v ∈ (Builtin.zeroCells zBoxV.cells n).toList, v.oneCell' = true := by
    intro v hv
    obtain ⟨j, hj, rfl⟩ := List.getElem_of_mem hv
    have h4 : j % 4 < 4 := Nat.mod_lt _ (by decide)
    simp only [Builtin.zeroCells, Array.getElem_toList, Array.getElem_map, Array.getElem_range]
    have : ∀ k, k < 4 → (zBoxV.cells[k]!).oneCell' = true := by
      intro k hk
      rcases k with _ | _ | _ | _ | k
      · rfl
      · rfl
      · rfl
      · rfl
      · omega
    exact this _ h4
  have hst := run_storeCells_cells (P := Try.prog) b o _ 0 w (by rw [hl]; simpa using hc) (by rw [hl]; simpa using hf) h1
  simp only [Nat.add_zero] at hst
  obtain ⟨m, rfl⟩ : ∃ m, n = m + 1 := ⟨n - 1, by omega⟩
  simp [Builtin.clear_, run_underlying Try.underlying48, hv, hst]

set_option maxHeartbeats 4000000 in
/-- nothing is cut -/
theorem delete_none (b : Option Addr) (n c i : Nat) (w : World) (hi : i ≤ n) (hnc : n ≤ c) : Calls Try.prog 41 #[.slice b n c, .int .i64 i, .int .i64 i] w fun e w' => e = .returned (.slice b n c) ∧ w' = w := by
  have mixed := mixedW
  have hic : i ≤ c := by omega
  go_enter Try.func41, Try.ntmps41
  cases b with
  | none =>
    go_wp2
    all_goals (go_ret; exact ⟨rfl, rfl⟩)
  | some a =>
    go_wp2
    all_goals (go_ret; exact ⟨rfl, rfl⟩)

set_option maxHeartbeats 4000000 in
/-- some are cut -/
theorem delete_some (g n c i j : Nat) (cs : List Value) (w : World) (hij : i < j) (hj : j ≤ n) (hn : n ≤ 1000000) (hnc : n ≤ c) (hcl : cs.length = n * 4) (h1c : ∀ v ∈ cs, v.oneCell' = true) (hcs : Ev.rowAt w g 0 cs) (hrm : room w g (c * 4)) :
    Calls Try.prog 41 #[.slice (some ⟨g, 0, none⟩) n c, .int .i64 i, .int .i64 j] w fun e w' => e = .returned (.slice (some ⟨g, 0, none⟩) (i + (n - j)) c) ∧
      w' = (w.drew.setCells g (i * 4) (cs.drop (j * 4))).setCells g ((i + (n - j)) * 4) (Builtin.zeroCells zBoxV.cells (n - (i + (n - j)))).toList := by
  have mixed := mixedW
  have hdl : (cs.drop (j * 4)).length = (n - j) * 4 := by rw [List.length_drop, hcl]; omega
  obtain ⟨A, hA, hsrc⟩ : ∃ A : Addr, (if c = j then some (⟨g, 0, none⟩ : Addr) else some ⟨g, j * 4, none⟩) = some A ∧ Hid (∀ t u, (cs.drop (j * 4))[t]? = some u → w.drew.cell? (A.add t) = some u) := by
    by_cases h : c = j
    · refine ⟨⟨g, 0, none⟩, by simp [h], fun t u hu => ?_⟩
      have h0 : (cs.drop (j * 4)).length = 0 := by rw [hdl]; omega
      rw [List.length_eq_zero_iff.1 h0] at hu
      simp at hu
    · refine ⟨⟨g, j * 4, none⟩, by simp [h], fun t u hu => ?_⟩
      rw [Addr.add_lit]
      have := rowAt_get hcs (j * 4 + t) u (by rwa [List.getElem?_drop] at hu)
      rw [Nat.zero_add] at this
      exact this
  have s1 : Hid ((cs.drop (j * 4)).length = (n - j) * 4) := hdl
  have s2 : Hid (∀ u ∈ cs.drop (j * 4), u.oneCell' = true) := fun u hu => h1c u (List.mem_of_mem_drop hu)
  have s3 : Hid (∀ t, t < (cs.drop (j * 4)).length → (w.drew.cell? ⟨g, 0 + i * 4 + t, none⟩).isSome = true ∧ w.drew.frozen? ⟨g, 0 + i * 4 + t, none⟩ = false) := by
    intro t ht
    rw [hdl] at ht
    exact hrm _ (by omega)
  obtain ⟨W1, hW1⟩ : ∃ W1, W1 = w.drew.setCells g (0 + i * 4) (cs.drop (j * 4)) := ⟨_, rfl⟩
  have hrm1 : room W1 g (c * 4) := by rw [hW1]; exact room_setCells hrm
  have hcl2 : ∀ ty, (Builtin.clear_ #[48] ty #[.slice (some ⟨g, (i + (n - j)) * 4, none⟩) (n - (i + (n - j))) (c - (i + (n - j)))]).run Try.prog W1 = .ok (.tuple #[]) (W1.setCells g ((i + (n - j)) * 4) (Builtin.zeroCells zBoxV.cells (n - (i + (n - j)))).toList) :=
    fun ty => run_clear_boxes W1 ty g _ _ _ (by omega) (fun t ht => (hrm1 _ (by omega)).1) (fun t ht => (hrm1 _ (by omega)).2)
  have hW : Hid (W1 = w.drew.setCells g (0 + i * 4) (cs.drop (j * 4))) := hW1
  have hW0 : w.drew.setCells g (i * 4) (cs.drop (j * 4)) = W1 := by rw [hW1, Nat.zero_add]
  rw [hW0]
  have hic : i ≤ c := by omega
  have hjc : j ≤ c := by omega
  have hne : ¬ ((i : Int) = (j : Int)) := by omega
  generalize zBoxV.cells = Z at hcl2 ⊢
  clear hW1 hW0 hrm1 hrm hcs hcl
  go_enter Try.func41, Try.ntmps41
  go_wp2_with fail
  go_region_law_o (refine step_append_room rfl (.tmp 22) (.tmp 25) 48 rfl 36 Try.t36 4 Try.underlying48 info36 rfl g 0 i c (by simp [Act.eval, Act.put]) A (n - j) (c - j) (cs.drop (j * 4)) (by simp [Act.eval, Act.put]) s1.out hsrc.out s2.out (by omega) s3.out ?_; rw [← hW.out])
  go_wp2
  go_ret
  exact ⟨rfl, rfl⟩

theorem zeroCells_len (n : Nat) : (Builtin.zeroCells zBoxV.cells n).toList.length = n * 4 := by rw [Array.length_toList, size_zeroCells]; rfl

theorem zDelete41 : ZOK Try.prog 41 (zDelete BoxT) := by
  refine zDelete_ok BoxT rfl Try.call41 (fun w => (delete_none none 0 0 0 w (Nat.le_refl _) (Nat.le_refl _)).mono fun e w' h => h) fun g n c i j cs w hij hj hn hnc hcl h1c hrow hrm hmk hg => ?_
  replace hcl : cs.length = n * 4 := hcl
  replace hrm : room w g (c * 4) := hrm
  show Calls _ _ _ _ (RowPost 4 w (some g) (n - (j - i)) (cs.take (i * 4) ++ cs.drop (j * 4)))
  by_cases he : i = j
  · subst he
    refine (delete_none (some ⟨g, 0, none⟩) n c i w hj hnc).mono fun e w' ⟨h1, h2⟩ => ?_
    subst h2
    rw [Nat.sub_self, Nat.sub_zero, List.take_append_drop]
    exact ⟨g, c, h1, hnc, hrm, hrow, .inl rfl, rfl, rfl, rfl, Nat.le_refl _, fun _ _ _ => rfl, hmk⟩
  · refine (delete_some g n c i j cs w (by omega) hj hn hnc hcl h1c hrow hrm).mono fun e w' ⟨h1, h2⟩ => ?_
    have hdl : (cs.drop (j * 4)).length = (n - j) * 4 := by rw [List.length_drop, hcl]; omega
    have hrd : Ev.rowAt w.drew g 0 cs := hrow
    have hrmd : room w.drew g (c * 4) := hrm
    have hmkd : NoMark w.drew g := hmk
    have r1 := row_setCells (o := i * 4) (vs := cs.drop (j * 4)) hrd (fun k hk => hrmd k (by omega)) (by omega)
    have rm1 : room (w.drew.setCells g (i * 4) (cs.drop (j * 4))) g (c * 4) := room_setCells hrmd
    have hz := zeroCells_len (n - (i + (n - j)))
    have r2 := row_setCells (o := (i + (n - j)) * 4) (vs := (Builtin.zeroCells zBoxV.cells (n - (i + (n - j)))).toList) r1 (fun k hk => rm1 k (by omega)) (by simp only [List.length_append, List.length_take, List.length_drop]; omega)
    refine ⟨g, c, by rw [show n - (j - i) = i + (n - j) by omega]; exact h1, by omega, by rw [h2]; exact room_setCells rm1, ?_, .inl rfl, ?_, ?_, ?_, ?_, ?_, ?_⟩
    · rw [h2]
      intro k hk
      simp only [List.length_append, List.length_take, List.length_drop] at hk
      have := r2 k (by simp only [List.length_append, List.length_take, List.length_drop]; omega)
      rw [this]
      congr 1
      rw [List.getElem_append_left (by simp only [List.length_append, List.length_take, List.length_drop]; omega), List.getElem_append_left (by simp only [List.length_append, List.length_take, List.length_drop]; omega), List.getElem_take]
      rw [List.getElem_append_left (by simp only [List.length_append, List.length_take, List.length_drop]; omega)]
    · rw [h2]; exact (os_setCells _ _ _).1.trans (os_setCells _ _ _).1
    · rw [h2]; exact (os_setCells _ _ _).2.1.trans (os_setCells _ _ _).2.1
    · rw [h2]; exact (os_setCells _ _ _).2.2.trans (os_setCells _ _ _).2.2
    · rw [h2, size_setCells, size_setCells]; exact Nat.le_refl _
    · intro k _ hk
      have hkg : k ≠ g := fun h => hk (by rw [h])
      rw [h2, heap_setCells hkg, heap_setCells hkg]
      rfl
    · rw [h2]; exact NoMark.setCells _ _ (NoMark.setCells _ _ hmkd)

theorem grew_old {w : World} {o : Obj} {k : Nat} (hk : k < w.heap.size) : (w.drew.alloc o).heap[k]? = w.heap[k]? := by
  show (w.heap.push o)[k]? = _
  rw [Array.getElem?_push, if_neg (by omega)]

theorem zInsert39 : ZOK Try.prog 39 (zInsert BoxT) := by
  refine zInsert_ok BoxT rfl Try.call39 fun base n c i vb vc cs vs w hb hin hn hnc hvc hcl hvl h1c h1v hg hrv hrmv hmv hvw => ?_
  replace hcl : cs.length = n * 4 := hcl
  replace hvl : vs.length = 4 := hvl
  replace hrmv : room w vb 4 := hrmv
  replace hg : ∀ g, base = some g → Ev.rowAt w g 0 cs ∧ room w g (c * 4) ∧ g ≠ vb ∧ NoMark w g ∧ g < w.heap.size := hg
  show Calls _ _ _ _ (RowPost 4 w base (n + 1) (cs.take (i * 4) ++ vs ++ cs.drop (i * 4)))
  by_cases he : i = n
  · subst he
    have hcs : cs.take (i * 4) ++ vs ++ cs.drop (i * 4) = cs ++ vs := by
      rw [List.take_of_length_le (by omega), List.drop_of_length_le (by omega), List.append_nil]
    rw [hcs]
    by_cases hr : i + 1 ≤ c
    · cases base with
      | none => have := hb rfl; omega
      | some g =>
        obtain ⟨g1, g2, g3, g4, g5⟩ := hg g rfl
        refine (insert_end_room g i c vb vc vs w hr hvl g2 hrv h1v).mono fun e w' ⟨h1, h2⟩ => ?_
        have r1 := row_setCells (o := i * 4) (vs := vs) g1 (fun k hk => g2 k (by omega)) (by omega)
        rw [List.take_of_length_le (by omega), List.drop_of_length_le (by omega), List.append_nil] at r1
        refine ⟨g, c, h1, hr, by rw [h2]; exact room_setCells g2, by rw [h2]; exact r1, .inl rfl, by rw [h2]; exact (os_setCells _ _ _).1, by rw [h2]; exact (os_setCells _ _ _).2.1, by rw [h2]; exact (os_setCells _ _ _).2.2, by rw [h2, size_setCells]; exact Nat.le_refl _, fun k _ hk => ?_, by rw [h2]; exact NoMark.setCells _ _ g4⟩
        rw [h2, heap_setCells fun h => hk (by rw [h])]
    · refine (insert_end_grow base i c vb vc cs vs w hb (by omega) hn hcl hvl (fun g hb => (hg g hb).1) hrv h1v).mono fun e w' ⟨h1, h2⟩ => ?_
      have hcap : i + 1 ≤ grownCap w (i + 1) c 36 := grownCap_ge w _ _ _
      have hG : Ev.Grew w (.cells ((cs ++ vs).toArray ++ Builtin.zeroCells zBoxV.cells (grownCap w (i + 1) c 36 - (i + 1))) 36) w' := by rw [h2]; exact Ev.Grew.drew w _
      have hcz : ((cs ++ vs).toArray ++ Builtin.zeroCells zBoxV.cells (grownCap w (i + 1) c 36 - (i + 1))).size = grownCap w (i + 1) c 36 * 4 := by
        simp only [Array.size_append, List.size_toArray, List.length_append, size_zeroCells, show zBoxV.cells.size = 4 from rfl]
        omega
      have hrm := hG.room (.inl rfl)
      rw [hcz] at hrm
      refine ⟨w.heap.size, _, h1, hcap, hrm, fun k hk => ?_, .inr ⟨Nat.le_refl _, by rw [hG.size]; omega⟩, hG.os, hG.tape, hG.output, by rw [hG.size]; omega, fun k hk _ => hG.old hk, fun c' e' m' hc' => ?_⟩
      · have := hG.row k (by rw [Array.length_toList, hcz]; simp only [List.length_append] at hk; omega)
        rw [this]
        congr 1
        rw [Array.getElem_toList, Array.getElem_append_left (by simpa using hk)]
        simp
      · rw [hG.new] at hc'
        cases hc'
        simp
  · have hlt : i < n := by omega
    cases base with
    | none => have := hb rfl; omega
    | some g =>
      obtain ⟨g1, g2, g3, g4, g5⟩ := hg g rfl
      have hdl : (cs.drop (i * 4)).length = (n - i) * 4 := by rw [List.length_drop, hcl]; omega
      by_cases hr : n + 1 ≤ c
      · refine (insert_shift g n c i vb vc cs vs w hlt hn hr (fun h => g3 h.symm) hcl hvl g1 g2 hrv h1c h1v hmv hrmv).mono fun e w' ⟨h1, h2⟩ => ?_
        have hrmd : room w.drew g (c * 4) := g2
        have hmkd : NoMark w.drew g := g4
        have rm1 : room (w.drew.setCells g ((i + 1) * 4) (cs.drop (i * 4))) g (c * 4) := room_setCells hrmd
        refine ⟨g, c, h1, hr, by rw [h2]; exact room_setCells rm1, fun k hk => ?_, .inl rfl, ?_, ?_, ?_, ?_, ?_, ?_⟩
        · simp only [List.length_append, List.length_take, hdl, hvl] at hk
          rw [h2, Nat.zero_add]
          by_cases k1 : k < i * 4
          · rw [World.cell?_setCells_out _ _ _ _ _ (fun _ _ => .inl k1), World.cell?_setCells_out _ _ _ _ _ (fun _ _ => .inl (by show k < (i + 1) * 4; omega))]
            have := g1 k (by omega)
            rw [Nat.zero_add] at this
            refine this.trans ?_
            rw [List.getElem_append_left (by rw [List.length_append, List.length_take]; omega), List.getElem_append_left (by rw [List.length_take]; omega), List.getElem_take]
          · by_cases k2 : k < (i + 1) * 4
            · have := World.cell?_setCells_in g vs (i * 4) (w.drew.setCells g ((i + 1) * 4) (cs.drop (i * 4))) (fun j hj => (rm1 (i * 4 + j) (by omega)).1) (k - i * 4) (by omega)
              rw [show i * 4 + (k - i * 4) = k by omega] at this
              rw [this, List.getElem_append_left (by rw [List.length_append, List.length_take]; omega), List.getElem_append_right (by rw [List.length_take]; omega)]
              congr 2
              rw [List.length_take]
              omega
            · rw [World.cell?_setCells_out _ _ _ _ _ (fun _ _ => .inr (by show i * 4 + vs.length ≤ k; omega))]
              have := World.cell?_setCells_in g (cs.drop (i * 4)) ((i + 1) * 4) w.drew (fun j hj => (hrmd _ (by omega)).1) (k - (i + 1) * 4) (by omega)
              rw [show (i + 1) * 4 + (k - (i + 1) * 4) = k by omega] at this
              rw [this, List.getElem_append_right (by rw [List.length_append, List.length_take]; omega)]
              congr 2
              rw [List.length_append, List.length_take]
              omega
        · rw [h2]; exact (os_setCells _ _ _).1.trans (os_setCells _ _ _).1
        · rw [h2]; exact (os_setCells _ _ _).2.1.trans (os_setCells _ _ _).2.1
        · rw [h2]; exact (os_setCells _ _ _).2.2.trans (os_setCells _ _ _).2.2
        · rw [h2, size_setCells, size_setCells]; exact Nat.le_refl _
        · intro k _ hk
          have hkg : k ≠ g := fun h => hk (by rw [h])
          rw [h2, heap_setCells hkg, heap_setCells hkg]
          rfl
        · rw [h2]; exact NoMark.setCells _ _ (NoMark.setCells _ _ hmkd)
      · refine (insert_grow g n c i vb vc cs vs w hlt hn hnc (by omega) hcl hvl g1 hrv h1c h1v g5 hvw).mono fun e w' ⟨h1, h2⟩ => ?_
        have hcap : n + 1 ≤ grownCap w (n + 1) c 36 := grownCap_ge w _ _ _
        obtain ⟨G, hGe⟩ : ∃ G, G = grownCap w (n + 1) c 36 := ⟨_, rfl⟩
        rw [← hGe] at h1 h2 hcap
        obtain ⟨ROW, hROW⟩ : ∃ ROW : Array Value, ROW = (cs.take (i * 4)).toArray ++ Builtin.zeroCells zBoxV.cells (n + 1 - i) ++ Builtin.zeroCells zBoxV.cells (G - (n + 1)) := ⟨_, rfl⟩
        rw [← hROW] at h2
        have hcz : ROW.size = G * 4 := by
          rw [hROW]
          simp only [Array.size_append, List.size_toArray, List.length_take, size_zeroCells, show zBoxV.cells.size = 4 from rfl]
          omega
        obtain ⟨W1, hW1⟩ : ∃ W1, W1 = (w.alloc (.cells ROW 36)).drew := ⟨_, rfl⟩
        have hG : Ev.Grew w (.cells ROW 36) W1 := by rw [hW1]; exact ⟨rfl, rfl, rfl, rfl⟩
        rw [← hW1] at h2
        have hrm : room W1 w.heap.size (G * 4) := by
          have := hG.room (.inl rfl)
          rwa [hcz] at this
        have hmk : NoMark W1 w.heap.size := fun c' e' m' hc' => by
          rw [hG.new] at hc'
          cases hc'
          simp
        have rm1 : room (W1.setCells w.heap.size (i * 4) vs).drew w.heap.size (G * 4) := room_setCells hrm
        have mk1 : NoMark (W1.setCells w.heap.size (i * 4) vs).drew w.heap.size := NoMark.setCells _ _ hmk
        refine ⟨w.heap.size, G, h1, hcap, by rw [h2]; exact room_setCells rm1, fun k hk => ?_, .inr ⟨Nat.le_refl _, ?_⟩, ?_, ?_, ?_, ?_, ?_, ?_⟩
        · simp only [List.length_append, List.length_take, hdl, hvl] at hk
          rw [h2, Nat.zero_add]
          by_cases k1 : k < i * 4
          · rw [World.cell?_setCells_out _ _ _ _ _ (fun _ _ => .inl (by show k < (i + 1) * 4; omega)), World.cell?_drew, World.cell?_setCells_out _ _ _ _ _ (fun _ _ => .inl k1)]
            have := hG.row k (by rw [Array.length_toList, hcz]; omega)
            rw [Nat.zero_add] at this
            refine this.trans ?_
            rw [List.getElem_append_left (by rw [List.length_append, List.length_take]; omega), List.getElem_append_left (by rw [List.length_take]; omega), List.getElem_take]
            congr 1
            rw [Array.getElem_toList]
            subst hROW
            rw [Array.getElem_append_left (by simp only [Array.size_append, List.size_toArray, List.length_take]; omega), Array.getElem_append_left (by simp only [List.size_toArray, List.length_take]; omega)]
            simp
          · by_cases k2 : k < (i + 1) * 4
            · rw [World.cell?_setCells_out _ _ _ _ _ (fun _ _ => .inl k2), World.cell?_drew]
              have := World.cell?_setCells_in w.heap.size vs (i * 4) W1 (fun j hj => (hrm (i * 4 + j) (by omega)).1) (k - i * 4) (by omega)
              rw [show i * 4 + (k - i * 4) = k by omega] at this
              rw [this, List.getElem_append_left (by rw [List.length_append, List.length_take]; omega), List.getElem_append_right (by rw [List.length_take]; omega)]
              congr 2
              rw [List.length_take]
              omega
            · have := World.cell?_setCells_in w.heap.size (cs.drop (i * 4)) ((i + 1) * 4) (W1.setCells w.heap.size (i * 4) vs).drew (fun j hj => (rm1 _ (by omega)).1) (k - (i + 1) * 4) (by omega)
              rw [show (i + 1) * 4 + (k - (i + 1) * 4) = k by omega] at this
              rw [this, List.getElem_append_right (by rw [List.length_append, List.length_take]; omega)]
              congr 2
              rw [List.length_append, List.length_take]
              omega
        · rw [h2, size_setCells]
          show w.heap.size < (W1.setCells w.heap.size (i * 4) vs).heap.size
          rw [size_setCells, hG.size]
          omega
        · rw [h2]; exact (os_setCells _ _ _).1.trans ((os_setCells _ _ W1).1.trans hG.os)
        · rw [h2]; exact (os_setCells _ _ _).2.1.trans ((os_setCells _ _ W1).2.1.trans hG.tape)
        · rw [h2]; exact (os_setCells _ _ _).2.2.trans ((os_setCells _ _ W1).2.2.trans hG.output)
        · rw [h2, size_setCells]
          show w.heap.size ≤ (W1.setCells w.heap.size (i * 4) vs).heap.size
          rw [size_setCells, hG.size]
          omega
        · intro k hk _
          have hkg : k ≠ w.heap.size := by omega
          rw [h2, heap_setCells hkg]
          show (W1.setCells w.heap.size (i * 4) vs).heap[k]? = _
          rw [heap_setCells hkg]
          exact hG.old hk
        · rw [h2]; exact NoMark.setCells _ _ mk1

end Go.Su
/- What the library's functions do for this seat. -/
namespace Go.Su
open Go Go.Ev
abbrev quo : List UInt8 → List UInt8 × Int × Int := Go.Qw.quo
abbrev pQuote : Pvs := Go.Qw.pQuote
theorem zQuote51 : ZOK Go.Proofs.Try.prog 51 (zPv pQuote) := Go.Qw.zQuote51
end Go.Su

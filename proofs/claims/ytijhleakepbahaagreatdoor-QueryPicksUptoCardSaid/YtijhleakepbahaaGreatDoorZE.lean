/- Texts that the last one leans on, 5. -/
import Derived.Test.YtijhleakepbahaaGreatDoorZD
import Derived.Shelf.Strings.Builder1
import Derived.Shelf.Strings.Trim
import Derived.Shelf.Small.Utf8
import Derived.Shelf.Small.Bits
import Derived.Shelf.Small.Strs
import Derived.Shelf.Small.Wraps
import Derived.Shelf.Strings.BuilderF
import Derived.Shelf.Strings.BuilderK
import Derived.Shelf.Strings.BuilderRune
import Derived.Shelf.Strconv.Itoa0
import Derived.Shelf.Strings.Search1
import Derived.Shelf.Strings.Search2
import Derived.Shelf.Strings.Search3
import Derived.Shelf.LaysM
import Derived.Shelf.Strings.Shaped
import Derived.Shelf.Strings.Prefix
import Derived.Shelf.Unicode.Decode
import Derived.Shelf.Strings.Runes
import Derived.Shelf.Strings.IndexAny
import Derived.Shelf.Strings.AsciiSet
import Derived.Shelf.Strings.IndexAnyAll
import Derived.Shelf.Unicode.DecodeSlow
import Derived.Shelf.Unicode.DecodeLast
import Derived.Shelf.Strings.FieldsFuncAny
import Derived.Ground.Names2Prog
import Derived.Shelf.Slices.SearchI
import Derived.Shelf.Bytes.SlIndexSmall
import Derived.Shelf.Bytes.SlIndexAt
import Derived.Shelf.Bytes.SlSearch0
import Derived.Shelf.Bytes.SlSearch1
import Derived.Shelf.Bytes.SlSearch2
import Derived.Shelf.Bytes.SlIndexWhole
import Derived.Ground.SlsfProg
import Derived.Shelf.SlSortCmp.InsertionK
import Derived.Shelf.SlSortCmp.SiftDownK
import Derived.Shelf.SlSortCmp.HeapSortK
import Derived.Shelf.SlSortCmp.MedianK
import Derived.Shelf.SlSortCmp.PivotK
import Derived.Shelf.SlSortCmp.ReverseRangeK
import Derived.Shelf.SlSortCmp.PartialInsertionK
import Derived.Shelf.SlSortCmp.PartitionEqualK
import Derived.Shelf.SlSortCmp.PartitionK
import Derived.Shelf.SlSortCmp.PdqK
import Derived.Shelf.Bytes.SlEqualAll
import Derived.Shelf.Bytes.Small
import Derived.Shelf.Bytes.IndexByte
import Derived.Test.YtijhleakepbahaaGreatDoorProg
import Derived.Shelf.Unicode.ValidAny
import Derived.KernelRfl
import Derived.Lib.ValidLaws
import Derived.Lib.TrimUEq
import Derived.Lib.MapLaws
import Derived.WalkKit
import Derived.BigCall
import Derived.Deep.LoopGhost
import Derived.Deep.DeepMust
import Derived.Deep.DeepBigQuietO
import Derived.Deep.CutBlock
import Derived.Deep.DeepCutAuto
import Derived.Shelf.Strings.SlTrimAscii
namespace Go.Proofs
open Go.Shelf
def Tryz.lays169_ren:Go.Shelf.Ren:=⟨fun | 169=>133 | n=>n,fun | 70=>151 | 9=>9 | 0=>0 | 72=>153 | 37=>23 | 127=>185 | 3=>3 | 5=>5 | n=>n,fun | n=>n⟩
theorem Tryz.lays169:Go.Proofs.Lays.n169 Tryz.prog Tryz.lays169_ren:={
  mixed:=by kernel_rfl
  f169:=Tryz.func133.trans (congrArg some (by kernel_rfl))
  t0:=Tryz.underlying0
  a0:=Tryz.isAgg0
  z0:=Tryz.sizeOf0
  v0:=Tryz.zeroValue0
  t3:=Tryz.underlying3
  a3:=Tryz.isAgg3
  z3:=Tryz.sizeOf3
  v3:=Tryz.zeroValue3
  t9:=Tryz.underlying9
  a9:=Tryz.isAgg9
  z9:=Tryz.sizeOf9
  v9:=Tryz.zeroValue9
  t37:=Tryz.underlying23
  a37:=Tryz.isAgg23
  z37:=Tryz.sizeOf23
  v37:=Tryz.zeroValue23
  t70:=Tryz.underlying151
  a70:=Tryz.isAgg151
  z70:=Tryz.sizeOf151
  v70:=Tryz.zeroValue151
  t72:=Tryz.underlying153
  a72:=Tryz.isAgg153
  z72:=Tryz.sizeOf153
  v72:=Tryz.zeroValue153
  t127:=Tryz.underlying185
  a127:=Tryz.isAgg185
  z127:=Tryz.sizeOf185
  v127:=Tryz.zeroValue185 }
def Tryz.lays160_ren:Go.Shelf.Ren:=⟨fun | 160=>144 | 232=>189 | 231=>160 | 227=>161 | 234=>190 | 233=>162 | 236=>191 | 235=>163 | 228=>196 | 271=>218 | 151=>201 | 197=>145 | 120=>235 | 152=>194 | 260=>192 | 137=>220 | 119=>221 | 224=>142 | 225=>216 | 217=>215 | 266=>233 | n=>n,fun | 9=>9 | 4=>4 | 3=>3 | 5=>5 | 117=>176 | 116=>175 | 0=>0 | 124=>179 | 21=>21 | 105=>168 | 46=>167 | 119=>208 | 139=>211 | 138=>210 | n=>n,fun | 3=>1 | 4=>2 | n=>n⟩
theorem Tryz.lays160:Go.Proofs.Lays.n160 Tryz.prog Tryz.lays160_ren:={
  mixed:=by kernel_rfl
  f119:=Tryz.func221.trans (congrArg some (by kernel_rfl))
  f120:=Tryz.func235.trans (congrArg some (by kernel_rfl))
  f137:=Tryz.func220.trans (congrArg some (by kernel_rfl))
  f151:=Tryz.func201.trans (congrArg some (by kernel_rfl))
  f152:=Tryz.func194.trans (congrArg some (by kernel_rfl))
  f160:=Tryz.func144.trans (congrArg some (by kernel_rfl))
  f197:=Tryz.func145.trans (congrArg some (by kernel_rfl))
  f217:=Tryz.func215.trans (congrArg some (by kernel_rfl))
  f224:=Tryz.func142.trans (congrArg some (by kernel_rfl))
  f225:=Tryz.func216.trans (congrArg some (by kernel_rfl))
  f227:=Tryz.func161.trans (congrArg some (by kernel_rfl))
  f228:=Tryz.func196.trans (congrArg some (by kernel_rfl))
  f231:=Tryz.func160.trans (congrArg some (by kernel_rfl))
  f232:=Tryz.func189.trans (congrArg some (by kernel_rfl))
  f233:=Tryz.func162.trans (congrArg some (by kernel_rfl))
  f234:=Tryz.func190.trans (congrArg some (by kernel_rfl))
  f235:=Tryz.func163.trans (congrArg some (by kernel_rfl))
  f236:=Tryz.func191.trans (congrArg some (by kernel_rfl))
  f260:=Tryz.func192.trans (congrArg some (by kernel_rfl))
  f266:=Tryz.func233.trans (congrArg some (by kernel_rfl))
  f271:=Tryz.func218.trans (congrArg some (by kernel_rfl))
  t0:=Tryz.underlying0
  a0:=Tryz.isAgg0
  z0:=Tryz.sizeOf0
  v0:=Tryz.zeroValue0
  t3:=Tryz.underlying3
  a3:=Tryz.isAgg3
  z3:=Tryz.sizeOf3
  v3:=Tryz.zeroValue3
  t4:=Tryz.underlying4
  a4:=Tryz.isAgg4
  z4:=Tryz.sizeOf4
  v4:=Tryz.zeroValue4
  t5:=Tryz.underlying5
  a5:=Tryz.isAgg5
  z5:=Tryz.sizeOf5
  v5:=Tryz.zeroValue5
  t9:=Tryz.underlying9
  a9:=Tryz.isAgg9
  z9:=Tryz.sizeOf9
  v9:=Tryz.zeroValue9
  t21:=Tryz.underlying21
  a21:=Tryz.isAgg21
  z21:=Tryz.sizeOf21
  v21:=Tryz.zeroValue21
  t46:=Tryz.underlying167
  a46:=Tryz.isAgg167
  z46:=Tryz.sizeOf167
  v46:=Tryz.zeroValue167
  t105:=Tryz.underlying168
  a105:=Tryz.isAgg168
  z105:=Tryz.sizeOf168
  v105:=Tryz.zeroValue168
  t116:=Tryz.underlying175
  a116:=Tryz.isAgg175
  z116:=Tryz.sizeOf175
  t117:=Tryz.underlying176
  a117:=Tryz.isAgg176
  z117:=Tryz.sizeOf176
  v117:=Tryz.zeroValue176
  t119:=Tryz.underlying208
  a119:=Tryz.isAgg208
  z119:=Tryz.sizeOf208
  t124:=Tryz.underlying179
  a124:=Tryz.isAgg179
  z124:=Tryz.sizeOf179
  v124:=Tryz.zeroValue179
  t138:=Tryz.underlying210
  a138:=Tryz.isAgg210
  z138:=Tryz.sizeOf210
  v138:=Tryz.zeroValue210
  t139:=Tryz.underlying211
  a139:=Tryz.isAgg211
  z139:=Tryz.sizeOf211
  v139:=Tryz.zeroValue211
  g3:=by kernel_rfl
  g4:=by kernel_rfl }
def Tryz.lays122_ren:Go.Shelf.Ren:=⟨fun | 122=>169 | 215=>205 | n=>n,fun | 3=>3 | 4=>4 | n=>n,fun | n=>n⟩
theorem Tryz.lays122:Go.Proofs.Lays.n122 Tryz.prog Tryz.lays122_ren:={
  mixed:=by kernel_rfl
  f122:=Tryz.func169.trans (congrArg some (by kernel_rfl))
  f215:=Tryz.func205.trans (congrArg some (by kernel_rfl))
  t3:=Tryz.underlying3
  a3:=Tryz.isAgg3
  z3:=Tryz.sizeOf3
  v3:=Tryz.zeroValue3
  t4:=Tryz.underlying4
  a4:=Tryz.isAgg4
  z4:=Tryz.sizeOf4
  v4:=Tryz.zeroValue4 }
open Go.RowKit in
theorem Tryz.cmp_Compare_int (x y:Int) (w:World) :
  Calls Tryz.prog 169 #[.int .i64 x,.int .i64 y] w λe w'=>e=.returned (.int .i64 (Lib.compareInt x y))/\w'=w:=Any.cmp_Compare_int Tryz.lays122 x y w
def Tryz.lays144_ren:Go.Shelf.Ren:=⟨fun | 144=>87 | 143=>139 | 219=>187 | 217=>215 | 225=>216 | 224=>142 | 267=>217 | 266=>233 | 314=>234 | n=>n,fun | 9=>9 | 4=>4 | 3=>3 | 5=>5 | 46=>167 | 146=>197 | 51=>196 | n=>n,fun | 1=>0 | n=>n⟩
theorem Tryz.lays144:Go.Proofs.Lays.n144 Tryz.prog Tryz.lays144_ren:={
  mixed:=by kernel_rfl
  f143:=Tryz.func139.trans (congrArg some (by kernel_rfl))
  f144:=Tryz.func87.trans (congrArg some (by kernel_rfl))
  f217:=Tryz.func215.trans (congrArg some (by kernel_rfl))
  f219:=Tryz.func187.trans (congrArg some (by kernel_rfl))
  f224:=Tryz.func142.trans (congrArg some (by kernel_rfl))
  f225:=Tryz.func216.trans (congrArg some (by kernel_rfl))
  f266:=Tryz.func233.trans (congrArg some (by kernel_rfl))
  f267:=Tryz.func217.trans (congrArg some (by kernel_rfl))
  f314:=Tryz.func234.trans (congrArg some (by kernel_rfl))
  t3:=Tryz.underlying3
  a3:=Tryz.isAgg3
  z3:=Tryz.sizeOf3
  v3:=Tryz.zeroValue3
  t4:=Tryz.underlying4
  a4:=Tryz.isAgg4
  z4:=Tryz.sizeOf4
  v4:=Tryz.zeroValue4
  t5:=Tryz.underlying5
  a5:=Tryz.isAgg5
  z5:=Tryz.sizeOf5
  v5:=Tryz.zeroValue5
  t9:=Tryz.underlying9
  a9:=Tryz.isAgg9
  z9:=Tryz.sizeOf9
  v9:=Tryz.zeroValue9
  t46:=Tryz.underlying167
  a46:=Tryz.isAgg167
  z46:=Tryz.sizeOf167
  v46:=Tryz.zeroValue167
  t51:=Tryz.underlying196
  a51:=Tryz.isAgg196
  z51:=Tryz.sizeOf196
  v51:=Tryz.zeroValue196
  t146:=Tryz.underlying197
  a146:=Tryz.isAgg197
  z146:=Tryz.sizeOf197
  v146:=Tryz.zeroValue197
  g1:=by kernel_rfl }
open Go.RowKit Go.Lib in
theorem Tryz.strings_Contains (s sub:ByteArray) (m:Int) (w:World) (hs:s.size<4294967281) (hm:w.cell? ⟨0,0,none⟩=some (.int .i64 m)) :
  Calls Tryz.prog 87 #[.string s,.string sub] w λe w'=>e=.returned (.bool (Lib.contains s.data.toList sub.data.toList))/\w'=w:=Any.strings_Contains Tryz.lays144 s sub m w hs hm
def Tryz.lays99_ren:Go.Shelf.Ren:=⟨fun | 99=>112 | 206=>148 | n=>n,fun | 9=>9 | 4=>4 | 3=>3 | n=>n,fun | n=>n⟩
theorem Tryz.lays99:Go.Proofs.Lays.n99 Tryz.prog Tryz.lays99_ren:={
  mixed:=by kernel_rfl
  f99:=Tryz.func112.trans (congrArg some (by kernel_rfl))
  f206:=Tryz.func148.trans (congrArg some (by kernel_rfl))
  t3:=Tryz.underlying3
  a3:=Tryz.isAgg3
  z3:=Tryz.sizeOf3
  v3:=Tryz.zeroValue3
  t4:=Tryz.underlying4
  a4:=Tryz.isAgg4
  z4:=Tryz.sizeOf4
  v4:=Tryz.zeroValue4
  t9:=Tryz.underlying9
  a9:=Tryz.isAgg9
  z9:=Tryz.sizeOf9
  v9:=Tryz.zeroValue9 }
open Go.RowKit Go.Lib in
theorem Tryz.strings_HasPrefix (s p:ByteArray) (w:World) :
  Calls Tryz.prog 112 #[.string s,.string p] w λe w'=>e=.returned (.bool (Lib.hasPrefix s.data.toList p.data.toList))/\w'=w:=Any.strings_HasPrefix Tryz.lays99 s p w
def Tryz.lays197_ren:Go.Shelf.Ren:=⟨fun | 197=>145 | 260=>192 | n=>n,fun | 9=>9 | 21=>21 | 3=>3 | 4=>4 | 5=>5 | 105=>168 | 119=>208 | 0=>0 | 46=>167 | 139=>211 | 138=>210 | n=>n,fun | 3=>1 | 4=>2 | n=>n⟩
theorem Tryz.lays197:Go.Proofs.Lays.n197 Tryz.prog Tryz.lays197_ren:={
  mixed:=by kernel_rfl
  f197:=Tryz.func145.trans (congrArg some (by kernel_rfl))
  f260:=Tryz.func192.trans (congrArg some (by kernel_rfl))
  t0:=Tryz.underlying0
  a0:=Tryz.isAgg0
  z0:=Tryz.sizeOf0
  v0:=Tryz.zeroValue0
  t3:=Tryz.underlying3
  a3:=Tryz.isAgg3
  z3:=Tryz.sizeOf3
  v3:=Tryz.zeroValue3
  t4:=Tryz.underlying4
  a4:=Tryz.isAgg4
  z4:=Tryz.sizeOf4
  v4:=Tryz.zeroValue4
  t5:=Tryz.underlying5
  a5:=Tryz.isAgg5
  z5:=Tryz.sizeOf5
  v5:=Tryz.zeroValue5
  t9:=Tryz.underlying9
  a9:=Tryz.isAgg9
  z9:=Tryz.sizeOf9
  v9:=Tryz.zeroValue9
  t21:=Tryz.underlying21
  a21:=Tryz.isAgg21
  z21:=Tryz.sizeOf21
  v21:=Tryz.zeroValue21
  t46:=Tryz.underlying167
  a46:=Tryz.isAgg167
  z46:=Tryz.sizeOf167
  v46:=Tryz.zeroValue167
  t105:=Tryz.underlying168
  a105:=Tryz.isAgg168
  z105:=Tryz.sizeOf168
  v105:=Tryz.zeroValue168
  t119:=Tryz.underlying208
  a119:=Tryz.isAgg208
  z119:=Tryz.sizeOf208
  t138:=Tryz.underlying210
  a138:=Tryz.isAgg210
  z138:=Tryz.sizeOf210
  v138:=Tryz.zeroValue210
  t139:=Tryz.underlying211
  a139:=Tryz.isAgg211
  z139:=Tryz.sizeOf211
  v139:=Tryz.zeroValue211
  g3:=by kernel_rfl
  g4:=by kernel_rfl }
def Tryz.lays153_ren:Go.Shelf.Ren:=⟨fun | 153=>147 | 152=>194 | 226=>195 | 227=>161 | 228=>196 | 137=>220 | 119=>221 | 224=>142 | 225=>216 | 217=>215 | 266=>233 | n=>n,fun | 9=>9 | 3=>3 | 4=>4 | 5=>5 | 21=>21 | 117=>176 | 116=>175 | 0=>0 | 46=>167 | 124=>179 | n=>n,fun | n=>n⟩
theorem Tryz.lays153:Go.Proofs.Lays.n153 Tryz.prog Tryz.lays153_ren:={
  mixed:=by kernel_rfl
  f119:=Tryz.func221.trans (congrArg some (by kernel_rfl))
  f137:=Tryz.func220.trans (congrArg some (by kernel_rfl))
  f152:=Tryz.func194.trans (congrArg some (by kernel_rfl))
  f153:=Tryz.func147.trans (congrArg some (by kernel_rfl))
  f217:=Tryz.func215.trans (congrArg some (by kernel_rfl))
  f224:=Tryz.func142.trans (congrArg some (by kernel_rfl))
  f225:=Tryz.func216.trans (congrArg some (by kernel_rfl))
  f226:=Tryz.func195.trans (congrArg some (by kernel_rfl))
  f227:=Tryz.func161.trans (congrArg some (by kernel_rfl))
  f228:=Tryz.func196.trans (congrArg some (by kernel_rfl))
  f266:=Tryz.func233.trans (congrArg some (by kernel_rfl))
  t0:=Tryz.underlying0
  a0:=Tryz.isAgg0
  z0:=Tryz.sizeOf0
  v0:=Tryz.zeroValue0
  t3:=Tryz.underlying3
  a3:=Tryz.isAgg3
  z3:=Tryz.sizeOf3
  v3:=Tryz.zeroValue3
  t4:=Tryz.underlying4
  a4:=Tryz.isAgg4
  z4:=Tryz.sizeOf4
  v4:=Tryz.zeroValue4
  t5:=Tryz.underlying5
  a5:=Tryz.isAgg5
  z5:=Tryz.sizeOf5
  v5:=Tryz.zeroValue5
  t9:=Tryz.underlying9
  a9:=Tryz.isAgg9
  z9:=Tryz.sizeOf9
  v9:=Tryz.zeroValue9
  t21:=Tryz.underlying21
  a21:=Tryz.isAgg21
  z21:=Tryz.sizeOf21
  v21:=Tryz.zeroValue21
  t46:=Tryz.underlying167
  a46:=Tryz.isAgg167
  z46:=Tryz.sizeOf167
  v46:=Tryz.zeroValue167
  t116:=Tryz.underlying175
  a116:=Tryz.isAgg175
  z116:=Tryz.sizeOf175
  t117:=Tryz.underlying176
  a117:=Tryz.isAgg176
  z117:=Tryz.sizeOf176
  v117:=Tryz.zeroValue176
  t124:=Tryz.underlying179
  a124:=Tryz.isAgg179
  z124:=Tryz.sizeOf179
  v124:=Tryz.zeroValue179 }
open Go.RowKit Go.Lib in
theorem Tryz.strings_IndexAny_laid (s chars:ByteArray) (w:World) (hs:s.size<4294967281) (hcs:chars.size<4294967281) (has:∀ (j:Nat) b,s.data.toList[j]?=some b->b.toNat<128) (hac:∀ (j:Nat) b,chars.data.toList[j]?=some b->b.toNat<128) :
  Calls Tryz.prog 147 #[.string s,.string chars] w λe w'=>e=.returned (.int .i64 (Lib.indexAny s.data.toList chars.data.toList))/\Below w.heap.size w w':=Any.strings_IndexAny_laid Tryz.lays153 (by kernel_rfl) s chars w hs hcs has hac
def Tryz.lays260_ren:Go.Shelf.Ren:=⟨fun | 260=>192 | n=>n,fun | 9=>9 | 21=>21 | 3=>3 | 4=>4 | 5=>5 | 119=>208 | 0=>0 | 46=>167 | 139=>211 | 138=>210 | n=>n,fun | 3=>1 | 4=>2 | n=>n⟩
theorem Tryz.lays260:Go.Proofs.Lays.n260 Tryz.prog Tryz.lays260_ren:={
  mixed:=by kernel_rfl
  f260:=Tryz.func192.trans (congrArg some (by kernel_rfl))
  t0:=Tryz.underlying0
  a0:=Tryz.isAgg0
  z0:=Tryz.sizeOf0
  v0:=Tryz.zeroValue0
  t3:=Tryz.underlying3
  a3:=Tryz.isAgg3
  z3:=Tryz.sizeOf3
  v3:=Tryz.zeroValue3
  t4:=Tryz.underlying4
  a4:=Tryz.isAgg4
  z4:=Tryz.sizeOf4
  v4:=Tryz.zeroValue4
  t5:=Tryz.underlying5
  a5:=Tryz.isAgg5
  z5:=Tryz.sizeOf5
  v5:=Tryz.zeroValue5
  t9:=Tryz.underlying9
  a9:=Tryz.isAgg9
  z9:=Tryz.sizeOf9
  v9:=Tryz.zeroValue9
  t21:=Tryz.underlying21
  a21:=Tryz.isAgg21
  z21:=Tryz.sizeOf21
  v21:=Tryz.zeroValue21
  t46:=Tryz.underlying167
  a46:=Tryz.isAgg167
  z46:=Tryz.sizeOf167
  v46:=Tryz.zeroValue167
  t119:=Tryz.underlying208
  a119:=Tryz.isAgg208
  z119:=Tryz.sizeOf208
  t138:=Tryz.underlying210
  a138:=Tryz.isAgg210
  z138:=Tryz.sizeOf210
  v138:=Tryz.zeroValue210
  t139:=Tryz.underlying211
  a139:=Tryz.isAgg211
  z139:=Tryz.sizeOf211
  v139:=Tryz.zeroValue211
  g3:=by kernel_rfl
  g4:=by kernel_rfl }
open Go.RowKit Go.Lib in
theorem Tryz.utf8_DecodeRuneInString (s:ByteArray) (w:World) (hT:Lib.Utf8Tabs 1 2 w) :
  Calls Tryz.prog 145 #[.string s] w λe w'=>e=.returned (.tuple #[.int .i32 (Lib.decodeGo s).1,.int .i64 (Lib.decodeGo s).2])/\Below w.heap.size w w':=Any.utf8_DecodeRuneInString Tryz.lays197 s w hT
def Tryz.lays229_ren:Go.Shelf.Ren:=⟨fun | 229=>170 | n=>n,fun | 9=>9 | 40=>148 | 31=>90 | 152=>214 | 3=>3 | 0=>0 | 4=>4 | 21=>21 | 154=>216 | n=>n,fun | n=>n⟩
theorem Tryz.lays229:Go.Proofs.Lays.n229 Tryz.prog Tryz.lays229_ren:={
  mixed:=by kernel_rfl
  f229:=Tryz.func170.trans (congrArg some (by kernel_rfl))
  t0:=Tryz.underlying0
  a0:=Tryz.isAgg0
  z0:=Tryz.sizeOf0
  v0:=Tryz.zeroValue0
  t3:=Tryz.underlying3
  a3:=Tryz.isAgg3
  z3:=Tryz.sizeOf3
  v3:=Tryz.zeroValue3
  t4:=Tryz.underlying4
  a4:=Tryz.isAgg4
  z4:=Tryz.sizeOf4
  v4:=Tryz.zeroValue4
  t9:=Tryz.underlying9
  a9:=Tryz.isAgg9
  z9:=Tryz.sizeOf9
  v9:=Tryz.zeroValue9
  t21:=Tryz.underlying21
  a21:=Tryz.isAgg21
  z21:=Tryz.sizeOf21
  v21:=Tryz.zeroValue21
  t31:=Tryz.underlying90
  a31:=Tryz.isAgg90
  z31:=Tryz.sizeOf90
  v31:=Tryz.zeroValue90
  t40:=Tryz.underlying148
  a40:=Tryz.isAgg148
  z40:=Tryz.sizeOf148
  v40:=Tryz.zeroValue148
  t152:=Tryz.underlying214
  a152:=Tryz.isAgg214
  z152:=Tryz.sizeOf214
  v152:=Tryz.zeroValue214
  t154:=Tryz.underlying216
  a154:=Tryz.isAgg216
  z154:=Tryz.sizeOf216
  v154:=Tryz.zeroValue216 }
open Go.RowKit Go.Lib in
theorem Tryz.strings_FieldsFunc_grows (g:Nat) (lb:Array Value) (eg:∀ args w,(callFunc g args).run Tryz.prog w=.ok (.enter g args) w) (p:Nat->Bool) (s:ByteArray) (w:World) (hs:s.size<=4294967296) (hp:PredGrows Tryz.prog g lb p w) :
  Calls Tryz.prog 170 #[.string s,.func (.func g) #[] lb] w λe w'=>∃ A,e=.returned (.slice (some ⟨A,0,none⟩) (Lib.goFieldsP p s).length (Lib.goFieldsP p s).length)/\w.heap.size<=A /\
   w'.ownsRow w.heap.size 9 1 (.slice (some ⟨A,0,none⟩) (Lib.goFieldsP p s).length (Lib.goFieldsP p s).length) (Lib.goFieldsP p s).length ((Lib.goFieldsP p s).map Value.string)/\Below w.heap.size w w':=Any.strings_FieldsFunc_grows Tryz.lays229 g lb eg p s w hs hp (by kernel_rfl) (by kernel_rfl)
def Tryz.lays185_ren:Go.Shelf.Ren:=⟨fun | 185=>89 | 187=>55 | 115=>140 | 253=>141 | 224=>142 | 254=>143 | 255=>91 | 291=>188 | n=>n,fun | 37=>23 | 3=>3 | 4=>4 | 0=>0 | 5=>5 | 46=>167 | 9=>9 | 146=>197 | 51=>196 | n=>n,fun | 1=>0 | n=>n⟩
theorem Tryz.lays185:Go.Proofs.Lays.n185 Tryz.prog Tryz.lays185_ren:={
  mixed:=by kernel_rfl
  f115:=Tryz.func140.trans (congrArg some (by kernel_rfl))
  f185:=Tryz.func89.trans (congrArg some (by kernel_rfl))
  f187:=Tryz.func55.trans (congrArg some (by kernel_rfl))
  f224:=Tryz.func142.trans (congrArg some (by kernel_rfl))
  f253:=Tryz.func141.trans (congrArg some (by kernel_rfl))
  f254:=Tryz.func143.trans (congrArg some (by kernel_rfl))
  f255:=Tryz.func91.trans (congrArg some (by kernel_rfl))
  f291:=Tryz.func188.trans (congrArg some (by kernel_rfl))
  t0:=Tryz.underlying0
  a0:=Tryz.isAgg0
  z0:=Tryz.sizeOf0
  v0:=Tryz.zeroValue0
  t3:=Tryz.underlying3
  a3:=Tryz.isAgg3
  z3:=Tryz.sizeOf3
  v3:=Tryz.zeroValue3
  t4:=Tryz.underlying4
  a4:=Tryz.isAgg4
  z4:=Tryz.sizeOf4
  v4:=Tryz.zeroValue4
  t5:=Tryz.underlying5
  a5:=Tryz.isAgg5
  z5:=Tryz.sizeOf5
  v5:=Tryz.zeroValue5
  t9:=Tryz.underlying9
  a9:=Tryz.isAgg9
  z9:=Tryz.sizeOf9
  v9:=Tryz.zeroValue9
  t37:=Tryz.underlying23
  a37:=Tryz.isAgg23
  z37:=Tryz.sizeOf23
  v37:=Tryz.zeroValue23
  t46:=Tryz.underlying167
  a46:=Tryz.isAgg167
  z46:=Tryz.sizeOf167
  v46:=Tryz.zeroValue167
  t51:=Tryz.underlying196
  a51:=Tryz.isAgg196
  z51:=Tryz.sizeOf196
  v51:=Tryz.zeroValue196
  t146:=Tryz.underlying197
  a146:=Tryz.isAgg197
  z146:=Tryz.sizeOf197
  v146:=Tryz.zeroValue197
  g1:=by kernel_rfl }
def Tryz.lays187_ren:Go.Shelf.Ren:=⟨fun | 187=>55 | 255=>91 | n=>n,fun | 37=>23 | 5=>5 | 3=>3 | n=>n,fun | n=>n⟩
theorem Tryz.lays187:Go.Proofs.Lays.n187 Tryz.prog Tryz.lays187_ren:={
  mixed:=by kernel_rfl
  f187:=Tryz.func55.trans (congrArg some (by kernel_rfl))
  f255:=Tryz.func91.trans (congrArg some (by kernel_rfl))
  t3:=Tryz.underlying3
  a3:=Tryz.isAgg3
  z3:=Tryz.sizeOf3
  v3:=Tryz.zeroValue3
  t5:=Tryz.underlying5
  a5:=Tryz.isAgg5
  z5:=Tryz.sizeOf5
  v5:=Tryz.zeroValue5
  t37:=Tryz.underlying23
  a37:=Tryz.isAgg23
  z37:=Tryz.sizeOf23
  v37:=Tryz.zeroValue23 }
open Go.RowKit Go.Lib in
theorem Tryz.bytes_IndexByte_at (a:Addr) (n c:Nat) (xs:List Int) (cv:Int) (w:World) (hx:xs.length=n) (hc:∀ i,i<n->w.cell? (a.add i)=some (.int .u8 (xs.getD i 0))) :
  Calls Tryz.prog 55 #[.slice (some a) n c,.int .u8 cv] w λe w'=>e=.returned (.int .i64 (Lib.indexByte (Lib.bytesOf xs) cv.toNat.toUInt8))/\w'=w:=Any.bytes_IndexByte_at Tryz.lays187 a n c xs cv w hx hc
open Go.Proofs Go.RowKit Go.Lib in
theorem Tryz.bytes_Index_at (a1 a2:Addr) (n c1 k c2:Nat) (xs ys:List Int) (m:Int) (w:World) (hx:xs.length=n) (hy:ys.length=k) (hr1:∀ x∈xs,0<=x/\x<256) (hr2:∀ y∈ys,0<=y/\y<256) (hc1:∀ i,i<n->w.cell? (a1.add i)=some (.int .u8 (xs.getD i 0))) (hc2:∀ i,i<k->w.cell? (a2.add i)=some (.int .u8 (ys.getD i 0))) (hcap:n<=c1) (hs:n<4294967281) (hk:k<=9223372036854775807) (hm:w.cell? ⟨0,0,none⟩=some (.int .i64 m)) :
  Calls Tryz.prog 89 #[.slice (some a1) n c1,.slice (some a2) k c2] w λe w'=>e=.returned (.int .i64 (Lib.index (Lib.bytesOf xs) (Lib.bytesOf ys)))/\∃ q,w'=w.drewN q:=Any.bytes_Index_at Tryz.lays185 a1 a2 n c1 k c2 xs ys m w hx hy hr1 hr2 hc1 hc2 hcap hs hk hm
def Tryz.laysM185_ren:Go.Shelf.Ren:=⟨fun | 185=>89 | 187=>55 | 115=>140 | 253=>141 | 224=>142 | 254=>143 | 255=>91 | 291=>188 | n=>n,fun | 37=>23 | 3=>3 | 4=>4 | 0=>0 | 5=>5 | 46=>167 | 9=>9 | 146=>197 | 51=>196 | n=>n,fun | 1=>0 | n=>n⟩
theorem Tryz.laysM185:Go.Proofs.LaysM.n185 Tryz.prog Tryz.laysM185_ren:={
  mixed:=by kernel_rfl
  f115:=Tryz.func140.trans (congrArg some (by kernel_rfl))
  f185:=Tryz.func89.trans (congrArg some (by kernel_rfl))
  f187:=Tryz.func55.trans (congrArg some (by kernel_rfl))
  f224:=Tryz.func142.trans (congrArg some (by kernel_rfl))
  f253:=Tryz.func141.trans (congrArg some (by kernel_rfl))
  f254:=Tryz.func143.trans (congrArg some (by kernel_rfl))
  f255:=Tryz.func91.trans (congrArg some (by kernel_rfl))
  f291:=Tryz.func188.trans (congrArg some (by kernel_rfl))
  t0:=Tryz.underlying0
  a0:=Tryz.isAgg0
  z0:=Tryz.sizeOf0
  v0:=Tryz.zeroValue0
  t3:=Tryz.underlying3
  a3:=Tryz.isAgg3
  z3:=Tryz.sizeOf3
  v3:=Tryz.zeroValue3
  t4:=Tryz.underlying4
  a4:=Tryz.isAgg4
  z4:=Tryz.sizeOf4
  v4:=Tryz.zeroValue4
  t5:=Tryz.underlying5
  a5:=Tryz.isAgg5
  z5:=Tryz.sizeOf5
  v5:=Tryz.zeroValue5
  t9:=Tryz.underlying9
  a9:=Tryz.isAgg9
  z9:=Tryz.sizeOf9
  v9:=Tryz.zeroValue9
  t37:=Tryz.underlying23
  a37:=Tryz.isAgg23
  z37:=Tryz.sizeOf23
  v37:=Tryz.zeroValue23
  t46:=Tryz.underlying167
  a46:=Tryz.isAgg167
  z46:=Tryz.sizeOf167
  v46:=Tryz.zeroValue167
  t51:=Tryz.underlying196
  a51:=Tryz.isAgg196
  z51:=Tryz.sizeOf196
  v51:=Tryz.zeroValue196
  t146:=Tryz.underlying197
  a146:=Tryz.isAgg197
  z146:=Tryz.sizeOf197
  v146:=Tryz.zeroValue197
  g1:=by kernel_rfl
  i0:=by kernel_rfl
  i3:=by kernel_rfl
  i4:=by kernel_rfl
  i5:=by kernel_rfl
  i9:=by kernel_rfl
  i37:=by kernel_rfl
  i46:=by kernel_rfl
  i51:=by kernel_rfl
  i146:=by kernel_rfl
  m1:=by kernel_rfl
  s1_3:=λw h=>Go.Proofs.cell_of_shapedOpen_int (zero:=#[.int .i64 0]) (t:=3) h (of_decide_eq_true (by kernel_rfl)) (by kernel_rfl) rfl (by kernel_rfl) (by kernel_rfl) Tryz.underlying3 }
def Tryz.laysSlF06_f167_ren:Go.Shelf.Ren:=⟨fun | 6=>167 | 15=>204 | 14=>203 | 28=>230 | 29=>231 | 20=>222 | 21=>223 | 22=>224 | 23=>225 | 24=>226 | 25=>227 | 26=>228 | 27=>229 | 46=>236 | 47=>237 | 48=>238 | 49=>239 | 50=>240 | 57=>241 | n=>n,fun | 22=>111 | 24=>126 | 25=>182 | 3=>3 | 39=>167 | 0=>0 | 53=>196 | 55=>222 | 4=>4 | 46=>225 | 45=>224 | 50=>119 | 5=>5 | 9=>9 | 66=>233 | 70=>237 | 76=>239 | 77=>123 | n=>n,fun | n=>n⟩
theorem Tryz.laysSlF06_f167:Go.Proofs.SlLaysF0.n6 Tryz.prog Tryz.laysSlF06_f167_ren:={
  mixed:=by kernel_rfl
  f6:=⟨Tryz.f167.name,by decide,Tryz.func167.trans (congrArg some (by kernel_rfl))⟩
  f14:=⟨Tryz.f203.name,by decide,Tryz.func203.trans (congrArg some (by kernel_rfl))⟩
  f15:=Tryz.func204.trans (congrArg some (by kernel_rfl))
  f20:=⟨Tryz.f222.name,by decide,Tryz.func222.trans (congrArg some (by kernel_rfl))⟩
  f21:=⟨Tryz.f223.name,by decide,Tryz.func223.trans (congrArg some (by kernel_rfl))⟩
  f22:=⟨Tryz.f224.name,by decide,Tryz.func224.trans (congrArg some (by kernel_rfl))⟩
  f23:=⟨Tryz.f225.name,by decide,Tryz.func225.trans (congrArg some (by kernel_rfl))⟩
  f24:=⟨Tryz.f226.name,by decide,Tryz.func226.trans (congrArg some (by kernel_rfl))⟩
  f25:=⟨Tryz.f227.name,by decide,Tryz.func227.trans (congrArg some (by kernel_rfl))⟩
  f26:=⟨Tryz.f228.name,by decide,Tryz.func228.trans (congrArg some (by kernel_rfl))⟩
  f27:=⟨Tryz.f229.name,by decide,Tryz.func229.trans (congrArg some (by kernel_rfl))⟩
  f28:=Tryz.func230.trans (congrArg some (by kernel_rfl))
  f29:=Tryz.func231.trans (congrArg some (by kernel_rfl))
  f46:=⟨Tryz.f236.name,by decide,Tryz.func236.trans (congrArg some (by kernel_rfl))⟩
  f47:=Tryz.func237.trans (congrArg some (by kernel_rfl))
  f48:=Tryz.func238.trans (congrArg some (by kernel_rfl))
  f49:=⟨Tryz.f239.name,by decide,Tryz.func239.trans (congrArg some (by kernel_rfl))⟩
  f50:=⟨Tryz.f240.name,by decide,Tryz.func240.trans (congrArg some (by kernel_rfl))⟩
  f57:=⟨Tryz.f241.name,by decide,Tryz.func241.trans (congrArg some (by kernel_rfl))⟩
  t0:=Tryz.underlying0
  a0:=Tryz.isAgg0
  z0:=Tryz.sizeOf0
  v0:=Tryz.zeroValue0
  t3:=Tryz.underlying3
  a3:=Tryz.isAgg3
  z3:=Tryz.sizeOf3
  v3:=Tryz.zeroValue3
  t4:=Tryz.underlying4
  a4:=Tryz.isAgg4
  z4:=Tryz.sizeOf4
  v4:=Tryz.zeroValue4
  t5:=Tryz.underlying5
  a5:=Tryz.isAgg5
  z5:=Tryz.sizeOf5
  v5:=Tryz.zeroValue5
  t9:=Tryz.underlying9
  a9:=Tryz.isAgg9
  z9:=Tryz.sizeOf9
  v9:=Tryz.zeroValue9
  t22:=Tryz.underlying111
  a22:=Tryz.isAgg111
  z22:=Tryz.sizeOf111
  v22:=Tryz.zeroValue111
  t25:=Tryz.underlying182
  a25:=Tryz.isAgg182
  z25:=Tryz.sizeOf182
  v25:=Tryz.zeroValue182
  t39:=Tryz.underlying167
  a39:=Tryz.isAgg167
  z39:=Tryz.sizeOf167
  v39:=Tryz.zeroValue167
  t45:=Tryz.underlying224
  a45:=Tryz.isAgg224
  z45:=Tryz.sizeOf224
  v45:=Tryz.zeroValue224
  t46:=Tryz.underlying225
  a46:=Tryz.isAgg225
  z46:=Tryz.sizeOf225
  v46:=Tryz.zeroValue225
  t50:=Tryz.underlying119
  a50:=Tryz.isAgg119
  z50:=Tryz.sizeOf119
  v50:=Tryz.zeroValue119
  t53:=Tryz.underlying196
  a53:=Tryz.isAgg196
  z53:=Tryz.sizeOf196
  v53:=Tryz.zeroValue196
  t55:=Tryz.underlying222
  a55:=Tryz.isAgg222
  z55:=Tryz.sizeOf222
  v55:=Tryz.zeroValue222
  t66:=Tryz.underlying233
  a66:=Tryz.isAgg233
  z66:=Tryz.sizeOf233
  v66:=Tryz.zeroValue233
  t70:=Tryz.underlying237
  a70:=Tryz.isAgg237
  z70:=Tryz.sizeOf237
  v70:=Tryz.zeroValue237
  t76:=Tryz.underlying239
  a76:=Tryz.isAgg239
  z76:=Tryz.sizeOf239
  v76:=Tryz.zeroValue239
  t77:=Tryz.underlying123
  a77:=Tryz.isAgg123
  z77:=Tryz.sizeOf123
  v77:=Tryz.zeroValue123 }
open Go.RowKit Go.Lib Go.Sort in
theorem Tryz.slices_SortFunc_eq {α:Type} [Inhabited α] (k:Nat) (aE:∀ w,(isAgg 126).run Tryz.prog w=.ok true w) (zE:∀ w,(Go.sizeOf 126).run Tryz.prog w=.ok k w) (enc:α->List Value) (hk:∀ x,(enc x).length=k) (h1:∀ x,∀ v∈enc x,v.oneCell'=true) (cf:α->α->Int) (hO:SWO (ltOf cf)) (g:Nat) (cb:Array Value) (blk off cap:Nat) (d:Array α) (w:World) (eg:∀ args w,(callFunc g args).run Tryz.prog w=.ok (.enter g args) w) (hcmp:CmpLays Tryz.prog g cb enc k cf blk off d.size w) (hH:HoldsK enc k w blk off d) (hblk:blk<w.heap.size) (hsz:d.size<4611686018427387904) :
  Calls Tryz.prog 167 #[.slice (some ⟨blk,off,none⟩) d.size cap,.func (.func g) #[] cb] w λe w' =>
   e=.returned (.tuple #[])/\∃ n os,w'=sortWorldK enc k w blk off n (pdq (ltOf cf) d 0 d.size (Lib.bitLen d.size) true true) os:=AnyQ.slices_SortFunc_eq Tryz.laysSlF06_f167 k aE zE enc hk h1 cf hO g cb blk off cap d w eg hcmp hH hblk hsz
end Go.Proofs
namespace Go.Proofs
open Go.Shelf Go.RowKit Go.Lib
set_option maxRecDepth 100000
def Tryz.lays196_ren:Go.Shelf.Ren:=⟨fun | 196=>165 | 259=>202 | n=>n,fun | 0=>0 | 3=>3 | 4=>4 | 5=>5 | 9=>9 | 12=>12 | 46=>167 | 53=>222 | 119=>208 | 138=>210 | 139=>211 | n=>n,fun | 3=>1 | 4=>2 | n=>n⟩
theorem Tryz.lays196:Go.Proofs.Lays.n196 Tryz.prog Tryz.lays196_ren:={
  mixed:=by kernel_rfl
  f196:=Tryz.func165.trans (congrArg some (by kernel_rfl))
  f259:=Tryz.func202.trans (congrArg some (by kernel_rfl))
  t0:=Tryz.underlying0
  a0:=Tryz.isAgg0
  z0:=Tryz.sizeOf0
  v0:=Tryz.zeroValue0
  t3:=Tryz.underlying3
  a3:=Tryz.isAgg3
  z3:=Tryz.sizeOf3
  v3:=Tryz.zeroValue3
  t4:=Tryz.underlying4
  a4:=Tryz.isAgg4
  z4:=Tryz.sizeOf4
  v4:=Tryz.zeroValue4
  t5:=Tryz.underlying5
  a5:=Tryz.isAgg5
  z5:=Tryz.sizeOf5
  v5:=Tryz.zeroValue5
  t9:=Tryz.underlying9
  a9:=Tryz.isAgg9
  z9:=Tryz.sizeOf9
  v9:=Tryz.zeroValue9
  t12:=Tryz.underlying12
  a12:=Tryz.isAgg12
  z12:=Tryz.sizeOf12
  v12:=Tryz.zeroValue12
  t46:=Tryz.underlying167
  a46:=Tryz.isAgg167
  z46:=Tryz.sizeOf167
  v46:=Tryz.zeroValue167
  t53:=Tryz.underlying222
  a53:=Tryz.isAgg222
  z53:=Tryz.sizeOf222
  v53:=Tryz.zeroValue222
  t119:=Tryz.underlying208
  a119:=Tryz.isAgg208
  z119:=Tryz.sizeOf208
  t138:=Tryz.underlying210
  a138:=Tryz.isAgg210
  z138:=Tryz.sizeOf210
  v138:=Tryz.zeroValue210
  t139:=Tryz.underlying211
  a139:=Tryz.isAgg211
  z139:=Tryz.sizeOf211
  v139:=Tryz.zeroValue211
  g3:=by kernel_rfl
  g4:=by kernel_rfl
  }
theorem Tryz.utf8_ValidString (s:ByteArray) (w:World) (hs:s.size<=9223372036854775807) (hT:Lib.Utf8Tabs 1 2 w) :
  Calls Tryz.prog 165 #[.string s] w λe w'=>e=.returned (.bool (Lib.validD s.data.toList))/\Below w.heap.size w w':=Any.utf8_ValidString Tryz.lays196 s w hs hT
end Go.Proofs
namespace Go.Ev
open Go Go.Proofs
def pValid:Pvs
 | [.s l]=>some (decide (l.length<=9223372036854775807),.b (Lib.validD l))
 | _=>none
theorem pValid_ok {P:Program} {f:FuncId} {g3 g4:Nat} (hen:Enters P f) (h3:globAt P "unicode/utf8.first"=some g3) (h4:globAt P "unicode/utf8.acceptRanges"=some g4)
  (hc:∀ s w,s.size<=9223372036854775807->Lib.Utf8Tabs g3 g4 w->Calls P f #[.string s] w λe w'=>e=.returned (.bool (Lib.validD s.data.toList))/\RowKit.Below w.heap.size w w'):ZOK P f (zPv pValid):=by
 refine zPv_ok ⟨hen,λargs v h w N μ H vals ht hr=>?_⟩
 unfold pValid at h
 split at h
 ·rename_i l
  simp only [oSi,Prod.mk.injEq,dTe] at h
  obtain ⟨hl,rfl⟩:=h
  simp only [RelVs,RelV] at hr
  obtain ⟨_,_,rfl,rfl,rfl⟩:=hr
  refine (hc ⟨l.toArray⟩ w (by simpa [ByteArray.size] using hl) (ht.1 g3 g4 h3 h4)).mono λe w' ⟨he,bel⟩=>⟨_,he,λw1 N1 μ1 H1=>?_,bel⟩
  simp only [RelV]
 ·cases h
end Go.Ev
namespace Go.Qw
open Go Go.Ev
set_option maxRecDepth 100000
theorem mixed:Go.Proofs.Tryz.prog.follows .mixedOrders=true:=by kernel_rfl
def S131_0:Shape:=⟨[(0,.s),(1,(.i .i64)),(9,(.ptr 0 0))],[(0,.iter)],1⟩
def U131_0:Outs:=[((.exit 0),⟨[(0,.s),(1,(.i .i64))],[],0⟩),(.ret,⟨[(4,(.i .i64))],[],0⟩)]
def B131_0 (p:(((List UInt8)×Int×Unit×Unit)×((List UInt8×Nat)×Unit))):Option ((((List UInt8)×Int×Unit×Unit)×((List UInt8×Nat)×Unit))⊕((((List UInt8)×Int×Unit)×Unit)⊕((Int×Unit)×Unit))):=(cond (decide (p.2.1.2<List.length p.2.1.1)) (cond (decide ((0:Int)<((p.2.1.2:Nat):Int))) (some (Sum.inr (Sum.inr ((((p.2.1.2:Nat):Int),()),())))) (some (Sum.inl ((p.1.1,p.1.2.1,(),()),((p.2.1.1,(p.2.1.2+(Go.Utf8.decode ⟨List.toArray p.2.1.1⟩ p.2.1.2).2)),()))))) (some (Sum.inr (Sum.inl ((p.1.1,p.1.2.1,()),())))))
def L131_0 (p:(((List UInt8)×Int×Unit×Unit)×((List UInt8×Nat)×Unit))):Option ((((List UInt8)×Int×Unit)×Unit)⊕((Int×Unit)×Unit)):=loopOf B131_0 p
def H131_0:HT:=.leaf
def F131 (p:((List UInt8)×Int×Unit)×Unit):Option (Int×Unit):=(Option.bind (cond (((decide ((0:Int)<=p.1.2.1))&&(decide (p.1.2.1<=(((List.length p.1.1):Nat):Int))))&&(decide ((((List.length p.1.1):Nat):Int)<=(((List.length p.1.1):Nat):Int)))) (Option.bind (L131_0 ((p.1.1,p.1.2.1,(),()),(((List.take ((Int.toNat (((List.length p.1.1):Nat):Int))-(Int.toNat p.1.2.1)) (List.drop (Int.toNat p.1.2.1) p.1.1)),0),()))) λp1=>(match p1 with | Sum.inl p2=>(some (Sum.inl ((p2.1.1,p2.1.2.1,()),()))) | Sum.inr q2=>(some (Sum.inr ((q2.1.1,()),()))))) none) λ(p3:((((List UInt8)×Int×Unit)×Unit)⊕((Int×Unit)×Unit)))=>(match p3 with | Sum.inl p4=>(some ((w64 ((((List.length p4.1.1):Nat):Int)-p4.1.2.1)),())) | Sum.inr q4=>(some (q4.1.1,()))))
def O131:Orc:=⟨(.cons .s (.cons (.i .i64) .nil)),[],(.i .i64),[],F131⟩
def H131:HT:=(.two .leaf (.two (.join [(.normal,⟨[(0,.s),(1,(.i .i64))],[],0⟩),(.ret,⟨[(4,(.i .i64))],[],0⟩)] (.two .leaf (.one (.loop S131_0 U131_0 L131_0 H131_0)))) .leaf))
def X131:List (FuncId×Orc):=[]
def Y131:List (FuncId×(List AV->Option AV)):=[]
def Z131:List (FuncId×Deed):=[]
def I131:List FuncId:=[]
theorem round131_0 (p):round Go.Proofs.Tryz.prog (callX Go.Proofs.Tryz.prog (lookX X131) (lookM X131) (lookY Y131) (lookZ Z131) (hasN I131) 6) (mild (lookM X131) (lookY Y131)) 0 20 (subc (bodyOf Go.Proofs.Tryz.f131) [true,false,true,false,false]) H131_0 S131_0 U131_0 p=B131_0 p:=by kernel_rfl
theorem run131 (p):evTop Go.Proofs.Tryz.prog (callX Go.Proofs.Tryz.prog (lookX X131) (lookM X131) (lookY Y131) (lookZ Z131) (hasN I131) 6) (mild (lookM X131) (lookY Y131)) Go.Proofs.Tryz.f131 H131 O131 p=F131 p:=by kernel_rfl
theorem ok131:O131.OK Go.Proofs.Tryz.prog 131 :=
 ok_of mixed (X:=X131) (Y:=Y131) (Z:=Z131) (I:=I131) (d:=6) trivial trivial trivial trivial (by kernel_rfl) Go.Proofs.Tryz.func131 Go.Proofs.Tryz.call131 (c:=bodyOf Go.Proofs.Tryz.f131) (by kernel_rfl) (h:=H131) (by kernel_rfl)
  (ls:=[⟨subc (bodyOf Go.Proofs.Tryz.f131) [true,false,true,false,false],H131_0,S131_0,U131_0,L131_0⟩]) (by kernel_rfl) ⟨LoopRec.of rfl round131_0,trivial⟩ run131
def F130 (p:(Int×Int×Unit)×Unit):Option (Bool×Unit):=(some ((((decide ((32:Int)<=p.1.1))&&(!(decide (p.1.1=(127:Int)))))&&((!(decide (p.1.1=(65533:Int))))||(decide (p.1.2.1=(3:Int))))),()))
def O130:Orc:=⟨(.cons (.i .i32) (.cons (.i .i64) .nil)),[],.b,[],F130⟩
def H130:HT:=.leaf
def X130:List (FuncId×Orc):=[]
def Y130:List (FuncId×(List AV->Option AV)):=[]
def Z130:List (FuncId×Deed):=[]
def I130:List FuncId:=[]
theorem run130 (p):evTop Go.Proofs.Tryz.prog (callX Go.Proofs.Tryz.prog (lookX X130) (lookM X130) (lookY Y130) (lookZ Z130) (hasN I130) 6) (mild (lookM X130) (lookY Y130)) Go.Proofs.Tryz.f130 H130 O130 p=F130 p:=by kernel_rfl
theorem ok130:O130.OK Go.Proofs.Tryz.prog 130 :=
 ok_of mixed (X:=X130) (Y:=Y130) (Z:=Z130) (I:=I130) (d:=6) trivial trivial trivial trivial (by kernel_rfl) Go.Proofs.Tryz.func130 Go.Proofs.Tryz.call130 (c:=bodyOf Go.Proofs.Tryz.f130) (by kernel_rfl) (h:=H130) (by kernel_rfl)
  (ls:=[]) (by kernel_rfl) trivial run130
end Go.Qw
namespace Go.Proofs
open Go.Shelf Go.RowKit Go.Lib
set_option maxRecDepth 100000
def Tryz.lays167_ren:Go.Shelf.Ren:=⟨fun | 167=>129 | 240=>173 | 276=>206 | n=>n,fun | 0=>0 | 4=>4 | 5=>5 | 9=>9 | 20=>20 | 37=>23 | 70=>151 | 72=>153 | 75=>155 | 80=>138 | 164=>217 | n=>n,fun | n=>n⟩
theorem Tryz.lays167:Go.Proofs.Lays.n167 Tryz.prog Tryz.lays167_ren:={
  mixed:=by kernel_rfl
  f167:=Tryz.func129.trans (congrArg some (by kernel_rfl))
  f240:=Tryz.func173.trans (congrArg some (by kernel_rfl))
  f276:=Tryz.func206.trans (congrArg some (by kernel_rfl))
  t0:=Tryz.underlying0
  a0:=Tryz.isAgg0
  z0:=Tryz.sizeOf0
  v0:=Tryz.zeroValue0
  t4:=Tryz.underlying4
  a4:=Tryz.isAgg4
  z4:=Tryz.sizeOf4
  v4:=Tryz.zeroValue4
  t5:=Tryz.underlying5
  a5:=Tryz.isAgg5
  z5:=Tryz.sizeOf5
  v5:=Tryz.zeroValue5
  t9:=Tryz.underlying9
  a9:=Tryz.isAgg9
  z9:=Tryz.sizeOf9
  v9:=Tryz.zeroValue9
  t20:=Tryz.underlying20
  a20:=Tryz.isAgg20
  z20:=Tryz.sizeOf20
  v20:=Tryz.zeroValue20
  t37:=Tryz.underlying23
  a37:=Tryz.isAgg23
  z37:=Tryz.sizeOf23
  v37:=Tryz.zeroValue23
  t70:=Tryz.underlying151
  a70:=Tryz.isAgg151
  z70:=Tryz.sizeOf151
  v70:=Tryz.zeroValue151
  t72:=Tryz.underlying153
  a72:=Tryz.isAgg153
  z72:=Tryz.sizeOf153
  v72:=Tryz.zeroValue153
  t75:=Tryz.underlying155
  a75:=Tryz.isAgg155
  z75:=Tryz.sizeOf155
  v75:=Tryz.zeroValue155
  t164:=Tryz.underlying217
  a164:=Tryz.isAgg217
  z164:=Tryz.sizeOf217
  v164:=Tryz.zeroValue217
  }
def Tryz.lays168_ren:Go.Shelf.Ren:=⟨fun | 168=>132 | 240=>173 | 242=>174 | 276=>206 | 278=>207 | n=>n,fun | 0=>0 | 3=>3 | 4=>4 | 5=>5 | 9=>9 | 20=>20 | 21=>21 | 37=>23 | 46=>167 | 51=>196 | 70=>151 | 72=>153 | 75=>155 | 80=>138 | 164=>217 | n=>n,fun | n=>n⟩
theorem Tryz.lays168:Go.Proofs.Lays.n168 Tryz.prog Tryz.lays168_ren:={
  mixed:=by kernel_rfl
  f168:=Tryz.func132.trans (congrArg some (by kernel_rfl))
  f240:=Tryz.func173.trans (congrArg some (by kernel_rfl))
  f242:=Tryz.func174.trans (congrArg some (by kernel_rfl))
  f276:=Tryz.func206.trans (congrArg some (by kernel_rfl))
  f278:=Tryz.func207.trans (congrArg some (by kernel_rfl))
  t0:=Tryz.underlying0
  a0:=Tryz.isAgg0
  z0:=Tryz.sizeOf0
  v0:=Tryz.zeroValue0
  t3:=Tryz.underlying3
  a3:=Tryz.isAgg3
  z3:=Tryz.sizeOf3
  v3:=Tryz.zeroValue3
  t4:=Tryz.underlying4
  a4:=Tryz.isAgg4
  z4:=Tryz.sizeOf4
  v4:=Tryz.zeroValue4
  t5:=Tryz.underlying5
  a5:=Tryz.isAgg5
  z5:=Tryz.sizeOf5
  v5:=Tryz.zeroValue5
  t9:=Tryz.underlying9
  a9:=Tryz.isAgg9
  z9:=Tryz.sizeOf9
  v9:=Tryz.zeroValue9
  t20:=Tryz.underlying20
  a20:=Tryz.isAgg20
  z20:=Tryz.sizeOf20
  v20:=Tryz.zeroValue20
  t21:=Tryz.underlying21
  a21:=Tryz.isAgg21
  z21:=Tryz.sizeOf21
  v21:=Tryz.zeroValue21
  t37:=Tryz.underlying23
  a37:=Tryz.isAgg23
  z37:=Tryz.sizeOf23
  v37:=Tryz.zeroValue23
  t46:=Tryz.underlying167
  a46:=Tryz.isAgg167
  z46:=Tryz.sizeOf167
  v46:=Tryz.zeroValue167
  t51:=Tryz.underlying196
  a51:=Tryz.isAgg196
  z51:=Tryz.sizeOf196
  v51:=Tryz.zeroValue196
  t70:=Tryz.underlying151
  a70:=Tryz.isAgg151
  z70:=Tryz.sizeOf151
  v70:=Tryz.zeroValue151
  t72:=Tryz.underlying153
  a72:=Tryz.isAgg153
  z72:=Tryz.sizeOf153
  v72:=Tryz.zeroValue153
  t75:=Tryz.underlying155
  a75:=Tryz.isAgg155
  z75:=Tryz.sizeOf155
  v75:=Tryz.zeroValue155
  t164:=Tryz.underlying217
  a164:=Tryz.isAgg217
  z164:=Tryz.sizeOf217
  v164:=Tryz.zeroValue217
  }
theorem Tryz.bX167:Builder.Extra Tryz.prog Tryz.lays167_ren:={ sizeBuilder:=by kernel_rfl,liesBuilder:=by kernel_rfl,t5:=Tryz.underlying5,a5:=Tryz.isAgg5,z5:=Tryz.sizeOf5,v5:=Tryz.zeroValue5,infoByte:=by kernel_rfl,cellsByte:=by kernel_rfl,sizeByte:=by kernel_rfl,neB5:=by decide }
theorem Tryz.bX168:Builder.Extra Tryz.prog Tryz.lays168_ren:={ sizeBuilder:=by kernel_rfl,liesBuilder:=by kernel_rfl,t5:=Tryz.underlying5,a5:=Tryz.isAgg5,z5:=Tryz.sizeOf5,v5:=Tryz.zeroValue5,infoByte:=by kernel_rfl,cellsByte:=by kernel_rfl,sizeByte:=by kernel_rfl,neB5:=by decide }
theorem Tryz.bX169:Builder.Extra Tryz.prog Tryz.lays169_ren:={ sizeBuilder:=by kernel_rfl,liesBuilder:=by kernel_rfl,t5:=Tryz.underlying5,a5:=Tryz.isAgg5,z5:=Tryz.sizeOf5,v5:=Tryz.zeroValue5,infoByte:=by kernel_rfl,cellsByte:=by kernel_rfl,sizeByte:=by kernel_rfl,neB5:=by decide }
end Go.Proofs
namespace Go.Ev
open Go Go.Proofs
section
variable {P:Program} {w:World}
theorem hp_none {w:World} (ht:(tabsOf P).tab w):Hp (noF:Frm (tabsOf P)) (λ_=>none) (unBlks [] ()) 0 w :=
 ⟨λb=>by simp [unBlks,RelB],λb g h=>absurd rfl h,λb b' g h=>absurd rfl h,λ_ _=>rfl,λb g h=>absurd rfl h,λg h=>h.elim,ht,λb g h=>absurd rfl h⟩
theorem toldI {f:FuncId} {A:VSh} {k:IntKind} {run:A.den×blksDen []->Option (VSh.den (.i k)×blksDen [])} (ho:Orc.OK P f ⟨A,[],.i k,[],run⟩) {p:A.den} {n:Int} (hrun:run (p,())=some (n,())) {vals:List Value} (ht:(tabsOf P).tab w)
  (hargs:RelVs w (Not (noF:Frm (tabsOf P)) (λ_=>none) λ_=>.dead) (λ_=>none) (λ_=>.dead) (unL A p) vals) :
  Calls P f vals.toArray w λe w'=>e=.returned (.int k n)/\RowKit.Below w.heap.size w w':=by
 refine (ho.run (p,()) _ hrun noF (λ_=>none) w vals (hp_none ht) hargs).mono λe w' ⟨val,μ',nx',h1,h2,h3,h4,_⟩=>⟨?_,h4.os,h4.tape,h4.output,h4.size,λk hk=>h4.keep k hk λ⟨j,h,_⟩=>h rfl⟩
 have h1:e=.returned val:=h1
 simp only [unV,RelV] at h3
 rw [h1,h3]
theorem toldB {f:FuncId} {A:VSh} {run:A.den×blksDen []->Option (VSh.den .b×blksDen [])} (ho:Orc.OK P f ⟨A,[],.b,[],run⟩) {p:A.den} {x:Bool} (hrun:run (p,())=some (x,())) {vals:List Value} (ht:(tabsOf P).tab w)
  (hargs:RelVs w (Not (noF:Frm (tabsOf P)) (λ_=>none) λ_=>.dead) (λ_=>none) (λ_=>.dead) (unL A p) vals) :
  Calls P f vals.toArray w λe w'=>e=.returned (.bool x)/\RowKit.Below w.heap.size w w':=by
 refine (ho.run (p,()) _ hrun noF (λ_=>none) w vals (hp_none ht) hargs).mono λe w' ⟨val,μ',nx',h1,h2,h3,h4,_⟩=>⟨?_,h4.os,h4.tape,h4.output,h4.size,λk hk=>h4.keep k hk λ⟨j,h,_⟩=>h rfl⟩
 have h1:e=.returned val:=h1
 simp only [unV,RelV] at h3
 rw [h1,h3]
theorem tab_below {w w':World} (ht:(tabsOf P).tab w) (hb:RowKit.Below w.heap.size w w'):(tabsOf P).tab w' :=
 (tabsOf P).stays w w' (λg hg=>hb.block g ((tabsOf P).lt w g ht hg)) ht
end
end Go.Ev
namespace Go.Qw
open Go Go.Ev
set_option maxRecDepth 100000
theorem F131_eq (s:List UInt8) (a:Nat) (hs:s.length<=1100000) (ha:a<s.length):F131 ((s,(a:Int),()),())=some (((Lib.decodeL (s.drop a)).2:Int),()):=by
 have e1:(decide ((0:Int)<=(a:Int))&&decide ((a:Int)<=(s.length:Int))&&decide ((s.length:Int)<=(s.length:Int)))=true:=by
  simp;omega
 have ht:List.take ((Int.toNat ((List.length s:Nat):Int))-(Int.toNat (a:Int))) (List.drop (Int.toNat (a:Int)) s)=s.drop a:=List.take_of_length_le (by simp)
 have hl:(s.drop a).length=s.length-a:=by simp
 have hne:s.drop a≠[]:=λh=>by rw [h] at hl;simp at hl;omega
 have hw:=Lib.decodeL_width (s.drop a)
 have hle:=Lib.decodeL_le (s.drop a) hne
 simp only [F131,e1,cTt,ht]
 generalize s.drop a=t at hl hne hw hle
 obtain ⟨r,h1,h2⟩:=loop_ind (f:=B131_0) (I:=λp=>∃ pos:Nat,p=((s,(a:Int),(),()),((t,pos),()))/\(pos=0\/pos=(Lib.decodeL t).2)) (μ:=λp=>t.length-p.2.1.2) (Q:=λr=>(r=.inl ((s,(a:Int),()),())/\(Lib.decodeL t).2=t.length)\/r=.inr ((((Lib.decodeL t).2:Int),()),()))
  (step:=λp hp=>by
   obtain ⟨pos,rfl,h⟩:=hp
   rcases h with rfl | rfl
   ·have hlt:0<t.length:=by omega
    refine .inl ⟨((s,(a:Int),(),()),((t,0+(Utf8.decode ⟨t.toArray⟩ 0).2),())),?_,⟨_,rfl,.inr (Nat.zero_add _)⟩,?_⟩
    ·have:decide ((0:Int)<((0:Nat):Int))=false:=rfl
     simp only [B131_0,dTt hlt,cTt,cFf,this]
    ·show t.length-(0+(Lib.decodeL t).2)<t.length-0
     omega
   ·by_cases hlt:(Lib.decodeL t).2<t.length
    ·refine .inr ⟨_,?_,.inr rfl⟩
     have:decide ((0:Int)<((Lib.decodeL t).2:Int))=true:=dTt (by omega)
     simp only [B131_0,dTt hlt,cTt,this]
    ·refine .inr ⟨.inl ((s,(a:Int),()),()),?_,.inl ⟨rfl,by omega⟩⟩
     simp only [B131_0,dFf hlt,cFf])
  (p:=((s,(a:Int),(),()),((t,0),()))) ⟨0,rfl,.inl rfl⟩ (by
   have:=FUEL_big
   show t.length-0<FUEL
   omega)
 have h1':L131_0 ((s,(a:Int),(),()),((t,0),()))=some r:=h1
 simp only [h1',oBs]
 rcases h2 with ⟨rfl,g⟩ | rfl
 ·have w:w64 ((s.length:Int)-(a:Int))=((Lib.decodeL t).2:Int):=by
   rw [w64_id (by omega) (by omega)];omega
  show some (w64 ((s.length:Int)-(a:Int)),())=_
  rw [w]
 ·rfl
def pln (c w:Nat):Bool:=((decide ((32:Int)<=(c:Int)))&&(!(decide ((c:Int)=(127:Int)))))&&((!(decide ((c:Int)=(65533:Int))))||(decide ((w:Int)=(3:Int))))
theorem F130_eq (c n:Nat):F130 (((c:Int),(n:Int),()),())=some (pln c n,()):=rfl
theorem width_calls (s:ByteArray) (a:Nat) (hs:s.size<=1100000) (ha:a<s.size) (w:World) (ht:(tabsOf Go.Proofs.Tryz.prog).tab w) :
  Calls Go.Proofs.Tryz.prog 131 #[.string s,.int .i64 a] w λe w'=>e=.returned (.int .i64 ((Lib.decodeL (s.data.toList.drop a)).2:Int))/\RowKit.Below w.heap.size w w':=by
 have hl:s.data.toList.length=s.size:=(Lib.size_eq s).symm
 exact toldI ok131 (F131_eq s.data.toList a (by omega) (by omega)) ht ⟨_,_,rfl,rfl,_,_,rfl,rfl,rfl⟩
theorem plain_calls (c n:Nat) (w:World) (ht:(tabsOf Go.Proofs.Tryz.prog).tab w) :
  Calls Go.Proofs.Tryz.prog 130 #[.int .i32 c,.int .i64 n] w λe w'=>e=.returned (.bool (pln c n))/\RowKit.Below w.heap.size w w' :=
 toldB ok130 (F130_eq c n) ht ⟨_,_,rfl,rfl,_,_,rfl,rfl,rfl⟩
end Go.Qw
namespace Go.Qw
open Go Go.Ev
set_option maxRecDepth 100000
def quoF:Nat->List UInt8->Nat->List UInt8->List UInt8×Int×Int
 | 0,_,_,out=>(out++[34],0,0)
 | k+1,r,place,out =>
  if r=[] then (out++[34],0,0)
  else if pln (Lib.decodeL r).1 (Lib.decodeL r).2=true then
   quoF k (r.drop (Lib.decodeL r).2) (place+1) ((if (Lib.decodeL r).1=34\/(Lib.decodeL r).1=92 then out++[92] else out)++Lib.encodeRune ((Lib.decodeL r).1:Int))
  else ([],(place:Int),4)
def quo (s:List UInt8):List UInt8×Int×Int:=if 1024<s.length then ([],0,6) else quoF s.length s 0 [34]
def vals3 (a:List UInt8×Int×Int):Value:=.tuple #[.string ⟨a.1.toArray⟩,.int .i64 a.2.1,.int .i64 a.2.2]
end Go.Qw
namespace Go.Proofs
open Go.RowKit Go.Ev Go.Qw Go.Lib
theorem builderBelow {T e:TypeId} {B b:Nat} {p:Value} {bs:List Value} {W W':World} (h:Lib.BuilderAtF T e B b p bs W) (hb:Below W.heap.size W W'):Lib.BuilderAtF T e B b p bs W':=by
 have hlt:=h.lt
 obtain ⟨hB,v,hv,hown,hne⟩:=h
 exact ⟨hB,v,(hb.block b hlt).trans hv,hown.kept (row:=none) ⟨hb.os,hb.tape,hb.output,hb.size,λk hk _=>hb.block k hk⟩ (Classical.em _),hne⟩
theorem cWB (B:Nat) (bs:List Value) (c:Int) (W:World) (h:Lib.IsBuilderF 153 5 B B bs W) (hl:bs.length+1<=140737488355328) (hB:B<=W.heap.size) :
  Calls Tryz.prog 129 #[.pointer (some ⟨B,0,none⟩),.int .u8 c] W λe w'=>e=.returned .nilIface/\(Lib.BuilderAtF 153 5 B B (.pointer (some ⟨B,0,none⟩)) (bs++[.int .u8 c]) w'/\Below B W w'/\Lib.OthersKept 5 (some B) W w') :=
 Any.Builder_WriteByte_k Tryz.lays167 Tryz.bX167 B B bs c W h hl hB
theorem cWR (B:Nat) (bs:List Value) (r:Int) (h0:-2147483648<=r) (h1:r<=2147483647) (W:World) (h:Lib.IsBuilderF 153 5 B B bs W) (hl:bs.length+4<=140737488355328) (hB:B<=W.heap.size) :
  Calls Tryz.prog 132 #[.pointer (some ⟨B,0,none⟩),.int .i32 r] W λe w'=>e=.returned (.tuple #[.int .i64 (Lib.runeCells r).length,.nilIface])/\(Lib.BuilderAtF 153 5 B B (.pointer (some ⟨B,0,none⟩)) (bs++Lib.runeCells r) w'/\Below B W w'/\Lib.OthersKept 5 (some B) W w') :=
 Any.Builder_WriteRune_k Tryz.lays168 Tryz.bX168 B B bs r h0 h1 W h hl hB
theorem cST (B:Nat) (l:List UInt8) (W:World) (h:Lib.IsBuilderF 153 5 B B (Lib.byteCells l) W) (hB:B<=W.heap.size) :
  Calls Tryz.prog 133 #[.pointer (some ⟨B,0,none⟩)] W λe w'=>e=.returned (.string ⟨l.toArray⟩)/\(Lib.IsBuilderF 153 5 B B (Lib.byteCells l) w'/\Below B W w'/\Lib.OthersKept 5 (some B) W w') :=
 Any.Builder_String_any_k Tryz.lays169 Tryz.bX169 B B l W h hB
set_option maxHeartbeats 40000000 in
set_option maxRecDepth 1000000 in
theorem quote_walk (s:ByteArray) (w:World) (ht:(tabsOf Tryz.prog).tab w) :
  Calls Tryz.prog 82 #[.string s] w λe w'=>e=.returned (vals3 (quo s.data.toList))/\Below w.heap.size w w':=by
 have hlen:s.data.toList.length=s.size:=(Lib.size_eq s).symm
 obtain ⟨ANS,hANS⟩:∃ A,quo s.data.toList=A:=⟨_,rfl⟩
 rw [hANS]
 unfold quo at hANS
 rw [hlen] at hANS
 by_cases hbig:1024<s.size
 ·rw [if_pos hbig] at hANS
  subst hANS
  have hbz:(1024:Int)<(s.size:Int):=by omega
  go_enter Tryz.func82,Tryz.ntmps82
  go_wp2
  go_ret3
  exact ⟨rfl,Below.refl _ _⟩
 ·rw [if_neg hbig] at hANS
  have hbz:¬ (1024:Int)<(s.size:Int):=by omega
  go_enter Tryz.func82,Tryz.ntmps82
  go_wp2_with (go_at_call 129;go_must (refine (cWB _ [] 34 _ (Lib.IsBuilderF.of (Lib.fresh_isBuilder 153 5 w)) (by simp) (by simp)).mono ?_;rintro e W1 ⟨rfl,hb1,bw1,ok1⟩))
  have hsz1:w.heap.size+1<=W1.heap.size:=by have:=bw1.size;simpa using this
  have hbw1:Below w.heap.size w W1:=((Below.refl _ w).alloc (Nat.le_refl _) _).trans bw1
  go_loopg [6] s.size (λgk s6 wx=>∃ (pos place:Nat) (out:List UInt8),s6=.int .i64 place/\Lib.BuilderAtF 153 5 w.heap.size w.heap.size (.pointer (some ⟨w.heap.size,0,none⟩)) (Lib.byteCells out) wx/\wx.heap[W1.heap.size]?=some (.stringIter s pos)/\Below w.heap.size w wx /\
   quoF gk (s.data.toList.drop pos) place out=ANS/\s.size<=pos+gk/\pos<=s.size/\place<=pos/\out.length<=1+5*pos)
  case atStart =>
   refine ⟨0,0,[34],rfl,?_,?_,?_,hANS,by omega,by omega,Nat.le_refl _,by simp⟩
   ·exact hb1.alloc _
   ·have:=World.iter_heap W1 s 0
    simpa using this
   ·exact hbw1.alloc (by omega) _
  case round =>
   obtain ⟨pos,place,out,rfl,hI,hit,hbw,hq,hfu,hps,hpl,hout⟩:=hrel
   have hszr:W1.heap.size<wr.heap.size:=(Array.getElem?_eq_some_iff.1 hit).1
   by_cases hlt:pos<s.size
   ·obtain ⟨g',rfl⟩:∃ g',gk=g'+1:=⟨gk-1,by omega⟩
    have hnx:∀ ty,(Instr.next (.pointer (some ⟨W1.heap.size,0,none⟩)) true ty).run Tryz.prog wr=_:=λty=>Lib.run_next_any_at wr W1.heap.size s pos ty hit hlt
    have hne:s.data.toList.drop pos≠[]:=λh0=>by
     have:=congrArg List.length h0
     rw [List.length_drop,hlen] at this
     simp at this
     omega
    have hdL:Lib.decodeL (s.data.toList.drop pos)=Utf8.decode s pos:=Lib.decodeL_drop s pos
    have hwd:=Lib.width_pos s pos
    have hwn:pos+(Utf8.decode s pos).2<=s.size:=by
     have:=Lib.decodeL_le _ hne
     rw [hdL,List.length_drop,hlen] at this
     omega
    have hrl:=Lib.rune_le s pos
    rw [quoF,if_neg hne,hdL] at hq
    have hwid:=width_calls s pos (by omega) hlt
    rw [hdL] at hwid
    obtain ⟨R,hR⟩:∃ R,(Utf8.decode s pos).1=R:=⟨_,rfl⟩
    obtain ⟨N,hN⟩:∃ N,(Utf8.decode s pos).2=N:=⟨_,rfl⟩
    rw [hR,hN] at hq hnx
    rw [hN] at hwd hwn hwid
    rw [hR] at hrl
    rw [List.drop_drop] at hq
    have hI2:=hI.iterAt hit (pos+N)
    have hit2:=Lib.iterAt_heap wr W1.heap.size s pos (pos+N) hit
    have hbw2:=Lib.below_iterAt hbw (k:=W1.heap.size) (by omega) s (pos+N)
    have hszi:(wr.iterAt W1.heap.size s (pos+N)).heap.size=wr.heap.size:=Lib.iterAt_size _ _ _ _
    obtain ⟨W,hW⟩:∃ W,wr.iterAt W1.heap.size s (pos+N)=W:=⟨_,rfl⟩
    rw [hW] at hnx hI2 hit2 hbw2 hszi
    have htW:(tabsOf Tryz.prog).tab W:=tab_below ht hbw2
    go_wp2_with (go_at_call 131;go_must (refine (hwid W htW).mono ?_;rintro e W3 ⟨rfl,b3⟩))
    refine (plain_calls R N W3 (tab_below htW b3)).mono ?_
    rintro e W4 ⟨rfl,b4⟩
    have b34:Below W.heap.size W W4:=b3.trans (b4.mono b3.size)
    have hI4:=builderBelow hI2 b34
    have hit4:W4.heap[W1.heap.size]?=some (.stringIter s (pos+N)):=(b34.block W1.heap.size (by omega)).trans hit2
    have hbw4:Below w.heap.size w W4:=hbw2.trans (b34.mono (by omega))
    have hsz4:w.heap.size<=W4.heap.size:=by have:=hbw4.size;omega
    clear b3 b34 hI2 hit2 hbw2 hnx hwid hI hit hbw hW hdL hszi htW hszr hne hR hN hb1 ok1
    obtain ⟨pl,hpl'⟩:∃ x,pln R N=x:=⟨_,rfl⟩
    rw [hpl'] at hq ⊢
    cases pl
    ·rw [if_neg (by decide)] at hq
     subst hq
     go_wp2
     go_ret3
     exact ⟨rfl,hbw4⟩
    ·rw [if_pos rfl] at hq
     by_cases h34:R=34
     ·have e34:((R:Int) == 34)=true:=by simp [h34]
      have e34z:(R:Int)=34:=by omega
      go_wp2_with (go_at_call 129;go_must (refine (cWB _ (Lib.byteCells out) 92 W4 (.inr hI4) (by rw [Lib.byteCells_length];omega) hsz4).mono ?_;rintro e W5 ⟨rfl,hI5,b5,k5⟩))
      have hit5:=k5.iter hit4 (by omega)
      have hbw5:Below w.heap.size w W5:=hbw4.trans b5
      have hsz5:w.heap.size<=W5.heap.size:=by have:=hbw5.size;omega
      have hE:Lib.byteCells out++[Value.int .u8 92]=Lib.byteCells (out++[92]):=by rw [Lib.byteCells_append];rfl
      rw [hE] at hI5
      clear k5 b5 hI4 hit4 hbw4
      go_wp2_with (go_at_call 132;go_must (refine (cWR _ (Lib.byteCells (out++[92])) 34 (by decide) (by decide) W5 (.inr hI5) (by rw [Lib.byteCells_length];simp;omega) hsz5).mono ?_;rintro e W6 ⟨rfl,hI6,b6,k6⟩))
      have hit6:=k6.iter hit5 (by omega)
      have hE6:Lib.byteCells (out++[92])++Lib.runeCells (34:Int)=Lib.byteCells (out++[92]++Lib.encodeRune (R:Int)):=by rw [e34z];rw [Lib.byteCells_append (out++[92]),Lib.byteCells_encodeRune]
      rw [hE6] at hI6
      have hl4:=Lib.runeCells_le (R:Int)
      rw [Lib.runeCells_length] at hl4
      go_roundg g'
      case measure=>omega
      case rel=>exact ⟨pos+N,place+1,out++[92]++Lib.encodeRune (R:Int),by simp,hI6,hit6,hbw5.trans b6,by rw [if_pos (by omega)] at hq;exact hq,by omega,hwn,by omega,by simp;omega⟩
     ·have e34:((R:Int) == 34)=false:=by simp;omega
      have e34z:¬ (R:Int)=34:=by omega
      by_cases h92:R=92
      ·have e92:((R:Int) == 92)=true:=by simp [h92]
       have e92z:(R:Int)=92:=by omega
       go_wp2_with (go_at_call 129;go_must (refine (cWB _ (Lib.byteCells out) 92 W4 (.inr hI4) (by rw [Lib.byteCells_length];omega) hsz4).mono ?_;rintro e W5 ⟨rfl,hI5,b5,k5⟩))
       have hit5:=k5.iter hit4 (by omega)
       have hbw5:Below w.heap.size w W5:=hbw4.trans b5
       have hsz5:w.heap.size<=W5.heap.size:=by have:=hbw5.size;omega
       have hE:Lib.byteCells out++[Value.int .u8 92]=Lib.byteCells (out++[92]):=by rw [Lib.byteCells_append];rfl
       rw [hE] at hI5
       clear k5 b5 hI4 hit4 hbw4
       go_wp2_with (go_at_call 132;go_must (refine (cWR _ (Lib.byteCells (out++[92])) 92 (by decide) (by decide) W5 (.inr hI5) (by rw [Lib.byteCells_length];simp;omega) hsz5).mono ?_;rintro e W6 ⟨rfl,hI6,b6,k6⟩))
       have hit6:=k6.iter hit5 (by omega)
       have hE6:Lib.byteCells (out++[92])++Lib.runeCells (92:Int)=Lib.byteCells (out++[92]++Lib.encodeRune (R:Int)):=by rw [e92z];rw [Lib.byteCells_append (out++[92]),Lib.byteCells_encodeRune]
       rw [hE6] at hI6
       have hl4:=Lib.runeCells_le (R:Int)
       rw [Lib.runeCells_length] at hl4
       go_roundg g'
       case measure=>omega
       case rel=>exact ⟨pos+N,place+1,out++[92]++Lib.encodeRune (R:Int),by simp,hI6,hit6,hbw5.trans b6,by rw [if_pos (by omega)] at hq;exact hq,by omega,hwn,by omega,by simp;omega⟩
      ·have e92:((R:Int) == 92)=false:=by simp;omega
       have e92z:¬ (R:Int)=92:=by omega
       go_wp2_with (go_at_call 132;go_must (refine (cWR _ (Lib.byteCells out) R (by omega) (by omega) W4 (.inr hI4) (by rw [Lib.byteCells_length];omega) hsz4).mono ?_;rintro e W6 ⟨rfl,hI6,b6,k6⟩))
       have hit6:=k6.iter hit4 (by omega)
       have hE6:Lib.byteCells out++Lib.runeCells (R:Int)=Lib.byteCells (out++Lib.encodeRune (R:Int)):=by rw [Lib.byteCells_append,Lib.byteCells_encodeRune]
       rw [hE6] at hI6
       have hl4:=Lib.runeCells_le (R:Int)
       rw [Lib.runeCells_length] at hl4
       go_roundg g'
       case measure=>omega
       case rel=>exact ⟨pos+N,place+1,out++Lib.encodeRune (R:Int),by simp,hI6,hit6,hbw4.trans b6,by rw [if_neg (by omega)] at hq;exact hq,by omega,hwn,by omega,by simp;omega⟩
   ·have hend:pos=s.size:=by omega
    subst hend
    have hnx:∀ ty,(Instr.next (.pointer (some ⟨W1.heap.size,0,none⟩)) true ty).run Tryz.prog wr=_:=λty=>Lib.run_next_end_at wr W1.heap.size s s.size ty hit hlt
    have hq':(out++[34],0,0)=ANS:=by
     rw [List.drop_eq_nil_of_le (by omega)] at hq
     rw [<- hq]
     cases gk <;> simp [quoF]
    subst hq'
    have hsz0:w.heap.size<=wr.heap.size:=by have:=hbw.size;omega
    go_wp2_with (go_at_call 129;go_must (refine (cWB _ (Lib.byteCells out) 34 wr (.inr hI) (by rw [Lib.byteCells_length];omega) hsz0).mono ?_;rintro e W5 ⟨rfl,hI5,b5,k5⟩))
    have hE:Lib.byteCells out++[Value.int .u8 34]=Lib.byteCells (out++[34]):=by rw [Lib.byteCells_append];rfl
    rw [hE] at hI5
    have hbw5:Below w.heap.size w W5:=hbw.trans b5
    have hsz5:w.heap.size<=W5.heap.size:=by have:=hbw5.size;omega
    go_wp2_with (go_at_call 133;go_must (refine (cST _ (out++[34]) _ (.inr hI5) hsz5).mono ?_;rintro e W6 ⟨rfl,hI6,b6,k6⟩))
    go_ret3
    exact ⟨rfl,hbw5.trans b6⟩
end Go.Proofs
namespace Go.Qw
open Go Go.Ev
def pQuote:Pvs
 | [.s l]=>some (true,.tup [.s (quo l).1,.i .i64 (quo l).2.1,.i .i64 (quo l).2.2])
 | _=>none
theorem zQuote82:ZOK Go.Proofs.Tryz.prog 82 (zPv pQuote):=by
 refine zPv_ok ⟨Go.Proofs.Tryz.call82,λargs v h w N μ H vals ht hr=>?_⟩
 unfold pQuote at h
 split at h
 ·rename_i l
  simp only [oSi,Prod.mk.injEq,true_and] at h
  subst h
  simp only [RelVs,RelV] at hr
  obtain ⟨_,_,rfl,rfl,rfl⟩:=hr
  refine (Go.Proofs.quote_walk ⟨l.toArray⟩ w ht).mono λe w' ⟨he,bel⟩=>⟨_,he,λw1 N1 μ1 H1=>?_,bel⟩
  simp only [RelV,RelVs,vals3]
  exact ⟨_,rfl,_,_,rfl,rfl,_,_,rfl,rfl,_,_,rfl,rfl,rfl⟩
 ·cases h
end Go.Qw
namespace Go.Qy
open Go Go.Ev Go.Proofs Go.Sort Go.RowKit
set_option maxRecDepth 100000
theorem infoTrim:(Tryz.prog.info? (Tryz.lays160_ren.t 116)).map (λi=>(i.zero,i.size))=some (some (.agg (Array.replicate 256 (.bool false))),256):=by kernel_rfl
theorem zTrim144:ZOK Tryz.prog 144 (zPv pTrim) :=
 pTrim_ok Tryz.call144 λs c w hs hc ha=>Any.strings_Trim_ascii Tryz.lays160 (zero_of_info infoTrim).1 (zero_of_info infoTrim).2 s c w hs hc ha
theorem zBytesIndexByte55:ZOK Tryz.prog 55 (zPv pBytesIndexByte) :=
 pBytesIndexByte_ok Tryz.call55 λa n c xs cv w h1 h2=>Tryz.bytes_IndexByte_at a n c xs cv w h1 h2
theorem zIndex89:ZOK Tryz.prog 89 (zPvr pIndexB) :=
 pIndexB_ok Tryz.call89 (g:=0) (by kernel_rfl) λa1 a2 n c1 k c2 xs ys m w hx hy h1 h2 hc1 hc2 hcap hs hk hm =>
  (Tryz.bytes_Index_at a1 a2 n c1 k c2 xs ys m w hx hy h1 h2 hc1 hc2 hcap hs hk hm).mono λe w' ⟨he,n,hn⟩=>⟨he,hn ▸ below_drewNg w n⟩
theorem zContains87:ZOK Tryz.prog 87 zContains :=
 zContains_ok Tryz.call87 (g:=0) (by kernel_rfl) λs sub m w hs hm=>Tryz.strings_Contains s sub m w hs hm
theorem zHasPrefix112:ZOK Tryz.prog 112 (zPv pHasPrefix):=pHasPrefix_ok Tryz.call112 Tryz.strings_HasPrefix
theorem zValid165:ZOK Tryz.prog 165 (zPv pValid):=pValid_ok Tryz.call165 (by kernel_rfl) (by kernel_rfl) Tryz.utf8_ValidString
def blank171 (c:Nat):Bool:=c == 32||c == 9
theorem walk171 (w:World):PredGrows Tryz.prog 171 #[] blank171 w:=λW x _ _=>by
 unfold encR
 go_enter Tryz.func171,Tryz.ntmps171
 have e:((x:Int) == 32||(x:Int) == 9)=blank171 x:=by
  rw [Bool.eq_iff_iff]
  simp [blank171]
  omega
 go_wp2
 all_goals
  go_ret
  refine ⟨?_,RowKit.Below.refl _ _⟩
  rw [<- e]
  simp_all
theorem zFields170:ZOK Tryz.prog 170 (zPvr (pFields 171 blank171)) :=
 pFields_ok Tryz.call170 walk171 λs w hs hp=>Tryz.strings_FieldsFunc_grows 171 #[] Tryz.call171 blank171 s w hs hp
def pIndexAny:Pvs
 | [.s l,.s c]=>some (decide (c.length<4294967281)&&ascii c&&decide (l.length<4294967281)&&ascii l,.i .i64 (Lib.indexAny l c))
 | _=>none
theorem zIndexAny147:ZOK Tryz.prog 147 (zPv pIndexAny):=by
 refine zPv_ok ⟨Tryz.call147,λargs v h w N μ H vals ht hr=>?_⟩
 unfold pIndexAny at h
 split at h
 ·rename_i l c
  simp only [oSi,Prod.mk.injEq,bAt,dTe] at h
  obtain ⟨⟨⟨⟨h2,h4⟩,h1⟩,h3⟩,rfl⟩:=h
  simp only [RelVs,RelV] at hr
  obtain ⟨_,_,rfl,rfl,_,_,rfl,rfl,rfl⟩:=hr
  refine (Tryz.strings_IndexAny_laid ⟨l.toArray⟩ ⟨c.toArray⟩ w (by simpa [ByteArray.size] using h1) (by simpa [ByteArray.size] using h2) (by simpa using ascii_at h3) (by simpa using ascii_at h4)).mono λe w' ⟨he,bel⟩=>⟨_,he,λw1 N1 μ1 H1=>?_,bel⟩
  simp [RelV]
 ·cases h
def cf168 (x y:Int×Int×Unit):Int:=Lib.compareInt x.1 y.1
theorem lt168 (x y:Int×Int×Unit):ltOf cf168 x y=decide (x.1<y.1):=by
 simp only [ltOf,cf168,Lib.compareInt]
 by_cases h1:x.1<y.1
 ·simp [h1]
 ·by_cases h2:x.1>y.1
  ·simp [h1,h2]
  ·simp [h1,h2]
theorem swo168:SWO (ltOf cf168) where
 irrefl:=λx=>by rw [lt168];simp
 trans:=λx y z h1 h2=>by
  rw [lt168,dTe] at *
  omega
 ntrans:=λx y z h1 h2=>by
  rw [lt168,decide_eq_false_iff_not] at *
  omega
theorem walk168 (w:World) (x y:Int×Int×Unit):Calls Tryz.prog 168 #[.agg (enc2 x).toArray,.agg (enc2 y).toArray] w λe w'=>e=.returned (.int .i64 (cf168 x y))/\∃ q os',w'=grow (w.drewN q) os':=by
 have hc:∀ W,Calls Tryz.prog 169 #[.int .i64 x.1,.int .i64 y.1] W λe w'=>e=.returned (.int .i64 (Lib.compareInt x.1 y.1))/\w'=W:=λW=>Tryz.cmp_Compare_int _ _ W
 unfold enc2
 go_enter Tryz.func168,Tryz.ntmps168
 go_wp2_with (refine (hc _).mono ?_;rintro e w' ⟨rfl,rfl⟩)
 go_ret
 refine ⟨rfl,0,#[.cells #[.int .i64 x.1,.int .i64 x.2.1] 126,.cells #[.int .i64 y.1,.int .i64 y.2.1] 126],?_⟩
 rw [alloc_eq_grow,alloc_eq_grow,grow_grow]
 rfl
abbrev sort168:=srt cf168
theorem zSort167:ZOK Tryz.prog 167 (zSort 168 cf168):=zSort_ok Tryz.call167 swo168 walk168 λblk cap d w hcmp hH hblk hsz =>
 Tryz.slices_SortFunc_eq 2 (λw=>by rw [run_isAgg Tryz.underlying126];rfl) (λw=>by rw [run_sizeOf' Tryz.underlying126];rfl) enc2 (λ_=>rfl) (λx v hv=>by
  simp only [enc2,List.mem_cons,List.not_mem_nil,or_false] at hv
  rcases hv with rfl | rfl <;> rfl) cf168 swo168 168 #[] blk 0 cap d w (λargs w=>Tryz.call168 args w) hcmp hH hblk hsz
end Go.Qy
namespace Go.Qy
open Go Go.Ev Go.Proofs
set_option maxRecDepth 100000
abbrev Q0:Ty:=(.pair (.int .i64) (.pair .u8 (.pair (.int .i64) (.pair .str (.pair (.pair (.int .i64) (.pair (.int .i64) (.pair (.int .i64) .unit))) (.pair .str (.pair .str .unit)))))))
abbrev Q1:Type:=(Int×(UInt8×(Int×((List UInt8)×((Int×(Int×(Int×Unit)))×((List UInt8)×((List UInt8)×Unit)))))))
abbrev Q2:VSh:=(.cons (.i .i64) (.cons .u (.cons (.i .i64) (.cons .s (.cons (.i .i64) (.cons (.i .i64) (.cons (.i .i64) (.cons .s (.cons .s .nil)))))))))
abbrev Q3:BSh:=(.vars (.cons (.sl .str) (.cons (.i .i64) (.cons (.i .i64) (.cons (.i .i64) (.cons (.i .i64) (.cons (.i .i64) (.cons (.i .i64) (.cons (.i .i64) (.cons (.i .i64) .nil))))))))))
abbrev Q4:Ty:=(.pair (.int .i64) (.pair (.int .i64) .unit))
abbrev Q5:Type:=(List UInt8)
abbrev Q6:VSh:=(.cons (.i .i64) (.cons (.i .i64) .nil))
abbrev Q7:Ty:=(.pair .str (.pair .str (.pair (.int .i64) .unit)))
abbrev Q8:VSh:=(.cons .s (.cons (.i .i64) (.cons (.i .i64) (.cons (.sl (.pair (.int .i64) (.pair .u8 (.pair (.sl .u8) .unit)))) .nil))))
abbrev Q9:VSh:=(.cons (.i .i64) (.cons (.i .i64) (.cons (.i .i64) (.cons (.i .i64) (.cons .u (.cons (.sl .u8) .nil))))))
abbrev Q10:VSh:=(.cons (.i .i64) .nil)
abbrev Q11:Type:=(Int×Unit)
abbrev Q12:BSh:=(.vars (.cons (.i .i64) (.cons (.i .i64) (.cons (.i .i64) (.cons .b (.cons (.i .i64) (.cons (.own 1) .nil)))))))
abbrev Q13:Type:=((List Q5)×Int×Int×Int×Int×Int×Int×Int×Int×Unit)
abbrev Q14:BSh:=(.vars (.cons .s (.cons (.own 1) .nil)))
abbrev Q15:VSh:=(.cons (.i .i64) (.cons (.i .i64) (.cons (.i .i64) (.cons (.i .i64) (.cons .u (.cons (.sl .u8) (.cons (.sl Q7) (.cons .s .nil))))))))
abbrev Q16:Type:=(Int×UInt8×Int×Q5×Int×Int×Int×Q5×Q5×Unit)
abbrev Q17:Type:=((Q5×Unit×Unit)×(List Q1)×Unit)
abbrev Q18:Type:=(Int×Int×Int×Int×UInt8×Q5×Unit)
abbrev Q19:VSh:=(.cons (.ptr 0 0) .nil)
abbrev Q20:VSh:=(.cons .s .nil)
abbrev Q21:Type:=(Q5×Unit)
abbrev Q22:BSh:=(.data (.pair .str (.pair .str .unit)))
abbrev Q23:Type:=(Unit×Unit)
abbrev Q24:BSh:=(.vars (.cons (.i .i64) Q6))
abbrev Q25:Type:=(List (Int×Q11))
abbrev Q26:BSh:=(.data Q4)
abbrev Q27:BSh:=(.data .str)
abbrev Q28:Type:=(Q5×(Q5×Q11))
abbrev Q29:Type:=((List Q5)×Unit)
abbrev Q30:Type:=(Q5×Int×Int×(List (Int×(UInt8×Q21)))×Unit)
abbrev Q31:Type:=(Bool×Unit)
abbrev Q32:Type:=(Int×Int×Unit)
abbrev Q33:BSh:=(.vars Q10)
abbrev Q34:BSh:=(.data Q0)
abbrev Q35:BSh:=(.vars Q6)
abbrev Q36:Type:=(Int×Int×Int×Unit)
abbrev Q37:Type:=((Int×Int×Int×Bool×Int×Unit×Unit)×Q25×Unit)
abbrev Q38:BSh:=(.vars (.cons (.sl .str) .nil))
abbrev Q39:Type:=(Unit×Int×Unit)
abbrev Q40:BSh:=(.vars Q2)
abbrev Q41:Type:=((Q5×Int×Unit)×Unit)
abbrev Q42:VSh:=(.cons (.i .i64) (.cons .u (.cons (.sl .u8) .nil)))
abbrev Q43:Type:=(Int×Int×Int×Int×UInt8×Q5×(List Q28)×Q5×Unit)
abbrev Q44:Type:=(List Q1)
abbrev Q45:Type:=(Q11×Unit)
abbrev Q46:Ty:=(.pair (.int .i64) (.pair .u8 (.pair (.sl .u8) .unit)))
abbrev Q47:VSh:=(.ifc 72 (.agg Q10))
abbrev Q48:BSh:=(.data Q7)
abbrev Q49:Type:=(Int×Q11)
abbrev Q50:Type:=(Unit×Int×Int×Unit)
abbrev Q51:BSh:=(.data (.int .i64))
abbrev Q52:Type:=(Q21×Unit)
abbrev Q53:Type:=(List Q5)
abbrev Q54:Type:=((Bool×Int×Unit)×Unit)
abbrev Q55:VSh:=(.agg (.cons (.i .i64) Q6))
abbrev Q56:Type:=(Q13×Unit)
abbrev Q57:Type:=((List Q28)×Unit)
abbrev Q58:VSh:=(.cons (.sl Q0) (.cons (.agg Q9) .nil))
abbrev Q59:BSh:=(.vars Q20)
abbrev Q60:Type:=(Q44×Int×Q18×Unit)
abbrev Q61:BSh:=(.vars (.cons .s (.cons .s Q10)))
abbrev Q62:Type:=(Q44×Q18×Unit)
abbrev Q63:VSh:=(.may (.tup .nil) Q47)
abbrev Q64:BSh:=(.vars Q8)
abbrev Q65:Type:=(Q23×Unit)
abbrev Q66:Type:=(Q16×Unit)
abbrev Q67:VSh:=(.cons (.sl Q0) (.cons (.sl (.int .i64)) (.cons (.agg Q8) .nil)))
abbrev Q68:BSh:=(.vars Q9)
abbrev Q69:Type:=(List Int)
abbrev Q70:Type:=(Q5×Int×Int×Unit)
abbrev Q71:Type:=(Q36×Unit)
abbrev Q72:Type:=(Q32×Unit)
abbrev Q73:Type:=(Q44×Unit)
abbrev Q74:VSh:=(.tup (.cons (.i .i64) (.cons (.i .i64) (.cons .b .nil))))
abbrev Q75:Type:=(Q5×Q5×Unit)
abbrev Q76:Type:=((Unit⊕Q11)×Q17)
abbrev Q77:VSh:=(.cons .s Q20)
abbrev Q78:Type:=(Q29×Q11×Q21×Unit)
abbrev Q79:Type:=(Unit×Int×Int×Int×Unit)
abbrev Q80:Type:=(Q25×Unit)
abbrev Q81:Type:=((Q36×Int×Unit)×Unit)
abbrev Q82:Type:=(Unit×Q29)
abbrev Q83:BSh:=(.data .u8)
abbrev Q84:Type:=(Unit×Int×Unit×Unit)
abbrev kz:Int×(UInt8×(Int×(Q5×((Int×Q49)×(Q5×Q21))))):=((0:Int),((0:UInt8),((0:Int),(([]:List UInt8),(((0:Int),((0:Int),((0:Int),()))),(([]:List UInt8),(([]:List UInt8),())))))))
noncomputable abbrev CX (X:List (FuncId×Orc)) (Y:List (FuncId×(List AV->Option AV))) (Z:List (FuncId×Deed)) (I:List FuncId):Calling:=callX Tryz.prog (lookX X) (lookM X) (lookY Y) (lookZ Z) (hasN I) 6
abbrev MX (X:List (FuncId×Orc)) (Y:List (FuncId×(List AV->Option AV))):=mild (lookM X) (lookY Y)
theorem mixed:Tryz.prog.follows .mixedOrders=true:=by kernel_rfl
theorem okk {X:List (FuncId×Orc)} {Y:List (FuncId×(List AV->Option AV))} {Z:List (FuncId×Deed)} {I:List FuncId} {f:FuncId} {fn:Func} {o:Orc} {h:HT} {ls:List LoopRec} (hrun:∀ p,evTop Tryz.prog (CX X Y Z I) (MX X Y) fn h o p=o.run p)
  (hf:Tryz.prog.funcs[f]?=some fn) (hen:Ev.Enters Tryz.prog f) (hl:AllL Tryz.prog (CX X Y Z I) (MX X Y) o.blks.length fn.ntmps ls) (hX:AllX Tryz.prog X:=by trivial) (hY:AllY Tryz.prog Y:=by trivial) (hZ:AllZ Tryz.prog Z:=by trivial) (hI:AllI Tryz.prog I:=by trivial)
  (hap:apartL X Y Z I=true:=by kernel_rfl) (hc:fn.body=some (bodyOf fn):=by kernel_rfl) (hfit:o.fits=true:=by kernel_rfl) (hls:loopsIn (bodyOf fn) (strip h)=ls:=by kernel_rfl):o.OK Tryz.prog f :=
 ok_of mixed hX hY hZ hI hap hf hen hc hfit hls hl hrun
theorem ok0 {X:List (FuncId×Orc)} {Y:List (FuncId×(List AV->Option AV))} {Z:List (FuncId×Deed)} {I:List FuncId} {f:FuncId} {fn:Func} {o:Orc} {h:HT} (hrun:∀ p,evTop Tryz.prog (CX X Y Z I) (MX X Y) fn h o p=o.run p)
  (hf:Tryz.prog.funcs[f]?=some fn) (hen:Ev.Enters Tryz.prog f) (hX:AllX Tryz.prog X:=by trivial) (hY:AllY Tryz.prog Y:=by trivial) (hZ:AllZ Tryz.prog Z:=by trivial) (hI:AllI Tryz.prog I:=by trivial)
  (hap:apartL X Y Z I=true:=by kernel_rfl) (hc:fn.body=some (bodyOf fn):=by kernel_rfl) (hfit:o.fits=true:=by kernel_rfl) (hls:loopsIn (bodyOf fn) (strip h)=[]:=by kernel_rfl):o.OK Tryz.prog f :=
 ok_of mixed hX hY hZ hI hap hf hen hc hfit hls trivial hrun
def F64 (p:Q11×Unit):Option ((Unit⊕Q11)×Unit):=(cond (decide ((48:Int)<p.1.1)) (some ((Sum.inr ((6:Int),())),())) (some ((Sum.inl ()),())))
def O64:Orc:=⟨Q10,[],Q63,[],F64⟩
theorem run64 (p):evTop Tryz.prog (CX [] [] [] []) (MX [] []) Tryz.f64 .leaf O64 p=F64 p:=by kernel_rfl
theorem ok64:O64.OK Tryz.prog 64:=ok0 run64 Tryz.func64 Tryz.call64
def F66 (p:(Unit×UInt8×Unit)×Q17):Option (Bool×Q17):=(cond ((decide ((0:Int)<(p.2.1.1.length:Int)))||(decide (p.2.1.1=([]:List UInt8)))) (cond ((decide (p.2.1.1=([]:List UInt8)))||(!decide ((List.getD p.2.1.1 0 0)=p.1.2.1))) (some (false,(p.2.1,p.2.2.1,()))) (Option.bind (cond ((decide ((1:Int)<=(p.2.1.1.length:Int)))&&(decide ((p.2.1.1.length:Int)<=(p.2.1.1.length:Int)))) (some (((),()),(((List.take ((Int.toNat (p.2.1.1.length:Int))-1) (List.drop 1 p.2.1.1)),(),()),p.2.2.1,()))) none) λp1=>(Option.bind (some (((),(),()),p1.2)) λp2=>(some (true,p2.2))))) none)
def O66:Orc:=⟨(.cons (.ptr 0 0) (.cons .u .nil)),[(0,Q14),(1,Q34)],.b,[(0,Q14),(1,Q34)],F66⟩
def H66:HT:=(.two .leaf (.two .leaf (.two (.join [(.normal,⟨[(0,(.ptr 0 0))],[(0,Q14),(1,Q34)],2⟩)] .leaf) (.two (.join [(.normal,⟨[(0,(.ptr 0 0)),(4,(.kb true))],[(0,Q14),(1,Q34)],2⟩)] .leaf) .leaf))))
theorem run66 (p):evTop Tryz.prog (CX [] [] [] []) (MX [] []) Tryz.f66 H66 O66 p=F66 p:=by kernel_rfl
theorem ok66:O66.OK Tryz.prog 66:=ok0 run66 Tryz.func66 Tryz.call66
def F34 (p:Q31×Unit):Option ((Unit⊕Q11)×Unit):=(cond (!p.1.1) (some ((Sum.inr ((4:Int),())),())) (some ((Sum.inl ()),())))
def O34:Orc:=⟨(.cons .b .nil),[],Q63,[],F34⟩
theorem run34 (p):evTop Tryz.prog (CX [] [] [] []) (MX [] []) Tryz.f34 .leaf O34 p=F34 p:=by kernel_rfl
theorem ok34:O34.OK Tryz.prog 34:=ok0 run34 Tryz.func34 Tryz.call34
noncomputable def F111 (p:Q23×Q17):Option ((Q5⊕Q11)×Q17):=(cond ((decide ((List.length p.2.1.1)<4294967281))&&(ascii p.2.1.1)) (Option.bind (cond (decide ((Go.Lib.indexAny p.2.1.1 ([32,40,41,34]:List UInt8))<(0:Int))) (some (((),(p.2.1.1.length:Int),()),(p.2.1,p.2.2.1,()))) (some (((),(Go.Lib.indexAny p.2.1.1 ([32,40,41,34]:List UInt8)),()),(p.2.1,p.2.2.1,())))) λp1=>(Option.bind (F34 (((decide ((0:Int)<p1.1.2.1)),()),())) λr2=>(match r2.1 with | Sum.inl _r2a=>(cond ((decide ((0:Int)<=p1.1.2.1))&&(decide (p1.1.2.1<=(p1.2.1.1.length:Int)))) (Option.bind (cond (((decide ((0:Int)<=p1.1.2.1))&&(decide (p1.1.2.1<=(p1.2.1.1.length:Int))))&&(decide ((p1.2.1.1.length:Int)<=(p1.2.1.1.length:Int)))) (some (((),(List.take p1.1.2.1.toNat p1.2.1.1),()),(((List.take ((Int.toNat (p1.2.1.1.length:Int))-p1.1.2.1.toNat) (List.drop p1.1.2.1.toNat p1.2.1.1)),(),()),p1.2.2.1,()))) none) λp3=>(Option.bind (some p3) λp4=>(some ((Sum.inl p4.1.2.1),p4.2)))) none) | Sum.inr r2b=>(some ((Sum.inr r2b),p1.2))))) none)
noncomputable def O111:Orc:=⟨Q19,[(0,Q14),(1,Q34)],(.may .s Q47),[(0,Q14),(1,Q34)],F111⟩
noncomputable def H111:HT:=(.two .leaf (.two .leaf (.two (.join [(.normal,⟨[(0,(.ptr 0 0)),(3,(.i .i64))],[(0,Q14),(1,Q34)],2⟩)] .leaf) (.two .leaf (.two .leaf (.two (.join [(.normal,⟨[(0,(.ptr 0 0)),(4,.s)],[(0,Q14),(1,Q34)],2⟩)] .leaf) (.two (.join [(.normal,⟨[(0,(.ptr 0 0)),(2,.s)],[(0,Q14),(1,Q34)],2⟩)] .leaf) .leaf)))))))
noncomputable def X111:List (FuncId×Orc):=[(34,O34)]
noncomputable def Z111:List (FuncId×Deed):=[(147,(zPv pIndexAny))]
theorem run111 (p):evTop Tryz.prog (CX X111 [] Z111 []) (MX X111 []) Tryz.f111 H111 O111 p=F111 p:=by kernel_rfl
theorem ok111:O111.OK Tryz.prog 111:=ok0 run111 Tryz.func111 Tryz.call111 (hX:=⟨ok34,trivial⟩) (hZ:=⟨zIndexAny147,trivial⟩)
def F67 (_p:Unit×Unit):Option Q82:=(some ((),(([([115,101,101,110]:List UInt8),([97,110,115,119,101,114,101,100]:List UInt8),([102,108,97,103,103,101,100]:List UInt8),([100,101,108,101,116,101,100]:List UInt8),([100,114,97,102,116]:List UInt8)]:List Q5),())))
def O67:Orc:=⟨.nil,[],(.own 0),[(0,Q27)],F67⟩
theorem run67 (p):evTop Tryz.prog (CX [] [] [] []) (MX [] []) Tryz.f67 .leaf O67 p=F67 p:=by kernel_rfl
theorem ok67:O67.OK Tryz.prog 67:=ok0 run67 Tryz.func67 Tryz.call67
def F148 (p:Q75×Unit):Option Q31:=(cond (((decide ((0:Int)<=(p.1.2.1.length:Int)))&&(decide ((p.1.2.1.length:Int)<=(p.1.1.length:Int))))||(!(decide ((p.1.2.1.length:Int)<=(p.1.1.length:Int))))) (some (((decide ((p.1.2.1.length:Int)<=(p.1.1.length:Int)))&&(decide ((List.take (Int.toNat (p.1.2.1.length:Int)) p.1.1)=p.1.2.1))),())) none)
def O148:Orc:=⟨Q77,[],.b,[],F148⟩
theorem run148 (p):evTop Tryz.prog (CX [] [] [] []) (MX [] []) Tryz.f148 .leaf O148 p=F148 p:=by kernel_rfl
theorem ok148:O148.OK Tryz.prog 148:=ok0 run148 Tryz.func148 Tryz.call148
def S113_0:Shape:=⟨[(0,(.sl .str)),(1,.s),(7,(.i .i64)),(8,(.i .i64))],[],0⟩
def U113_0:Outs:=[((.exit 0),⟨[],[],0⟩),(.ret,⟨[(4,(.i .i64))],[],0⟩)]
abbrev T113_0:Type:=((Q53×Q5×Int×Int×Unit)×Unit)
abbrev R113_0:Type:=(Q23⊕Q45)
def B113_0 (p:T113_0):Option (T113_0⊕R113_0):=(cond (decide (p.1.2.2.2.1<p.1.2.2.1)) (cond ((decide ((0:Int)<=p.1.2.2.2.1))&&(decide (p.1.2.2.2.1<(p.1.1.length:Int)))) (cond (decide (p.1.2.1=(List.getD p.1.1 p.1.2.2.2.1.toNat ([]:List UInt8)))) (some (Sum.inr (Sum.inr ((p.1.2.2.2.1,()),())))) (some (Sum.inl ((p.1.1,p.1.2.1,p.1.2.2.1,(w64 (p.1.2.2.2.1+(1:Int))),()),())))) none) (some (Sum.inr (Sum.inl ((),())))))
def L113_0 (p:T113_0):Option R113_0:=loopOf B113_0 p
def F113 (p:(Q53×Q5×Unit)×Unit):Option Q11:=(Option.bind (Option.bind (L113_0 ((p.1.1,p.1.2.1,(p.1.1.length:Int),(0:Int),()),())) λp1=>(match p1 with | Sum.inl _p2=>(some (Sum.inl ((),()))) | Sum.inr q2=>(some (Sum.inr (q2.1,()))))) λp3=>(match p3 with | Sum.inl _p4=>(some ((-1:Int),())) | Sum.inr q4=>(some (q4.1.1,()))))
def O113:Orc:=⟨(.cons (.sl .str) Q20),[],(.i .i64),[],F113⟩
def H113:HT:=(.two .leaf (.two (.join [(.normal,⟨[],[],0⟩),(.ret,⟨[(4,(.i .i64))],[],0⟩)] (.two .leaf (.one (.loop S113_0 U113_0 L113_0 .leaf)))) .leaf))
theorem round113_0 (p):round Tryz.prog (CX [] [] [] []) (MX [] []) 0 19 (subc (bodyOf Tryz.f113) [true,false,true,false,false]) .leaf S113_0 U113_0 p=B113_0 p:=by kernel_rfl
theorem run113 (p):evTop Tryz.prog (CX [] [] [] []) (MX [] []) Tryz.f113 H113 O113 p=F113 p:=by kernel_rfl
theorem ok113:O113.OK Tryz.prog 113:=okk run113 Tryz.func113 Tryz.call113 (ls:=[⟨subc (bodyOf Tryz.f113) [true,false,true,false,false],.leaf,S113_0,U113_0,L113_0⟩]) ⟨LoopRec.of rfl round113_0,trivial⟩
def F149 (p:Q75×Unit):Option Q21:=(Option.bind (F148 ((p.1.1,p.1.2.1,()),())) λr1=>(cond r1.1 (cond (((decide ((0:Int)<=(p.1.2.1.length:Int)))&&(decide ((p.1.2.1.length:Int)<=(p.1.1.length:Int))))&&(decide ((p.1.1.length:Int)<=(p.1.1.length:Int)))) (some ((List.take ((Int.toNat (p.1.1.length:Int))-(Int.toNat (p.1.2.1.length:Int))) (List.drop (Int.toNat (p.1.2.1.length:Int)) p.1.1)),())) none) (some (p.1.1,()))))
def O149:Orc:=⟨Q77,[],.s,[],F149⟩
def X149:List (FuncId×Orc):=[(148,O148)]
theorem run149 (p):evTop Tryz.prog (CX X149 [] [] []) (MX X149 []) Tryz.f149 .leaf O149 p=F149 p:=by kernel_rfl
theorem ok149:O149.OK Tryz.prog 149:=ok0 run149 Tryz.func149 Tryz.call149 (hX:=⟨ok148,trivial⟩)
def F114 (p:Q75×Unit):Option Q21:=(Option.bind (F149 ((p.1.1,p.1.2.1,()),())) λr1=>(some (r1.1,())))
def O114:Orc:=⟨Q77,[],.s,[],F114⟩
def X114:List (FuncId×Orc):=[(149,O149)]
theorem run114 (p):evTop Tryz.prog (CX X114 [] [] []) (MX X114 []) Tryz.f114 .leaf O114 p=F114 p:=by kernel_rfl
theorem ok114:O114.OK Tryz.prog 114:=ok0 run114 Tryz.func114 Tryz.call114 (hX:=⟨ok149,trivial⟩)
def F115 (p:Q23×Q17):Option Q76:=(Option.bind (F66 (((),(32:UInt8),()),(p.2.1,p.2.2.1,()))) λr1=>(Option.bind (F34 ((r1.1,()),())) λr2=>(match r2.1 with | Sum.inl _r2a=>(some ((Sum.inl ()),(r1.2.1,r1.2.2.1,()))) | Sum.inr r2b=>(some ((Sum.inr r2b),(r1.2.1,r1.2.2.1,()))))))
def O115:Orc:=⟨Q19,[(0,Q14),(1,Q34)],Q63,[(0,Q14),(1,Q34)],F115⟩
def X115:List (FuncId×Orc):=[(34,O34),(66,O66)]
theorem run115 (p):evTop Tryz.prog (CX X115 [] [] []) (MX X115 []) Tryz.f115 .leaf O115 p=F115 p:=by kernel_rfl
theorem ok115:O115.OK Tryz.prog 115:=ok0 run115 Tryz.func115 Tryz.call115 (hX:=⟨ok34,⟨ok66,trivial⟩⟩)
def F73 (_p:Unit×Unit):Option Q82:=(some ((),(([([102,114,111,109]:List UInt8),([116,111]:List UInt8),([99,99]:List UInt8),([115,117,98,106,101,99,116]:List UInt8)]:List Q5),())))
def O73:Orc:=⟨.nil,[],(.own 0),[(0,Q27)],F73⟩
theorem run73 (p):evTop Tryz.prog (CX [] [] [] []) (MX [] []) Tryz.f73 .leaf O73 p=F73 p:=by kernel_rfl
theorem ok73:O73.OK Tryz.prog 73:=ok0 run73 Tryz.func73 Tryz.call73
def F72 (p:(Q53×Q5×Unit)×Unit):Option Q31:=(Option.bind (F113 ((p.1.1,p.1.2.1,()),())) λr1=>(some ((decide ((0:Int)<=r1.1)),())))
def O72:Orc:=⟨(.cons (.sl .str) Q20),[],.b,[],F72⟩
def X72:List (FuncId×Orc):=[(113,O113)]
theorem run72 (p):evTop Tryz.prog (CX X72 [] [] []) (MX X72 []) Tryz.f72 .leaf O72 p=F72 p:=by kernel_rfl
theorem ok72:O72.OK Tryz.prog 72:=ok0 run72 Tryz.func72 Tryz.call72 (hX:=⟨ok113,trivial⟩)
def S81_0:Shape:=⟨[(0,.s),(6,(.ptr 0 0))],[(0,.iter)],1⟩
def U81_0:Outs:=[((.exit 0),⟨[(0,.s)],[],0⟩),(.ret,⟨[(2,(.kb false))],[],0⟩)]
abbrev T81_0:Type:=((Q5×Unit×Unit)×((List UInt8×Nat)×Unit))
abbrev R81_0:Type:=(Q52⊕Q65)
def B81_0 (p:T81_0):Option (T81_0⊕R81_0):=(cond (decide (p.2.1.2<List.length p.2.1.1)) (Option.bind (cond ((decide ((((Go.Utf8.decode ⟨List.toArray p.2.1.1⟩ p.2.1.2).1:Nat):Int)<=(32:Int)))||(decide ((126:Int)<(((Go.Utf8.decode ⟨List.toArray p.2.1.1⟩ p.2.1.2).1:Nat):Int)))) (some ((p.1.1,(),((decide ((((Go.Utf8.decode ⟨List.toArray p.2.1.1⟩ p.2.1.2).1:Nat):Int)<=(32:Int)))||(decide ((126:Int)<(((Go.Utf8.decode ⟨List.toArray p.2.1.1⟩ p.2.1.2).1:Nat):Int)))),()),((p.2.1.1,(p.2.1.2+(Go.Utf8.decode ⟨List.toArray p.2.1.1⟩ p.2.1.2).2)),()))) (cond (decide ((((Go.Utf8.decode ⟨List.toArray p.2.1.1⟩ p.2.1.2).1:Nat):Int)=(40:Int))) (some ((p.1.1,(),(decide ((((Go.Utf8.decode ⟨List.toArray p.2.1.1⟩ p.2.1.2).1:Nat):Int)=(40:Int))),()),((p.2.1.1,(p.2.1.2+(Go.Utf8.decode ⟨List.toArray p.2.1.1⟩ p.2.1.2).2)),()))) (cond (decide ((((Go.Utf8.decode ⟨List.toArray p.2.1.1⟩ p.2.1.2).1:Nat):Int)=(41:Int))) (some ((p.1.1,(),(decide ((((Go.Utf8.decode ⟨List.toArray p.2.1.1⟩ p.2.1.2).1:Nat):Int)=(41:Int))),()),((p.2.1.1,(p.2.1.2+(Go.Utf8.decode ⟨List.toArray p.2.1.1⟩ p.2.1.2).2)),()))) (cond (decide ((((Go.Utf8.decode ⟨List.toArray p.2.1.1⟩ p.2.1.2).1:Nat):Int)=(123:Int))) (some ((p.1.1,(),(decide ((((Go.Utf8.decode ⟨List.toArray p.2.1.1⟩ p.2.1.2).1:Nat):Int)=(123:Int))),()),((p.2.1.1,(p.2.1.2+(Go.Utf8.decode ⟨List.toArray p.2.1.1⟩ p.2.1.2).2)),()))) (cond (decide ((((Go.Utf8.decode ⟨List.toArray p.2.1.1⟩ p.2.1.2).1:Nat):Int)=(37:Int))) (some ((p.1.1,(),(decide ((((Go.Utf8.decode ⟨List.toArray p.2.1.1⟩ p.2.1.2).1:Nat):Int)=(37:Int))),()),((p.2.1.1,(p.2.1.2+(Go.Utf8.decode ⟨List.toArray p.2.1.1⟩ p.2.1.2).2)),()))) (cond (decide ((((Go.Utf8.decode ⟨List.toArray p.2.1.1⟩ p.2.1.2).1:Nat):Int)=(42:Int))) (some ((p.1.1,(),(decide ((((Go.Utf8.decode ⟨List.toArray p.2.1.1⟩ p.2.1.2).1:Nat):Int)=(42:Int))),()),((p.2.1.1,(p.2.1.2+(Go.Utf8.decode ⟨List.toArray p.2.1.1⟩ p.2.1.2).2)),()))) (cond (decide ((((Go.Utf8.decode ⟨List.toArray p.2.1.1⟩ p.2.1.2).1:Nat):Int)=(34:Int))) (some ((p.1.1,(),(decide ((((Go.Utf8.decode ⟨List.toArray p.2.1.1⟩ p.2.1.2).1:Nat):Int)=(34:Int))),()),((p.2.1.1,(p.2.1.2+(Go.Utf8.decode ⟨List.toArray p.2.1.1⟩ p.2.1.2).2)),()))) (cond (decide ((((Go.Utf8.decode ⟨List.toArray p.2.1.1⟩ p.2.1.2).1:Nat):Int)=(92:Int))) (some ((p.1.1,(),(decide ((((Go.Utf8.decode ⟨List.toArray p.2.1.1⟩ p.2.1.2).1:Nat):Int)=(92:Int))),()),((p.2.1.1,(p.2.1.2+(Go.Utf8.decode ⟨List.toArray p.2.1.1⟩ p.2.1.2).2)),()))) (some ((p.1.1,(),(decide ((((Go.Utf8.decode ⟨List.toArray p.2.1.1⟩ p.2.1.2).1:Nat):Int)=(93:Int))),()),((p.2.1.1,(p.2.1.2+(Go.Utf8.decode ⟨List.toArray p.2.1.1⟩ p.2.1.2).2)),()))))))))))) λp1=>(cond p1.1.2.2.1 (some (Sum.inr (Sum.inr (((),()),())))) (some (Sum.inl ((p1.1.1,(),()),((p1.2.1.1,p1.2.1.2),())))))) (some (Sum.inr (Sum.inl ((p.1.1,()),())))))
def L81_0 (p:T81_0):Option R81_0:=loopOf B81_0 p
def H81_0:HT:=(.two .leaf (.two .leaf (.one (.two .leaf (.one (.two (.join [(.normal,⟨[(0,.s),(6,(.ptr 0 0)),(10,.b)],[(0,.iter)],1⟩)] .leaf) .leaf))))))
def F81 (p:Q21×Unit):Option Q31:=(Option.bind (Option.bind (L81_0 ((p.1.1,(),()),((p.1.1,0),()))) λp2=>(match p2 with | Sum.inl p3=>(some (Sum.inl (p3.1,()))) | Sum.inr _q3=>(some (Sum.inr (((),()),()))))) λp4=>(match p4 with | Sum.inl p5=>(some ((!(decide (p5.1.1=([]:List UInt8)))),())) | Sum.inr _q5=>(some (false,()))))
def O81:Orc:=⟨Q20,[],.b,[],F81⟩
def H81:HT:=(.two .leaf (.two (.join [(.normal,⟨[(0,.s)],[],0⟩),(.ret,⟨[(2,(.kb false))],[],0⟩)] (.two .leaf (.one (.loop S81_0 U81_0 L81_0 H81_0)))) .leaf))
theorem round81_0 (p):round Tryz.prog (CX [] [] [] []) (MX [] []) 0 35 (subc (bodyOf Tryz.f81) [true,false,true,false,false]) H81_0 S81_0 U81_0 p=B81_0 p:=by kernel_rfl
theorem run81 (p):evTop Tryz.prog (CX [] [] [] []) (MX [] []) Tryz.f81 H81 O81 p=F81 p:=by kernel_rfl
theorem ok81:O81.OK Tryz.prog 81:=okk run81 Tryz.func81 Tryz.call81 (ls:=[⟨subc (bodyOf Tryz.f81) [true,false,true,false,false],H81_0,S81_0,U81_0,L81_0⟩]) ⟨LoopRec.of rfl round81_0,trivial⟩
noncomputable def F150 (p:Q23×Q17):Option ((Q5⊕Q11)×Q17):=(cond (Go.Lib.hasPrefix p.2.1.1 ([34]:List UInt8)) none (Option.bind (F111 (((),()),(p.2.1,p.2.2.1,()))) λr1=>(match r1.1 with | Sum.inl r1a=>(Option.bind (F81 ((r1a,()),())) λr2=>(Option.bind (F34 ((r2.1,()),())) λr3=>(match r3.1 with | Sum.inl _r3a=>(some ((Sum.inl r1a),(r1.2.1,r1.2.2.1,()))) | Sum.inr r3b=>(some ((Sum.inr r3b),(r1.2.1,r1.2.2.1,())))))) | Sum.inr r1b=>(some ((Sum.inr r1b),(r1.2.1,r1.2.2.1,()))))))
noncomputable def O150:Orc:=⟨Q19,[(0,Q14),(1,Q34)],(.may .s Q47),[(0,Q14),(1,Q34)],F150⟩
noncomputable def H150:HT:=.leaf
noncomputable def X150:List (FuncId×Orc):=[(34,O34),(81,O81),(111,O111)]
noncomputable def Z150:List (FuncId×Deed):=[(112,(zPv pHasPrefix))]
theorem run150 (p):evTop Tryz.prog (CX X150 [] Z150 []) (MX X150 []) Tryz.f150 H150 O150 p=F150 p:=by kernel_rfl
theorem ok150:O150.OK Tryz.prog 150:=ok0 run150 Tryz.func150 Tryz.call150 (hX:=⟨ok34,⟨ok81,⟨ok111,trivial⟩⟩⟩) (hZ:=⟨zHasPrefix112,trivial⟩)
def S198_0:Shape:=⟨[(0,.s),(5,(.i .i64)),(6,(.i .i64)),(12,(.ptr 0 0))],[(0,.iter)],1⟩
def U198_0:Outs:=[((.exit 0),⟨[(5,(.i .i64))],[],0⟩),(.ret,⟨[(2,(.ki .i64 (0))),(3,(.i .i64)),(4,(.ki .i64 (4)))],[],0⟩)]
abbrev T198_0:Type:=((Q5×Int×Int×Unit×Unit)×((List UInt8×Nat)×Unit))
abbrev R198_0:Type:=(Q45⊕(Q84×Unit))
def B198_0 (p:T198_0):Option (T198_0⊕R198_0):=(cond (decide (p.2.1.2<List.length p.2.1.1)) (cond ((decide ((0:Int)<(p.1.1.length:Int)))||(!((decide ((0:Int)<p.1.2.2.1))&&(!((decide ((((Go.Utf8.decode ⟨List.toArray p.2.1.1⟩ p.2.1.2).1:Nat):Int)<(48:Int)))||(decide ((57:Int)<(((Go.Utf8.decode ⟨List.toArray p.2.1.1⟩ p.2.1.2).1:Nat):Int)))))))) (cond (((decide ((((Go.Utf8.decode ⟨List.toArray p.2.1.1⟩ p.2.1.2).1:Nat):Int)<(48:Int)))||(decide ((57:Int)<(((Go.Utf8.decode ⟨List.toArray p.2.1.1⟩ p.2.1.2).1:Nat):Int))))||((decide ((0:Int)<p.1.2.2.1))&&(decide ((List.getD p.1.1 0 0)=(48:UInt8))))) (some (Sum.inr (Sum.inr (((),p.1.2.2.1,(),()),())))) (Option.bind (some ((p.1.1,(cond (decide ((4294967296:Int)<(w64 ((w64 (p.1.2.1*(10:Int)))+(w64 (Go.IntKind.wrap .i32 ((((Go.Utf8.decode ⟨List.toArray p.2.1.1⟩ p.2.1.2).1:Nat):Int)-(48:Int)))))))) (4294967296:Int) (w64 ((w64 (p.1.2.1*(10:Int)))+(w64 (Go.IntKind.wrap .i32 ((((Go.Utf8.decode ⟨List.toArray p.2.1.1⟩ p.2.1.2).1:Nat):Int)-(48:Int))))))),p.1.2.2.1,(),()),((p.2.1.1,(p.2.1.2+(Go.Utf8.decode ⟨List.toArray p.2.1.1⟩ p.2.1.2).2)),()))) λp1=>(Option.bind (some ((p1.1.1,p1.1.2.1,(w64 (p1.1.2.2.1+(1:Int))),(),()),((p1.2.1.1,p1.2.1.2),()))) λp2=>(some (Sum.inl (p2.1,((p2.2.1.1,p2.2.1.2),()))))))) none) (some (Sum.inr (Sum.inl ((p.1.2.1,()),())))))
def L198_0 (p:T198_0):Option R198_0:=loopOf B198_0 p
def H198_0:HT:=(.two .leaf (.two .leaf (.one (.two .leaf (.two .leaf (.two (.join [(.normal,⟨[(0,.s),(5,(.i .i64)),(6,(.i .i64)),(12,(.ptr 0 0))],[(0,.iter)],1⟩)] .leaf) (.join [(.normal,⟨[(0,.s),(5,(.i .i64)),(6,(.i .i64)),(12,(.ptr 0 0))],[(0,.iter)],1⟩)] .leaf)))))))
def F198 (p:Q21×Unit):Option Q71:=(cond (decide (p.1.1=([]:List UInt8))) (some (((0:Int),(0:Int),(3:Int),()),())) (Option.bind (Option.bind (L198_0 ((p.1.1,(0:Int),(0:Int),(),()),((p.1.1,0),()))) λp3=>(match p3 with | Sum.inl p4=>(some (Sum.inl (p4.1,()))) | Sum.inr q4=>(some (Sum.inr (q4.1,()))))) λp5=>(match p5 with | Sum.inl p6=>(cond (decide ((4294967295:Int)<p6.1.1)) (some (((0:Int),(0:Int),(6:Int),()),())) (some ((p6.1.1,(0:Int),(0:Int),()),()))) | Sum.inr q6=>(some (((0:Int),q6.1.2.1,(4:Int),()),())))))
def O198:Orc:=⟨Q20,[],(.tup (.cons (.i .i64) Q6)),[],F198⟩
def H198:HT:=(.two .leaf (.two .leaf (.two .leaf (.two (.join [(.normal,⟨[(5,(.i .i64))],[],0⟩),(.ret,⟨[(2,(.ki .i64 (0))),(3,(.i .i64)),(4,(.ki .i64 (4)))],[],0⟩)] (.two .leaf (.one (.loop S198_0 U198_0 L198_0 H198_0)))) .leaf))))
theorem round198_0 (p):round Tryz.prog (CX [] [] [] []) (MX [] []) 0 44 (subc (bodyOf Tryz.f198) [true,true,true,false,true,false,false]) H198_0 S198_0 U198_0 p=B198_0 p:=by kernel_rfl
theorem run198 (p):evTop Tryz.prog (CX [] [] [] []) (MX [] []) Tryz.f198 H198 O198 p=F198 p:=by kernel_rfl
theorem ok198:O198.OK Tryz.prog 198:=okk run198 Tryz.func198 Tryz.call198 (ls:=[⟨subc (bodyOf Tryz.f198) [true,true,true,false,true,false,false],H198_0,S198_0,U198_0,L198_0⟩]) ⟨LoopRec.of rfl round198_0,trivial⟩
noncomputable def F151 (p:Q23×Q17):Option ((Int⊕Q11)×Q17):=(Option.bind (F111 (((),()),(p.2.1,p.2.2.1,()))) λr1=>(match r1.1 with | Sum.inl r1a=>(Option.bind (F198 ((r1a,()),())) λr2=>(Option.bind (F34 (((decide (r2.1.2.2.1=(0:Int))),()),())) λr3=>(match r3.1 with | Sum.inl _r3a=>(some ((Sum.inl r2.1.1),(r1.2.1,r1.2.2.1,()))) | Sum.inr r3b=>(some ((Sum.inr r3b),(r1.2.1,r1.2.2.1,())))))) | Sum.inr r1b=>(some ((Sum.inr r1b),(r1.2.1,r1.2.2.1,())))))
noncomputable def O151:Orc:=⟨Q19,[(0,Q14),(1,Q34)],(.may (.i .i64) Q47),[(0,Q14),(1,Q34)],F151⟩
noncomputable def H151:HT:=.leaf
noncomputable def X151:List (FuncId×Orc):=[(34,O34),(111,O111),(198,O198)]
theorem run151 (p):evTop Tryz.prog (CX X151 [] [] []) (MX X151 []) Tryz.f151 H151 O151 p=F151 p:=by kernel_rfl
theorem ok151:O151.OK Tryz.prog 151:=ok0 run151 Tryz.func151 Tryz.call151 (hX:=⟨ok34,⟨ok111,⟨ok198,trivial⟩⟩⟩)
def F166 (p:Q39×Q37):Option (Bool×Q37):=(Option.bind (Option.bind (cond ((decide (p.1.2.1<(48:Int)))||(decide ((57:Int)<p.1.2.1))) (some (((),(w64 (Go.IntKind.wrap .i32 (p.1.2.1-(48:Int)))),((decide (p.1.2.1<(48:Int)))||(decide ((57:Int)<p.1.2.1))),()),(p.2.1,p.2.2.1,()))) (cond ((decide (p.2.1.2.1=(0:Int)))&&(decide ((w64 (Go.IntKind.wrap .i32 (p.1.2.1-(48:Int))))=(0:Int)))) (some (((),(w64 (Go.IntKind.wrap .i32 (p.1.2.1-(48:Int)))),((decide (p.2.1.2.1=(0:Int)))&&(decide ((w64 (Go.IntKind.wrap .i32 (p.1.2.1-(48:Int))))=(0:Int)))),()),(p.2.1,p.2.2.1,()))) (some (((),(w64 (Go.IntKind.wrap .i32 (p.1.2.1-(48:Int)))),(decide ((w64 (Int.tdiv (w64 ((4294967295:Int)-(w64 (Go.IntKind.wrap .i32 (p.1.2.1-(48:Int)))))) (10:Int)))<p.2.1.2.1)),()),(p.2.1,p.2.2.1,()))))) λp1=>(cond p1.1.2.2.1 (some (Sum.inr (((),(),()),p1.2))) (some (Sum.inl (((),p1.1.2.1,()),p1.2))))) λp2=>(match p2 with | Sum.inl p3=>(some (true,((p3.2.1.1,(w64 ((w64 (p3.2.1.2.1*(10:Int)))+p3.1.2.1)),p3.2.1.2.2.1,p3.2.1.2.2.2.1,p3.2.1.2.2.2.2.1,(),()),p3.2.2.1,()))) | Sum.inr q3=>(some (false,q3.2))))
def O166:Orc:=⟨(.cons (.ptr 0 0) (.cons (.i .i32) .nil)),[(0,Q12),(1,Q26)],.b,[(0,Q12),(1,Q26)],F166⟩
def H166:HT:=(.two .leaf (.two .leaf (.two (.join [(.normal,⟨[(0,(.ptr 0 0)),(5,(.i .i64))],[(0,Q12),(1,Q26)],2⟩),(.ret,⟨[(0,(.ptr 0 0)),(4,(.kb false))],[(0,Q12),(1,Q26)],2⟩)] (.one (.two (.join [(.normal,⟨[(0,(.ptr 0 0)),(5,(.i .i64)),(9,.b)],[(0,Q12),(1,Q26)],2⟩)] .leaf) .leaf))) .leaf)))
theorem run166 (p):evTop Tryz.prog (CX [] [] [] []) (MX [] []) Tryz.f166 H166 O166 p=F166 p:=by kernel_rfl
theorem ok166:O166.OK Tryz.prog 166:=ok0 run166 Tryz.func166 Tryz.call166
def F124 (p:Q23×Q37):Option (Unit×Q37):=(Option.bind (cond ((decide (p.2.1.1=(2:Int)))||(decide (p.2.1.1=(5:Int)))) (some (((),p.2.1.2.2.2.2.1,()),(p.2.1,p.2.2.1,()))) (some (((),p.2.1.2.1,()),(p.2.1,p.2.2.1,())))) λp1=>(Option.bind (cond ((decide (p1.2.1.1=(4:Int)))||(decide (p1.2.1.1=(5:Int)))) (Option.bind (cond ((decide ((0:Int)<=(w64 ((p1.2.2.1.length:Int)-(1:Int)))))&&(decide ((w64 ((p1.2.2.1.length:Int)-(1:Int)))<(p1.2.2.1.length:Int)))) (some (((),()),(p1.2.1,(List.set p1.2.2.1 (Int.toNat (w64 ((p1.2.2.1.length:Int)-(1:Int)))) ((List.getD p1.2.2.1 (Int.toNat (w64 ((p1.2.2.1.length:Int)-(1:Int)))) ((0:Int),((0:Int),()))).1,(p1.1.2.1,()))),()))) none) λp2=>(some (((),()),p2.2))) (cond (bytesOK ((List.length p1.2.2.1)+(List.length ([(p1.1.2.1,(p1.1.2.1,()))]:List Q49))) 16) (some (((),()),(p1.2.1,(p1.2.2.1++([(p1.1.2.1,(p1.1.2.1,()))]:List Q49)),()))) none)) λp3=>(some ((),((p3.2.1.1,(0:Int),p3.2.1.2.2.1,p3.2.1.2.2.2.1,p3.2.1.2.2.2.2.1,(),()),p3.2.2.1,())))))
def O124:Orc:=⟨Q19,[(0,Q12),(1,Q26)],(.tup .nil),[(0,Q12),(1,Q26)],F124⟩
def H124:HT:=(.two .leaf (.two (.join [(.normal,⟨[(0,(.ptr 0 0)),(2,(.i .i64))],[(0,Q12),(1,Q26)],2⟩)] .leaf) (.two (.join [(.normal,⟨[(0,(.ptr 0 0))],[(0,Q12),(1,Q26)],2⟩)] (.two .leaf (.two .leaf (.two (.join [(.normal,⟨[(0,(.ptr 0 0))],[(0,Q12),(1,Q26)],2⟩)] .leaf) .leaf)))) .leaf)))
theorem run124 (p):evTop Tryz.prog (CX [] [] [] []) (MX [] []) Tryz.f124 H124 O124 p=F124 p:=by kernel_rfl
theorem ok124:O124.OK Tryz.prog 124:=ok0 run124 Tryz.func124 Tryz.call124
def F123 (p:Q39×Q37):Option (Bool×Q37):=(Option.bind (some (((),p.1.2.1,(((decide (p.2.1.1=(3:Int)))||(decide (p.2.1.1=(4:Int))))||(decide (p.2.1.1=(5:Int)))),()),(p.2.1,p.2.2.1,()))) λp1=>(Option.bind (Option.bind (some (((),p1.1.2.1,p1.1.2.2.1,(((decide (p1.2.1.1=(0:Int)))||(decide (p1.2.1.1=(3:Int))))&&(decide (p1.1.2.1=(42:Int)))),()),p1.2)) λp2=>(cond p2.1.2.2.2.1 (Option.bind (some (((),p2.1.2.2.1,()),((p2.2.1.1,p2.2.1.2.1,p2.2.1.2.2.1,(),p2.2.1.2.2.2.2.1,(),()),p2.2.2.1,()))) λp3=>(Option.bind (some (p3.1,(((),p3.2.1.2.1,p3.2.1.2.2.1,(),p3.2.1.2.2.2.2.1,(),()),p3.2.2.1,()))) λp4=>(cond p4.1.2.1 (some (Sum.inl (((),()),(((5:Int),p4.2.1.2.1,p4.2.1.2.2.1,true,p4.2.1.2.2.2.2.1,(),()),p4.2.2.1,())))) (some (Sum.inl (((),()),(((2:Int),p4.2.1.2.1,p4.2.1.2.2.1,true,p4.2.1.2.2.2.2.1,(),()),p4.2.2.1,()))))))) (Option.bind (cond ((!(decide (p2.2.1.1=(2:Int))))&&(!(decide (p2.2.1.1=(5:Int))))) (Option.bind (F166 (((),p2.1.2.1,()),p2.2)) λr5=>(some (((),p2.1.2.1,p2.1.2.2.1,r5.1,()),(r5.2.1,r5.2.2.1,())))) (some (((),p2.1.2.1,p2.1.2.2.1,false,()),p2.2))) λp6=>(cond p6.1.2.2.2.1 (Option.bind (some (((),p6.1.2.2.1,()),(((),p6.2.1.2.1,p6.2.1.2.2.1,p6.2.1.2.2.2.1,p6.2.1.2.2.2.2.1,(),()),p6.2.2.1,()))) λp7=>(cond p7.1.2.1 (some (Sum.inl (((),()),(((4:Int),p7.2.1.2.1,p7.2.1.2.2.1,p7.2.1.2.2.2.1,p7.2.1.2.2.2.2.1,(),()),p7.2.2.1,())))) (some (Sum.inl (((),()),(((1:Int),p7.2.1.2.1,p7.2.1.2.2.1,p7.2.1.2.2.2.1,p7.2.1.2.2.2.2.1,(),()),p7.2.2.1,())))))) (cond (((!(decide (p6.2.1.1=(0:Int))))&&(!(decide (p6.2.1.1=(3:Int)))))&&(decide (p6.1.2.1=(44:Int)))) (Option.bind (F124 (((),()),p6.2)) λr8=>(some (Sum.inl (((),()),(((0:Int),r8.2.1.2.1,r8.2.1.2.2.1,r8.2.1.2.2.2.1,r8.2.1.2.2.2.2.1,(),()),r8.2.2.1,()))))) (cond (((decide (p6.2.1.1=(1:Int)))||(decide (p6.2.1.1=(2:Int))))&&(decide (p6.1.2.1=(58:Int)))) (Option.bind (F124 (((),()),p6.2)) λr9=>(some (Sum.inl (((),()),(((3:Int),r9.2.1.2.1,r9.2.1.2.2.1,r9.2.1.2.2.2.1,r9.2.1.2.2.2.2.1,(),()),r9.2.2.1,()))))) (some (Sum.inr (((),(),()),p6.2))))))))) λp10=>(match p10 with | Sum.inl p11=>(some (true,p11.2)) | Sum.inr q11=>(some (false,q11.2)))))
def O123:Orc:=⟨(.cons (.ptr 0 0) (.cons (.i .i32) .nil)),[(0,Q12),(1,Q26)],.b,[(0,Q12),(1,Q26)],F123⟩
def H123:HT:=(.two .leaf (.two (.join [(.normal,⟨[(0,(.ptr 0 0)),(1,(.i .i32)),(5,.b)],[(0,Q12),(1,Q26)],2⟩)] .leaf) (.two (.join [(.normal,⟨[(0,(.ptr 0 0))],[(0,Q12),(1,Q26)],2⟩),(.ret,⟨[(0,(.ptr 0 0)),(4,(.kb false))],[(0,Q12),(1,Q26)],2⟩)] (.one (.two (.join [(.normal,⟨[(0,(.ptr 0 0)),(1,(.i .i32)),(5,.b),(25,.b)],[(0,Q12),(1,Q26)],2⟩)] .leaf) (.two (.two (.join [(.normal,⟨[(0,(.ptr 0 0)),(5,.b)],[(0,(.vars (.cons (.i .i64) (.cons (.i .i64) (.cons (.i .i64) (.cons (.kb true) (.cons (.i .i64) (.cons (.own 1) .nil)))))))),(1,Q26)],2⟩)] .leaf) (.two (.join [(.normal,⟨[(0,(.ptr 0 0)),(5,.b)],[(0,(.vars (.cons (.ki .i64 (2)) (.cons (.i .i64) (.cons (.i .i64) (.cons (.kb true) (.cons (.i .i64) (.cons (.own 1) .nil)))))))),(1,Q26)],2⟩)] .leaf) .leaf)) (.two (.join [(.normal,⟨[(0,(.ptr 0 0)),(1,(.i .i32)),(5,.b),(52,.b)],[(0,Q12),(1,Q26)],2⟩)] .leaf) (.two (.two (.join [(.normal,⟨[(0,(.ptr 0 0)),(5,.b)],[(0,(.vars (.cons (.ki .i64 (1)) (.cons (.i .i64) (.cons (.i .i64) (.cons .b (.cons (.i .i64) (.cons (.own 1) .nil)))))))),(1,Q26)],2⟩)] .leaf) .leaf) .leaf)))))) .leaf)))
def X123:List (FuncId×Orc):=[(124,O124),(166,O166)]
theorem run123 (p):evTop Tryz.prog (CX X123 [] [] []) (MX X123 []) Tryz.f123 H123 O123 p=F123 p:=by kernel_rfl
theorem ok123:O123.OK Tryz.prog 123:=ok0 run123 Tryz.func123 Tryz.call123 (hX:=⟨ok124,⟨ok166,trivial⟩⟩)
noncomputable def S125_1:Shape:=⟨[(0,(.own 0)),(5,(.own 1)),(33,(.own 0)),(34,(.i .i64)),(35,(.i .i64))],[(0,Q26),(1,Q26)],2⟩
noncomputable def U125_1:Outs:=[((.exit 2),⟨[(0,(.own 0)),(5,(.own 1))],[(0,Q26),(1,Q26)],2⟩)]
abbrev T125_1:Type:=((Unit×Unit×Unit×Int×Int×Unit)×(Q25×Q25×Unit))
abbrev R125_1:Type:=((Unit×Unit×Unit)×(Q25×Q25×Unit))
noncomputable def B125_1 (p:T125_1):Option (T125_1⊕R125_1):=(cond (decide (p.1.2.2.2.2.1<p.1.2.2.2.1)) (Option.bind (Option.bind (cond ((decide ((0:Int)<=p.1.2.2.2.2.1))&&(decide (p.1.2.2.2.2.1<(p.2.1.length:Int)))) (some (((),(),(),(),p.1.2.2.2.1,p.1.2.2.2.2.1,()),(p.2.1,p.2.2.1,((List.getD p.2.1 p.1.2.2.2.2.1.toNat ((0:Int),((0:Int),()))).1,(List.getD p.2.1 p.1.2.2.2.2.1.toNat ((0:Int),((0:Int),()))).2.1,()),()))) none) λp5=>(Option.bind (some (((),(),(),(w64 ((p5.2.2.1.length:Int)-(1:Int))),(),p5.1.2.2.2.2.1,p5.1.2.2.2.2.2.1,()),p5.2)) λp6=>(Option.bind (cond (((decide ((0:Int)<=p6.1.2.2.2.1))&&(decide (p6.1.2.2.2.1<(p6.2.2.1.length:Int))))||(!(decide ((0:Int)<=p6.1.2.2.2.1)))) (some (((),(),(),p6.1.2.2.2.1,(),p6.1.2.2.2.2.2.1,p6.1.2.2.2.2.2.2.1,((decide ((0:Int)<=p6.1.2.2.2.1))&&(decide (p6.2.2.2.1.1<=(w64 ((List.getD p6.2.2.1 p6.1.2.2.2.1.toNat ((0:Int),((0:Int),()))).2.1+(1:Int)))))),()),p6.2)) none) λp7=>(cond p7.1.2.2.2.2.2.2.2.1 (Option.bind (cond ((decide ((0:Int)<=p7.1.2.2.2.1))&&(decide (p7.1.2.2.2.1<(p7.2.2.1.length:Int)))) (cond ((decide ((0:Int)<=p7.1.2.2.2.1))&&(decide (p7.1.2.2.2.1<(p7.2.2.1.length:Int)))) (some (((),(),(),p7.1.2.2.2.2.2.1,p7.1.2.2.2.2.2.2.1,()),(p7.2.1,(List.set p7.2.2.1 p7.1.2.2.2.1.toNat ((List.getD p7.2.2.1 p7.1.2.2.2.1.toNat ((0:Int),((0:Int),()))).1,((cond (decide ((List.getD p7.2.2.1 p7.1.2.2.2.1.toNat ((0:Int),((0:Int),()))).2.1<p7.2.2.2.1.2.1)) p7.2.2.2.1.2.1 (List.getD p7.2.2.1 p7.1.2.2.2.1.toNat ((0:Int),((0:Int),()))).2.1),()))),()))) none) none) λp8=>(some p8)) (Option.bind (cond (bytesOK ((List.length p7.2.2.1)+(List.length ([(p7.2.2.2.1.1,(p7.2.2.2.1.2.1,()))]:List Q49))) 16) (some (((),(),(),p7.1.2.2.2.2.2.1,p7.1.2.2.2.2.2.2.1,()),(p7.2.1,(p7.2.2.1++([(p7.2.2.2.1.1,(p7.2.2.2.1.2.1,()))]:List Q49)),()))) none) λp9=>(some p9)))))) λp10=>(some (Sum.inl (((),(),(),p10.1.2.2.2.1,(w64 (p10.1.2.2.2.2.1+(1:Int))),()),p10.2)))) (some (Sum.inr (((),(),()),p.2))))
noncomputable def L125_1 (p:T125_1):Option R125_1:=loopOf B125_1 p
noncomputable def H125_1:HT:=(.two .leaf (.two .leaf (.two (.join [(.normal,⟨[(0,(.own 0)),(5,(.own 1)),(33,(.own 0)),(34,(.i .i64)),(35,(.i .i64))],[(0,Q26),(1,Q26)],2⟩)] (.one (.two (.join [(.normal,⟨[(0,(.own 0)),(5,(.own 1)),(7,(.ptr 2 0)),(33,(.own 0)),(34,(.i .i64)),(35,(.i .i64))],[(0,Q26),(1,Q26),(2,Q35)],3⟩)] .leaf) (.two (.two (.join [(.normal,⟨[(0,(.own 0)),(5,(.own 1)),(7,(.ptr 2 0)),(8,(.i .i64)),(33,(.own 0)),(34,(.i .i64)),(35,(.i .i64))],[(0,Q26),(1,Q26),(2,Q35)],3⟩)] .leaf) (.two (.join [(.normal,⟨[(0,(.own 0)),(5,(.own 1)),(7,(.ptr 2 0)),(8,(.i .i64)),(33,(.own 0)),(34,(.i .i64)),(35,(.i .i64)),(54,.b)],[(0,Q26),(1,Q26),(2,Q35)],3⟩)] .leaf) (.two (.two (.join [(.normal,⟨[(0,(.own 0)),(5,(.own 1)),(33,(.own 0)),(34,(.i .i64)),(35,(.i .i64))],[(0,Q26),(1,Q26)],2⟩)] .leaf) .leaf) .leaf))) (.join [(.normal,⟨[(0,(.own 0)),(5,(.own 1)),(33,(.own 0)),(34,(.i .i64)),(35,(.i .i64))],[(0,Q26),(1,Q26)],2⟩)] .leaf))))) .leaf)))
noncomputable def S125_0:Shape:=⟨[(0,(.own 0)),(9,(.own 0)),(10,(.i .i64)),(11,(.i .i64))],[(0,Q26)],1⟩
noncomputable def U125_0:Outs:=[((.exit 0),⟨[(0,(.own 0))],[(0,Q26)],1⟩)]
abbrev T125_0:Type:=((Unit×Unit×Int×Int×Unit)×Q80)
abbrev R125_0:Type:=(Q23×Q80)
noncomputable def B125_0 (p:T125_0):Option (T125_0⊕R125_0):=(cond (decide (p.1.2.2.2.1<p.1.2.2.1)) (cond ((decide ((0:Int)<=p.1.2.2.2.1))&&(decide (p.1.2.2.2.1<(p.2.1.length:Int)))) (Option.bind (cond ((decide ((0:Int)<=p.1.2.2.2.1))&&(decide (p.1.2.2.2.1<(p.2.1.length:Int)))) (some (p.1,((List.set p.2.1 p.1.2.2.2.1.toNat ((cond (decide ((List.getD p.2.1 p.1.2.2.2.1.toNat ((0:Int),((0:Int),()))).2.1<(List.getD p.2.1 p.1.2.2.2.1.toNat ((0:Int),((0:Int),()))).1)) (List.getD p.2.1 p.1.2.2.2.1.toNat ((0:Int),((0:Int),()))).2.1 (List.getD p.2.1 p.1.2.2.2.1.toNat ((0:Int),((0:Int),()))).1),((cond (decide ((List.getD p.2.1 p.1.2.2.2.1.toNat ((0:Int),((0:Int),()))).1<(List.getD p.2.1 p.1.2.2.2.1.toNat ((0:Int),((0:Int),()))).2.1)) (List.getD p.2.1 p.1.2.2.2.1.toNat ((0:Int),((0:Int),()))).2.1 (List.getD p.2.1 p.1.2.2.2.1.toNat ((0:Int),((0:Int),()))).1),()))),()))) none) λp1=>(Option.bind (some (((),(),p1.1.2.2.1,(w64 (p1.1.2.2.2.1+(1:Int))),()),p1.2)) λp2=>(some (Sum.inl p2)))) none) (some (Sum.inr (((),()),p.2))))
noncomputable def L125_0 (p:T125_0):Option R125_0:=loopOf B125_0 p
noncomputable def H125_0:HT:=(.two .leaf (.two .leaf (.two (.one (.two .leaf (.join [(.normal,⟨[(0,(.own 0)),(9,(.own 0)),(10,(.i .i64)),(11,(.i .i64))],[(0,Q26)],1⟩)] .leaf))) (.join [(.normal,⟨[(0,(.own 0)),(9,(.own 0)),(10,(.i .i64)),(11,(.i .i64))],[(0,Q26)],1⟩)] .leaf))))
noncomputable def F125 (p:Q23×Q80):Option Q80:=(Option.bind (Option.bind (L125_0 (((),(),(p.2.1.length:Int),(0:Int),()),(p.2.1,()))) λp3=>(some (((),()),p3.2))) λp4=>(cond ((decide (List.length p4.2.1<4611686018427387904))&&(!(List.isEmpty p4.2.1))) (Option.bind (Option.bind (L125_1 (((),(),(),(((List.length (sort168 p4.2.1)):Nat):Int),(0:Int),()),((sort168 p4.2.1),([]:List Q49),()))) λp11=>(some (((),(),()),p11.2))) λp12=>(some (p12.2.2.1,()))) none))
noncomputable def O125:Orc:=⟨(.cons (.own 0) .nil),[(0,Q26)],(.sl Q4),[],F125⟩
noncomputable def H125:HT:=(.two .leaf (.two (.join [(.normal,⟨[(0,(.own 0))],[(0,Q26)],1⟩)] (.two .leaf (.one (.loop S125_0 U125_0 L125_0 H125_0)))) (.two .leaf (.two .leaf (.two (.join [(.normal,⟨[(0,(.own 0)),(5,(.own 1))],[(0,Q26),(1,Q26)],2⟩)] (.two .leaf (.one (.loop S125_1 U125_1 L125_1 H125_1)))) .leaf)))))
noncomputable def Z125:List (FuncId×Deed):=[(167,(zSort 168 cf168))]
theorem round125_1 (p):round Tryz.prog (CX [] [] Z125 []) (MX [] []) 1 73 (subc (bodyOf Tryz.f125) [true,true,true,true,false,true,false,false]) H125_1 S125_1 U125_1 p=B125_1 p:=by kernel_rfl
theorem round125_0 (p):round Tryz.prog (CX [] [] Z125 []) (MX [] []) 1 73 (subc (bodyOf Tryz.f125) [true,false,true,false,false]) H125_0 S125_0 U125_0 p=B125_0 p:=by kernel_rfl
theorem run125 (p):evTop Tryz.prog (CX [] [] Z125 []) (MX [] []) Tryz.f125 H125 O125 p=F125 p:=by kernel_rfl
theorem ok125:O125.OK Tryz.prog 125:=okk run125 Tryz.func125 Tryz.call125 (ls:=[⟨subc (bodyOf Tryz.f125) [true,false,true,false,false],H125_0,S125_0,U125_0,L125_0⟩,⟨subc (bodyOf Tryz.f125) [true,true,true,true,false,true,false,false],H125_1,S125_1,U125_1,L125_1⟩]) ⟨LoopRec.of rfl round125_0,⟨LoopRec.of rfl round125_1,trivial⟩⟩ (hZ:=⟨zSort167,trivial⟩)
noncomputable def S77_0:Shape:=⟨[(1,(.i .i64)),(7,(.ptr 0 0)),(20,(.ptr 1 0))],[(0,(.vars (.cons (.i .i64) (.cons (.i .i64) (.cons (.i .i64) (.cons .b (.cons (.i .i64) (.cons (.own 2) .nil)))))))),(1,.iter),(2,Q26)],3⟩
noncomputable def U77_0:Outs:=[((.exit 0),⟨[(1,(.i .i64)),(7,(.ptr 0 0))],[(0,Q12),(1,Q26)],2⟩),(.ret,⟨[(4,(.own 0)),(5,(.i .i64)),(6,(.ki .i64 (4)))],[(0,Q26)],1⟩)]
abbrev T77_0:Type:=((Int×Unit×Unit×Unit)×((Int×Int×Int×Bool×Int×Unit×Unit)×(List UInt8×Nat)×Q25×Unit))
abbrev R77_0:Type:=(((Int×Unit×Unit)×Q37)⊕(Q84×Q80))
noncomputable def B77_0 (p:T77_0):Option (T77_0⊕R77_0):=(cond (decide (p.2.2.1.2<List.length p.2.2.1.1)) (Option.bind (F123 (((),(((Go.Utf8.decode ⟨List.toArray p.2.2.1.1⟩ p.2.2.1.2).1:Nat):Int),()),(p.2.1,p.2.2.2.1,()))) λr1=>(cond (!r1.1) (some (Sum.inr (Sum.inr (((),r1.2.1.2.2.1,(),()),(([]:List Q49),()))))) (some (Sum.inl (p.1,((r1.2.1.1,r1.2.1.2.1,(w64 (r1.2.1.2.2.1+(1:Int))),r1.2.1.2.2.2.1,r1.2.1.2.2.2.2.1,(),()),(p.2.2.1.1,(p.2.2.1.2+(Go.Utf8.decode ⟨List.toArray p.2.2.1.1⟩ p.2.2.1.2).2)),r1.2.2.1,())))))) (some (Sum.inr (Sum.inl ((p.1.1,(),()),(p.2.1,p.2.2.2.1,()))))))
noncomputable def L77_0 (p:T77_0):Option R77_0:=loopOf B77_0 p
noncomputable def H77_0:HT:=.leaf
noncomputable def F77 (p:(Q5×Int×Unit)×Unit):Option ((Q25×Int×Int×Unit)×Unit):=(cond ((decide (p.1.2.1<(0:Int)))||(decide ((4294967295:Int)<p.1.2.1))) (some ((([]:List Q49),(0:Int),(2:Int),()),())) (Option.bind (Option.bind (L77_0 ((p.1.2.1,(),(),()),(((0:Int),(0:Int),(0:Int),false,p.1.2.1,(),()),(p.1.1,0),([]:List Q49),()))) λp2=>(match p2 with | Sum.inl p3=>(some (Sum.inl p3)) | Sum.inr q3=>(some (Sum.inr q3)))) λp4=>(match p4 with | Sum.inl p5=>(cond ((decide (p5.2.1.1=(0:Int)))||(decide (p5.2.1.1=(3:Int)))) (some ((([]:List Q49),p5.2.1.2.2.1,(3:Int),()),())) (Option.bind (F124 (((),()),p5.2)) λr6=>(cond (decide ((32:Int)<(r6.2.2.1.length:Int))) (some ((([]:List Q49),(0:Int),(6:Int),()),())) (cond (r6.2.1.2.2.2.1&&(decide (p5.1.1=(0:Int)))) (some ((([]:List Q49),(0:Int),(2:Int),()),())) (Option.bind (F125 (((),()),(r6.2.2.1,()))) λr7=>(some ((r7.1,(0:Int),(0:Int),()),()))))))) | Sum.inr q5=>(some ((q5.2.1,q5.1.2.1,(4:Int),()),())))))
noncomputable def O77:Orc:=⟨(.cons .s Q10),[],(.tup (.cons (.sl Q4) Q6)),[],F77⟩
noncomputable def H77:HT:=(.two .leaf (.two .leaf (.two .leaf (.two (.join [(.normal,⟨[(1,(.i .i64)),(7,(.ptr 0 0))],[(0,Q12),(1,Q26)],2⟩),(.ret,⟨[(4,(.own 0)),(5,(.i .i64)),(6,(.ki .i64 (4)))],[(0,Q26)],1⟩)] (.two .leaf (.one (.loop S77_0 U77_0 L77_0 H77_0)))) .leaf))))
noncomputable def X77:List (FuncId×Orc):=[(123,O123),(124,O124),(125,O125)]
theorem round77_0 (p):round Tryz.prog (CX X77 [] [] []) (MX X77 []) 0 78 (subc (bodyOf Tryz.f77) [true,true,true,false,true,false,false]) H77_0 S77_0 U77_0 p=B77_0 p:=by kernel_rfl
theorem run77 (p):evTop Tryz.prog (CX X77 [] [] []) (MX X77 []) Tryz.f77 H77 O77 p=F77 p:=by kernel_rfl
theorem ok77:O77.OK Tryz.prog 77:=okk run77 Tryz.func77 Tryz.call77 (ls:=[⟨subc (bodyOf Tryz.f77) [true,true,true,false,true,false,false],H77_0,S77_0,U77_0,L77_0⟩]) ⟨LoopRec.of rfl round77_0,trivial⟩ (hX:=⟨ok123,⟨ok124,⟨ok125,trivial⟩⟩⟩)
noncomputable def F42 (p:Q21×Unit):Option Q31:=(Option.bind (F77 ((p.1.1,(1:Int),()),())) λr1=>(some ((decide (r1.1.2.2.1=(0:Int))),())))
noncomputable def O42:Orc:=⟨Q20,[],.b,[],F42⟩
noncomputable def H42:HT:=.leaf
noncomputable def X42:List (FuncId×Orc):=[(77,O77)]
theorem run42 (p):evTop Tryz.prog (CX X42 [] [] []) (MX X42 []) Tryz.f42 H42 O42 p=F42 p:=by kernel_rfl
theorem ok42:O42.OK Tryz.prog 42:=ok0 run42 Tryz.func42 Tryz.call42 (hX:=⟨ok77,trivial⟩)
noncomputable def F152 (p:Q23×Q17):Option ((Q5⊕Q11)×Q17):=(Option.bind (F111 (((),()),(p.2.1,p.2.2.1,()))) λr1=>(match r1.1 with | Sum.inl r1a=>(Option.bind (F42 ((r1a,()),())) λr2=>(Option.bind (F34 ((r2.1,()),())) λr3=>(match r3.1 with | Sum.inl _r3a=>(some ((Sum.inl r1a),(r1.2.1,r1.2.2.1,()))) | Sum.inr r3b=>(some ((Sum.inr r3b),(r1.2.1,r1.2.2.1,())))))) | Sum.inr r1b=>(some ((Sum.inr r1b),(r1.2.1,r1.2.2.1,())))))
noncomputable def O152:Orc:=⟨Q19,[(0,Q14),(1,Q34)],(.may .s Q47),[(0,Q14),(1,Q34)],F152⟩
noncomputable def H152:HT:=.leaf
noncomputable def X152:List (FuncId×Orc):=[(34,O34),(42,O42),(111,O111)]
theorem run152 (p):evTop Tryz.prog (CX X152 [] [] []) (MX X152 []) Tryz.f152 H152 O152 p=F152 p:=by kernel_rfl
theorem ok152:O152.OK Tryz.prog 152:=ok0 run152 Tryz.func152 Tryz.call152 (hX:=⟨ok34,⟨ok42,⟨ok111,trivial⟩⟩⟩)
noncomputable def F116 (p:(Unit×Q5×Unit)×Q17):Option ((Q16⊕Q11)×Q17):=(Option.bind (F73 ((),())) λr1=>(Option.bind (F72 ((r1.2.1,p.1.2.1,()),())) λr2=>(cond r2.1 (Option.bind (F150 (((),()),(p.2.1,p.2.2.1,()))) λr3=>(match r3.1 with | Sum.inl r3a=>(some ((Sum.inl ((11:Int),(0:UInt8),(0:Int),([]:List UInt8),(0:Int),(0:Int),(0:Int),p.1.2.1,r3a,())),(r3.2.1,r3.2.2.1,()))) | Sum.inr r3b=>(some ((Sum.inr r3b),(r3.2.1,r3.2.2.1,()))))) (cond (decide (p.1.2.1=([108,97,114,103,101,114]:List UInt8))) (Option.bind (F151 (((),()),(p.2.1,p.2.2.1,()))) λr4=>(match r4.1 with | Sum.inl r4a=>(some ((Sum.inl ((4:Int),(0:UInt8),r4a,([]:List UInt8),(0:Int),(0:Int),(0:Int),([]:List UInt8),([]:List UInt8),())),(r4.2.1,r4.2.2.1,()))) | Sum.inr r4b=>(some ((Sum.inr r4b),(r4.2.1,r4.2.2.1,()))))) (cond (decide (p.1.2.1=([115,109,97,108,108,101,114]:List UInt8))) (Option.bind (F151 (((),()),(p.2.1,p.2.2.1,()))) λr5=>(match r5.1 with | Sum.inl r5a=>(some ((Sum.inl ((5:Int),(0:UInt8),r5a,([]:List UInt8),(0:Int),(0:Int),(0:Int),([]:List UInt8),([]:List UInt8),())),(r5.2.1,r5.2.2.1,()))) | Sum.inr r5b=>(some ((Sum.inr r5b),(r5.2.1,r5.2.2.1,()))))) (cond (decide (p.1.2.1=([117,105,100]:List UInt8))) (Option.bind (F152 (((),()),(p.2.1,p.2.2.1,()))) λr6=>(match r6.1 with | Sum.inl r6a=>(some ((Sum.inl ((7:Int),(0:UInt8),(0:Int),r6a,(0:Int),(0:Int),(0:Int),([]:List UInt8),([]:List UInt8),())),(r6.2.1,r6.2.2.1,()))) | Sum.inr r6b=>(some ((Sum.inr r6b),(r6.2.1,r6.2.2.1,()))))) (cond (decide (p.1.2.1=([115,101,110,116,98,101,102,111,114,101]:List UInt8))) none (cond (decide (p.1.2.1=([115,101,110,116,111,110]:List UInt8))) none (cond (decide (p.1.2.1=([115,101,110,116,115,105,110,99,101]:List UInt8))) none (cond (decide (p.1.2.1=([98,111,100,121]:List UInt8))) (Option.bind (F150 (((),()),(p.2.1,p.2.2.1,()))) λr7=>(match r7.1 with | Sum.inl r7a=>(some ((Sum.inl ((12:Int),(0:UInt8),(0:Int),([]:List UInt8),(0:Int),(0:Int),(0:Int),([]:List UInt8),r7a,())),(r7.2.1,r7.2.2.1,()))) | Sum.inr r7b=>(some ((Sum.inr r7b),(r7.2.1,r7.2.2.1,()))))) (cond (decide (p.1.2.1=([116,101,120,116]:List UInt8))) (Option.bind (F150 (((),()),(p.2.1,p.2.2.1,()))) λr8=>(match r8.1 with | Sum.inl r8a=>(some ((Sum.inl ((13:Int),(0:UInt8),(0:Int),([]:List UInt8),(0:Int),(0:Int),(0:Int),([]:List UInt8),r8a,())),(r8.2.1,r8.2.2.1,()))) | Sum.inr r8b=>(some ((Sum.inr r8b),(r8.2.1,r8.2.2.1,()))))) (cond (decide (p.1.2.1=([104,101,97,100,101,114]:List UInt8))) (Option.bind (F111 (((),()),(p.2.1,p.2.2.1,()))) λr9=>(match r9.1 with | Sum.inl r9a=>(Option.bind (F81 ((r9a,()),())) λr10=>(Option.bind (F34 ((r10.1,()),())) λr11=>(match r11.1 with | Sum.inl _r11a=>(Option.bind (F115 (((),()),(r9.2.1,r9.2.2.1,()))) λr12=>(match r12.1 with | Sum.inl _r12a=>(Option.bind (F150 (((),()),(r12.2.1,r12.2.2.1,()))) λr13=>(match r13.1 with | Sum.inl r13a=>(some ((Sum.inl ((11:Int),(0:UInt8),(0:Int),([]:List UInt8),(0:Int),(0:Int),(0:Int),r9a,r13a,())),(r13.2.1,r13.2.2.1,()))) | Sum.inr r13b=>(some ((Sum.inr r13b),(r13.2.1,r13.2.2.1,()))))) | Sum.inr r12b=>(some ((Sum.inr r12b),(r12.2.1,r12.2.2.1,()))))) | Sum.inr r11b=>(some ((Sum.inr r11b),(r9.2.1,r9.2.2.1,())))))) | Sum.inr r9b=>(some ((Sum.inr r9b),(r9.2.1,r9.2.2.1,()))))) (some ((Sum.inr ((4:Int),())),(p.2.1,p.2.2.1,())))))))))))))))
noncomputable def O116:Orc:=⟨(.cons (.ptr 0 0) Q20),[(0,Q14),(1,Q34)],(.may (.agg Q2) Q47),[(0,Q14),(1,Q34)],F116⟩
noncomputable def H116:HT:=.leaf
noncomputable def X116:List (FuncId×Orc):=[(34,O34),(72,O72),(73,O73),(81,O81),(111,O111),(115,O115),(150,O150),(151,O151),(152,O152)]
theorem run116 (p):evTop Tryz.prog (CX X116 [] [] []) (MX X116 []) Tryz.f116 H116 O116 p=F116 p:=by kernel_rfl
theorem ok116:O116.OK Tryz.prog 116:=ok0 run116 Tryz.func116 Tryz.call116 (hX:=⟨ok34,⟨ok72,⟨ok73,⟨ok81,⟨ok111,⟨ok115,⟨ok150,⟨ok151,⟨ok152,trivial⟩⟩⟩⟩⟩⟩⟩⟩⟩)
def S88_0:Shape:=⟨[(3,(.own 0)),(8,(.own 0)),(9,(.i .i64)),(10,(.i .i64))],[(0,Q83)],1⟩
def U88_0:Outs:=[((.exit 0),⟨[(3,(.own 0))],[(0,Q83)],1⟩)]
abbrev T88_0:Type:=((Unit×Unit×Int×Int×Unit)×Q21)
abbrev R88_0:Type:=(Q23×Q21)
def B88_0 (p:T88_0):Option (T88_0⊕R88_0):=(cond (decide (p.1.2.2.2.1<p.1.2.2.1)) (Option.bind (cond ((decide ((0:Int)<=p.1.2.2.2.1))&&(decide (p.1.2.2.2.1<(p.2.1.length:Int)))) (cond ((decide ((UInt8.toNat (65:UInt8))<=(UInt8.toNat (List.getD p.2.1 p.1.2.2.2.1.toNat (0:UInt8)))))&&(decide ((UInt8.toNat (List.getD p.2.1 p.1.2.2.2.1.toNat (0:UInt8)))<=(UInt8.toNat (90:UInt8))))) (Option.bind (cond ((decide ((0:Int)<=p.1.2.2.2.1))&&(decide (p.1.2.2.2.1<(p.2.1.length:Int)))) (some (p.1,((List.set p.2.1 p.1.2.2.2.1.toNat ((List.getD p.2.1 p.1.2.2.2.1.toNat (0:UInt8))+(32:UInt8))),()))) none) λp1=>(some p1)) (some p)) none) λp2=>(some (Sum.inl (((),(),p2.1.2.2.1,(w64 (p2.1.2.2.2.1+(1:Int))),()),p2.2)))) (some (Sum.inr (((),()),p.2))))
def L88_0 (p:T88_0):Option R88_0:=loopOf B88_0 p
def H88_0:HT:=(.two .leaf (.two .leaf (.two (.join [(.normal,⟨[(3,(.own 0)),(8,(.own 0)),(9,(.i .i64)),(10,(.i .i64))],[(0,Q83)],1⟩)] (.one (.two .leaf (.two .leaf (.two (.join [(.normal,⟨[(3,(.own 0)),(8,(.own 0)),(9,(.i .i64)),(10,(.i .i64))],[(0,Q83)],1⟩)] .leaf) .leaf))))) .leaf)))
def F88 (p:Q21×Unit):Option Q21:=(Option.bind (Option.bind (L88_0 (((),(),(p.1.1.length:Int),(0:Int),()),(p.1.1,()))) λp3=>(some (((),()),p3.2))) λp4=>(some (p4.2.1,())))
def O88:Orc:=⟨Q20,[],.s,[],F88⟩
def H88:HT:=(.two .leaf (.two .leaf (.two (.join [(.normal,⟨[(3,(.own 0))],[(0,Q83)],1⟩)] (.two .leaf (.one (.loop S88_0 U88_0 L88_0 H88_0)))) .leaf)))
theorem round88_0 (p):round Tryz.prog (CX [] [] [] []) (MX [] []) 0 29 (subc (bodyOf Tryz.f88) [true,true,false,true,false,false]) H88_0 S88_0 U88_0 p=B88_0 p:=by kernel_rfl
theorem run88 (p):evTop Tryz.prog (CX [] [] [] []) (MX [] []) Tryz.f88 H88 O88 p=F88 p:=by kernel_rfl
theorem ok88:O88.OK Tryz.prog 88:=okk run88 Tryz.func88 Tryz.call88 (ls:=[⟨subc (bodyOf Tryz.f88) [true,true,false,true,false,false],H88_0,S88_0,U88_0,L88_0⟩]) ⟨LoopRec.of rfl round88_0,trivial⟩
def F126 (p:Q32×Unit):Option Q11:=(cond ((decide (p.1.2.1=(2:Int)))&&(((decide ((Int.tmod p.1.1 (4:Int))=(0:Int)))&&(!(decide ((Int.tmod p.1.1 (100:Int))=(0:Int)))))||(decide ((Int.tmod p.1.1 (400:Int))=(0:Int))))) (some ((29:Int),())) (cond (decide (p.1.2.1=(2:Int))) (some ((28:Int),())) (cond ((((decide (p.1.2.1=(4:Int)))||(decide (p.1.2.1=(6:Int))))||(decide (p.1.2.1=(9:Int))))||(decide (p.1.2.1=(11:Int)))) (some ((30:Int),())) (some ((31:Int),())))))
def O126:Orc:=⟨Q6,[],(.i .i64),[],F126⟩
theorem run126 (p):evTop Tryz.prog (CX [] [] [] []) (MX [] []) Tryz.f126 .leaf O126 p=F126 p:=by kernel_rfl
theorem ok126:O126.OK Tryz.prog 126:=ok0 run126 Tryz.func126 Tryz.call126
def F78 (p:Q71×Unit):Option Q31:=(cond (((((decide ((1:Int)<=p.1.1.1))&&(decide (p.1.1.1<=(9999:Int))))&&(decide ((1:Int)<=p.1.1.2.1)))&&(decide (p.1.1.2.1<=(12:Int))))&&(decide ((1:Int)<=p.1.1.2.2.1))) (Option.bind (F126 ((p.1.1.1,p.1.1.2.1,()),())) λr1=>(some ((decide (p.1.1.2.2.1<=r1.1)),()))) (some (false,())))
def O78:Orc:=⟨(.cons Q55 .nil),[],.b,[],F78⟩
def X78:List (FuncId×Orc):=[(126,O126)]
theorem run78 (p):evTop Tryz.prog (CX X78 [] [] []) (MX X78 []) Tryz.f78 .leaf O78 p=F78 p:=by kernel_rfl
theorem ok78:O78.OK Tryz.prog 78:=ok0 run78 Tryz.func78 Tryz.call78 (hX:=⟨ok126,trivial⟩)
def F79 (p:Q32×Unit):Option Q11:=(cond (decide (p.1.2.1≠(0:Int))) (Option.bind (cond (decide (p.1.2.1≠(0:Int))) (cond (decide ((Int.tmod p.1.1 p.1.2.1)<(0:Int))) (some (((w64 ((w64 (Int.tdiv p.1.1 p.1.2.1))-(1:Int))),()),())) (some (((w64 (Int.tdiv p.1.1 p.1.2.1)),()),()))) none) λp1=>(some (p1.1.1,()))) none)
def O79:Orc:=⟨Q6,[],(.i .i64),[],F79⟩
def H79:HT:=(.two .leaf (.two .leaf (.two (.join [(.normal,⟨[(5,(.i .i64))],[],0⟩)] .leaf) .leaf)))
theorem run79 (p):evTop Tryz.prog (CX [] [] [] []) (MX [] []) Tryz.f79 H79 O79 p=F79 p:=by kernel_rfl
theorem ok79:O79.OK Tryz.prog 79:=ok0 run79 Tryz.func79 Tryz.call79
def F43 (p:Q71×Unit):Option Q72:=(Option.bind (F78 ((p.1.1,()),())) λr1=>(cond (!r1.1) (some (((0:Int),(2:Int),()),())) (Option.bind (cond (decide ((w64 (p.1.1.2.1-(3:Int)))<(0:Int))) (some (((),(w64 (p.1.1.1-(1:Int))),(w64 ((w64 (p.1.1.2.1-(3:Int)))+(12:Int))),()),(p.1.1,()))) (some (((),p.1.1.1,(w64 (p.1.1.2.1-(3:Int))),()),(p.1.1,())))) λp2=>(Option.bind (F79 ((p2.1.2.1,(400:Int),()),())) λr3=>(some (((w64 ((w64 ((w64 ((w64 ((w64 ((w64 ((w64 ((w64 (r3.1*(146097:Int)))+(w64 ((365:Int)*(w64 (p2.1.2.1-(w64 ((400:Int)*r3.1))))))))+(w64 (Int.tdiv (w64 (p2.1.2.1-(w64 ((400:Int)*r3.1)))) (4:Int)))))-(w64 (Int.tdiv (w64 (p2.1.2.1-(w64 ((400:Int)*r3.1)))) (100:Int)))))+(w64 (Int.tdiv (w64 ((w64 ((153:Int)*p2.1.2.2.1))+(2:Int))) (5:Int)))))+p2.2.1.2.2.1))-(1:Int)))-(719468:Int))),(0:Int),()),()))))))
def O43:Orc:=⟨(.cons Q55 .nil),[],(.tup Q6),[],F43⟩
def H43:HT:=(.two .leaf (.two .leaf (.two .leaf (.two (.join [(.normal,⟨[(1,(.ptr 0 0)),(4,(.i .i64)),(5,(.i .i64))],[(0,Q24)],1⟩)] .leaf) .leaf))))
def X43:List (FuncId×Orc):=[(78,O78),(79,O79)]
theorem run43 (p):evTop Tryz.prog (CX X43 [] [] []) (MX X43 []) Tryz.f43 H43 O43 p=F43 p:=by kernel_rfl
theorem ok43:O43.OK Tryz.prog 43:=ok0 run43 Tryz.func43 Tryz.call43 (hX:=⟨ok78,⟨ok79,trivial⟩⟩)
def S56_0:Shape:=⟨[(0,.s),(5,(.i .i64)),(6,(.i .i64))],[],0⟩
def U56_0:Outs:=[((.exit 0),⟨[(0,.s)],[],0⟩),(.ret,⟨[(2,(.kb false))],[],0⟩)]
abbrev T56_0:Type:=(Q70×Unit)
abbrev R56_0:Type:=(Q52⊕Q65)
def B56_0 (p:T56_0):Option (T56_0⊕R56_0):=(cond (decide (p.1.2.2.1<p.1.2.1)) (cond ((decide ((0:Int)<=p.1.2.2.1))&&(decide (p.1.2.2.1<(p.1.1.length:Int)))) (cond (((decide ((0:Int)<=p.1.2.2.1))&&(decide (p.1.2.2.1<(p.1.1.length:Int))))||(decide ((UInt8.toNat (List.getD p.1.1 p.1.2.2.1.toNat 0))<(UInt8.toNat (33:UInt8))))) (cond (((decide ((0:Int)<=p.1.2.2.1))&&(decide (p.1.2.2.1<(p.1.1.length:Int))))||((decide ((UInt8.toNat (List.getD p.1.1 p.1.2.2.1.toNat 0))<(UInt8.toNat (33:UInt8))))||(decide ((UInt8.toNat (126:UInt8))<(UInt8.toNat (List.getD p.1.1 p.1.2.2.1.toNat 0)))))) (cond (((decide ((UInt8.toNat (List.getD p.1.1 p.1.2.2.1.toNat 0))<(UInt8.toNat (33:UInt8))))||(decide ((UInt8.toNat (126:UInt8))<(UInt8.toNat (List.getD p.1.1 p.1.2.2.1.toNat 0)))))||(decide ((List.getD p.1.1 p.1.2.2.1.toNat 0)=(58:UInt8)))) (some (Sum.inr (Sum.inr (((),()),())))) (some (Sum.inl ((p.1.1,p.1.2.1,(w64 (p.1.2.2.1+(1:Int))),()),())))) none) none) none) (some (Sum.inr (Sum.inl ((p.1.1,()),())))))
def L56_0 (p:T56_0):Option R56_0:=loopOf B56_0 p
def F56 (p:Q21×Unit):Option Q31:=(Option.bind (Option.bind (L56_0 ((p.1.1,(p.1.1.length:Int),(0:Int),()),())) λp1=>(match p1 with | Sum.inl p2=>(some (Sum.inl (p2.1,()))) | Sum.inr _q2=>(some (Sum.inr (((),()),()))))) λp3=>(match p3 with | Sum.inl p4=>(some (((!(decide (p4.1.1=([]:List UInt8))))&&(decide ((p4.1.1.length:Int)<=(24:Int)))),())) | Sum.inr _q4=>(some (false,()))))
def O56:Orc:=⟨Q20,[],.b,[],F56⟩
def H56:HT:=(.two .leaf (.two (.join [(.normal,⟨[(0,.s)],[],0⟩),(.ret,⟨[(2,(.kb false))],[],0⟩)] (.two .leaf (.one (.loop S56_0 U56_0 L56_0 .leaf)))) .leaf))
theorem round56_0 (p):round Tryz.prog (CX [] [] [] []) (MX [] []) 0 33 (subc (bodyOf Tryz.f56) [true,false,true,false,false]) .leaf S56_0 U56_0 p=B56_0 p:=by kernel_rfl
theorem run56 (p):evTop Tryz.prog (CX [] [] [] []) (MX [] []) Tryz.f56 H56 O56 p=F56 p:=by kernel_rfl
theorem ok56:O56.OK Tryz.prog 56:=okk run56 Tryz.func56 Tryz.call56 (ls:=[⟨subc (bodyOf Tryz.f56) [true,false,true,false,false],.leaf,S56_0,U56_0,L56_0⟩]) ⟨LoopRec.of rfl round56_0,trivial⟩
def F54 (p:(UInt8×Unit)×Unit):Option Q31:=(some (((decide (p.1.1=(32:UInt8)))||(decide (p.1.1=(9:UInt8)))),()))
def O54:Orc:=⟨(.cons .u .nil),[],.b,[],F54⟩
theorem run54 (p):evTop Tryz.prog (CX [] [] [] []) (MX [] []) Tryz.f54 .leaf O54 p=F54 p:=by kernel_rfl
theorem ok54:O54.OK Tryz.prog 54:=ok0 run54 Tryz.func54 Tryz.call54
def F172 (p:Q21×Unit):Option Q31:=(some ((decide ((900:Int)<(p.1.1.length:Int))),()))
def O172:Orc:=⟨Q20,[],.b,[],F172⟩
theorem run172 (p):evTop Tryz.prog (CX [] [] [] []) (MX [] []) Tryz.f172 .leaf O172 p=F172 p:=by kernel_rfl
theorem ok172:O172.OK Tryz.prog 172:=ok0 run172 Tryz.func172 Tryz.call172
def S85c172_0:Shape:=⟨[(0,(.sl .str)),(1,(.fn 172 .nil)),(7,(.i .i64)),(8,(.i .i64))],[],0⟩
def U85c172_0:Outs:=[((.exit 0),⟨[],[],0⟩),(.ret,⟨[(4,(.i .i64))],[],0⟩)]
abbrev T85c172_0:Type:=((Q53×Unit×Int×Int×Unit)×Unit)
abbrev R85c172_0:Type:=(Q23⊕Q45)
def B85c172_0 (p:T85c172_0):Option (T85c172_0⊕R85c172_0):=(cond (decide (p.1.2.2.2.1<p.1.2.2.1)) (cond ((decide ((0:Int)<=p.1.2.2.2.1))&&(decide (p.1.2.2.2.1<(p.1.1.length:Int)))) (Option.bind (F172 (((List.getD p.1.1 p.1.2.2.2.1.toNat ([]:List UInt8)),()),())) λr1=>(cond r1.1 (some (Sum.inr (Sum.inr ((p.1.2.2.2.1,()),())))) (some (Sum.inl ((p.1.1,(),p.1.2.2.1,(w64 (p.1.2.2.2.1+(1:Int))),()),()))))) none) (some (Sum.inr (Sum.inl ((),())))))
def L85c172_0 (p:T85c172_0):Option R85c172_0:=loopOf B85c172_0 p
def F85c172 (p:(Q53×Unit×Unit)×Unit):Option Q11:=(Option.bind (Option.bind (L85c172_0 ((p.1.1,(),(p.1.1.length:Int),(0:Int),()),())) λp2=>(match p2 with | Sum.inl _p3=>(some (Sum.inl ((),()))) | Sum.inr q3=>(some (Sum.inr (q3.1,()))))) λp4=>(match p4 with | Sum.inl _p5=>(some ((-1:Int),())) | Sum.inr q5=>(some (q5.1.1,()))))
def O85c172:Orc:=⟨(.cons (.sl .str) (.cons (.fn 172 .nil) .nil)),[],(.i .i64),[],F85c172⟩
def H85c172:HT:=(.two .leaf (.two (.join [(.normal,⟨[],[],0⟩),(.ret,⟨[(4,(.i .i64))],[],0⟩)] (.two .leaf (.one (.loop S85c172_0 U85c172_0 L85c172_0 .leaf)))) .leaf))
def X85c172:List (FuncId×Orc):=[(172,O172)]
theorem round85c172_0 (p):round Tryz.prog (CX X85c172 [] [] []) (MX X85c172 []) 0 19 (subc (bodyOf Tryz.f85) [true,false,true,false,false]) .leaf S85c172_0 U85c172_0 p=B85c172_0 p:=by kernel_rfl
theorem run85c172 (p):evTop Tryz.prog (CX X85c172 [] [] []) (MX X85c172 []) Tryz.f85 H85c172 O85c172 p=F85c172 p:=by kernel_rfl
theorem ok85c172:O85c172.OK Tryz.prog 85:=okk run85c172 Tryz.func85 Tryz.call85 (ls:=[⟨subc (bodyOf Tryz.f85) [true,false,true,false,false],.leaf,S85c172_0,U85c172_0,L85c172_0⟩]) ⟨LoopRec.of rfl round85c172_0,trivial⟩ (hX:=⟨ok172,trivial⟩)
def F48c172 (p:(Q53×Unit×Unit)×Unit):Option Q31:=(Option.bind (F85c172 ((p.1.1,(),()),())) λr1=>(some ((decide ((0:Int)<=r1.1)),())))
def O48c172:Orc:=⟨(.cons (.sl .str) (.cons (.fn 172 .nil) .nil)),[],.b,[],F48c172⟩
def X48c172:List (FuncId×Orc):=[(85,O85c172)]
theorem run48c172 (p):evTop Tryz.prog (CX X48c172 [] [] []) (MX X48c172 []) Tryz.f48 .leaf O48c172 p=F48c172 p:=by kernel_rfl
theorem ok48c172:O48c172.OK Tryz.prog 48:=ok0 run48c172 Tryz.func48 Tryz.call48 (hX:=⟨ok85c172,trivial⟩)
noncomputable def S127_0:Shape:=⟨[(0,.s),(7,(.i .i64)),(8,(.i .i64))],[],0⟩
noncomputable def U127_0:Outs:=[((.exit 0),⟨[(0,.s)],[],0⟩),(.ret,⟨[(2,(.ki .i64 (4)))],[],0⟩)]
abbrev T127_0:Type:=(Q70×Unit)
abbrev R127_0:Type:=(Q52⊕Q65)
noncomputable def B127_0 (p:T127_0):Option (T127_0⊕R127_0):=(cond (decide (p.1.2.2.1<p.1.2.1)) (cond ((decide ((0:Int)<=p.1.2.2.1))&&(decide (p.1.2.2.1<(p.1.1.length:Int)))) (cond (((decide ((0:Int)<=(w64 (p.1.2.2.1-(1:Int)))))&&(decide ((w64 (p.1.2.2.1-(1:Int)))<(p.1.1.length:Int))))||((decide (p.1.2.2.1=(0:Int)))||(decide (p.1.2.2.1=(w64 ((p.1.1.length:Int)-(1:Int))))))) (cond (!((decide (p.1.2.2.1=(0:Int)))||(decide (p.1.2.2.1=(w64 ((p.1.1.length:Int)-(1:Int))))))) (Option.bind (F54 (((List.getD p.1.1 (Int.toNat (w64 (p.1.2.2.1-(1:Int)))) 0),()),())) λr1=>(cond (!(((decide ((UInt8.toNat (List.getD p.1.1 p.1.2.2.1.toNat 0))<(UInt8.toNat (32:UInt8))))&&(!decide ((List.getD p.1.1 p.1.2.2.1.toNat 0)=(9:UInt8))))||(decide ((List.getD p.1.1 p.1.2.2.1.toNat 0)=(127:UInt8))))) (Option.bind (F54 (((List.getD p.1.1 p.1.2.2.1.toNat 0),()),())) λr2=>(cond (r2.1&&r1.1) (some (Sum.inr (Sum.inr (((),()),())))) (some (Sum.inl ((p.1.1,p.1.2.1,(w64 (p.1.2.2.1+(1:Int))),()),()))))) (some (Sum.inr (Sum.inr (((),()),())))))) (cond (!(((decide ((UInt8.toNat (List.getD p.1.1 p.1.2.2.1.toNat 0))<(UInt8.toNat (32:UInt8))))&&(!decide ((List.getD p.1.1 p.1.2.2.1.toNat 0)=(9:UInt8))))||(decide ((List.getD p.1.1 p.1.2.2.1.toNat 0)=(127:UInt8))))) (Option.bind (F54 (((List.getD p.1.1 p.1.2.2.1.toNat 0),()),())) λr3=>(cond (r3.1&&true) (some (Sum.inr (Sum.inr (((),()),())))) (some (Sum.inl ((p.1.1,p.1.2.1,(w64 (p.1.2.2.1+(1:Int))),()),()))))) (some (Sum.inr (Sum.inr (((),()),())))))) none) none) (some (Sum.inr (Sum.inl ((p.1.1,()),())))))
noncomputable def L127_0 (p:T127_0):Option R127_0:=loopOf B127_0 p
noncomputable def H127_0:HT:=.leaf
noncomputable def F127 (p:Q21×Unit):Option Q11:=(Option.bind (Option.bind (L127_0 ((p.1.1,(p.1.1.length:Int),(0:Int),()),())) λp4=>(match p4 with | Sum.inl p5=>(some (Sum.inl (p5.1,()))) | Sum.inr _q5=>(some (Sum.inr (((),()),()))))) λp6=>(match p6 with | Sum.inl p7=>(cond (!(decide ((1024:Int)<(p7.1.1.length:Int)))) (cond (decide ((List.length p7.1.1)<=4294967296)) (Option.bind (F48c172 (((List.map (λx=>x.data.toList) (Go.Lib.goFieldsP blank171 ⟨List.toArray p7.1.1⟩)),(),()),())) λr8=>(cond r8.1 (some ((6:Int),())) (some ((0:Int),())))) none) (some ((6:Int),()))) | Sum.inr _q7=>(some ((4:Int),()))))
noncomputable def O127:Orc:=⟨Q20,[],(.i .i64),[],F127⟩
noncomputable def H127:HT:=(.two .leaf (.two (.join [(.normal,⟨[(0,.s)],[],0⟩),(.ret,⟨[(2,(.ki .i64 (4)))],[],0⟩)] (.two .leaf (.one (.loop S127_0 U127_0 L127_0 H127_0)))) .leaf))
noncomputable def X127:List (FuncId×Orc):=[(48,O48c172),(54,O54)]
noncomputable def Z127:List (FuncId×Deed):=[(170,(zPvr (pFields 171 blank171)))]
theorem round127_0 (p):round Tryz.prog (CX X127 [] Z127 []) (MX X127 []) 0 56 (subc (bodyOf Tryz.f127) [true,false,true,false,false]) H127_0 S127_0 U127_0 p=B127_0 p:=by kernel_rfl
theorem run127 (p):evTop Tryz.prog (CX X127 [] Z127 []) (MX X127 []) Tryz.f127 H127 O127 p=F127 p:=by kernel_rfl
theorem ok127:O127.OK Tryz.prog 127:=okk run127 Tryz.func127 Tryz.call127 (ls:=[⟨subc (bodyOf Tryz.f127) [true,false,true,false,false],H127_0,S127_0,U127_0,L127_0⟩]) ⟨LoopRec.of rfl round127_0,trivial⟩ (hX:=⟨ok48c172,⟨ok54,trivial⟩⟩) (hZ:=⟨zFields170,trivial⟩)
def S128_0:Shape:=⟨[(0,(.ptr 0 0)),(2,(.i .i64))],[(0,Q59)],1⟩
def U128_0:Outs:=[((.exit 0),⟨[(0,(.ptr 0 0)),(2,(.i .i64))],[(0,Q59)],1⟩)]
abbrev T128_0:Type:=(Q39×Q52)
abbrev R128_0:Type:=(Q39×Q52)
def B128_0 (p:T128_0):Option (T128_0⊕R128_0):=(cond (((decide ((0:Int)<=p.1.2.1))&&(decide (p.1.2.1<(p.2.1.1.length:Int))))||(!(decide (p.1.2.1<(p.2.1.1.length:Int))))) (cond (decide (p.1.2.1<(p.2.1.1.length:Int))) (Option.bind (F54 (((List.getD p.2.1.1 p.1.2.1.toNat 0),()),())) λr1=>(cond (!r1.1) (some (Sum.inl (((),(w64 (p.1.2.1+(1:Int))),()),p.2))) (some (Sum.inr p)))) (some (Sum.inr p))) none)
def L128_0 (p:T128_0):Option R128_0:=loopOf B128_0 p
def F128 (p:Q23×Q52):Option (Q5×Q52):=(Option.bind (Option.bind (L128_0 (((),(1:Int),()),(p.2.1,()))) λp2=>(some p2)) λp3=>(cond ((decide ((0:Int)<=p3.1.2.1))&&(decide (p3.1.2.1<=(p3.2.1.1.length:Int)))) (Option.bind (cond (((decide ((0:Int)<=p3.1.2.1))&&(decide (p3.1.2.1<=(p3.2.1.1.length:Int))))&&(decide ((p3.2.1.1.length:Int)<=(p3.2.1.1.length:Int)))) (some (((),(List.take p3.1.2.1.toNat p3.2.1.1),()),(((List.take ((Int.toNat (p3.2.1.1.length:Int))-p3.1.2.1.toNat) (List.drop p3.1.2.1.toNat p3.2.1.1)),()),()))) none) λp4=>(Option.bind (some p4) λp5=>(some (p5.1.2.1,p5.2)))) none))
def O128:Orc:=⟨Q19,[(0,Q59)],.s,[(0,Q59)],F128⟩
def H128:HT:=(.two .leaf (.two .leaf (.two (.join [(.normal,⟨[(0,(.ptr 0 0)),(2,(.i .i64))],[(0,Q59)],1⟩)] (.one (.loop S128_0 U128_0 L128_0 .leaf))) (.two .leaf (.two (.join [(.normal,⟨[(0,(.ptr 0 0)),(3,.s)],[(0,Q59)],1⟩)] .leaf) (.two (.join [(.normal,⟨[(0,(.ptr 0 0)),(1,.s)],[(0,Q59)],1⟩)] .leaf) .leaf))))))
def X128:List (FuncId×Orc):=[(54,O54)]
theorem round128_0 (p):round Tryz.prog (CX X128 [] [] []) (MX X128 []) 1 24 (subc (bodyOf Tryz.f128) [true,true,false,false,false]) .leaf S128_0 U128_0 p=B128_0 p:=by kernel_rfl
theorem run128 (p):evTop Tryz.prog (CX X128 [] [] []) (MX X128 []) Tryz.f128 H128 O128 p=F128 p:=by kernel_rfl
theorem ok128:O128.OK Tryz.prog 128:=okk run128 Tryz.func128 Tryz.call128 (ls:=[⟨subc (bodyOf Tryz.f128) [true,true,false,false,false],.leaf,S128_0,U128_0,L128_0⟩]) ⟨LoopRec.of rfl round128_0,trivial⟩ (hX:=⟨ok54,trivial⟩)
noncomputable def S80_0:Shape:=⟨[(7,.s),(8,(.i .i64)),(9,.b),(10,(.ptr 0 0)),(11,(.fn 128 Q19))],[(0,Q59)],1⟩
noncomputable def U80_0:Outs:=[((.exit 0),⟨[(7,.s)],[],0⟩)]
abbrev T80_0:Type:=((Q5×Int×Bool×Unit×Q23×Unit)×Q52)
abbrev R80_0:Type:=Q52
noncomputable def B80_0 (p:T80_0):Option (T80_0⊕R80_0):=(cond (!(decide (p.2.1.1=([]:List UInt8)))) (Option.bind (F128 (((),()),p.2)) λr3=>(Option.bind (cond ((decide ((78:Int)<(w64 (p.1.2.1+(r3.1.length:Int)))))&&(!p.1.2.2.1)) (cond (fits (List.length p.1.1+List.length ([13,10]:List UInt8))) (some (((p.1.1++([13,10]:List UInt8)),(0:Int),(),((),()),r3.1,()),(r3.2.1,()))) none) (some ((p.1.1,p.1.2.1,(),((),()),r3.1,()),(r3.2.1,())))) λp4=>(cond (fits (List.length p4.1.1+List.length p4.1.2.2.2.2.1)) (some (Sum.inl (((p4.1.1++p4.1.2.2.2.2.1),(w64 (p4.1.2.1+(p4.1.2.2.2.2.1.length:Int))),false,(),((),()),()),p4.2))) none))) (some (Sum.inr ((p.1.1,()),()))))
noncomputable def L80_0 (p:T80_0):Option R80_0:=loopOf B80_0 p
noncomputable def H80_0:HT:=(.two .leaf (.one (.two .leaf (.two (.join [(.normal,⟨[(7,.s),(8,(.i .i64)),(10,(.ptr 0 0)),(11,(.fn 128 Q19)),(12,.s)],[(0,Q59)],1⟩)] .leaf) .leaf))))
noncomputable def F80 (p:Q75×Unit):Option Q41:=(Option.bind (F56 ((p.1.1,()),())) λr1=>(cond (!r1.1) (some ((([]:List UInt8),(4:Int),()),())) (Option.bind (F127 ((p.1.2.1,()),())) λr2=>(cond (!(decide (r2.1=(0:Int)))) (some ((([]:List UInt8),r2.1,()),())) (cond (fits (List.length p.1.1+List.length ([58]:List UInt8))) (cond (fits (List.length ([32]:List UInt8)+List.length p.1.2.1)) (Option.bind (Option.bind (L80_0 (((p.1.1++([58]:List UInt8)),(((List.length (p.1.1++([58]:List UInt8))):Nat):Int),true,(),((),()),()),(((([32]:List UInt8)++p.1.2.1),()),()))) λp5=>(some (p5.1,()))) λp6=>(cond (fits (List.length p6.1.1+List.length ([13,10]:List UInt8))) (some (((p6.1.1++([13,10]:List UInt8)),(0:Int),()),())) none)) none) none)))))
noncomputable def O80:Orc:=⟨Q77,[],(.tup (.cons .s Q10)),[],F80⟩
noncomputable def H80:HT:=(.two .leaf (.two .leaf (.two .leaf (.two .leaf (.two .leaf (.two .leaf (.two .leaf (.two (.join [(.normal,⟨[(7,.s)],[],0⟩)] (.one (.loop S80_0 U80_0 L80_0 H80_0))) .leaf))))))))
noncomputable def X80:List (FuncId×Orc):=[(56,O56),(127,O127),(128,O128)]
theorem round80_0 (p):round Tryz.prog (CX X80 [] [] []) (MX X80 []) 0 52 (subc (bodyOf Tryz.f80) [true,true,true,true,true,true,true,false,false,false]) H80_0 S80_0 U80_0 p=B80_0 p:=by kernel_rfl
theorem run80 (p):evTop Tryz.prog (CX X80 [] [] []) (MX X80 []) Tryz.f80 H80 O80 p=F80 p:=by kernel_rfl
theorem ok80:O80.OK Tryz.prog 80:=okk run80 Tryz.func80 Tryz.call80 (ls:=[⟨subc (bodyOf Tryz.f80) [true,true,true,true,true,true,true,false,false,false],H80_0,S80_0,U80_0,L80_0⟩]) ⟨LoopRec.of rfl round80_0,trivial⟩ (hX:=⟨ok56,⟨ok127,⟨ok128,trivial⟩⟩⟩)
noncomputable def F44 (p:Q21×Unit):Option Q31:=(Option.bind (F80 ((p.1.1,([]:List UInt8),()),())) λr1=>(cond (decide (r1.1.2.1=(0:Int))) (Option.bind (F81 ((p.1.1,()),())) λr2=>(some (r2.1,()))) (some (false,()))))
noncomputable def O44:Orc:=⟨Q20,[],.b,[],F44⟩
noncomputable def H44:HT:=.leaf
noncomputable def X44:List (FuncId×Orc):=[(80,O80),(81,O81)]
theorem run44 (p):evTop Tryz.prog (CX X44 [] [] []) (MX X44 []) Tryz.f44 H44 O44 p=F44 p:=by kernel_rfl
theorem ok44:O44.OK Tryz.prog 44:=ok0 run44 Tryz.func44 Tryz.call44 (hX:=⟨ok80,⟨ok81,trivial⟩⟩)
noncomputable def F45 (p:Q21×Unit):Option Q31:=(some ((decide ((Go.Qw.quo p.1.1).2.2=(0:Int))),()))
noncomputable def O45:Orc:=⟨Q20,[],.b,[],F45⟩
noncomputable def H45:HT:=.leaf
noncomputable def Z45:List (FuncId×Deed):=[(82,(zPv Go.Qw.pQuote))]
theorem run45 (p):evTop Tryz.prog (CX [] [] Z45 []) (MX [] []) Tryz.f45 H45 O45 p=F45 p:=by kernel_rfl
theorem ok45:O45.OK Tryz.prog 45:=ok0 run45 Tryz.func45 Tryz.call45 (hZ:=⟨Go.Qw.zQuote82,trivial⟩)
noncomputable def F26 (p:Q66×Unit):Option Q31:=(Option.bind (Option.bind (cond (decide (p.1.1.1=(2:Int))) (some (((),(),(),p.1.1.1,(decide (p.1.1.1=(2:Int))),()),(p.1.1,(p.1.1.1,(0:UInt8),(),(),(),(),(),(),(),()),()))) (some (((),(),(),p.1.1.1,(decide (p.1.1.1=(3:Int))),()),(p.1.1,(p.1.1.1,(0:UInt8),(),(),(),(),(),(),(),()),())))) λp1=>(cond p1.1.2.2.2.2.1 (some (((),(),(((decide ((UInt8.toNat (0:UInt8))<(UInt8.toNat p1.2.1.2.1)))&&(decide ((UInt8.toNat p1.2.1.2.1)<(UInt8.toNat (32:UInt8)))))&&(decide ((p1.2.1.2.1 &&& (p1.2.1.2.1-(1:UInt8)))=(0:UInt8)))),()),(p1.2.1,(p1.2.2.1.1,p1.2.1.2.1,(0:Int),([]:List UInt8),(0:Int),(0:Int),(0:Int),([]:List UInt8),([]:List UInt8),()),()))) (Option.bind (cond (decide (p1.1.2.2.2.1=(4:Int))) (some (((),(),(),p1.1.2.2.2.1,(decide (p1.1.2.2.2.1=(4:Int))),()),p1.2)) (some (((),(),(),p1.1.2.2.2.1,(decide (p1.1.2.2.2.1=(5:Int))),()),p1.2))) λp2=>(cond p2.1.2.2.2.2.1 (some (((),(),((decide ((0:Int)<=p2.2.1.2.2.1))&&(decide (p2.2.1.2.2.1<=(4294967295:Int)))),()),(p2.2.1,(p2.2.2.1.1,p2.2.2.1.2.1,p2.2.1.2.2.1,([]:List UInt8),(0:Int),(0:Int),(0:Int),([]:List UInt8),([]:List UInt8),()),()))) (Option.bind (cond (decide (p2.1.2.2.2.1=(6:Int))) (some (((),(),(),p2.1.2.2.2.1,(decide (p2.1.2.2.2.1=(6:Int))),()),p2.2)) (some (((),(),(),p2.1.2.2.2.1,(decide (p2.1.2.2.2.1=(7:Int))),()),p2.2))) λp3=>(cond p3.1.2.2.2.2.1 (Option.bind (F42 ((p3.2.1.2.2.2.1,()),())) λr4=>(some (((),(),r4.1,()),(p3.2.1,(p3.2.2.1.1,p3.2.2.1.2.1,(0:Int),p3.2.1.2.2.2.1,(0:Int),(0:Int),(0:Int),([]:List UInt8),([]:List UInt8),()),())))) (Option.bind (cond (decide (p3.1.2.2.2.1=(8:Int))) (some (((),(),(),p3.1.2.2.2.1,(decide (p3.1.2.2.2.1=(8:Int))),()),p3.2)) (cond (decide (p3.1.2.2.2.1=(9:Int))) (some (((),(),(),p3.1.2.2.2.1,(decide (p3.1.2.2.2.1=(9:Int))),()),p3.2)) (some (((),(),(),p3.1.2.2.2.1,(decide (p3.1.2.2.2.1=(10:Int))),()),p3.2)))) λp5=>(cond p5.1.2.2.2.2.1 (Option.bind (F43 (((p5.2.1.2.2.2.2.1,p5.2.1.2.2.2.2.2.1,p5.2.1.2.2.2.2.2.2.1,()),()),())) λr6=>(some (((),(),(decide (r6.1.2.1=(0:Int))),()),(p5.2.1,(p5.2.2.1.1,p5.2.2.1.2.1,(0:Int),([]:List UInt8),p5.2.1.2.2.2.2.1,p5.2.1.2.2.2.2.2.1,p5.2.1.2.2.2.2.2.2.1,([]:List UInt8),([]:List UInt8),()),())))) (cond (decide (p5.1.2.2.2.1=(11:Int))) (cond (decide (p5.2.1.2.2.2.2.2.2.2.2.1=p5.2.1.2.2.2.2.2.2.2.2.1)) (Option.bind (F44 ((p5.2.1.2.2.2.2.2.2.2.1,()),())) λr7=>(cond r7.1 (Option.bind (F45 ((p5.2.1.2.2.2.2.2.2.2.2.1,()),())) λr8=>(some (((),(),r8.1,()),(p5.2.1,(p5.2.2.1.1,p5.2.2.1.2.1,(0:Int),([]:List UInt8),(0:Int),(0:Int),(0:Int),p5.2.1.2.2.2.2.2.2.2.1,p5.2.1.2.2.2.2.2.2.2.2.1,()),())))) (some (((),(),false,()),(p5.2.1,(p5.2.2.1.1,p5.2.2.1.2.1,(0:Int),([]:List UInt8),(0:Int),(0:Int),(0:Int),p5.2.1.2.2.2.2.2.2.2.1,p5.2.1.2.2.2.2.2.2.2.2.1,()),()))))) none) (Option.bind (cond (decide (p5.1.2.2.2.1=(12:Int))) (some (((),(),(),(decide (p5.1.2.2.2.1=(12:Int))),()),p5.2)) (some (((),(),(),(decide (p5.1.2.2.2.1=(13:Int))),()),p5.2))) λp9=>(cond p9.1.2.2.2.1 (Option.bind (F45 ((p9.2.1.2.2.2.2.2.2.2.2.1,()),())) λr10=>(some (((),(),r10.1,()),(p9.2.1,(p9.2.2.1.1,p9.2.2.1.2.1,(0:Int),([]:List UInt8),(0:Int),(0:Int),(0:Int),([]:List UInt8),p9.2.1.2.2.2.2.2.2.2.2.1,()),())))) (some (((),(),true,()),(p9.2.1,(p9.2.2.1.1,p9.2.2.1.2.1,(0:Int),([]:List UInt8),(0:Int),(0:Int),(0:Int),([]:List UInt8),([]:List UInt8),()),())))))))))))))) λp11=>(some ((p11.1.2.2.1&&((decide (p11.2.2.1.1=p11.2.1.1))&&((decide (p11.2.2.1.2.1=p11.2.1.2.1))&&((decide (p11.2.2.1.2.2.1=p11.2.1.2.2.1))&&((decide (p11.2.2.1.2.2.2.1=p11.2.1.2.2.2.1))&&(((decide (p11.2.2.1.2.2.2.2.1=p11.2.1.2.2.2.2.1))&&((decide (p11.2.2.1.2.2.2.2.2.1=p11.2.1.2.2.2.2.2.1))&&(decide (p11.2.2.1.2.2.2.2.2.2.1=p11.2.1.2.2.2.2.2.2.1))))&&((decide (p11.2.2.1.2.2.2.2.2.2.2.1=p11.2.1.2.2.2.2.2.2.2.1))&&((decide (p11.2.2.1.2.2.2.2.2.2.2.2.1=p11.2.1.2.2.2.2.2.2.2.2.1))&&true)))))))),())))
noncomputable def O26:Orc:=⟨(.cons (.agg Q2) .nil),[],.b,[],F26⟩
noncomputable def H26:HT:=(.two .leaf (.two .leaf (.two .leaf (.two (.join [(.normal,⟨[(1,(.ptr 0 0)),(3,(.ptr 1 0)),(4,.b)],[(0,Q40),(1,Q40)],2⟩)] (.two .leaf (.one (.two (.join [(.normal,⟨[(1,(.ptr 0 0)),(3,(.ptr 1 0)),(4,(.kb true)),(11,(.i .i64)),(12,.b)],[(0,Q40),(1,(.vars (.cons (.i .i64) (.cons .u (.cons (.ki .i64 (0)) (.cons (.ks ([]:List UInt8)) (.cons (.ki .i64 (0)) (.cons (.ki .i64 (0)) (.cons (.ki .i64 (0)) (.cons (.ks ([]:List UInt8)) (.cons (.ks ([]:List UInt8)) .nil)))))))))))],2⟩)] .leaf) (.two .leaf (.two (.join [(.normal,⟨[(1,(.ptr 0 0)),(3,(.ptr 1 0)),(4,(.kb true)),(11,(.i .i64)),(35,.b)],[(0,Q40),(1,(.vars (.cons (.i .i64) (.cons .u (.cons (.ki .i64 (0)) (.cons (.ks ([]:List UInt8)) (.cons (.ki .i64 (0)) (.cons (.ki .i64 (0)) (.cons (.ki .i64 (0)) (.cons (.ks ([]:List UInt8)) (.cons (.ks ([]:List UInt8)) .nil)))))))))))],2⟩)] .leaf) (.two .leaf (.two (.join [(.normal,⟨[(1,(.ptr 0 0)),(3,(.ptr 1 0)),(4,(.kb true)),(11,(.i .i64)),(49,.b)],[(0,Q40),(1,(.vars (.cons (.i .i64) (.cons .u (.cons (.ki .i64 (0)) (.cons (.ks ([]:List UInt8)) (.cons (.ki .i64 (0)) (.cons (.ki .i64 (0)) (.cons (.ki .i64 (0)) (.cons (.ks ([]:List UInt8)) (.cons (.ks ([]:List UInt8)) .nil)))))))))))],2⟩)] .leaf) (.two .leaf (.two (.join [(.normal,⟨[(1,(.ptr 0 0)),(3,(.ptr 1 0)),(4,(.kb true)),(11,(.i .i64)),(58,.b)],[(0,Q40),(1,(.vars (.cons (.i .i64) (.cons .u (.cons (.ki .i64 (0)) (.cons (.ks ([]:List UInt8)) (.cons (.ki .i64 (0)) (.cons (.ki .i64 (0)) (.cons (.ki .i64 (0)) (.cons (.ks ([]:List UInt8)) (.cons (.ks ([]:List UInt8)) .nil)))))))))))],2⟩)] .leaf) (.two .leaf (.two .leaf (.two .leaf (.two (.join [(.normal,⟨[(1,(.ptr 0 0)),(3,(.ptr 1 0)),(4,(.kb true)),(89,.b)],[(0,Q40),(1,(.vars (.cons (.i .i64) (.cons .u (.cons (.ki .i64 (0)) (.cons (.ks ([]:List UInt8)) (.cons (.ki .i64 (0)) (.cons (.ki .i64 (0)) (.cons (.ki .i64 (0)) (.cons (.ks ([]:List UInt8)) (.cons (.ks ([]:List UInt8)) .nil)))))))))))],2⟩)] .leaf) .leaf)))))))))))))) .leaf))))
noncomputable def X26:List (FuncId×Orc):=[(42,O42),(43,O43),(44,O44),(45,O45)]
theorem run26 (p):evTop Tryz.prog (CX X26 [] [] []) (MX X26 []) Tryz.f26 H26 O26 p=F26 p:=by kernel_rfl
theorem ok26:O26.OK Tryz.prog 26:=ok0 run26 Tryz.func26 Tryz.call26 (hX:=⟨ok42,⟨ok43,⟨ok44,⟨ok45,trivial⟩⟩⟩⟩)
def F27 (p:Q11×Unit):Option Q11:=(Option.bind (cond (decide (p.1.1=(14:Int))) (some (Sum.inr (((1:Int),()),()))) (Option.bind (cond (decide (p.1.1=(15:Int))) (some (((decide (p.1.1=(15:Int))),()),())) (some (((decide (p.1.1=(16:Int))),()),()))) λp1=>(cond p1.1.1 (some (Sum.inr (((2:Int),()),()))) (some (Sum.inl ((),())))))) λp2=>(match p2 with | Sum.inl _p3=>(some ((0:Int),())) | Sum.inr q3=>(some (q3.1.1,()))))
def O27:Orc:=⟨Q10,[],(.i .i64),[],F27⟩
def H27:HT:=(.two .leaf (.two (.join [(.normal,⟨[],[],0⟩),(.ret,⟨[(2,(.i .i64))],[],0⟩)] (.two .leaf (.one (.two .leaf (.two .leaf (.two (.join [(.normal,⟨[(6,.b)],[],0⟩)] .leaf) .leaf)))))) .leaf))
theorem run27 (p):evTop Tryz.prog (CX [] [] [] []) (MX [] []) Tryz.f27 H27 O27 p=F27 p:=by kernel_rfl
theorem ok27:O27.OK Tryz.prog 27:=ok0 run27 Tryz.func27 Tryz.call27
noncomputable def S14_0:Shape:=⟨[(3,(.i .i64)),(14,(.sl Q0)),(15,(.i .i64)),(16,(.i .i64))],[],0⟩
noncomputable def U14_0:Outs:=[((.exit 1),⟨[(3,(.i .i64))],[],0⟩),(.ret,⟨[(2,(.i .i64))],[],0⟩)]
abbrev T14_0:Type:=((Int×Q44×Int×Int×Unit)×Unit)
abbrev R14_0:Type:=(Q45⊕Q45)
noncomputable def B14_0 (p:T14_0):Option (T14_0⊕R14_0):=(cond (decide (p.1.2.2.2.1<p.1.2.2.1)) (Option.bind (cond ((decide ((0:Int)<=p.1.2.2.2.1))&&(decide (p.1.2.2.2.1<(p.1.2.1.length:Int)))) (some ((p.1.1,(),p.1.2.1,p.1.2.2.1,p.1.2.2.2.1,()),(((List.getD p.1.2.1 p.1.2.2.2.1.toNat kz).1,(List.getD p.1.2.1 p.1.2.2.2.1.toNat kz).2.1,(List.getD p.1.2.1 p.1.2.2.2.1.toNat kz).2.2.1,(List.getD p.1.2.1 p.1.2.2.2.1.toNat kz).2.2.2.1,(List.getD p.1.2.1 p.1.2.2.2.1.toNat kz).2.2.2.2.1.1,(List.getD p.1.2.1 p.1.2.2.2.1.toNat kz).2.2.2.2.1.2.1,(List.getD p.1.2.1 p.1.2.2.2.1.toNat kz).2.2.2.2.1.2.2.1,(List.getD p.1.2.1 p.1.2.2.2.1.toNat kz).2.2.2.2.2.1,(List.getD p.1.2.1 p.1.2.2.2.1.toNat kz).2.2.2.2.2.2.1,()),()))) none) λp1=>(Option.bind (some ((p1.1.1,(),p1.1.2.2.1,p1.1.2.2.2.1,p1.1.2.2.2.2.1,((decide (p1.2.1.1<(1:Int)))||(decide ((16:Int)<p1.2.1.1))),()),p1.2)) λp2=>(cond p2.1.2.2.2.2.2.1 (some (Sum.inr (Sum.inr (((14:Int),()),())))) (Option.bind (Option.bind (F26 (p2.2,())) λr3=>(some ((p2.1.1,(),p2.1.2.2.1,p2.1.2.2.2.1,p2.1.2.2.2.2.1,(!r3.1),()),p2.2))) λp4=>(cond p4.1.2.2.2.2.2.1 (some (Sum.inr (Sum.inr (((4:Int),()),())))) (Option.bind (Option.bind (F27 ((p4.2.1.1,()),())) λr5=>(some ((p4.1.1,(),p4.1.2.2.1,p4.1.2.2.2.1,p4.1.2.2.2.2.1,(decide (p4.1.1<r5.1)),()),p4.2))) λp6=>(cond p6.1.2.2.2.2.2.1 (some (Sum.inr (Sum.inr (((2:Int),()),())))) (Option.bind (F27 ((p6.2.1.1,()),())) λr7=>(cond (decide ((8:Int)<(w64 (p6.1.1+(w64 ((1:Int)-r7.1)))))) (some (Sum.inr (Sum.inr (((6:Int),()),())))) (some (Sum.inl (((w64 (p6.1.1+(w64 ((1:Int)-r7.1)))),p6.1.2.2.1,p6.1.2.2.2.1,(w64 (p6.1.2.2.2.2.1+(1:Int))),()),())))))))))))) (some (Sum.inr (Sum.inl ((p.1.1,()),())))))
noncomputable def L14_0 (p:T14_0):Option R14_0:=loopOf B14_0 p
noncomputable def H14_0:HT:=(.two .leaf (.two .leaf (.two (.one (.two (.join [(.normal,⟨[(3,(.i .i64)),(5,(.ptr 0 0)),(14,(.sl Q0)),(15,(.i .i64)),(16,(.i .i64))],[(0,Q40)],1⟩)] .leaf) (.two (.one (.two (.join [(.normal,⟨[(3,(.i .i64)),(5,(.ptr 0 0)),(14,(.sl Q0)),(15,(.i .i64)),(16,(.i .i64)),(20,.b)],[(0,Q40)],1⟩)] .leaf) (.two .leaf (.two (.join [(.normal,⟨[(3,(.i .i64)),(5,(.ptr 0 0)),(14,(.sl Q0)),(15,(.i .i64)),(16,(.i .i64)),(29,.b)],[(0,Q40)],1⟩)] .leaf) (.two .leaf (.two (.join [(.normal,⟨[(3,(.i .i64)),(5,(.ptr 0 0)),(14,(.sl Q0)),(15,(.i .i64)),(16,(.i .i64)),(33,.b)],[(0,Q40)],1⟩)] .leaf) .leaf)))))) .leaf))) .leaf)))
noncomputable def F14 (p:Q73×Unit):Option Q11:=(cond (decide ((p.1.1.length:Int)=(0:Int))) (some ((2:Int),())) (cond (decide ((48:Int)<(p.1.1.length:Int))) (some ((6:Int),())) (Option.bind (Option.bind (L14_0 (((0:Int),p.1.1,(p.1.1.length:Int),(0:Int),()),())) λp8=>(match p8 with | Sum.inl p9=>(some (Sum.inl (p9.1,()))) | Sum.inr q9=>(some (Sum.inr (q9.1,()))))) λp10=>(match p10 with | Sum.inl p11=>(cond (!(decide (p11.1.1=(1:Int)))) (some ((2:Int),())) (some ((0:Int),()))) | Sum.inr q11=>(some (q11.1.1,()))))))
noncomputable def O14:Orc:=⟨(.cons (.sl Q0) .nil),[],(.i .i64),[],F14⟩
noncomputable def H14:HT:=(.two .leaf (.two .leaf (.two .leaf (.two (.join [(.normal,⟨[(3,(.i .i64))],[],0⟩),(.ret,⟨[(2,(.i .i64))],[],0⟩)] (.two .leaf (.one (.loop S14_0 U14_0 L14_0 H14_0)))) .leaf))))
noncomputable def X14:List (FuncId×Orc):=[(26,O26),(27,O27)]
theorem round14_0 (p):round Tryz.prog (CX X14 [] [] []) (MX X14 []) 0 50 (subc (bodyOf Tryz.f14) [true,true,true,false,true,false,false]) H14_0 S14_0 U14_0 p=B14_0 p:=by kernel_rfl
theorem run14 (p):evTop Tryz.prog (CX X14 [] [] []) (MX X14 []) Tryz.f14 H14 O14 p=F14 p:=by kernel_rfl
theorem ok14:O14.OK Tryz.prog 14:=okk run14 Tryz.func14 Tryz.call14 (ls:=[⟨subc (bodyOf Tryz.f14) [true,true,true,false,true,false,false],H14_0,S14_0,U14_0,L14_0⟩]) ⟨LoopRec.of rfl round14_0,trivial⟩ (hX:=⟨ok26,⟨ok27,trivial⟩⟩)
end Go.Qy

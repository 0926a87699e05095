/- Deeds of the seat with cards. -/
import Derived.Test.YtbnmcdcpendjjaaDoorEvZ
import Derived.Test.YtbnmcdcpendjjaaDoorShE
import Derived.Test.YtbnmcdcpendjjaaDoorProg
import Derived.KernelRfl
namespace Go.Bd
open Go Go.Ev Go.Proofs Go.Sort Go.RowKit
set_option maxRecDepth 100000

theorem zContains40 : ZOK Tryd.prog 40 zContains := zContains_ok Tryd.call40 (g := 2) (by kernel_rfl) fun s sub m w hs hm => Tryd.strings_Contains s sub m w hs hm

def cf21 (x y : Int × Int × Unit) : Int := Lib.compareInt x.1 y.1

theorem lt21 (x y : Int × Int × Unit) : ltOf cf21 x y = decide (x.1 < y.1) := by
  simp only [ltOf, cf21, Lib.compareInt]
  by_cases h1 : x.1 < y.1
  · simp [h1]
  · by_cases h2 : x.1 > y.1
    · simp [h1, h2]
    · simp [h1, h2]

theorem swo21 : SWO (ltOf cf21) where
  irrefl := fun x => by rw [lt21]; simp
  trans := fun x y z h1 h2 => by
    rw [lt21, decide_eq_true_eq] at *
    omega
  ntrans := fun x y z h1 h2 => by
    rw [lt21, decide_eq_false_iff_not] at *
    omega

theorem walk21 (w : World) (x y : Int × Int × Unit) : Calls Tryd.prog 21 #[.agg (enc2 x).toArray, .agg (enc2 y).toArray] w fun e w' => e = .returned (.int .i64 (cf21 x y)) ∧ ∃ q os', w' = grow (w.drewN q) os' := by
  have hc : ∀ W, Calls Tryd.prog 22 #[.int .i64 x.1, .int .i64 y.1] W fun e w' => e = .returned (.int .i64 (Lib.compareInt x.1 y.1)) ∧ w' = W := fun W => Tryd.cmp_Compare_int _ _ W
  unfold enc2
  go_enter Tryd.func21, Tryd.ntmps21
  go_wp2_with (refine (hc _).mono ?_; rintro e w' ⟨rfl, rfl⟩)
  go_ret
  refine ⟨rfl, 0, #[.cells #[.int .i64 x.1, .int .i64 x.2.1] 30, .cells #[.int .i64 y.1, .int .i64 y.2.1] 30], ?_⟩
  rw [alloc_eq_grow, alloc_eq_grow, grow_grow]
  rfl

abbrev sort21 := srt cf21

theorem zSort20 : ZOK Tryd.prog 20 (zSort 21 cf21) := zSort_ok Tryd.call20 swo21 walk21 fun blk cap d w hcmp hH hblk hsz =>
  Tryd.slices_SortFunc_eq 2 (fun w => by rw [run_isAgg Tryd.underlying30]; rfl) (fun w => by rw [run_sizeOf' Tryd.underlying30]; rfl) enc2 (fun _ => rfl) (fun x v hv => by
    simp only [enc2, List.mem_cons, List.not_mem_nil, or_false] at hv
    rcases hv with rfl | rfl <;> rfl) cf21 swo21 21 #[] blk 0 cap d w (fun args w => Tryd.call21 args w) hcmp hH hblk hsz

end Go.Bd

/- Deeds of this seat. -/
import Derived.Test.YtbnmcdcpendjjaaEvZ
import Derived.Test.YtbnmcdcpendjjaaShB
import Derived.Test.YtbnmcdcpendjjaaProg
import Derived.KernelRfl
namespace Go.Bx
open Go Go.Ev Go.Proofs Go.Sort Go.RowKit
set_option maxRecDepth 100000

theorem zContains43 : ZOK Try.prog 43 zContains := zContains_ok Try.call43 (g := 0) (by kernel_rfl) fun s sub m w hs hm => Try.strings_Contains s sub m w hs hm

def cf51 (x y : Int × Int × Unit) : Int := Lib.compareInt x.1 y.1

theorem lt51 (x y : Int × Int × Unit) : ltOf cf51 x y = decide (x.1 < y.1) := by
  simp only [ltOf, cf51, Lib.compareInt]
  by_cases h1 : x.1 < y.1
  · simp [h1]
  · by_cases h2 : x.1 > y.1
    · simp [h1, h2]
    · simp [h1, h2]

theorem swo51 : SWO (ltOf cf51) where
  irrefl := fun x => by rw [lt51]; simp
  trans := fun x y z h1 h2 => by
    rw [lt51, decide_eq_true_eq] at *
    omega
  ntrans := fun x y z h1 h2 => by
    rw [lt51, decide_eq_false_iff_not] at *
    omega

theorem walk51 (w : World) (x y : Int × Int × Unit) : Calls Try.prog 51 #[.agg (enc2 x).toArray, .agg (enc2 y).toArray] w fun e w' => e = .returned (.int .i64 (cf51 x y)) ∧ ∃ q os', w' = grow (w.drewN q) os' := by
  have hc : ∀ W, Calls Try.prog 47 #[.int .i64 x.1, .int .i64 y.1] W fun e w' => e = .returned (.int .i64 (Lib.compareInt x.1 y.1)) ∧ w' = W := fun W => Try.cmp_Compare_int _ _ W
  unfold enc2
  go_enter Try.func51, Try.ntmps51
  go_wp2_with (refine (hc _).mono ?_; rintro e w' ⟨rfl, rfl⟩)
  go_ret
  refine ⟨rfl, 0, #[.cells #[.int .i64 x.1, .int .i64 x.2.1] 59, .cells #[.int .i64 y.1, .int .i64 y.2.1] 59], ?_⟩
  rw [alloc_eq_grow, alloc_eq_grow, grow_grow]
  rfl

abbrev sort51 := srt cf51

theorem zSort50 : ZOK Try.prog 50 (zSort 51 cf51) := zSort_ok Try.call50 swo51 walk51 fun blk cap d w hcmp hH hblk hsz =>
  Try.slices_SortFunc_eq 2 (fun w => by rw [run_isAgg Try.underlying59]; rfl) (fun w => by rw [run_sizeOf' Try.underlying59]; rfl) enc2 (fun _ => rfl) (fun x v hv => by
    simp only [enc2, List.mem_cons, List.not_mem_nil, or_false] at hv
    rcases hv with rfl | rfl <;> rfl) cf51 swo51 51 #[] blk 0 cap d w (fun args w => Try.call51 args w) hcmp hH hblk hsz

end Go.Bx

/- The law FlatOnce, for all marks of at most 1048576 values and letters in all (the bound of the statement). No other condition. -/
import Derived.Test.YtncpngfaimipdaaGreatLK
import Derived.Test.YtncpngfaimipdaaGreatRows
import Derived.OpenShut
import Derived.ShutString
import Derived.LaidMore
import Derived.Lay
import Derived.SevenTiedAt
import Derived.Stop.Joined
import Derived.Deep.DeepHandedRow
import Derived.Lib.LaidU8
namespace Go.Proofs.YtncpngfaimipdaaGreat
namespace FlatOnceDone
open Go Go.Ev Go.Fo Go.ChangeShapes Go.WideShapes Go.ChangeAt Go.RowKit
open Go.ChangeMaps (open_string shut_string)
theorem own : ownKnob Tryz.prog.godebug = none := by kernel_rfl
theorem laidOut : laidOutB Tryz.prog = true := by kernel_rfl

theorem tables {W : World} (hS : W.ShapedOpen Tryz.prog) : (zb Tryz.prog).tab W := tabs_max (by kernel_rfl) fun g hg => by
  obtain rfl : g = 0 := Option.some.inj (hg.symm.trans (show tu Tryz.prog "internal/bytealg.MaxLen" = some 0 by kernel_rfl))
  exact Go.Fo.maxl W hS

theorem bulkAll {H : Type} : ∀ l : List (DataW H), Rows.uptoBulkAll l = (l.map Rows.uptoBulk).sum
  | [] => by simp [Rows.uptoBulkAll]
  | d :: r => by simp [Rows.uptoBulkAll, bulkAll r]

theorem bulkB {H : Type} : Bulk (H := H) Rows.uptoBulk :=
  ⟨fun b => by simp [Rows.uptoBulk], fun l => by cases l <;> simp [Rows.uptoBulk], fun es sp => by simp only [Rows.uptoBulk, bulkAll]; omega, fun ps => by simp only [Rows.uptoBulk, bulkAll]; omega⟩

set_option maxRecDepth 100000 in
theorem contract (H : Type) (enc : TypeId × Value → H) (W : World) (base : Nat) (args : Array Value) (ds gs : List (DataW H)) (before : List MemPlace)
    (hval : ∀ (j : Nat) t v, Tryz.f3.params[j]? = some t → args[j]? = some v → Value.okWide Tryz.prog W .any base t v)
    (hW : DataW.Whole enc Tryz.prog Tryz.f3.params.toList Rows.flatOnceSpec.vars false W args.toList ds gs before) (hk : Rows.uptoSmall H (ds ++ gs) = true) (_hL : laidMetH Tryz.prog Rows.flatOnceUptoRow.laid W) (hS : W.ShapedOpen Tryz.prog) :
    Calls Tryz.prog 3 args W fun e W' => ∃ v, e = .returned v ∧ Rows.flatOnceSpec.post enc Tryz.prog Tryz.f3 false true false false W args v W' := by
  have hW' := hW
  obtain ⟨p, q, hA0, hV, rfl, hfz, hnd⟩ := hW
  have hA : DataW.TrodAll enc Tryz.prog W 0 (fun _ => true) true Tryz.f3.params.toList args.toList ds p := hA0
  rw [Tryz.params3] at hA hval
  obtain ⟨v0, vs0, d0, ds0, p0, q0, hargs, rfl, rfl, h0, r0⟩ := trodAll_cons hA
  obtain ⟨rfl, rfl, rfl⟩ := trodAll_nil r0
  obtain rfl : args = #[v0] := by cases args; simp_all
  obtain ⟨rfl, rfl⟩ := trodVars_none hV
  have k0 := h0
  have lt0 : ∀ x ∈ p0, x.block < W.heap.size := by obtain ⟨m, hm⟩ := k0; exact DataW.trod_lt m _ _ _ hm
  obtain ⟨x0, e0, w0, z0⟩ := open_argB bulkB (.sl (.pair (.int .i64) (.pair (.int .i64) (.pair (.int .i64) (.pair (.pair (.int .i64) (.pair (.int .i64) (.pair (.int .i64) .unit))) (.pair (.sl (.pair (.int .i64) (.pair .str (.pair .str (.pair .str (.pair (.int .i64) (.pair (.int .i64) (.pair .u8 (.pair (.int .i64) (.pair (.int .i64) (.pair (.sl .u8) .unit))))))))))) (.pair (.sl (.int .i64)) (.pair .str (.pair (.sl .u8) (.pair (.int .i64) .unit)))))))))) (by kernel_rfl) (by kernel_rfl) h0
  have b0 := arg_one (by rw [Tryz.underlying22]; simp) (by rw [Tryz.underlying22]; simp) (hval 0 22 v0 rfl rfl) e0
  simp only [List.append_nil] at hk
  have hk : Rows.uptoBulkAll [d0] ≤ 1048576 := of_decide_eq_true hk
  simp only [Rows.uptoBulkAll] at hk
  have hz0 : xH (.sl (.pair (.int .i64) (.pair (.int .i64) (.pair (.int .i64) (.pair (.pair (.int .i64) (.pair (.int .i64) (.pair (.int .i64) .unit))) (.pair (.sl (.pair (.int .i64) (.pair .str (.pair .str (.pair .str (.pair (.int .i64) (.pair (.int .i64) (.pair .u8 (.pair (.int .i64) (.pair (.int .i64) (.pair (.sl .u8) .unit))))))))))) (.pair (.sl (.int .i64)) (.pair .str (.pair (.sl .u8) (.pair (.int .i64) .unit)))))))))) x0 ≤ 1100000 := by omega
  have hrel : zD W (zk (noF : Frm (zb Tryz.prog)) (fun _ => none) fun _ => .dead) (fun _ => none) (fun _ => .dead) (unL O3.args (x0, ())) [v0] := ⟨_, _, rfl, b0, rfl⟩
  refine (told ok3 (p := (x0, ())) (law3' x0 (Nat.le_trans z0 (by omega))) (tables hS) hrel).mono fun e W' ⟨he, bel⟩ => ?_
  subst he
  exact ⟨_, rfl, _, _, _, [], _, [], hW', trodAll_mk1 (shut_bool Tryz.underlying4 _), (trodAll_cons_mk (Below.trod laidOut (by kernel_rfl) (of_decide_eq_true (by kernel_rfl)) k0 bel lt0) trodAll_mk0), rfl, bel.frame _, fun h => by cases h⟩

theorem reads (os : Os) {H : Type} (enc : TypeId × Value → H) : ∃ places, DataW.whole enc Tryz.prog ((World.laidAll Tryz.prog os Rows.flatOnceUptoRow.laid).forCall (fun _ _ => 0) ⟨#[], #[.slice none 0 0], []⟩).memory Tryz.f3.params.toList Rows.flatOnceSpec.vars false #[Value.slice none 0 0].toList 8 = some ([.nil], [], places) :=
  ⟨[], by kernel_rfl⟩

theorem laid_met (os : Os) : laidMetH Tryz.prog Rows.flatOnceUptoRow.laid ((World.laidAll Tryz.prog os Rows.flatOnceUptoRow.laid).forCall (fun _ _ => 0) ⟨#[], #[.slice none 0 0], []⟩).memory := by
  rw [MakeChecks.laidMetH_plain _ _ _ (by kernel_rfl)]; exact laidMet_laidAll _ (by kernel_rfl) (by kernel_rfl)

set_option maxRecDepth 100000 in
theorem lifted (os : Os) (started : os.Started) (H : Type) (enc : TypeId × Value → H) (F : Stop.Interp) :
    ReturnsInHanded {} Tryz.checked os 3 .any ((Rows.OpenSpec.upto Rows.flatOnceSpec).preRow enc Tryz.prog Tryz.f3 Rows.flatOnceUptoRow.domain false Rows.flatOnceUptoRow.laid) (((Rows.OpenSpec.upto Rows.flatOnceSpec).at F).post enc Tryz.prog Tryz.f3 false true false false) := by
  obtain ⟨places, hx⟩ := reads os enc
  refine returnsInHanded_of_row (C := Tryz.checked) (s := Rows.OpenSpec.upto Rows.flatOnceSpec) own started (by kernel_rfl) Tryz.func3
    (witness_row_at (enc := enc) (C := Tryz.checked) false (World.laidAll Tryz.prog os Rows.flatOnceUptoRow.laid) #[.slice none 0 0] (World.laidAll_os _ _ _) (by kernel_rfl) (by kernel_rfl) (by kernel_rfl)
      (OpenSpec.preRow_of_cond 8 hx (by kernel_rfl) (fun k hk => by cases hk; kernel_rfl) (by kernel_rfl) (laid_met os))) ?_
  intro W base args ds gs before hval hW _ hcond _ hL hS _
  exact contract H enc W base args ds gs before hval hW (hcond _ rfl) hL hS

theorem over : Rows.FlatOnceUptoSaid :=
  OpenClaim.holds_of_cond 3 Tryz.f3 rfl rfl rfl rfl rfl rfl rfl ⟨rfl, rfl, rfl, rfl, rfl⟩ rfl rfl rfl rfl rfl (by kernel_rfl) Tryz.func3 (by kernel_rfl)
    (of_decide_eq_true (by kernel_rfl)) (by unfold Func.isWrapper; first | (rw [if_pos (by decide +kernel)]; kernel_rfl) | (rw [if_neg (by decide +kernel)]; exact ⟨rfl, rfl⟩))
    (fun os started H enc _ F => by rw [OpenClaim.pre_eq_preRow]; exact lifted os started H enc F)

/-- The statement. -/
theorem proved : Rows.FlatOnceUptoSaid := over
#print axioms proved
end FlatOnceDone
end Go.Proofs.YtncpngfaimipdaaGreat

/- The law BoxOwn, for all boxes, bytes and turns of at most 1048576 values and letters in all (the bound of the statement). No other condition. -/
import Derived.Test.YtbnmcdcpendjjaaOG
import Derived.Test.YtbnmcdcpendjjaaRows
import Derived.WalkKit
import Derived.OpenShut
import Derived.ShutString
import Derived.LaidMore
import Derived.Lay
import Derived.SevenTiedAt
import Derived.Stop.Joined
import Derived.Deep.DeepHandedRow
import Derived.Lib.LaidU8
namespace Go.Proofs.Ytbnmcdcpendjjaa
namespace BoxOwnDone
open Go Go.Ev Go.Bx Go.ChangeShapes Go.WideShapes Go.ChangeAt Go.RowKit
open Go.ChangeMaps (open_string shut_string)
theorem own : ownKnob Try.prog.godebug = none := by kernel_rfl
theorem laidOut : laidOutB Try.prog = true := by kernel_rfl

theorem tables {W : World} (hS : W.ShapedOpen Try.prog) : (tabsOf Try.prog).tab W := tabs_max (by kernel_rfl) fun g hg => by
  obtain rfl : g = 0 := Option.some.inj (hg.symm.trans (show globAt Try.prog "internal/bytealg.MaxLen" = some 0 by kernel_rfl))
  exact Go.Proofs.Try.laysM144.s1_3 W hS

theorem bulkAll {H : Type} : ∀ l : List (DataW H), Rows.uptoBulkAll l = (l.map Rows.uptoBulk).sum
  | [] => by simp [Rows.uptoBulkAll]
  | d :: r => by simp [Rows.uptoBulkAll, bulkAll r]

theorem bulkB {H : Type} : Bulk (H := H) Rows.uptoBulk :=
  ⟨fun b => by simp [Rows.uptoBulk], fun l => by cases l <;> simp [Rows.uptoBulk], fun es sp => by simp only [Rows.uptoBulk, bulkAll]; omega, fun ps => by simp only [Rows.uptoBulk, bulkAll]; omega⟩

set_option maxRecDepth 100000 in
theorem contract (H : Type) (enc : TypeId × Value → H) (W : World) (base : Nat) (args : Array Value) (ds gs : List (DataW H)) (before : List MemPlace)
    (hval : ∀ (j : Nat) t v, Try.f9.params[j]? = some t → args[j]? = some v → Value.okWide Try.prog W .any base t v)
    (hW : DataW.Whole enc Try.prog Try.f9.params.toList Rows.boxOwnSpec.vars false W args.toList ds gs before) (hk : Rows.uptoSmall H (ds ++ gs) = true) (_hL : laidMetH Try.prog Rows.boxOwnUptoRow.laid W) (hS : W.ShapedOpen Try.prog) :
    Calls Try.prog 9 args W fun e W' => ∃ v, e = .returned v ∧ Rows.boxOwnSpec.post enc Try.prog Try.f9 false true false false W args v W' := by
  have hW' := hW
  obtain ⟨p, q, hA0, hV, rfl, hfz, hnd⟩ := hW
  have hA : DataW.TrodAll enc Try.prog W 0 (fun _ => true) true Try.f9.params.toList args.toList ds p := hA0
  rw [Try.params9] at hA hval
  obtain ⟨v0, vs0, d0, ds0, p0, q0, hargs, rfl, rfl, h0, r0⟩ := trodAll_cons hA
  obtain ⟨v1, vs1, d1, ds1, p1, q1, rfl, rfl, rfl, h1, r1⟩ := trodAll_cons r0
  obtain ⟨v2, vs2, d2, ds2, p2, q2, rfl, rfl, rfl, h2, r2⟩ := trodAll_cons r1
  obtain ⟨rfl, rfl, rfl⟩ := trodAll_nil r2
  obtain rfl : args = #[v0, v1, v2] := by cases args; simp_all
  obtain ⟨rfl, rfl⟩ := trodVars_none hV
  have k0 := h0
  have lt0 : ∀ x ∈ p0, x.block < W.heap.size := by obtain ⟨m, hm⟩ := k0; exact DataW.trod_lt m _ _ _ hm
  obtain ⟨x0, e0, w0, z0⟩ := open_argB bulkB (.pair .str (.pair (.int .i64) (.pair (.int .i64) (.pair (.sl (.pair (.int .i64) (.pair .u8 (.pair (.sl .u8) .unit)))) .unit)))) (by kernel_rfl) (by kernel_rfl) h0
  have b0 := arg_struct Try.underlying24 (hval 0 24 v0 rfl rfl) e0
  have k1 := h1
  have lt1 : ∀ x ∈ p1, x.block < W.heap.size := by obtain ⟨m, hm⟩ := k1; exact DataW.trod_lt m _ _ _ hm
  obtain ⟨x1, e1, w1, z1⟩ := open_argB bulkB (.sl .u8) (by kernel_rfl) (by kernel_rfl) h1
  have b1 := arg_one (by rw [Try.underlying25]; simp) (by rw [Try.underlying25]; simp) (hval 1 25 v1 rfl rfl) e1
  have k2 := h2
  have lt2 : ∀ x ∈ p2, x.block < W.heap.size := by obtain ⟨m, hm⟩ := k2; exact DataW.trod_lt m _ _ _ hm
  obtain ⟨x2, e2, w2, z2⟩ := open_argB bulkB (.pair (.int .i64) (.pair (.int .i64) (.pair .u8 .unit))) (by kernel_rfl) (by kernel_rfl) h2
  have b2 := arg_struct Try.underlying41 (hval 2 41 v2 rfl rfl) e2
  simp only [List.append_nil] at hk
  have hk : Rows.uptoBulkAll [d0, d1, d2] ≤ 1048576 := of_decide_eq_true hk
  simp only [Rows.uptoBulkAll] at hk
  have hz0 : sizD (.pair .str (.pair (.int .i64) (.pair (.int .i64) (.pair (.sl (.pair (.int .i64) (.pair .u8 (.pair (.sl .u8) .unit)))) .unit)))) x0 ≤ 1100000 := by omega
  have hz1 : sizD (.sl .u8) x1 ≤ 1100000 := by omega
  have hz2 : sizD (.pair (.int .i64) (.pair (.int .i64) (.pair .u8 .unit))) x2 ≤ 1100000 := by omega
  have hrel : RelVs W (Not (noF : Frm (tabsOf Try.prog)) (fun _ => none) fun _ => .dead) (fun _ => none) (fun _ => .dead) (unL O9.args ((x0.1, x0.2.1, x0.2.2.1, x0.2.2.2.1, ()), x1, (x2.1, x2.2.1, x2.2.2.1, ()), ())) [v0, v1, v2] := ⟨_, _, rfl, b0, ⟨_, _, rfl, b1, ⟨_, _, rfl, b2, rfl⟩⟩⟩
  refine (told ok9 (p := ((x0.1, x0.2.1, x0.2.2.1, x0.2.2.2.1, ()), x1, (x2.1, x2.2.1, x2.2.2.1, ()), ())) (law9' (x0.1, x0.2.1, x0.2.2.1, x0.2.2.2.1, ()) x1 (x2.1, x2.2.1, x2.2.2.1, ()) hz0) (tables hS) hrel).mono fun e W' ⟨he, bel⟩ => ?_
  subst he
  exact ⟨_, rfl, _, _, _, [], _, [], hW', trodAll_mk1 (shut_bool Try.underlying4 _), (trodAll_cons_mk (Below.trod laidOut (by kernel_rfl) (of_decide_eq_true (by kernel_rfl)) k0 bel lt0) (trodAll_cons_mk (Below.trod laidOut (by kernel_rfl) (of_decide_eq_true (by kernel_rfl)) k1 bel lt1) (trodAll_cons_mk (Below.trod laidOut (by kernel_rfl) (of_decide_eq_true (by kernel_rfl)) k2 bel lt2) trodAll_mk0))), rfl, bel.frame _, fun h => by cases h⟩

theorem reads (os : Os) {H : Type} (enc : TypeId × Value → H) : ∃ places, DataW.whole enc Try.prog ((World.laidAll Try.prog os Rows.boxOwnUptoRow.laid).forCall (fun _ _ => 0) ⟨#[], #[.agg #[.string ⟨#[]⟩, .int .i64 0, .int .i64 0, .slice none 0 0], .slice none 0 0, .agg #[.int .i64 0, .int .i64 0, .int .u8 0]], []⟩).memory Try.f9.params.toList Rows.boxOwnSpec.vars false #[Value.agg #[.string ⟨#[]⟩, .int .i64 0, .int .i64 0, .slice none 0 0], Value.slice none 0 0, Value.agg #[.int .i64 0, .int .i64 0, .int .u8 0]].toList 8 = some ([.agg [.lit (.string []), .lit (.int .i64 0), .lit (.int .i64 0), .nil], .nil, .agg [.lit (.int .i64 0), .lit (.int .i64 0), .lit (.int .u8 0)]], [], places) :=
  ⟨[], by kernel_rfl⟩

theorem laid_met (os : Os) : laidMetH Try.prog Rows.boxOwnUptoRow.laid ((World.laidAll Try.prog os Rows.boxOwnUptoRow.laid).forCall (fun _ _ => 0) ⟨#[], #[.agg #[.string ⟨#[]⟩, .int .i64 0, .int .i64 0, .slice none 0 0], .slice none 0 0, .agg #[.int .i64 0, .int .i64 0, .int .u8 0]], []⟩).memory := by
  rw [MakeChecks.laidMetH_plain _ _ _ (by kernel_rfl)]; exact laidMet_laidAll _ (by kernel_rfl) (by kernel_rfl)

set_option maxRecDepth 100000 in
theorem lifted (os : Os) (started : os.Started) (H : Type) (enc : TypeId × Value → H) (F : Stop.Interp) :
    ReturnsInHanded {} Try.checked os 9 .any ((Rows.OpenSpec.upto Rows.boxOwnSpec).preRow enc Try.prog Try.f9 Rows.boxOwnUptoRow.domain false Rows.boxOwnUptoRow.laid) (((Rows.OpenSpec.upto Rows.boxOwnSpec).at F).post enc Try.prog Try.f9 false true false false) := by
  obtain ⟨places, hx⟩ := reads os enc
  refine returnsInHanded_of_row (C := Try.checked) (s := Rows.OpenSpec.upto Rows.boxOwnSpec) own started (by kernel_rfl) Try.func9
    (witness_row_at (enc := enc) (C := Try.checked) false (World.laidAll Try.prog os Rows.boxOwnUptoRow.laid) #[.agg #[.string ⟨#[]⟩, .int .i64 0, .int .i64 0, .slice none 0 0], .slice none 0 0, .agg #[.int .i64 0, .int .i64 0, .int .u8 0]] (World.laidAll_os _ _ _) (by kernel_rfl) (by kernel_rfl) (by kernel_rfl)
      (OpenSpec.preRow_of_cond 8 hx (by kernel_rfl) (fun k hk => by cases hk; kernel_rfl) (by kernel_rfl) (laid_met os))) ?_
  intro W base args ds gs before hval hW _ hcond _ hL hS _
  exact contract H enc W base args ds gs before hval hW (hcond _ rfl) hL hS

theorem over : Rows.BoxOwnUptoSaid :=
  OpenClaim.holds_of_cond 9 Try.f9 rfl rfl rfl rfl rfl rfl rfl ⟨rfl, rfl, rfl, rfl, rfl⟩ rfl rfl rfl rfl rfl (by kernel_rfl) Try.func9 (by kernel_rfl)
    (of_decide_eq_true (by kernel_rfl)) (by unfold Func.isWrapper; first | (rw [if_pos (by decide +kernel)]; kernel_rfl) | (rw [if_neg (by decide +kernel)]; exact ⟨rfl, rfl⟩))
    (fun os started H enc _ F => by rw [OpenClaim.pre_eq_preRow]; exact lifted os started H enc F)

/-- The statement. -/
theorem proved : Rows.BoxOwnUptoSaid := over
#print axioms proved
end BoxOwnDone
end Go.Proofs.Ytbnmcdcpendjjaa

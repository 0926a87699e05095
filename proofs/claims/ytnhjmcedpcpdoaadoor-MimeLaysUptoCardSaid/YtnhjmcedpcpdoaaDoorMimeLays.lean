/- Pieces laid together with a boundary that none of them has are found as they were, whatever stands ahead of and behind them: the law MimeLays, for every pieces, number and bytes of at most 1048576 bytes in all (the bound of the statement). No other condition. -/
import Derived.Test.YtnhjmcedpcpdoaaDoorMiqa
import Derived.Test.YtnhjmcedpcpdoaaDoorShM
import Derived.Test.YtnhjmcedpcpdoaaDoorEvW
import Derived.Test.YtnhjmcedpcpdoaaDoorEvWb
import Derived.Test.YtnhjmcedpcpdoaaDoorCards
import Derived.Test.YtnhjmcedpcpdoaaDoorTie
import Derived.WalkKit
import Derived.ProofKit
import Derived.OpenShut
import Derived.ShutString
import Derived.ChangeOld
import Derived.Below
import Derived.LaidMore
import Derived.Lay
import Derived.SevenTiedAt
import Derived.Stop.Joined
import Derived.Deep.DeepHandedRow
import Derived.Lib.LaidU8
namespace Go.Proofs.YtnhjmcedpcpdoaaDoor
namespace MimeLaysDone
open Go Go.Ev Go.Mi Go.ChangeShapes Go.WideShapes Go.ChangeAt Go.RowKit
open Go.ChangeMaps (open_string shut_string)
theorem own : ownKnob Tryd.prog.godebug = none := by kernel_rfl
theorem laidOut : laidOutB Tryd.prog = true := by kernel_rfl

theorem tables {W : World} (hL : laidMetH Tryd.prog Rows.mimeLaysUptoRow.laid W) (hS : W.ShapedOpen Tryd.prog) : (tabsOf Tryd.prog).tab W := by
  have hL' : laidMet Tryd.prog Rows.mimeLaysUptoRow.laid W := by
    rw [MakeChecks.laidMetH_plain _ _ _ (by kernel_rfl)] at hL; exact hL
  have e : Rows.mimeLaysUptoRow.laid = [("unicode/utf8.acceptRanges", Lib.acceptData), ("unicode/utf8.first", Lib.firstData)] := by kernel_rfl
  rw [e] at hL'
  have hU : Lib.Utf8Tabs 1 2 W :=
    Go.Proofs.utf8Tabs_of_reads (ρ := Tryd.lays260_ren) Tryd.lays260 ⟨by kernel_rfl, by kernel_rfl, by kernel_rfl, by kernel_rfl, by kernel_rfl, by kernel_rfl, by kernel_rfl⟩ (Lib.laidMet.reads hL' (.tail _ (.head _))) (Lib.laidMet.reads hL' (.head _))
  refine ⟨fun g3 g4 h3 h4 => ?_, fun g hg => ?_⟩
  · have e3 : globAt Tryd.prog "unicode/utf8.first" = some 1 := by kernel_rfl
    have e4 : globAt Tryd.prog "unicode/utf8.acceptRanges" = some 2 := by kernel_rfl
    rw [e3] at h3
    rw [e4] at h4
    cases h3
    cases h4
    exact hU
  · obtain rfl : g = 0 := Option.some.inj (hg.symm.trans (show globAt Tryd.prog "internal/bytealg.MaxLen" = some 0 by kernel_rfl))
    exact Go.Proofs.Tryd.laysM185.s1_3 W hS

theorem bulkAll {H : Type} : ∀ l : List (DataW H), Rows.uptoBulkAll l = (l.map Rows.uptoBulk).sum
  | [] => by simp [Rows.uptoBulkAll]
  | d :: r => by simp [Rows.uptoBulkAll, bulkAll r]

theorem bulkB {H : Type} : Bulk (H := H) Rows.uptoBulk :=
  ⟨fun b => by simp [Rows.uptoBulk], fun l => by cases l <;> simp [Rows.uptoBulk], fun es sp => by simp only [Rows.uptoBulk, bulkAll]; omega, fun ps => by simp only [Rows.uptoBulk, bulkAll]; omega⟩

set_option maxRecDepth 100000 in
theorem contract (H : Type) (enc : TypeId × Value → H) (W : World) (base : Nat) (args : Array Value) (ds gs : List (DataW H)) (before : List MemPlace)
    (hval : ∀ (j : Nat) t v, Tryd.f4.params[j]? = some t → args[j]? = some v → Value.okWide Tryd.prog W .any base t v)
    (hW : DataW.Whole enc Tryd.prog Tryd.f4.params.toList Rows.mimeLaysSpec.vars false W args.toList ds gs before) (hk : Rows.uptoSmall H (ds ++ gs) = true) (hL : laidMetH Tryd.prog Rows.mimeLaysUptoRow.laid W) (hS : W.ShapedOpen Tryd.prog) :
    Calls Tryd.prog 4 args W fun e W' => ∃ v, e = .returned v ∧ Rows.mimeLaysSpec.post enc Tryd.prog Tryd.f4 false true false false W args v W' := by
  have hW' := hW
  obtain ⟨p, q, hA0, hV, rfl, hfz, hnd⟩ := hW
  have hA : DataW.TrodAll enc Tryd.prog W 0 (fun _ => true) true Tryd.f4.params.toList args.toList ds p := hA0
  rw [Tryd.params4] at hA hval
  obtain ⟨v0, vs0, d0, ds0, p0, q0, hargs, rfl, rfl, h0, r0⟩ := trodAll_cons hA
  obtain ⟨v1, vs1, d1, ds1, p1, q1, rfl, rfl, rfl, h1, r1⟩ := trodAll_cons r0
  obtain ⟨v2, vs2, d2, ds2, p2, q2, rfl, rfl, rfl, h2, r2⟩ := trodAll_cons r1
  obtain ⟨v3, vs3, d3, ds3, p3, q3, rfl, rfl, rfl, h3, r3⟩ := trodAll_cons r2
  obtain ⟨rfl, rfl, rfl⟩ := trodAll_nil r3
  obtain rfl : args = #[v0, v1, v2, v3] := by cases args; simp_all
  obtain ⟨rfl, rfl⟩ := trodVars_none hV
  have k0 := h0
  have lt0 : ∀ x ∈ p0, x.block < W.heap.size := by obtain ⟨m, hm⟩ := k0; exact DataW.trod_lt m _ _ _ hm
  obtain ⟨x0, e0, w0, z0⟩ := open_argB bulkB (.sl (.sl .u8)) (by kernel_rfl) (by kernel_rfl) h0
  have b0 := arg_one (by rw [Tryd.underlying33]; simp) (by rw [Tryd.underlying33]; simp) (hval 0 33 v0 rfl rfl) e0
  have k1 := h1
  have lt1 : ∀ x ∈ p1, x.block < W.heap.size := by obtain ⟨m, hm⟩ := k1; exact DataW.trod_lt m _ _ _ hm
  obtain ⟨x1, e1, w1, z1⟩ := open_argB bulkB (.int .u32) (by kernel_rfl) (by kernel_rfl) h1
  have b1 := arg_one (by rw [Tryd.underlying34]; simp) (by rw [Tryd.underlying34]; simp) (hval 1 34 v1 rfl rfl) e1
  have k2 := h2
  have lt2 : ∀ x ∈ p2, x.block < W.heap.size := by obtain ⟨m, hm⟩ := k2; exact DataW.trod_lt m _ _ _ hm
  obtain ⟨x2, e2, w2, z2⟩ := open_argB bulkB (.sl .u8) (by kernel_rfl) (by kernel_rfl) h2
  have b2 := arg_one (by rw [Tryd.underlying22]; simp) (by rw [Tryd.underlying22]; simp) (hval 2 22 v2 rfl rfl) e2
  have k3 := h3
  have lt3 : ∀ x ∈ p3, x.block < W.heap.size := by obtain ⟨m, hm⟩ := k3; exact DataW.trod_lt m _ _ _ hm
  obtain ⟨x3, e3, w3, z3⟩ := open_argB bulkB (.sl .u8) (by kernel_rfl) (by kernel_rfl) h3
  have b3 := arg_one (by rw [Tryd.underlying22]; simp) (by rw [Tryd.underlying22]; simp) (hval 3 22 v3 rfl rfl) e3
  simp only [List.append_nil] at hk
  have hk : Rows.uptoBulkAll [d0, d1, d2, d3] ≤ 1048576 := of_decide_eq_true hk
  simp only [Rows.uptoBulkAll, Rows.uptoBulk] at hk
  have hz0 : sizD (.sl (.sl .u8)) x0 ≤ 1100000 := by omega
  have hz1 : sizD (.int .u32) x1 ≤ 1100000 := by omega
  have hz2 : sizD (.sl .u8) x2 ≤ 1100000 := by omega
  have hz3 : sizD (.sl .u8) x3 ≤ 1100000 := by omega
  have hrel : RelVs W (Not (noF : Frm (tabsOf Tryd.prog)) (fun _ => none) fun _ => .dead) (fun _ => none) (fun _ => .dead) (unL O4.args (x0, x1, x2, x3, ())) [v0, v1, v2, v3] := ⟨_, _, rfl, b0, ⟨_, _, rfl, b1, ⟨_, _, rfl, b2, ⟨_, _, rfl, b3, rfl⟩⟩⟩⟩
  refine (told ok4 (p := (x0, x1, x2, x3, ())) (law4 x0 x1 (u32_nonneg w1) x2 x3) (tables hL hS) hrel).mono fun e W' ⟨he, bel⟩ => ?_
  subst he
  exact ⟨_, rfl, _, _, _, [], _, [], hW', trodAll_mk1 (shut_bool Tryd.underlying4 _), (trodAll_cons_mk (Below.trod laidOut (by kernel_rfl) (of_decide_eq_true (by kernel_rfl)) k0 bel lt0) (trodAll_cons_mk (Below.trod laidOut (by kernel_rfl) (of_decide_eq_true (by kernel_rfl)) k1 bel lt1) (trodAll_cons_mk (Below.trod laidOut (by kernel_rfl) (of_decide_eq_true (by kernel_rfl)) k2 bel lt2) (trodAll_cons_mk (Below.trod laidOut (by kernel_rfl) (of_decide_eq_true (by kernel_rfl)) k3 bel lt3) trodAll_mk0)))), rfl, bel.frame _, fun h => by cases h⟩

theorem reads (os : Os) {H : Type} (enc : TypeId × Value → H) : ∃ places, DataW.whole enc Tryd.prog ((World.laidAll Tryd.prog os Rows.mimeLaysUptoRow.laid).forCall (fun _ _ => 0) ⟨#[], #[.slice none 0 0, .int .u32 0, .slice none 0 0, .slice none 0 0], []⟩).memory Tryd.f4.params.toList Rows.mimeLaysSpec.vars false #[Value.slice none 0 0, Value.int .u32 0, Value.slice none 0 0, Value.slice none 0 0].toList 8 = some ([.nil, .lit (.int .u32 0), .nil, .nil], [], places) :=
  ⟨[], by kernel_rfl⟩

theorem laid_met (os : Os) : laidMetH Tryd.prog Rows.mimeLaysUptoRow.laid ((World.laidAll Tryd.prog os Rows.mimeLaysUptoRow.laid).forCall (fun _ _ => 0) ⟨#[], #[.slice none 0 0, .int .u32 0, .slice none 0 0, .slice none 0 0], []⟩).memory := by
  rw [MakeChecks.laidMetH_plain _ _ _ (by kernel_rfl)]; exact laidMet_laidAll _ (by kernel_rfl) (by kernel_rfl)

set_option maxRecDepth 100000 in
theorem lifted (os : Os) (started : os.Started) (H : Type) (enc : TypeId × Value → H) (F : Stop.Interp) :
    ReturnsInHanded {} Tryd.checked os 4 .any ((Rows.OpenSpec.upto Rows.mimeLaysSpec).preRow enc Tryd.prog Tryd.f4 Rows.mimeLaysUptoRow.domain false Rows.mimeLaysUptoRow.laid) (((Rows.OpenSpec.upto Rows.mimeLaysSpec).at F).post enc Tryd.prog Tryd.f4 false true false false) := by
  obtain ⟨places, hx⟩ := reads os enc
  refine returnsInHanded_of_row (C := Tryd.checked) (s := Rows.OpenSpec.upto Rows.mimeLaysSpec) own started (by kernel_rfl) Tryd.func4
    (witness_row_at (enc := enc) (C := Tryd.checked) false (World.laidAll Tryd.prog os Rows.mimeLaysUptoRow.laid) #[.slice none 0 0, .int .u32 0, .slice none 0 0, .slice none 0 0] (World.laidAll_os _ _ _) (by kernel_rfl) (by kernel_rfl) (by kernel_rfl)
      (OpenSpec.preRow_of_cond 8 hx (by kernel_rfl) (fun k hk => by cases hk; kernel_rfl) (by kernel_rfl) (laid_met os))) ?_
  intro W base args ds gs before hval hW _ hcond _ hL hS _
  exact contract H enc W base args ds gs before hval hW (hcond _ rfl) hL hS

theorem over : Rows.MimeLaysUptoSaid :=
  OpenClaim.holds_of_cond 4 Tryd.f4 rfl rfl rfl rfl rfl rfl rfl ⟨rfl, rfl, rfl, rfl, rfl⟩ rfl rfl rfl rfl rfl (by kernel_rfl) Tryd.func4 (by kernel_rfl)
    (of_decide_eq_true (by kernel_rfl)) (by unfold Func.isWrapper; first | (rw [if_pos (by decide +kernel)]; kernel_rfl) | (rw [if_neg (by decide +kernel)]; exact ⟨rfl, rfl⟩))
    (fun os started H enc _ F => by rw [OpenClaim.pre_eq_preRow]; exact lifted os started H enc F)

theorem plain (f : FuncId) (fn : Func) (hf : Tryd.pinned.checked.prog.funcNamed "pigeonhole/pigeonholelaw17.MimeLays" = some f) (hfn : Tryd.pinned.checked.prog.funcs[f]? = some fn) :
    true = Tryd.pinned.checked.prog.looks [] ∧ ∀ (j : Nat) t, fn.params[j]? = some t → Tryd.pinned.checked.prog.wantsStandIn t = false := by
  obtain rfl : f = 4 := Option.some.inj ((show Tryd.prog.funcNamed "pigeonhole/pigeonholelaw17.MimeLays" = some 4 by kernel_rfl).symm.trans hf) |>.symm
  obtain rfl : fn = Tryd.f4 := (Option.some.inj (Tryd.func4.symm.trans hfn)).symm
  refine ⟨by kernel_rfl, fun j t ht => ?_⟩
  rw [Tryd.params4] at ht
  have hm : t ∈ [33, 34, 22, 22] := by have := Array.mem_of_getElem? ht; simpa using this
  have hall : ([33, 34, 22, 22].all fun u => !Tryd.prog.wantsStandIn u) = true := by kernel_rfl
  exact (show Tryd.prog.wantsStandIn t = false by simpa using List.all_eq_true.1 hall t hm)

/-- The statement. -/
theorem proved : Rows.MimeLaysUptoCardSaid :=
  Claim7.holds_tied_plain_at .later [] _ _ _ _ over (fun _ h => by cases h) (by kernel_rfl) (fun _ h => by cases h) mimeLaysUpto_row_tie rfl ⟨rfl, rfl⟩ (by kernel_rfl) rfl plain (by kernel_rfl)
#print axioms proved
end MimeLaysDone
end Go.Proofs.YtnhjmcedpcpdoaaDoor

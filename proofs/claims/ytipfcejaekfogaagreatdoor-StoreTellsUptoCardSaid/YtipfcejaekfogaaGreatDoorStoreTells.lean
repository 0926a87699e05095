/- The law StoreTells, for all lists of deeds and names of at most 1048576 bytes in all (the bound of the statement). No other condition. -/
import Derived.Test.YtipfcejaekfogaaGreatDoorTK
import Derived.Test.YtipfcejaekfogaaGreatDoorCards
import Derived.Test.YtipfcejaekfogaaGreatDoorTie
import Derived.OpenShut
import Derived.ShutString
import Derived.LaidMore
import Derived.Lay
import Derived.SevenTiedAt
import Derived.Stop.Joined
import Derived.Deep.DeepHandedRow
import Derived.Lib.LaidU8
namespace Go.Proofs.YtipfcejaekfogaaGreatDoor
namespace StoreTellsDone
open Go Go.Ev Go.So Go.ChangeShapes Go.WideShapes Go.ChangeAt Go.RowKit
open Go.ChangeMaps (open_string shut_string)
theorem own : ownKnob Tryz.prog.godebug = none := by kernel_rfl
theorem laidOut : laidOutB Tryz.prog = true := by kernel_rfl

theorem tables {W : World} (hL : laidMetH Tryz.prog Rows.storeTellsUptoRow.laid W) (hS : W.ShapedOpen Tryz.prog) : (zJ Tryz.prog).tab W := by
  have hL' : laidMet Tryz.prog Rows.storeTellsUptoRow.laid W := by
    rw [MakeChecks.laidMetH_plain _ _ _ (by kernel_rfl)] at hL; exact hL
  have e : Rows.storeTellsUptoRow.laid = [("unicode/utf8.acceptRanges", Lib.acceptData), ("unicode/utf8.first", Lib.firstData)] := by kernel_rfl
  rw [e] at hL'
  have hU : Lib.Utf8Tabs 1 2 W :=
    Go.Proofs.utf8Tabs_of_reads (ρ := Tryz.lays260_ren) Tryz.lays260 ⟨by kernel_rfl, by kernel_rfl, by kernel_rfl, by kernel_rfl, by kernel_rfl, by kernel_rfl, by kernel_rfl⟩ (Lib.laidMet.reads hL' (.tail _ (.head _))) (Lib.laidMet.reads hL' (.head _))
  refine ⟨fun g3 g4 h3 h4 => ?_, fun g hg => ?_⟩
  · have e3 : vG Tryz.prog "unicode/utf8.first" = some 1 := by kernel_rfl
    have e4 : vG Tryz.prog "unicode/utf8.acceptRanges" = some 2 := by kernel_rfl
    rw [e3] at h3;rw [e4] at h4
    cases h3
    cases h4;exact hU
  · obtain rfl : g = 0 := Option.some.inj (hg.symm.trans (show vG Tryz.prog "internal/bytealg.MaxLen" = some 0 by kernel_rfl));exact Go.So.maxl W hS

theorem bulkAll {H : Type} : ∀ l : List (DataW H), Rows.uptoBulkAll l = (l.map Rows.uptoBulk).sum
  | [] => by simp [Rows.uptoBulkAll]
  | d :: r => by simp [Rows.uptoBulkAll, bulkAll r]

theorem bulkB {H : Type} : Bulk (H := H) Rows.uptoBulk :=
  ⟨fun b => by simp [Rows.uptoBulk], fun l => by cases l <;> simp [Rows.uptoBulk], fun es sp => by simp only [Rows.uptoBulk, bulkAll]; omega, fun ps => by simp only [Rows.uptoBulk, bulkAll]; omega⟩

set_option maxRecDepth 100000 in
theorem contract (H : Type) (enc : TypeId × Value → H) (W : World) (base : Nat) (args : Array Value) (ds gs : List (DataW H)) (before : List MemPlace)
    (hval : ∀ (j : Nat) t v, Tryz.f5.params[j]? = some t → args[j]? = some v → Value.okWide Tryz.prog W .any base t v)
    (hW : DataW.Whole enc Tryz.prog Tryz.f5.params.toList Rows.storeTellsSpec.vars false W args.toList ds gs before) (hk : Rows.uptoSmall H (ds ++ gs) = true) (hL : laidMetH Tryz.prog Rows.storeTellsUptoRow.laid W) (hS : W.ShapedOpen Tryz.prog) :
    Calls Tryz.prog 5 args W fun e W' => ∃ v, e = .returned v ∧ Rows.storeTellsSpec.post enc Tryz.prog Tryz.f5 false true false false W args v W' := by
  have hW' := hW;obtain ⟨p, q, hA0, hV, rfl, hfz, hnd⟩ := hW;have hA : DataW.TrodAll enc Tryz.prog W 0 (fun _ => true) true Tryz.f5.params.toList args.toList ds p := hA0;rw [Tryz.params5] at hA hval;obtain ⟨v0, vs0, d0, ds0, p0, q0, hargs, rfl, rfl, h0, r0⟩ := trodAll_cons hA;obtain ⟨v1, vs1, d1, ds1, p1, q1, rfl, rfl, rfl, h1, r1⟩ := trodAll_cons r0;obtain ⟨v2, vs2, d2, ds2, p2, q2, rfl, rfl, rfl, h2, r2⟩ := trodAll_cons r1;obtain ⟨rfl, rfl, rfl⟩ := trodAll_nil r2;obtain rfl : args = #[v0, v1, v2] := by cases args; simp_all
  obtain ⟨rfl, rfl⟩ := trodVars_none hV;have k0 := h0;have lt0 : ∀ x ∈ p0, x.block < W.heap.size := by obtain ⟨m, hm⟩ := k0; exact DataW.trod_lt m _ _ _ hm
  obtain ⟨x0, e0, w0, z0⟩ := open_argB bulkB (.sl (.sl (.pair (.int .i64) (.pair .str (.pair .str (.pair .str (.pair (.int .i64) (.pair (.int .i64) (.pair .u8 (.pair (.int .i64) (.pair (.int .i64) (.pair (.sl .u8) .unit)))))))))))) (by kernel_rfl) (by kernel_rfl) h0;have b0 := arg_one (by rw [Tryz.underlying22]; simp) (by rw [Tryz.underlying22]; simp) (hval 0 22 v0 rfl rfl) e0;have k1 := h1;have lt1 : ∀ x ∈ p1, x.block < W.heap.size := by obtain ⟨m, hm⟩ := k1; exact DataW.trod_lt m _ _ _ hm
  obtain ⟨s1, rfl, rfl, rfl, hmax1⟩ := open_string Tryz.underlying9 (hval 1 9 v1 rfl rfl) h1;have k2 := h2;have lt2 : ∀ x ∈ p2, x.block < W.heap.size := by obtain ⟨m, hm⟩ := k2; exact DataW.trod_lt m _ _ _ hm
  obtain ⟨s2, rfl, rfl, rfl, hmax2⟩ := open_string Tryz.underlying9 (hval 2 9 v2 rfl rfl) h2;simp only [List.append_nil] at hk;have hk : Rows.uptoBulkAll [d0, DataW.lit (H := H) (.string s1.data.toList), DataW.lit (H := H) (.string s2.data.toList)] ≤ 1048576 := of_decide_eq_true hk;simp only [Rows.uptoBulkAll, Rows.uptoBulk] at hk;have hs1 : s1.data.toList.length ≤ 1100000 := by omega
  have hs2 : s2.data.toList.length ≤ 1100000 := by omega
  have hz0 : wa (.sl (.sl (.pair (.int .i64) (.pair .str (.pair .str (.pair .str (.pair (.int .i64) (.pair (.int .i64) (.pair .u8 (.pair (.int .i64) (.pair (.int .i64) (.pair (.sl .u8) .unit)))))))))))) x0 ≤ 1100000 := by omega
  have bs1 : zA W (Not (noF : Frm (zJ Tryz.prog)) (fun _ => none) fun _ => .dead) (fun _ => none) (fun _ => .dead) (.s s1.data.toList) (.string s1) := by simp [zA]
  have bs2 : zA W (Not (noF : Frm (zJ Tryz.prog)) (fun _ => none) fun _ => .dead) (fun _ => none) (fun _ => .dead) (.s s2.data.toList) (.string s2) := by simp [zA]
  have hrel : zC W (Not (noF : Frm (zJ Tryz.prog)) (fun _ => none) fun _ => .dead) (fun _ => none) (fun _ => .dead) (unL O5.args (x0, s1.data.toList, s2.data.toList, ())) [v0, .string s1, .string s2] := ⟨_, _, rfl, b0, ⟨_, _, rfl, bs1, ⟨_, _, rfl, bs2, rfl⟩⟩⟩;refine (told ok5 (p := (x0, s1.data.toList, s2.data.toList, ())) (law5' x0 s1.data.toList s2.data.toList (Nat.le_trans z0 (by omega))) (tables hL hS) hrel).mono fun e W' ⟨he, bel⟩ => ?_
  subst he;exact ⟨_, rfl, _, _, _, [], _, [], hW', trodAll_mk1 (shut_bool Tryz.underlying4 _), (trodAll_cons_mk (Below.trod laidOut (by kernel_rfl) (of_decide_eq_true (by kernel_rfl)) k0 bel lt0) (trodAll_cons_mk (Below.trod laidOut (by kernel_rfl) (of_decide_eq_true (by kernel_rfl)) k1 bel lt1) (trodAll_cons_mk (Below.trod laidOut (by kernel_rfl) (of_decide_eq_true (by kernel_rfl)) k2 bel lt2) trodAll_mk0))), rfl, bel.frame _, fun h => by cases h⟩

theorem reads (os : Os) {H : Type} (enc : TypeId × Value → H) : ∃ places, DataW.whole enc Tryz.prog ((World.laidAll Tryz.prog os Rows.storeTellsUptoRow.laid).forCall (fun _ _ => 0) ⟨#[], #[.slice none 0 0, .string ⟨#[]⟩, .string ⟨#[]⟩], []⟩).memory Tryz.f5.params.toList Rows.storeTellsSpec.vars false #[Value.slice none 0 0, Value.string ⟨#[]⟩, Value.string ⟨#[]⟩].toList 8 = some ([.nil, .lit (.string []), .lit (.string [])], [], places) :=
  ⟨[], by kernel_rfl⟩

theorem laid_met (os : Os) : laidMetH Tryz.prog Rows.storeTellsUptoRow.laid ((World.laidAll Tryz.prog os Rows.storeTellsUptoRow.laid).forCall (fun _ _ => 0) ⟨#[], #[.slice none 0 0, .string ⟨#[]⟩, .string ⟨#[]⟩], []⟩).memory := by
  rw [MakeChecks.laidMetH_plain _ _ _ (by kernel_rfl)]; exact laidMet_laidAll _ (by kernel_rfl) (by kernel_rfl)

set_option maxRecDepth 100000 in
theorem lifted (os : Os) (started : os.Started) (H : Type) (enc : TypeId × Value → H) (F : Stop.Interp) :
    ReturnsInHanded {} Tryz.checked os 5 .any ((Rows.OpenSpec.upto Rows.storeTellsSpec).preRow enc Tryz.prog Tryz.f5 Rows.storeTellsUptoRow.domain false Rows.storeTellsUptoRow.laid) (((Rows.OpenSpec.upto Rows.storeTellsSpec).at F).post enc Tryz.prog Tryz.f5 false true false false) := by
  obtain ⟨places, hx⟩ := reads os enc
  refine returnsInHanded_of_row (C := Tryz.checked) (s := Rows.OpenSpec.upto Rows.storeTellsSpec) own started (by kernel_rfl) Tryz.func5
    (witness_row_at (enc := enc) (C := Tryz.checked) false (World.laidAll Tryz.prog os Rows.storeTellsUptoRow.laid) #[.slice none 0 0, .string ⟨#[]⟩, .string ⟨#[]⟩] (World.laidAll_os _ _ _) (by kernel_rfl) (by kernel_rfl) (by kernel_rfl)
      (OpenSpec.preRow_of_cond 8 hx (by kernel_rfl) (fun k hk => by cases hk; kernel_rfl) (by kernel_rfl) (laid_met os))) ?_
  intro W base args ds gs before hval hW _ hcond _ hL hS _;exact contract H enc W base args ds gs before hval hW (hcond _ rfl) hL hS

theorem over : Rows.StoreTellsUptoSaid :=
  OpenClaim.holds_of_cond 5 Tryz.f5 rfl rfl rfl rfl rfl rfl rfl ⟨rfl, rfl, rfl, rfl, rfl⟩ rfl rfl rfl rfl rfl (by kernel_rfl) Tryz.func5 (by kernel_rfl)
    (of_decide_eq_true (by kernel_rfl)) (by unfold Func.isWrapper; first | (rw [if_pos (by decide +kernel)]; kernel_rfl) | (rw [if_neg (by decide +kernel)]; exact ⟨rfl, rfl⟩))
    (fun os started H enc _ F => by rw [OpenClaim.pre_eq_preRow]; exact lifted os started H enc F)

theorem plain (f : FuncId) (fn : Func) (hf : Tryz.pinned.checked.prog.funcNamed "pigeonhole/pigeonholelaw10.StoreTells" = some f) (hfn : Tryz.pinned.checked.prog.funcs[f]? = some fn) :
    true = Tryz.pinned.checked.prog.looks [] ∧ ∀ (j : Nat) t, fn.params[j]? = some t → Tryz.pinned.checked.prog.wantsStandIn t = false := by
  obtain rfl : f = 5 := Option.some.inj ((show Tryz.prog.funcNamed "pigeonhole/pigeonholelaw10.StoreTells" = some 5 by kernel_rfl).symm.trans hf) |>.symm;obtain rfl : fn = Tryz.f5 := (Option.some.inj (Tryz.func5.symm.trans hfn)).symm;refine ⟨by kernel_rfl, fun j t ht => ?_⟩;rw [Tryz.params5] at ht;have hm : t ∈ [22, 9, 9] := by have := Array.mem_of_getElem? ht; simpa using this
  have hall : ([22, 9, 9].all fun u => !Tryz.prog.wantsStandIn u) = true := by kernel_rfl
  exact (show Tryz.prog.wantsStandIn t = false by simpa using List.all_eq_true.1 hall t hm)

/-- The statement. -/
theorem proved : Rows.StoreTellsUptoCardSaid :=
  Claim7.holds_tied_plain_at .later [] _ _ _ _ over (fun _ h => by cases h) (by kernel_rfl) (fun _ h => by cases h) storeTellsUpto_row_tie rfl ⟨rfl, rfl⟩ (by kernel_rfl) rfl plain (by kernel_rfl)
#print axioms proved
end StoreTellsDone
end Go.Proofs.YtipfcejaekfogaaGreatDoor

/- StoreUids returns true, whatever the deeds. No condition. -/
import Derived.Test.YtipfcejaekfogaaZH
import Derived.Test.YtipfcejaekfogaaRows
import Derived.OpenShut
import Derived.ShutString
import Derived.HandedShaped
namespace Go.Proofs.Ytipfcejaekfogaa
namespace StoreUidsDone
open Go Go.Ev Go.Su Go.ChangeShapes Go.WideShapes Go.ChangeAt Go.RowKit
theorem own : ownKnob Try.prog.godebug = none := by kernel_rfl
theorem laidOut : laidOutB Try.prog = true := by kernel_rfl
set_option maxRecDepth 100000 in
theorem lifted (os : Os) (started : os.Started) (H : Type) (enc : TypeId × Value → H) :
    ReturnsInHanded {} Try.checked os 3 .any (Rows.storeUidsSpec.pre6 enc Try.prog Try.f3 Rows.storeUidsRow.domain false) (Rows.storeUidsSpec.post enc Try.prog Try.f3 false true false false) := by
  refine returnsInHanded_of_change_shaped (C := Try.checked) own started (by kernel_rfl) Try.func3
    (ChangeSpec.witness6 (enc := enc) (C := Try.checked) false ⟨#[], #[.slice none 0 0], []⟩ 8 (by kernel_rfl) (by kernel_rfl) (by kernel_rfl) (by kernel_rfl)) ?_
  intro W base args ds gs before hval0 hW hcnd hwt hsh _
  have hval : ∀ (j : Nat) t v, Try.f3.params[j]? = some t → args[j]? = some v → Value.okWide Try.prog W .any base t v := hval0
  have hW' := hW
  obtain ⟨p, q, hA0, hV, rfl, hfz, hnd⟩ := hW
  have hA : DataW.TrodAll enc Try.prog W 0 (fun _ => true) true Try.f3.params.toList args.toList ds p := hA0
  rw [Try.params3] at hA hval
  obtain ⟨v0, vs0, d0, ds0, p0, q0, hargs, rfl, rfl, h0, r0⟩ := trodAll_cons hA
  obtain ⟨rfl, rfl, rfl⟩ := trodAll_nil r0
  obtain rfl : args = #[v0] := by cases args; simp_all
  obtain ⟨rfl, rfl⟩ := trodVars_none hV
  have k0 := h0
  have lt0 : ∀ x ∈ p0, x.block < W.heap.size := by obtain ⟨m, hm⟩ := k0; exact DataW.trod_lt m _ _ _ hm
  obtain ⟨x0, e0, w0⟩ := open_arg' (.sl (.pair (.int .i64) (.pair .str (.pair .str (.pair .str (.pair (.int .i64) (.pair (.int .i64) (.pair .u8 (.pair (.int .i64) (.pair (.int .i64) (.pair (.sl .u8) .unit))))))))))) (by kernel_rfl) (by kernel_rfl) h0
  have b0 := arg_one (by rw [Try.underlying22]; simp) (by rw [Try.underlying22]; simp) (hval 0 22 v0 rfl rfl) e0
  have hrel : RelVs W (Not (noF : Frm (tabsOf Try.prog)) (fun _ => none) fun _ => .dead) (fun _ => none) (fun _ => .dead) (unL O3.args (x0, ())) [v0] := ⟨_, _, rfl, b0, rfl⟩
  have HT : (tabsOf Try.prog).tab W := tabs_max (by kernel_rfl) fun g hg => by
    obtain rfl : g = 0 := Option.some.inj (hg.symm.trans (show globAt Try.prog "internal/bytealg.MaxLen" = some 0 by kernel_rfl))
    exact Go.Su.maxl W hsh
  refine (told ok3 (p := (x0, ())) (law3 x0 fun d hd => (w0.2 d hd).2.1) HT hrel).mono fun e W' ⟨he, bel⟩ => ?_
  subst he
  exact ⟨_, rfl, _, _, _, [], _, [], hW', trodAll_mk1 (shut_bool Try.underlying4 _), (trodAll_cons_mk (Below.trod laidOut (by kernel_rfl) (of_decide_eq_true (by kernel_rfl)) k0 bel lt0) trodAll_mk0), rfl, bel.frame _, fun h => by cases h⟩

theorem over : Rows.storeUidsRow.holds Try.pinned (OpenSpec.ofChange Rows.storeUidsSpec) :=
  OpenClaim.holds_of_wide 3 Try.f3 rfl rfl rfl rfl rfl rfl rfl ⟨rfl, rfl, rfl, rfl, rfl⟩ rfl rfl rfl rfl rfl (by kernel_rfl) Try.func3 (by kernel_rfl)
    (of_decide_eq_true (by kernel_rfl)) (by unfold Func.isWrapper; first | (rw [if_pos (by decide +kernel)]; kernel_rfl) | (rw [if_neg (by decide +kernel)]; exact ⟨rfl, rfl⟩))
    (fun os started H enc _ => lifted os started H enc)

/-- The statement. -/
theorem proved : Rows.StoreUidsSaid := over
#print axioms proved
end StoreUidsDone
end Go.Proofs.Ytipfcejaekfogaa

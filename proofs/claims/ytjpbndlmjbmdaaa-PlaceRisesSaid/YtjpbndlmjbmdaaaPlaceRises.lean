/- PlaceRises returns true, whatever the number of shards and seats. No condition. -/
import Derived.Test.YtjpbndlmjbmdaaaPlq3
import Derived.Test.YtjpbndlmjbmdaaaEvW
import Derived.Test.YtjpbndlmjbmdaaaRows
import Derived.WalkKit
import Derived.ProofKit
import Derived.OpenShut
import Derived.ShutString
import Derived.ChangeOld
import Derived.Below
import Derived.HandedShaped
namespace Go.Proofs.Ytjpbndlmjbmdaaa
namespace PlaceRisesDone
open Go Go.Ev Go.Pl Go.ChangeShapes Go.WideShapes Go.ChangeAt Go.RowKit
theorem own : ownKnob Try.prog.godebug = none := by kernel_rfl
theorem laidOut : laidOutB Try.prog = true := by kernel_rfl
set_option maxRecDepth 100000 in
theorem lifted (os : Os) (started : os.Started) (H : Type) (enc : TypeId × Value → H) :
    ReturnsInHanded {} Try.checked os 6 .any (Rows.placeRisesSpec.pre6 enc Try.prog Try.f6 Rows.placeRisesRow.domain false) (Rows.placeRisesSpec.post enc Try.prog Try.f6 false true false false) := by
  refine returnsInHanded_of_change (C := Try.checked) own started (by kernel_rfl) Try.func6
    (ChangeSpec.witness6 (enc := enc) (C := Try.checked) false ⟨#[], #[.int .u8 0, .slice none 0 0], []⟩ 8 (by kernel_rfl) (by kernel_rfl) (by kernel_rfl) (by kernel_rfl)) ?_
  intro W base args ds gs before hval0 hW hcnd _
  have hval : ∀ (j : Nat) t v, Try.f6.params[j]? = some t → args[j]? = some v → Value.okWide Try.prog W .any base t v := hval0
  have hW' := hW
  obtain ⟨p, q, hA0, hV, rfl, hfz, hnd⟩ := hW
  have hA : DataW.TrodAll enc Try.prog W 0 (fun _ => true) true Try.f6.params.toList args.toList ds p := hA0
  rw [Try.params6] at hA hval
  obtain ⟨v0, vs0, d0, ds0, p0, q0, hargs, rfl, rfl, h0, r0⟩ := trodAll_cons hA
  obtain ⟨v1, vs1, d1, ds1, p1, q1, rfl, rfl, rfl, h1, r1⟩ := trodAll_cons r0
  obtain ⟨rfl, rfl, rfl⟩ := trodAll_nil r1
  obtain rfl : args = #[v0, v1] := by cases args; simp_all
  obtain ⟨rfl, rfl⟩ := trodVars_none hV
  have k0 := h0
  have lt0 : ∀ x ∈ p0, x.block < W.heap.size := by obtain ⟨m, hm⟩ := k0; exact DataW.trod_lt m _ _ _ hm
  obtain ⟨x0, e0, w0⟩ := open_arg' .u8 (by kernel_rfl) (by kernel_rfl) h0
  have b0 := arg_one (by rw [Try.underlying5]; simp) (by rw [Try.underlying5]; simp) (hval 0 5 v0 rfl rfl) e0
  have k1 := h1
  have lt1 : ∀ x ∈ p1, x.block < W.heap.size := by obtain ⟨m, hm⟩ := k1; exact DataW.trod_lt m _ _ _ hm
  obtain ⟨x1, e1, w1⟩ := open_arg' (.sl (.pair .str (.pair (.int .i64) (.pair (.int .i64) .unit)))) (by kernel_rfl) (by kernel_rfl) h1
  have b1 := arg_one (by rw [Try.underlying29]; simp) (by rw [Try.underlying29]; simp) (hval 1 29 v1 rfl rfl) e1
  have hrel : RelVs W (Not (noF : Frm (tabsOf Try.prog)) (fun _ => none) fun _ => .dead) (fun _ => none) (fun _ => .dead) (unL O6.args (x0, x1, ())) [v0, v1] := ⟨_, _, rfl, b0, ⟨_, _, rfl, b1, rfl⟩⟩
  have HT : (tabsOf Try.prog).tab W := tabs_none (by kernel_rfl) (by kernel_rfl) W
  refine (told ok6 (p := (x0, x1, ())) (law6 x0 x1 w1.1 (fun s hs => (w1.2 s hs).1)) HT hrel).mono fun e W' ⟨he, bel⟩ => ?_
  subst he
  exact ⟨_, rfl, _, _, _, [], _, [], hW', trodAll_mk1 (shut_bool Try.underlying4 _), (trodAll_cons_mk (Below.trod laidOut (by kernel_rfl) (of_decide_eq_true (by kernel_rfl)) k0 bel lt0) (trodAll_cons_mk (Below.trod laidOut (by kernel_rfl) (of_decide_eq_true (by kernel_rfl)) k1 bel lt1) trodAll_mk0)), rfl, bel.frame _, fun h => by cases h⟩

theorem over : Rows.placeRisesRow.holds Try.pinned (OpenSpec.ofChange Rows.placeRisesSpec) :=
  OpenClaim.holds_of_wide 6 Try.f6 rfl rfl rfl rfl rfl rfl rfl ⟨rfl, rfl, rfl, rfl, rfl⟩ rfl rfl rfl rfl rfl (by kernel_rfl) Try.func6 (by kernel_rfl)
    (of_decide_eq_true (by kernel_rfl)) (by unfold Func.isWrapper; first | (rw [if_pos (by decide +kernel)]; kernel_rfl) | (rw [if_neg (by decide +kernel)]; exact ⟨rfl, rfl⟩))
    (fun os started H enc _ => lifted os started H enc)

/-- The statement. -/
theorem proved : Rows.PlaceRisesSaid := over
#print axioms proved
end PlaceRisesDone
end Go.Proofs.Ytjpbndlmjbmdaaa

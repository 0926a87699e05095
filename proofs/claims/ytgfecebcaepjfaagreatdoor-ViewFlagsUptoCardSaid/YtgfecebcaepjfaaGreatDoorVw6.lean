/- Flags in words, there and back. -/
import Derived.Test.YtgfecebcaepjfaaGreatDoorVw5
namespace Go.Vw
open Go Go.Ev
set_option maxRecDepth 100000

/-- there and back -/
noncomputable def chk (f : UInt8) : Bool := match F8 ((f, ()), ()), F9 ((f, ()), ()) with
  | some (s, _), some (s', _) => decide (s = s') && !decide ((((List.length s) : Nat) : Int) < (2:Int)) && (match L3_0 F6 F7 F8 F9 F10 ((f, s, (), (1:Int), (1:Int), ()), (([]:List (List UInt8)), ())) with
    | some q => decide (q.1.1 = f) && (match F6 ((q.2.1, ()), ()) with
      | some r => r.1.2.1 && decide (r.1.1 = q.1.1 % 32)
      | none => false)
    | none => false)
  | _, _ => false

theorem chk_all : (List.range 256).all (fun n => chk (UInt8.ofNat n)) = true := by kernel_rfl

theorem chk_at (f : UInt8) : chk f = true := by
  have h := List.all_eq_true.1 chk_all f.toNat (List.mem_range.2 f.toNat_lt)
  rwa [UInt8.ofNat_toNat] at h

theorem law3 (f : UInt8) (l : List (List UInt8)) (hl : l.length ≤ 8000000) (hx : ∀ w ∈ l, w.length ≤ 8000000) : F3 ((f, l, ()), ()) = some (true, ()) := by
  have h6 := F6_eq l hl hx
  have h7 := F7_eq l hl hx
  have hc := chk_at f
  unfold chk at hc
  cases h8 : F8 ((f, ()), ()) with
  | none => rw [h8] at hc; cases hc
  | some q8 =>
    cases h9 : F9 ((f, ()), ()) with
    | none => rw [h8, h9] at hc; cases hc
    | some q9 =>
      obtain ⟨s, u⟩ := q8
      obtain ⟨s', u'⟩ := q9
      rw [h8, h9] at hc
      simp only at hc
      cases hL : L3_0 F6 F7 F8 F9 F10 ((f, s, (), (1:Int), (1:Int), ()), (([]:List (List UInt8)), ())) with
      | none => rw [hL] at hc; simp only [Bool.and_false, Bool.false_eq_true] at hc
      | some q =>
        rw [hL] at hc
        simp only at hc
        cases hq : F6 ((q.2.1, ()), ()) with
        | none => rw [hq] at hc; simp only [Bool.and_false, Bool.false_eq_true] at hc
        | some r =>
          rw [hq] at hc
          simp only [Bool.and_eq_true, decide_eq_true_eq, Bool.not_eq_true', decide_eq_false_iff_not] at hc
          obtain ⟨⟨rfl, c2⟩, c3, c4, c5⟩ := hc
          have e2 : decide ((((List.length s) : Nat) : Int) < (2:Int)) = false := decide_eq_false c2
          have e3 : decide ((32 : UInt8) ≠ 0) = true := rfl
          have hlive := live_true
          unfold F3 F3a
          simp only [h6, h7, h8, h9, Option.bind_some, decide_true, Bool.not_true, beq_self_eq_true, Bool.or_self, Bool.not_false, cond_true, cond_false, e2, hL, hq, hlive, e3, Bool.true_or, c4, Bool.and_self, c5]

end Go.Vw

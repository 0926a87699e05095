/- What was printed is read back: the law ViewPrints in plain Lean. -/
import Derived.Test.YtgfecebcaepjfaaGreatDoorVqq6
namespace Go.Vw
open Go Go.Ev
set_option maxRecDepth 100000

theorem ascii_app (a b : List UInt8) : ascii (a ++ b) = (ascii a && ascii b) := by unfold ascii; rw [List.all_append]

theorem ascii_of {s : List UInt8} (h : ∀ c ∈ s, c.toNat < 128) : ascii s = true := List.all_eq_true.2 fun c hc => decide_eq_true (h c hc)

theorem ascii_jt : ∀ (l : List (List UInt8)), (∀ w ∈ l, ascii w = true) → ascii (Lib.joinTail [32] l) = true
  | [], _ => rfl
  | w :: l, h => by
    rw [jt_cons]
    have e : ascii (32 :: (w ++ Lib.joinTail [32] l)) = ascii (w ++ Lib.joinTail [32] l) := rfl
    rw [e, ascii_app, h w (by simp), ascii_jt l fun v hv => h v (by simp [hv])]
    rfl

theorem ascii_join {l : List (List UInt8)} (h : ∀ w ∈ l, ascii w = true) : ascii (Lib.join l [32]) = true := by
  cases l with
  | nil => rfl
  | cons w l =>
    rw [Lib.join_cons, ascii_app, h w (by simp), ascii_jt l fun v hv => h v (by simp [hv])]
    rfl

theorem wd_ascii {see : Int} (h1 : 1 ≤ see) (h5 : see ≤ 5) : ascii (wd see) = true := by
  have q : see = 1 ∨ see = 2 ∨ see = 3 ∨ see = 4 ∨ see = 5 := by omega
  rcases q with rfl | rfl | rfl | rfl | rfl <;> rfl

theorem num_ascii (n : Int) : ascii (numI n) = true := by
  refine ascii_of fun c hc => ?_
  have := (dg_plain (num_all n.toNat c hc)).1
  unfold plainc at this
  rw [Bool.and_eq_true, decide_eq_true_eq] at this
  exact this.1

theorem wrd_ascii {x : It} (hx : good1 x) : ascii (wrd x) = true := by
  obtain ⟨see, path, names, part, fr, sz, ⟨⟩⟩ := x
  unfold wrd
  rcases ok_cases hx with ⟨rfl, _, _, _, _, a0, a1, a2⟩ | ⟨rfl, _, k1, k2, a1, a2⟩ | ⟨b1, b2, _⟩
  · rw [if_pos rfl, ascii_app, ascii_app, ascii_join fun w hw => ascii_of fun c hc => (gd_plain (name_gd (a2 w hw) c hc)).1]
    rfl
  · rw [if_neg (show ¬ (6 : Int) = 7 by decide), if_pos rfl, ascii_app, ascii_app, ascii_app, plain_ascii (path_plain k1)]
    cases part
    · rfl
    · have : ascii (ptW fr sz) = true := by
        unfold ptW
        rw [ascii_app, ascii_app, ascii_app, ascii_app, num_ascii, num_ascii]
        rfl
      simp only [cond_true, this]
      rfl
  · have h7 : ¬ see = 7 := by omega
    have h6 : ¬ see = 6 := by omega
    simp only [h7, h6, if_false]
    exact wd_ascii b1 b2

theorem L18_iter : ∀ (t : List It) (x : It) (out : List It) (fuel : Nat), (∀ y ∈ x :: t, good1 y) → out.length + t.length ≤ 100 → t.length < fuel →
    iter B18_0 fuel (((), Lib.join ((x :: t).map wrd) [32] ++ [41], true, ()), (out, ())) = some (.inl (((), [41], true, ()), (out ++ x :: t, ()))) := by
  intro t
  induction t with
  | nil =>
    intro x out fuel h ho hf
    obtain ⟨fuel, rfl⟩ : ∃ f, fuel = f + 1 := ⟨fuel - 1, by simp only [List.length_nil] at hf; omega⟩
    simp only [List.length_nil] at ho
    have hx := h x (by simp)
    have hj : Lib.join ([x].map wrd) [32] ++ [41] = wrd x ++ 41 :: [] := by rw [List.map_cons, List.map_nil, Lib.join_one]
    have h42 := F42_eq hx 41 [] (.inr rfl) (by simp) (by rw [ascii_app, wrd_ascii hx]; rfl)
    have by0 : ∀ z : It, bytesOK (out.length + ([z] : List It).length) 72 = true := fun z => by unfold bytesOK; exact decide_eq_true (by simp only [List.length_singleton]; omega)
    obtain ⟨see, path, names, part, fr, sz, ⟨⟩⟩ := x
    rw [hj]
    simp only [iter, B18_0, h42, Option.bind_some, Bool.not_true, cond_false, by0, cond_true, Bool.not_false, pre_no 41 32 [] (by decide)]
  | cons y t ih =>
    intro x out fuel h ho hf
    obtain ⟨fuel, rfl⟩ : ∃ f, fuel = f + 1 := ⟨fuel - 1, by simp only [List.length_cons] at hf; omega⟩
    simp only [List.length_cons] at ho hf
    have hx := h x (by simp)
    have hall : ∀ z ∈ y :: t, good1 z := fun z hz => h z (by simp [hz])
    have hj : Lib.join ((x :: y :: t).map wrd) [32] ++ [41] = wrd x ++ 32 :: (Lib.join ((y :: t).map wrd) [32] ++ [41]) := by
      rw [List.map_cons, List.map_cons, join_two, ← List.map_cons]; simp
    have hb := words_bd hall
    have hjl := join_bd ((y :: t).map wrd)
    simp only [List.length_cons] at hb
    have hrl : (Lib.join ((y :: t).map wrd) [32] ++ [41]).length ≤ 900000000 := by simp only [List.length_append, List.length_singleton]; omega
    have hasc : ascii (Lib.join ((y :: t).map wrd) [32] ++ [41]) = true := by
      rw [ascii_app, ascii_join fun w hw => ?_]
      · rfl
      · obtain ⟨z, hz, rfl⟩ := List.mem_map.1 hw
        exact wrd_ascii (hall z hz)
    generalize hR : Lib.join ((y :: t).map wrd) [32] ++ [41] = R at *
    have h42 := F42_eq hx 32 R (.inl rfl) hrl (by
      rw [ascii_app, wrd_ascii hx, Bool.true_and]
      exact hasc)
    have by0 : ∀ z : It, bytesOK (out.length + ([z] : List It).length) 72 = true := fun z => by unfold bytesOK; exact decide_eq_true (by simp only [List.length_singleton]; omega)
    have ih' := ih y (out ++ [x]) fuel hall (by simp only [List.length_append, List.length_singleton]; omega) (by omega)
    rw [hR] at ih'
    have e1 : decide ((1 : Int) ≤ (((32 :: R).length : Nat) : Int)) = true := decide_eq_true (by simp only [List.length_cons]; omega)
    have e2 : decide ((((32 :: R).length : Nat) : Int) ≤ (((32 :: R).length : Nat) : Int)) = true := decide_eq_true (by omega)
    have et : ((32 :: R).drop 1).take ((32 :: R).length - 1) = R := by
      rw [List.length_cons]
      show R.take (R.length + 1 - 1) = R
      rw [List.take_of_length_le (by omega)]
    obtain ⟨see, path, names, part, fr, sz, ⟨⟩⟩ := x
    rw [hj]
    have hfin : out ++ (see, path, names, part, fr, sz, ()) :: y :: t = (out ++ [(see, path, names, part, fr, sz, ())]) ++ y :: t := by simp
    rw [hfin, ← ih']
    conv => lhs; unfold iter
    simp only [B18_0, h42, Option.bind_some, Bool.not_true, cond_false, by0, cond_true, Bool.not_false, pre_yes, e1, e2, Bool.and_self, Int.toNat_natCast, et]

theorem F18_eq (l : List It) (hc : chk l = 0) (hx : ∀ x ∈ l, szItem x) : F18 ((prn l, ()), ()) = some ((l, 0, ()), ()) := by
  have hF := FUEL_big
  have hl2 : l ≠ [] ∧ l.length ≤ 12 ∧ chk1 l = 0 := by
    unfold chk at hc
    by_cases h0 : l.length = 0
    · rw [if_pos h0] at hc; exact absurd hc (by decide)
    rw [if_neg h0] at hc
    by_cases h1 : 12 < l.length
    · rw [if_pos h1] at hc; exact absurd hc (by decide)
    rw [if_neg h1] at hc
    exact ⟨fun e => h0 (by rw [e]; rfl), by omega, hc⟩
  have hgd := chk1_good hl2.2.2 hx
  have hb := words_bd hgd
  have hjl := join_bd (l.map wrd)
  have hp : prn l = 40 :: (Lib.join (l.map wrd) [32] ++ [41]) := by unfold prn; simp
  generalize hR : Lib.join (l.map wrd) [32] ++ [41] = R at hp
  have hRl : R.length ≤ 100000000 := by rw [← hR]; simp only [List.length_append, List.length_singleton]; omega
  have h40 := F40_eq (40 :: R) (by simp only [List.length_cons]; unfold maxLen; omega)
  have em : (40 :: R).map lowc = 40 :: R.map lowc := rfl
  rw [em] at h40
  have k1 : decide ((40 :: R.map lowc : List UInt8) = [102, 97, 115, 116]) = false := decide_eq_false (fun e => absurd (List.cons.inj e).1 (by decide))
  have k2 : decide ((40 :: R.map lowc : List UInt8) = [97, 108, 108]) = false := decide_eq_false (fun e => absurd (List.cons.inj e).1 (by decide))
  have k3 : decide ((40 :: R.map lowc : List UInt8) = [102, 117, 108, 108]) = false := decide_eq_false (fun e => absurd (List.cons.inj e).1 (by decide))
  have e1 : decide (((([40] : List UInt8).length : Nat) : Int) ≤ (((40 :: R).length : Nat) : Int)) = true := decide_eq_true (by simp only [List.length_cons, List.length_nil]; omega)
  have e2 : decide ((((40 :: R).length : Nat) : Int) ≤ (((40 :: R).length : Nat) : Int)) = true := decide_eq_true (by omega)
  have e3 : (40 :: R).take (([40] : List UInt8).length) = [40] := rfl
  have e4 : ((40 :: R).drop (([40] : List UInt8).length)).take ((40 :: R).length - ([40] : List UInt8).length) = R := by
    show R.take (R.length + 1 - 1) = R
    rw [List.take_of_length_le (by omega)]
  have h41 : F41 ((40 :: R, ([40]:List UInt8), ()), ()) = some ((R, true, ()), ()) := by
    simp only [F41, F71, F75, nat_nn, e1, e2, Bool.and_self, Bool.true_or, cond_true, Int.toNat_natCast, e3, decide_true, Option.bind_some, Bool.not_true, cond_false, e4]
  have hL : L18_0 (((), R, true, ()), (([] : List It), ())) = some (.inl (((), [41], true, ()), (l, ()))) := by
    obtain ⟨x, t, rfl⟩ : ∃ x t, l = x :: t := by
      cases l with
      | nil => exact absurd rfl hl2.1
      | cons x t => exact ⟨x, t, rfl⟩
    have hlen := hl2.2.1
    simp only [List.length_cons] at hlen
    have := L18_iter t x [] FUEL hgd (by simp only [List.length_nil]; omega) (by omega)
    rw [hR] at this
    exact this
  have h17 := F17_eq l (by have := hl2.2.1; omega) hx
  rw [hc] at h17
  rw [hp]
  simp only [F18, h40, Option.bind_some, k1, k2, k3, cond_false, h41, hL, decide_true, Bool.not_true, Bool.and_false, Bool.false_and, Bool.or_self, h17]

theorem parse_empty : F18 ((([] : List UInt8), ()), ()) = some (([], 4, ()), ()) := by kernel_rfl

theorem law5 (l : List It) (hl : l.length ≤ 8000000) (hx : ∀ x ∈ l, szItem x) : F5 ((l, ()), ()) = some (true, ()) := by
  have h15 := F15_eq l hl hx
  have h16 := F16_eq l hl hx
  have h17 := F17_eq l hl hx
  have h12 := F12_eq l hl hx
  by_cases hc : chk l = 0
  · rw [if_pos hc] at h15 h16
    have h18 := F18_eq l hc hx
    have h19 := F19_same l hl hx
    simp only [F5, F5a, h15, h16, Option.bind_some, decide_true, Bool.not_true, Bool.or_self, Bool.not_false, cond_true, h17, h12, cond_false, h18, h19]
  · rw [if_neg hc] at h15 h16
    simp only [F5, F5a, h15, h16, Option.bind_some, decide_true, Bool.not_true, Bool.or_self, Bool.not_false, cond_true, h17, h12, cond_false, parse_empty, hc, decide_false]
end Go.Vw

namespace Go.Vw
open Go Go.Ev
set_option maxRecDepth 100000

theorem sum_count {α : Type} (g : α → Nat) (hg : ∀ x, 1 ≤ g x) : ∀ l : List α, l.length ≤ (l.map g).sum
  | [] => by simp
  | a :: l => by
    have := sum_count g hg l
    have := hg a
    simp only [List.length_cons, List.map_cons, List.sum_cons]
    omega

theorem sum_mem {α : Type} (g : α → Nat) : ∀ (l : List α) (x : α), x ∈ l → g x ≤ (l.map g).sum
  | [], x, h => by cases h
  | a :: l, x, h => by
    simp only [List.map_cons, List.sum_cons]
    rcases List.mem_cons.mp h with rfl | h
    · omega
    · have := sum_mem g l x h
      omega

abbrev itT : Ty := .pair (.int .i64) (.pair .str (.pair (.sl .str) (.pair .bool (.pair (.int .i64) (.pair (.int .i64) .unit)))))

theorem law5' (l : List It) (hz : sizD (.sl itT) l ≤ 1100000) : F5 ((l, ()), ()) = some (true, ()) := by
  have h1 : (List.map (sizD itT) l).sum ≤ 1100000 := hz
  have h2 := sum_count (sizD itT) (fun x => by simp only [sizD]; omega) l
  refine law5 l (by omega) fun x hx => ?_
  have h3 := sum_mem (sizD itT) l x hx
  obtain ⟨see, path, names, part, fr, sz, ⟨⟩⟩ := x
  have h4 : 1 + ((path.length + 1) + ((List.map (sizD .str) names).sum + (1 + (1 + (1 + 0))))) ≤ (List.map (sizD itT) l).sum := h3
  have h5 := sum_count (sizD .str) (fun x => by simp only [sizD]; omega) names
  refine ⟨by show path.length ≤ 1100000; omega, by show names.length ≤ 8000000; omega, fun w hw => ?_⟩
  have h6 := sum_mem (sizD .str) names w hw
  have h7 : w.length + 1 = sizD .str w := rfl
  omega
end Go.Vw

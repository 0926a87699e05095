/- Print, and the reference's. -/
import Derived.Test.YtgfecebcaepjfaaGreatDoorVqq4
import Derived.Lib.IndexBytes
namespace Go.Vw
open Go Go.Ev
set_option maxRecDepth 100000

def bd (l : List (List UInt8)) : Nat := (l.map fun w => w.length + 1).sum

theorem bd_cons (w : List UInt8) (l : List (List UInt8)) : bd (w :: l) = w.length + 1 + bd l := by simp [bd]

theorem jt_cons (w : List UInt8) (l : List (List UInt8)) : Lib.joinTail [32] (w :: l) = 32 :: (w ++ Lib.joinTail [32] l) := by simp [Lib.joinTail]

theorem join_bd (l : List (List UInt8)) : (Lib.join l [32]).length ≤ bd l := by
  cases l with
  | nil => simp [Lib.join_nil]
  | cons x r =>
    rw [Lib.join_cons, bd_cons]
    have : ∀ r : List (List UInt8), (Lib.joinTail [32] r).length = bd r := by
      intro r
      induction r with
      | nil => rfl
      | cons y r ih => rw [jt_cons, bd_cons]; simp only [List.length_cons, List.length_append, ih]; omega
    rw [List.length_append, this]
    omega

theorem L36_iter (L : List (List UInt8)) (hL : L.length ≤ 8000000) : ∀ (t : List (List UInt8)) (i fuel : Nat) (out : List UInt8), L.drop i = t → t.length < fuel → 0 < i → out.length + bd t ≤ 1000000000 →
    iter B36_0 fuel ((L, out, (i : Int), ()), ()) = some ((out ++ Lib.joinTail [32] t, ()), ()) := by
  intro t
  induction t with
  | nil =>
    intro i fuel out h hf _ _
    obtain ⟨fuel, rfl⟩ : ∃ f, fuel = f + 1 := ⟨fuel - 1, by simp only [List.length_nil] at hf; omega⟩
    have hk : ¬ i < L.length := by
      have := congrArg List.length h
      simp only [List.length_drop, List.length_nil] at this
      omega
    have e : decide ((i : Int) < ((L.length : Nat) : Int)) = false := decide_eq_false (by omega)
    simp only [iter, B36_0, e, cond_false, Lib.joinTail, List.map_nil, List.flatten_nil, List.append_nil]
  | cons a t ihh =>
    intro i fuel out h hf hi hb
    obtain ⟨fuel, rfl⟩ : ∃ f, fuel = f + 1 := ⟨fuel - 1, by simp only [List.length_cons] at hf; omega⟩
    simp only [List.length_cons] at hf
    rw [bd_cons] at hb
    obtain ⟨g1, g2, g3⟩ := getD_drop [] h
    have e : decide ((i : Int) < ((L.length : Nat) : Int)) = true := decide_eq_true (by omega)
    have e0 : decide ((0 : Int) < ((i : Nat) : Int)) = true := decide_eq_true (by omega)
    have f1 : fits (out.length + ([32] : List UInt8).length) = true := by unfold fits; exact decide_eq_true (by simp only [List.length_singleton]; omega)
    have f2 : fits ((out ++ [32]).length + a.length) = true := by unfold fits; exact decide_eq_true (by simp only [List.length_append, List.length_singleton]; omega)
    have ih := ihh (i + 1) fuel ((out ++ [32]) ++ a) g3 (by omega) (by omega) (by simp only [List.length_append, List.length_singleton]; omega)
    simp only [iter, B36_0, e, e0, cond_true, f1, f2, nat_nn, Bool.and_self, Int.toNat_natCast, g1, Option.bind_some, w64_nat (show i < 9223372036854775807 by omega)]
    rw [ih, jt_cons]
    simp

theorem F36_eq (L : List (List UInt8)) (hL : L.length ≤ 8000000) (hb : bd L ≤ 1000000000) : F36 ((L, ()), ()) = some (Lib.join L [32], ()) := by
  obtain ⟨F, hF⟩ : ∃ F, FUEL = F + 1 := ⟨FUEL - 1, by have := FUEL_big; omega⟩
  have hFb := FUEL_big
  have h : L36_0 ((L, ([]:List UInt8), (0:Int), ()), ()) = some ((Lib.join L [32], ()), ()) := by
    cases L with
    | nil =>
      suffices hh : iter B36_0 FUEL (([], ([]:List UInt8), (0:Int), ()), ()) = some (([], ()), ()) from hh
      rw [hF]
      rfl
    | cons a t =>
      suffices hh : iter B36_0 FUEL ((a :: t, ([]:List UInt8), (0:Int), ()), ()) = some ((Lib.join (a :: t) [32], ()), ()) from hh
      rw [hF]
      rw [bd_cons] at hb
      simp only [List.length_cons] at hL
      have e : decide ((0 : Int) < (((a :: t).length : Nat) : Int)) = true := decide_eq_true (by simp only [List.length_cons]; omega)
      have e0 : decide ((0 : Int) < (0 : Int)) = false := rfl
      have e1 : decide ((0 : Int) ≤ (0 : Int)) = true := rfl
      have f2 : fits (([] : List UInt8).length + a.length) = true := by unfold fits; exact decide_eq_true (by simp only [List.length_nil]; omega)
      have ih := L36_iter (a :: t) (by simp only [List.length_cons]; omega) t 1 F ([] ++ a) rfl (by omega) (by omega) (by simp only [List.length_append, List.length_nil]; omega)
      have ew : w64 ((0 : Int) + 1) = ((1 : Nat) : Int) := rfl
      have eg : List.getD (a :: t) (Int.toNat 0) ([] : List UInt8) = a := rfl
      simp only [iter, B36_0, e, e0, e1, cond_true, cond_false, Option.bind_some, Bool.and_self, eg, f2, ew]
      rw [ih, Lib.join_cons]
      rfl
  simp only [F36, h, Option.bind_some]

def wd (n : Int) : List UInt8 :=
  if n = 1 then [85, 73, 68] else if n = 2 then [70, 76, 65, 71, 83] else if n = 3 then [82, 70, 67, 56, 50, 50, 46, 83, 73, 90, 69] else if n = 4 then [69, 78, 86, 69, 76, 79, 80, 69] else if n = 5 then [66, 79, 68, 89, 83, 84, 82, 85, 67, 84, 85, 82, 69] else []

theorem F35_eq (n : Int) : F35 ((n, ()), ()) = some (wd n, ()) := by
  unfold wd
  by_cases h1 : n = 1
  · subst h1; rfl
  by_cases h2 : n = 2
  · subst h2; rfl
  by_cases h3 : n = 3
  · subst h3; rfl
  by_cases h4 : n = 4
  · subst h4; rfl
  by_cases h5 : n = 5
  · subst h5; rfl
  simp only [F35, h1, h2, h3, h4, h5, decide_false, cond_false, if_false]

def hfW : List UInt8 := [66, 79, 68, 89, 46, 80, 69, 69, 75, 91, 72, 69, 65, 68, 69, 82, 46, 70, 73, 69, 76, 68, 83, 32, 40]
def bpW : List UInt8 := [66, 79, 68, 89, 46, 80, 69, 69, 75, 91]

def ptW (fr sz : Int) : List UInt8 := [60] ++ (numI fr ++ ([46] ++ (numI sz ++ [62])))

def wrd (x : It) : List UInt8 :=
  if x.1 = 7 then hfW ++ (Lib.join x.2.2.1 [32] ++ [41, 93])
  else if x.1 = 6 then bpW ++ (x.2.1 ++ ([93] ++ cond x.2.2.2.1 (ptW x.2.2.2.2.1 x.2.2.2.2.2.1) []))
  else wd x.1

/-- an item that may be printed -/
def good1 (x : It) : Prop := okItem x = true ∧ szItem x ∧ 1 ≤ x.1 ∧ x.1 ≤ 7

theorem chk1_good : ∀ {l : List It}, chk1 l = 0 → (∀ x ∈ l, szItem x) → ∀ x ∈ l, good1 x
  | [], _, _, _, h => by cases h
  | y :: r, hc, hs, x, hx => by
    unfold chk1 at hc
    by_cases h1 : y.1 < 1 ∨ 7 < y.1
    · rw [if_pos h1] at hc; exact absurd hc (by decide)
    rw [if_neg h1] at hc
    by_cases h2 : okItem y = true
    · rw [if_pos h2] at hc
      rcases List.mem_cons.1 hx with rfl | hx
      · exact ⟨h2, hs _ (by simp), by omega, by omega⟩
      · exact chk1_good hc (fun z hz => hs z (by simp [hz])) x hx
    · rw [if_neg h2] at hc; exact absurd hc (by decide)

/-- what is known of an item that is right -/
theorem ok_cases {see : Int} {path : List UInt8} {names : List (List UInt8)} {part : Bool} {fr sz : Int} (h : good1 (see, path, names, part, fr, sz, ())) :
    (see = 7 ∧ path = [] ∧ part = false ∧ fr = 0 ∧ sz = 0 ∧ 0 < names.length ∧ names.length ≤ 16 ∧ (∀ w ∈ names, nameOK w = true)) ∨
    (see = 6 ∧ names = [] ∧ okPath path = true ∧ path.map upc = path ∧ path.length ≤ 1100000 ∧ ((part = true ∧ bnd fr = true ∧ bnd sz = true ∧ 0 < sz) ∨ (part = false ∧ fr = 0 ∧ sz = 0))) ∨
    (1 ≤ see ∧ see ≤ 5 ∧ path = [] ∧ names = [] ∧ part = false ∧ fr = 0 ∧ sz = 0) := by
  obtain ⟨ho, ⟨hz, _, _⟩, h1, h2⟩ := h
  have hz : path.length ≤ 1100000 := hz
  have h1 : 1 ≤ see := h1
  have h2 : see ≤ 7 := h2
  unfold okItem at ho
  by_cases h6 : see = 6
  · subst h6
    right; left
    simp only [if_true, Bool.and_eq_true, decide_eq_true_eq] at ho
    obtain ⟨⟨⟨a1, a2⟩, a3⟩, a4⟩ := ho
    refine ⟨rfl, a3, a1, a2, hz, ?_⟩
    cases part with
    | true =>
      simp only [cond_true, Bool.and_eq_true, decide_eq_true_eq] at a4
      exact .inl ⟨rfl, a4.1.1, a4.1.2, a4.2⟩
    | false =>
      simp only [cond_false, Bool.and_eq_true, decide_eq_true_eq] at a4
      exact .inr ⟨rfl, a4.1, a4.2⟩
  · simp only [h6, if_false, Bool.and_eq_true, decide_eq_true_eq, Bool.not_eq_true'] at ho
    obtain ⟨⟨⟨a1, a2⟩, a3, a4⟩, a5⟩ := ho
    by_cases h7 : see = 7
    · subst h7
      left
      simp only [if_true, Bool.and_eq_true, decide_eq_true_eq, List.all_eq_true] at a5
      exact ⟨rfl, a1, a2, a3, a4, a5.1.1, a5.1.2, a5.2⟩
    · right; right
      simp only [h7, if_false, decide_eq_true_eq] at a5
      exact ⟨h1, by omega, a1, a5, a2, a3, a4⟩

theorem name_len {w : List UInt8} (h : nameOK w = true) : w.length ≤ 24 := by
  unfold nameOK rn at h
  simp only [Bool.and_eq_true, decide_eq_true_eq] at h
  exact h.1.2.2

theorem names_bd : ∀ {l : List (List UInt8)}, (∀ w ∈ l, nameOK w = true) → bd l ≤ 25 * l.length
  | [], _ => by simp [bd]
  | w :: l, h => by
    rw [bd_cons]
    have h1 := name_len (h w (by simp))
    have h2 := names_bd (l := l) fun v hv => h v (by simp [hv])
    simp only [List.length_cons]
    omega

theorem ptW_len (fr sz : Int) : (ptW fr sz).length ≤ 23 := by
  have h1 := num_len fr.toNat
  have h2 := num_len sz.toNat
  unfold ptW numI
  simp only [List.length_append, List.length_singleton]
  omega

theorem wd_len (n : Int) : (wd n).length ≤ 13 := by
  unfold wd
  repeat' split
  all_goals simp

theorem wrd_len {x : It} (h : good1 x) : (wrd x).length ≤ 1200000 := by
  obtain ⟨see, path, names, part, fr, sz, ⟨⟩⟩ := x
  unfold wrd
  rcases ok_cases h with ⟨rfl, _, _, _, _, _, a1, a2⟩ | ⟨rfl, _, _, _, a1, _⟩ | ⟨b1, b2, _⟩
  · have h1 := join_bd names
    have h2 := names_bd a2
    simp only [if_true, hfW, List.length_append, List.length_cons, List.length_nil]
    omega
  · have h3 := ptW_len fr sz
    rw [if_neg (show ¬ (6 : Int) = 7 by decide), if_pos rfl]
    simp only [bpW, List.length_append, List.length_cons, List.length_nil]
    cases part
    · simp only [cond_false, List.length_nil]; omega
    · simp only [cond_true]; omega
  · have h7 : ¬ see = 7 := by omega
    have h6 : ¬ see = 6 := by omega
    simp only [h7, h6, if_false]
    have := wd_len see
    omega

theorem fits_of {n : Nat} (h : n ≤ 9000000000) : fits n = true := by unfold fits; exact decide_eq_true (by omega)

theorem L15_iter (l : List It) (hl : l.length ≤ 12) (hx : ∀ x ∈ l, good1 x) : ∀ (t : List It) (i fuel : Nat) (out : List (List UInt8)), l.drop i = t → t.length < fuel → out.length ≤ 100 + i →
    iter B15_0 fuel (((), l, (l.length : Int), (i : Int), ()), (out, ())) = some (((), ()), (out ++ t.map wrd, ())) := by
  intro t
  induction t with
  | nil =>
    intro i fuel out h hf _
    obtain ⟨fuel, rfl⟩ : ∃ f, fuel = f + 1 := ⟨fuel - 1, by simp only [List.length_nil] at hf; omega⟩
    have hk : ¬ i < l.length := by
      have := congrArg List.length h
      simp only [List.length_drop, List.length_nil] at this
      omega
    have e : decide ((i : Int) < ((l.length : Nat) : Int)) = false := decide_eq_false (by omega)
    simp only [iter, B15_0, e, cond_false, List.map_nil, List.append_nil]
  | cons a t ihh =>
    intro i fuel out h hf ho
    obtain ⟨fuel, rfl⟩ : ∃ f, fuel = f + 1 := ⟨fuel - 1, by simp only [List.length_cons] at hf; omega⟩
    simp only [List.length_cons] at hf
    obtain ⟨g1, g2, g3⟩ := getD_drop (0, [], [], false, 0, 0, ()) h
    have hm : a ∈ l := List.mem_of_mem_drop (by rw [h]; simp)
    have e : decide ((i : Int) < ((l.length : Nat) : Int)) = true := decide_eq_true (by omega)
    have hg := hx a hm
    have ih := ihh (i + 1) fuel (out ++ [wrd a]) g3 (by omega) (by simp only [List.length_append, List.length_singleton]; omega)
    have hwl := wrd_len hg
    have by0 : ∀ z : List UInt8, bytesOK (out.length + ([z] : List (List UInt8)).length) 16 = true := fun z => by unfold bytesOK; exact decide_eq_true (by simp only [List.length_singleton]; omega)
    obtain ⟨see, path, names, part, fr, sz, ⟨⟩⟩ := a
    have hfin : some (((), ()), ((out ++ [wrd (see, path, names, part, fr, sz, ())]) ++ t.map wrd, ())) = some (((), ()), (out ++ (wrd (see, path, names, part, fr, sz, ()) :: t.map wrd), ())) := by simp
    rw [List.map_cons, ← hfin, ← ih]
    rcases ok_cases hg with ⟨rfl, rfl, rfl, rfl, rfl, a0, a1, a2⟩ | ⟨rfl, rfl, _, _, a1, a2⟩ | ⟨b1, b2, rfl, rfl, rfl, rfl, rfl⟩
    · have hw : wrd (7, [], names, false, 0, 0, ()) = (hfW ++ Lib.join names [32]) ++ [41, 93] := by unfold wrd; rw [if_pos rfl]; simp
      have h1 := join_bd names
      have h2 := names_bd a2
      have hfl : hfW.length = 25 := rfl
      have j1 : decide (names.length ≤ 140737488355328) = true := decide_eq_true (by omega)
      have j2 : decide ((Lib.join names [32]).length ≤ 140737488355328) = true := decide_eq_true (by omega)
      have f1 : fits (hfW.length + (Lib.join names [32]).length) = true := fits_of (by omega)
      have f2 : fits ((hfW ++ Lib.join names [32]).length + ([41, 93] : List UInt8).length) = true := fits_of (by simp only [List.length_append, List.length_cons, List.length_nil]; omega)
      have d7 : decide ((7:Int) = 7) = true := rfl
      rw [hw]
      unfold hfW at *
      conv => lhs; unfold iter
      simp only [B15_0, e, cond_true, nat_nn, Bool.and_self, Int.toNat_natCast, g1, Option.bind_some, F35_eq, d7, decide_true, decide_false, j1, j2, f1, f2, cond_false, by0, w64_nat (show i < 9223372036854775807 by omega)]
    · have d7 : decide ((6:Int) = 7) = false := rfl
      have d6 : decide ((6:Int) = 6) = true := rfl
      have hbl : bpW.length = 10 := rfl
      have f1 : fits (bpW.length + path.length) = true := fits_of (by omega)
      have f2 : fits ((bpW ++ path).length + ([93] : List UInt8).length) = true := fits_of (by simp only [List.length_append, List.length_cons, List.length_nil]; omega)
      rcases a2 with ⟨rfl, c1, c2, c3⟩ | ⟨rfl, rfl, rfl⟩
      · have hw : wrd (6, path, [], true, fr, sz, ()) = ((bpW ++ path) ++ [93]) ++ (((([60] ++ numI fr) ++ [46]) ++ numI sz) ++ [62]) := by unfold wrd ptW; rw [if_neg (show ¬ (6 : Int) = 7 by decide), if_pos rfl]; simp
        have n1 : (numI fr).length ≤ 10 := num_len _
        have n2 : (numI sz).length ≤ 10 := num_len _
        have f3 : fits (([60] : List UInt8).length + (numI fr).length) = true := fits_of (by simp only [List.length_singleton]; omega)
        have f4 : fits ((([60] : List UInt8) ++ numI fr).length + ([46] : List UInt8).length) = true := fits_of (by simp only [List.length_append, List.length_singleton]; omega)
        have f5 : fits (((([60] : List UInt8) ++ numI fr) ++ ([46] : List UInt8)).length + (numI sz).length) = true := fits_of (by simp only [List.length_append, List.length_singleton]; omega)
        have f6 : fits ((((([60] : List UInt8) ++ numI fr) ++ ([46] : List UInt8)) ++ numI sz).length + ([62] : List UInt8).length) = true := fits_of (by simp only [List.length_append, List.length_singleton]; omega)
        have f7 : fits (((bpW ++ path) ++ [93]).length + ((((([60] : List UInt8) ++ numI fr) ++ ([46] : List UInt8)) ++ numI sz) ++ ([62] : List UInt8)).length) = true := fits_of (by simp only [List.length_append, List.length_singleton]; omega)
        rw [hw]
        unfold bpW at *
        conv => lhs; unfold iter
        simp only [B15_0, e, cond_true, nat_nn, Bool.and_self, Int.toNat_natCast, g1, Option.bind_some, F35_eq, d7, d6, decide_true, decide_false, f1, f2, f3, f4, f5, f6, f7, cond_false, F34_eq' c1, F34_eq' c2, by0, w64_nat (show i < 9223372036854775807 by omega)]
      · have hw : wrd (6, path, [], false, 0, 0, ()) = (bpW ++ path) ++ [93] := by unfold wrd; rw [if_neg (show ¬ (6 : Int) = 7 by decide), if_pos rfl]; simp
        rw [hw]
        unfold bpW at *
        conv => lhs; unfold iter
        simp only [B15_0, e, cond_true, nat_nn, Bool.and_self, Int.toNat_natCast, g1, Option.bind_some, F35_eq, d7, d6, decide_true, decide_false, f1, f2, cond_false, by0, w64_nat (show i < 9223372036854775807 by omega)]
    · have h7 : ¬ see = 7 := by omega
      have h6 : ¬ see = 6 := by omega
      have hw : wrd (see, [], [], false, 0, 0, ()) = wd see := by unfold wrd; rw [if_neg h7, if_neg h6]
      rw [hw]
      conv => lhs; unfold iter
      simp only [B15_0, e, cond_true, nat_nn, Bool.and_self, Int.toNat_natCast, g1, Option.bind_some, F35_eq, decide_eq_false h7, decide_eq_false h6, cond_false, by0, w64_nat (show i < 9223372036854775807 by omega)]

theorem words_bd : ∀ {l : List It}, (∀ x ∈ l, good1 x) → bd (l.map wrd) ≤ 1200001 * l.length
  | [], _ => by simp [bd]
  | w :: l, h => by
    rw [List.map_cons, bd_cons]
    have h1 := wrd_len (h w (by simp))
    have h2 := words_bd (l := l) fun v hv => h v (by simp [hv])
    simp only [List.length_cons]
    omega

def prn (l : List It) : List UInt8 := ([40] ++ Lib.join (l.map wrd) [32]) ++ [41]

theorem F15_eq (l : List It) (hl : l.length ≤ 8000000) (hx : ∀ x ∈ l, szItem x) : F15 ((l, ()), ()) = some (if chk l = 0 then (prn l, 0, ()) else ([], chk l, ()), ()) := by
  have hF := FUEL_big
  by_cases hc : chk l = 0
  · have hl2 : l.length ≤ 12 ∧ chk1 l = 0 := by
      unfold chk at hc
      by_cases h0 : l.length = 0
      · rw [if_pos h0] at hc; exact absurd hc (by decide)
      rw [if_neg h0] at hc
      by_cases h1 : 12 < l.length
      · rw [if_pos h1] at hc; exact absurd hc (by decide)
      rw [if_neg h1] at hc
      exact ⟨by omega, hc⟩
    have hgd := chk1_good hl2.2 hx
    have hL : L15_0 (((), l, (l.length : Int), (0:Int), ()), (([] : List (List UInt8)), ())) = _ := L15_iter l hl2.1 hgd l 0 FUEL [] rfl (by omega) (by simp)
    have hb := words_bd hgd
    have hj := join_bd (l.map wrd)
    have hml : (l.map wrd).length = l.length := List.length_map ..
    have j1 : decide ((l.map wrd).length ≤ 140737488355328) = true := decide_eq_true (by omega)
    have j2 : decide ((Lib.join (l.map wrd) [32]).length ≤ 140737488355328) = true := decide_eq_true (by omega)
    have f1 : fits (([40] : List UInt8).length + (Lib.join (l.map wrd) [32]).length) = true := fits_of (by simp only [List.length_singleton]; omega)
    have f2 : fits ((([40] : List UInt8) ++ Lib.join (l.map wrd) [32]).length + ([41] : List UInt8).length) = true := fits_of (by simp only [List.length_append, List.length_singleton]; omega)
    rw [if_pos hc]
    simp only [F15, F17_eq l hl hx, Option.bind_some, hc, decide_true, Bool.not_true, cond_false, hL, List.nil_append, j1, j2, Bool.and_self, cond_true, f1, f2]
    rfl
  · rw [if_neg hc]
    simp only [F15, F17_eq l hl hx, Option.bind_some, hc, decide_false, Bool.not_false, cond_true]
end Go.Vw

namespace Go.Vw
open Go Go.Ev
set_option maxRecDepth 100000

def wdsL : List (List UInt8) := [([]:List UInt8), ([85, 73, 68]:List UInt8), ([70, 76, 65, 71, 83]:List UInt8), ([82, 70, 67, 56, 50, 50, 46, 83, 73, 90, 69]:List UInt8), ([69, 78, 86, 69, 76, 79, 80, 69]:List UInt8), ([66, 79, 68, 89, 83, 84, 82, 85, 67, 84, 85, 82, 69]:List UInt8)]

theorem wds_at {see : Int} (h1 : 1 ≤ see) (h2 : see ≤ 5) : List.getD wdsL (Int.toNat see) [] = wd see := by
  have : see = 1 ∨ see = 2 ∨ see = 3 ∨ see = 4 ∨ see = 5 := by omega
  rcases this with rfl | rfl | rfl | rfl | rfl <;> rfl

theorem F38_eq : F38 ((), ()) = some ((), (wdsL, ())) := rfl

theorem L16_iter (l : List It) (hl : l.length ≤ 12) (hx : ∀ x ∈ l, good1 x) : ∀ (t : List It) (i fuel : Nat) (out : List (List UInt8)), l.drop i = t → t.length < fuel → out.length ≤ 100 + i →
    iter B16_0 fuel ((l, (), (i : Int), ()), (out, ())) = some (((), ()), (out ++ t.map wrd, ())) := by
  intro t
  induction t with
  | nil =>
    intro i fuel out h hf _
    obtain ⟨fuel, rfl⟩ : ∃ f, fuel = f + 1 := ⟨fuel - 1, by simp only [List.length_nil] at hf; omega⟩
    have hk : ¬ i < l.length := by
      have := congrArg List.length h
      simp only [List.length_drop, List.length_nil] at this
      omega
    have e : decide ((i : Int) < ((l.length : Nat) : Int)) = false := decide_eq_false (by omega)
    simp only [iter, B16_0, e, cond_false, List.map_nil, List.append_nil]
  | cons a t ihh =>
    intro i fuel out h hf ho
    obtain ⟨fuel, rfl⟩ : ∃ f, fuel = f + 1 := ⟨fuel - 1, by simp only [List.length_cons] at hf; omega⟩
    simp only [List.length_cons] at hf
    obtain ⟨g1, g2, g3⟩ := getD_drop (0, [], [], false, 0, 0, ()) h
    have hm : a ∈ l := List.mem_of_mem_drop (by rw [h]; simp)
    have e : decide ((i : Int) < ((l.length : Nat) : Int)) = true := decide_eq_true (by omega)
    have hg := hx a hm
    have ih := ihh (i + 1) fuel (out ++ [wrd a]) g3 (by omega) (by simp only [List.length_append, List.length_singleton]; omega)
    have hwl := wrd_len hg
    have by0 : ∀ z : List UInt8, bytesOK (out.length + ([z] : List (List UInt8)).length) 16 = true := fun z => by unfold bytesOK; exact decide_eq_true (by simp only [List.length_singleton]; omega)
    obtain ⟨see, path, names, part, fr, sz, ⟨⟩⟩ := a
    have hfin : some (((), ()), ((out ++ [wrd (see, path, names, part, fr, sz, ())]) ++ t.map wrd, ())) = some (((), ()), (out ++ (wrd (see, path, names, part, fr, sz, ()) :: t.map wrd), ())) := by simp
    rw [List.map_cons, ← hfin, ← ih]
    rcases ok_cases hg with ⟨rfl, rfl, rfl, rfl, rfl, a0, a1, a2⟩ | ⟨rfl, rfl, _, _, a1, a2⟩ | ⟨b1, b2, rfl, rfl, rfl, rfl, rfl⟩
    · have hw : wrd (7, [], names, false, 0, 0, ()) = (hfW ++ Lib.join names [32]) ++ [41, 93] := by unfold wrd; rw [if_pos rfl]; simp
      have h1 := join_bd names
      have h2 := names_bd a2
      have hfl : hfW.length = 25 := rfl
      have f1 : fits (hfW.length + (Lib.join names [32]).length) = true := fits_of (by omega)
      have f2 : fits ((hfW ++ Lib.join names [32]).length + ([41, 93] : List UInt8).length) = true := fits_of (by simp only [List.length_append, List.length_cons, List.length_nil]; omega)
      have d7 : decide ((7:Int) = 7) = true := rfl
      rw [hw]
      unfold hfW at *
      conv => lhs; unfold iter
      simp only [B16_0, e, cond_true, nat_nn, Bool.and_self, Int.toNat_natCast, g1, Option.bind_some, d7, decide_true, decide_false, F36_eq names (by omega) (by omega), f1, f2, cond_false, by0, w64_nat (show i < 9223372036854775807 by omega)]
    · have d7 : decide ((6:Int) = 7) = false := rfl
      have d6 : decide ((6:Int) = 6) = true := rfl
      have hbl : bpW.length = 10 := rfl
      have f1 : fits (bpW.length + path.length) = true := fits_of (by omega)
      have f2 : fits ((bpW ++ path).length + ([93] : List UInt8).length) = true := fits_of (by simp only [List.length_append, List.length_cons, List.length_nil]; omega)
      rcases a2 with ⟨rfl, c1, c2, c3⟩ | ⟨rfl, rfl, rfl⟩
      · have hw : wrd (6, path, [], true, fr, sz, ()) = (((((bpW ++ path) ++ [93]) ++ [60]) ++ numI fr) ++ [46]) ++ numI sz ++ [62] := by unfold wrd ptW; rw [if_neg (show ¬ (6 : Int) = 7 by decide), if_pos rfl]; simp
        have n1 : (numI fr).length ≤ 10 := num_len _
        have n2 : (numI sz).length ≤ 10 := num_len _
        have f3 : fits (((bpW ++ path) ++ [93]).length + ([60] : List UInt8).length) = true := fits_of (by simp only [List.length_append, List.length_singleton]; omega)
        have f4 : fits ((((bpW ++ path) ++ [93]) ++ [60]).length + (numI fr).length) = true := fits_of (by simp only [List.length_append, List.length_singleton]; omega)
        have f5 : fits (((((bpW ++ path) ++ [93]) ++ [60]) ++ numI fr).length + ([46] : List UInt8).length) = true := fits_of (by simp only [List.length_append, List.length_singleton]; omega)
        have f6 : fits ((((((bpW ++ path) ++ [93]) ++ [60]) ++ numI fr) ++ [46]).length + (numI sz).length) = true := fits_of (by simp only [List.length_append, List.length_singleton]; omega)
        have f7 : fits (((((((bpW ++ path) ++ [93]) ++ [60]) ++ numI fr) ++ [46]) ++ numI sz).length + ([62] : List UInt8).length) = true := fits_of (by simp only [List.length_append, List.length_singleton]; omega)
        rw [hw]
        unfold bpW at *
        conv => lhs; unfold iter
        simp only [B16_0, e, cond_true, nat_nn, Bool.and_self, Int.toNat_natCast, g1, Option.bind_some, d7, d6, decide_true, decide_false, f1, f2, f3, f4, f5, f6, f7, cond_false, F37_eq' c1, F37_eq' c2, by0, w64_nat (show i < 9223372036854775807 by omega)]
      · have hw : wrd (6, path, [], false, 0, 0, ()) = (bpW ++ path) ++ [93] := by unfold wrd; rw [if_neg (show ¬ (6 : Int) = 7 by decide), if_pos rfl]; simp
        rw [hw]
        unfold bpW at *
        conv => lhs; unfold iter
        simp only [B16_0, e, cond_true, nat_nn, Bool.and_self, Int.toNat_natCast, g1, Option.bind_some, d7, d6, decide_true, decide_false, f1, f2, cond_false, by0, w64_nat (show i < 9223372036854775807 by omega)]
    · have h7 : ¬ see = 7 := by omega
      have h6 : ¬ see = 6 := by omega
      have hw : wrd (see, [], [], false, 0, 0, ()) = wd see := by unfold wrd; rw [if_neg h7, if_neg h6]
      have e1 : decide ((0 : Int) ≤ see) = true := decide_eq_true (by omega)
      have e2 : decide (see < ((wdsL.length : Nat) : Int)) = true := decide_eq_true (by show see < 6; omega)
      rw [hw, ← wds_at b1 b2]
      conv => lhs; unfold iter
      simp only [B16_0, e, cond_true, nat_nn, Bool.and_self, Int.toNat_natCast, g1, Option.bind_some, F38_eq, decide_eq_false h7, decide_eq_false h6, cond_false, e1, e2, by0, w64_nat (show i < 9223372036854775807 by omega)]

theorem F16_eq (l : List It) (hl : l.length ≤ 8000000) (hx : ∀ x ∈ l, szItem x) : F16 ((l, ()), ()) = some (if chk l = 0 then (prn l, 0, ()) else ([], chk l, ()), ()) := by
  have hF := FUEL_big
  by_cases hc : chk l = 0
  · have hl2 : l.length ≤ 12 ∧ chk1 l = 0 := by
      unfold chk at hc
      by_cases h0 : l.length = 0
      · rw [if_pos h0] at hc; exact absurd hc (by decide)
      rw [if_neg h0] at hc
      by_cases h1 : 12 < l.length
      · rw [if_pos h1] at hc; exact absurd hc (by decide)
      rw [if_neg h1] at hc
      exact ⟨by omega, hc⟩
    have hgd := chk1_good hl2.2 hx
    have hL : L16_0 ((l, (), (0:Int), ()), (([] : List (List UInt8)), ())) = _ := L16_iter l hl2.1 hgd l 0 FUEL [] rfl (by omega) (by simp)
    have hb := words_bd hgd
    have hj := join_bd (l.map wrd)
    have hml : (l.map wrd).length = l.length := List.length_map ..
    have f1 : fits (([40] : List UInt8).length + (Lib.join (l.map wrd) [32]).length) = true := fits_of (by simp only [List.length_singleton]; omega)
    have f2 : fits ((([40] : List UInt8) ++ Lib.join (l.map wrd) [32]).length + ([41] : List UInt8).length) = true := fits_of (by simp only [List.length_append, List.length_singleton]; omega)
    rw [if_pos hc]
    simp only [F16, F12_eq l hl hx, Option.bind_some, hc, decide_true, Bool.not_true, cond_false, hL, List.nil_append, F36_eq (l.map wrd) (by omega) (by omega), cond_true, f1, f2]
    rfl
  · rw [if_neg hc]
    simp only [F16, F12_eq l hl hx, Option.bind_some, hc, decide_false, Bool.not_false, cond_true]
end Go.Vw

namespace Go.Vw
open Go Go.Ev
set_option maxRecDepth 100000

theorem L19b_iter (l m : List It) (i : Int) (see : Int) (path : List UInt8) (names : List (List UInt8)) (part : Bool) (fr sz : Int) (hn : names.length ≤ 8000000) : ∀ (k j fuel : Nat), k + j = names.length → k < fuel →
    iter B19_1 fuel ((l, m, i, (), (), (j : Int), ()), ((see, path, names, part, fr, sz, ()), (see, path, names, part, fr, sz, ()), ())) = some (.inl ((l, m, i, ()), ())) := by
  intro k
  induction k with
  | zero =>
    intro j fuel h hf
    obtain ⟨fuel, rfl⟩ : ∃ f, fuel = f + 1 := ⟨fuel - 1, by omega⟩
    have e : decide ((j : Int) < ((names.length : Nat) : Int)) = false := decide_eq_false (by omega)
    simp only [iter, B19_1, e, cond_false]
  | succ k ih =>
    intro j fuel h hf
    obtain ⟨fuel, rfl⟩ : ∃ f, fuel = f + 1 := ⟨fuel - 1, by omega⟩
    have e : decide ((j : Int) < ((names.length : Nat) : Int)) = true := decide_eq_true (by omega)
    simp only [iter, B19_1, e, cond_true, nat_nn, Bool.and_self, decide_true, Bool.not_true, cond_false, w64_nat (show j < 9223372036854775807 by omega)]
    exact ih (j + 1) fuel (by omega) (by omega)

theorem L19_iter (l : List It) (hl : l.length ≤ 8000000) (hx : ∀ x ∈ l, szItem x) : ∀ (t : List It) (i fuel : Nat), l.drop i = t → t.length < fuel →
    iter B19_0 fuel ((l, l, (i : Int), ()), ()) = some (.inl ((), ())) := by
  intro t
  induction t with
  | nil =>
    intro i fuel h hf
    obtain ⟨fuel, rfl⟩ : ∃ f, fuel = f + 1 := ⟨fuel - 1, by simp only [List.length_nil] at hf; omega⟩
    have hk : ¬ i < l.length := by
      have := congrArg List.length h
      simp only [List.length_drop, List.length_nil] at this
      omega
    have e : decide ((i : Int) < ((l.length : Nat) : Int)) = false := decide_eq_false (by omega)
    simp only [iter, B19_0, e, cond_false]
  | cons a t ihh =>
    intro i fuel h hf
    obtain ⟨fuel, rfl⟩ : ∃ f, fuel = f + 1 := ⟨fuel - 1, by simp only [List.length_cons] at hf; omega⟩
    simp only [List.length_cons] at hf
    obtain ⟨g1, g2, g3⟩ := getD_drop (0, [], [], false, 0, 0, ()) h
    have hm : a ∈ l := List.mem_of_mem_drop (by rw [h]; simp)
    have e : decide ((i : Int) < ((l.length : Nat) : Int)) = true := decide_eq_true (by omega)
    have hz := hx a hm
    have ih := ihh (i + 1) fuel g3 (by omega)
    have hF := FUEL_big
    obtain ⟨see, path, names, part, fr, sz, ⟨⟩⟩ := a
    have hn : names.length ≤ 8000000 := hz.2.1
    have hL : L19_1 ((l, l, (i : Int), (), (), (0:Int), ()), ((see, path, names, part, fr, sz, ()), (see, path, names, part, fr, sz, ()), ())) = _ := L19b_iter l l i see path names part fr sz hn names.length 0 FUEL (by omega) (by omega)
    simp only [iter, B19_0, e, cond_true, nat_nn, Bool.and_self, Int.toNat_natCast, g1, agr_self, Option.bind_some, decide_true, Bool.not_true, BEq.rfl, Bool.or_self, cond_false, hL, w64_nat (show i < 9223372036854775807 by omega)]
    exact ih

theorem F19_same (l : List It) (hl : l.length ≤ 8000000) (hx : ∀ x ∈ l, szItem x) : F19 ((l, l, ()), ()) = some (true, ()) := by
  have hF := FUEL_big
  have hL : L19_0 ((l, l, (0:Int), ()), ()) = _ := L19_iter l hl hx l 0 FUEL rfl (by omega)
  simp only [F19, decide_true, Bool.not_true, cond_false, hL, Option.bind_some]
end Go.Vw

namespace Go.Vw
open Go Go.Ev
set_option maxRecDepth 100000

theorem idx_at (c : UInt8) : ∀ (w r : List UInt8), c ∉ w → Lib.indexByte (w ++ c :: r) c = (w.length : Int)
  | [], r, _ => by simp [Lib.indexByte]
  | b :: w, r, h => by
    simp only [List.mem_cons, not_or] at h
    have hb : (b == c) = false := by simpa using fun e : b = c => h.1 e.symm
    have ih := idx_at c w r h.2
    have hne : ¬ (((w.length : Nat) : Int) == -1) = true := by simp
    simp only [List.cons_append, Lib.indexByte, hb, ih, Bool.false_eq_true, if_false, hne]
    simp

theorem idx_none (c : UInt8) : ∀ (w : List UInt8), c ∉ w → Lib.indexByte w c = -1
  | [], _ => by simp [Lib.indexByte]
  | b :: w, h => by
    simp only [List.mem_cons, not_or] at h
    have hb : (b == c) = false := by simpa using fun e : b = c => h.1 e.symm
    have ih := idx_none c w h.2
    simp [Lib.indexByte, hb, ih]

theorem any_at (cs : List UInt8) (c : UInt8) (hc : cs.contains c = true) : ∀ (w r : List UInt8), (∀ b ∈ w, cs.contains b = false) → Lib.indexAny (w ++ c :: r) cs = (w.length : Int)
  | [], r, _ => by simp only [List.nil_append, Lib.indexAny, hc, if_true, List.length_nil]; rfl
  | b :: w, r, h => by
    have ih := any_at cs c hc w r fun x hx => h x (by simp [hx])
    have hne : ¬ (((w.length : Nat) : Int) == -1) = true := by simp
    simp only [List.cons_append, Lib.indexAny, h b (by simp), Bool.false_eq_true, if_false, ih, hne]
    simp

theorem join_two (w v : List UInt8) (r : List (List UInt8)) : Lib.join (w :: v :: r) [32] = w ++ 32 :: Lib.join (v :: r) [32] := by
  rw [Lib.join_cons, jt_cons, Lib.join_cons]

theorem split_join : ∀ (names : List (List UInt8)), names ≠ [] → (∀ w ∈ names, (32 : UInt8) ∉ w) → Lib.splitK [32] 0 ((Lib.join names [32]).count 32) (Lib.join names [32]) = names
  | [], h, _ => absurd rfl h
  | [w], _, h => by
    have hw := h w (by simp)
    rw [Lib.join_one, List.count_eq_zero_of_not_mem hw]
    rfl
  | w :: v :: r, _, h => by
    have hw := h w (by simp)
    have ih := split_join (v :: r) (by simp) fun x hx => h x (by simp [hx])
    rw [join_two, List.count_append, List.count_eq_zero_of_not_mem hw, List.count_cons_self, Nat.zero_add]
    have hi : Lib.index (w ++ 32 :: Lib.join (v :: r) [32]) [32] = (w.length : Int) := by rw [Lib.index_one, idx_at 32 w _ hw]
    unfold Lib.splitK
    rw [hi]
    have hne : ¬ (((w.length : Nat) : Int) == -1) = true := by simp
    rw [if_neg hne]
    simp only [Int.toNat_natCast, Nat.add_zero, List.take_left', List.length_singleton]
    rw [show (w ++ 32 :: Lib.join (v :: r) [32]).drop (w.length + 1) = Lib.join (v :: r) [32] by
      rw [← List.drop_drop, List.drop_left']
      · rfl
      · rfl]
    rw [ih]

theorem parts_join (names : List (List UInt8)) (h0 : names ≠ []) (h : ∀ w ∈ names, (32 : UInt8) ∉ w) : parts97 (Lib.join names [32]) [32] = names := by
  unfold parts97
  rw [Lib.splitB_data]
  have hc : Lib.countB ⟨(Lib.join names [32]).toArray⟩ ⟨#[32]⟩ = (Lib.join names [32]).count 32 := Lib.count_one 32 (Lib.join names [32])
  have e : (([32] : List UInt8).toArray) = #[32] := rfl
  rw [e, hc]
  exact split_join names h0 h
end Go.Vw

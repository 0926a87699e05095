/- Paths: mime.Section of no bytes. -/
import Derived.Test.YtgfecebcaepjfaaGreatDoorVqq2
namespace Go.Vw
open Go Go.Ev
set_option maxRecDepth 100000
def L0 : List (List UInt8 × List (List UInt8 × List UInt8 × Unit) × List (List UInt8 × List UInt8 × Int × Unit) × Int × Int × Int × Int × Int × Int × Unit) := [([116, 101, 120, 116, 47, 112, 108, 97, 105, 110], [], [], 0, 0, 0, -1, 0, 0, ())]
theorem parse_nil : parseOK [] = true ∧ parseE [] = 0 ∧ parseL [] = L0 := ⟨by kernel_rfl, by kernel_rfl, by kernel_rfl⟩
theorem go_nil (n : Int) : F128d ((L0, 0, n, ()), ()) = some ((0, decide (n = 1), ()), ()) := by kernel_rfl
theorem refparse_nil : F28 (([], ()), ()) = some ((L0, 0, ()), ()) := by kernel_rfl
theorem refto_nil (n : Int) : F29 ((L0, 0, n, ()), ()) = cond (!decide (n = 1)) (some (-1, ())) (some (0, ())) := by kernel_rfl
theorem kids_nil : F121 ((L0, 0, ()), ()) = some ((), ([], ())) := by kernel_rfl
theorem refkid_nil : F30 ((L0, 0, 1, ()), ()) = some (-1, ()) := by kernel_rfl
theorem top_nil (w : List UInt8) : ∃ a b, F127 (([], w, ()), ()) = some ((a, b, ()), ()) := by
  have h : F78 (([], ()), ()) = some (((), 0, 0, ()), ([], ())) := by kernel_rfl
  simp only [F127, h, Option.bind_some, decide_true, Bool.not_true, cond_false]
  cases decide (w = ([104, 101, 97, 100, 101, 114]:List UInt8)) <;> cases decide (w = ([116, 101, 120, 116]:List UInt8)) <;> exact ⟨_, _, rfl⟩
theorem refsplit_nil : F27 (([], ()), ()) = some (((), 0, 0, ()), ([], ())) := by kernel_rfl

def hdW : List UInt8 := [104, 101, 97, 100, 101, 114]
def txW : List UInt8 := [116, 101, 120, 116]
def miW : List UInt8 := [109, 105, 109, 101]

/-- is it a number that is not 0? -/
def good (w : List UInt8) : Bool := decide ((numR w).2.2.1 = 0) && decide (1 ≤ (numR w).1)

/-- is it a word at the end? -/
def tl (z : Bool) (w : List UInt8) : Bool := (decide (w = hdW) || decide (w = txW)) || (decide (w = miW) && z)

/-- what stands between points -/
def prt : List UInt8 → List UInt8 → List (List UInt8)
  | cur, [] => [cur]
  | cur, c :: t => if c = 46 then cur :: prt [] t else prt (cur ++ [c]) t

def okP : Bool → List (List UInt8) → Bool
  | _, [] => false
  | z, [w] => good w || tl z (w.map lowc)
  | _, w :: v :: r => good w && okP true (v :: r)

def okPath (s : List UInt8) : Bool := if s = [] then true else okP false (prt [] s)

theorem prt_ne : ∀ (s cur : List UInt8), prt cur s ≠ []
  | [], _ => by simp [prt]
  | c :: t, cur => by
    unfold prt
    by_cases h : c = 46
    · rw [if_pos h]; simp
    · rw [if_neg h]; exact prt_ne t _

theorem prt_fst : ∀ (s cur : List UInt8), prt cur s = match fst 46 s with
    | none => [cur ++ s]
    | some k => (cur ++ s.take k) :: prt [] (s.drop (k + 1))
  | [], cur => by simp [prt, fst]
  | c :: t, cur => by
    have e1 : prt cur (c :: t) = if c = 46 then cur :: prt [] t else prt (cur ++ [c]) t := rfl
    have e2 : fst 46 (c :: t) = if c = 46 then some 0 else (fst 46 t).map (· + 1) := rfl
    rw [e1, e2]
    by_cases h : c = 46
    · rw [if_pos h, if_pos h]; simp
    · rw [if_neg h, if_neg h, prt_fst t]
      cases fst 46 t with
      | none => simp
      | some k => simp

theorem okP_two (z : Bool) (w : List UInt8) {l : List (List UInt8)} (h : l ≠ []) : okP z (w :: l) = (good w && okP true l) := by
  cases l with
  | nil => exact absurd rfl h
  | cons v r => rfl

theorem dot_not {t : List UInt8} {k : Nat} (h : fst 46 t = some k) {z : Bool} : tl z (t.map lowc) = false := by
  have hs := split_at 46 t k h
  have hm : (46 : UInt8) ∈ t.map lowc := by
    rw [hs]
    exact List.mem_map.2 ⟨46, by simp, rfl⟩
  unfold tl
  have h1 : ¬ t.map lowc = hdW := fun e => by rw [e] at hm; revert hm; decide
  have h2 : ¬ t.map lowc = txW := fun e => by rw [e] at hm; revert hm; decide
  have h3 : ¬ t.map lowc = miW := fun e => by rw [e] at hm; revert hm; decide
  simp [h1, h2, h3]

theorem good_nil : good [] = false := by decide

theorem F126_ok (s : List UInt8) (hs : s.length ≤ 8000000) : ∃ w ok nums, F126 ((s, ()), ()) = some (((), w, ok, ()), (nums, ())) ∧ ok = okPath s ∧ nums.length ≤ 9000000 := by
  obtain ⟨r, h1, hr⟩ := loop_ind (f := B126_0)
    (I := fun p => ∃ (t : List UInt8) (out : List Int), p = ((t, (), ()), (out, ())) ∧ out.length + t.length ≤ s.length ∧ (t = [] → okPath s = true) ∧ (t ≠ [] → okPath s = okP (decide (0 < out.length)) (prt [] t)))
    (μ := fun p => p.1.1.length)
    (Q := fun r => match r with
      | .inl (_, o, _) => okPath s = true ∧ o.length ≤ 9000000
      | .inr ((_, _, ok, _), o, _) => ok = okPath s ∧ o.length ≤ 9000000)
    (fun p ⟨t, out, hp, hl, ht0, ht⟩ => by
      subst hp
      by_cases h0 : t = []
      · right
        refine ⟨.inl (((), ()), (out, ())), ?_, ht0 h0, by show out.length ≤ 9000000; omega⟩
        simp only [B126_0, h0, decide_true, Bool.not_true, cond_false]
      have hok := ht h0
      have htl : 0 < t.length := List.length_pos_iff.2 h0
      have e0 : decide (t = []) = false := decide_eq_false h0
      have e1 : decide (t.length < 4294967281) = true := decide_eq_true (by omega)
      have hcut := cut_eq t
      have hprt := prt_fst t []
      have ez : decide ((0 : Int) < ((out.length : Nat) : Int)) = decide (0 < out.length) := by rw [decide_eq_decide]; omega
      cases hf : fst 46 t with
      | none =>
        rw [hf] at hcut hprt
        simp only [List.nil_append] at hcut hprt
        rw [hprt] at hok
        have hok' : okPath s = (good t || tl (decide (0 < out.length)) (t.map lowc)) := hok
        by_cases hg : good t = true
        · left
          have hg' := hg
          unfold good at hg'
          simp only [Bool.and_eq_true, decide_eq_true_eq] at hg'
          have c1 : decide ((numR t).2.2.1 = 0) = true := decide_eq_true hg'.1
          have c2 : decide ((numR t).1 < 1) = false := decide_eq_false (by omega)
          have c3 : bytesOK (out.length + ([(numR t).1] : List Int).length) 8 = true := by unfold bytesOK; exact decide_eq_true (by simp only [List.length_singleton]; omega)
          refine ⟨(([], (), ()), (out ++ [(numR t).1], ())), ?_, ⟨[], _, rfl, by simp only [List.length_append, List.length_singleton, List.length_nil]; omega, fun _ => by rw [hok', hg]; rfl, fun h => absurd rfl h⟩, by simpa using htl⟩
          simp only [B126_0, e0, Bool.not_false, cond_true, e1, hcut, F99_eq t (by omega), Option.bind_some, c1, Bool.not_true, c2, Bool.or_self, cond_false, c3, Bool.false_and]
        · right
          have hg0 : good t = false := by simpa using hg
          have c1 : ((!(decide ((numR t).2.2.1 = 0))) || (decide ((numR t).1 < 1))) = true := by
            unfold good at hg0
            rw [Bool.or_eq_true, decide_eq_true_eq]
            by_cases ha : (numR t).2.2.1 = 0
            · right
              rw [decide_eq_true ha, Bool.true_and, decide_eq_false_iff_not] at hg0
              omega
            · left; simp [ha]
          refine ⟨.inr (((), t.map lowc, tl (decide (0 < out.length)) (t.map lowc), ()), (out, ())), ?_, by show tl _ _ = okPath s; rw [hok', hg0]; rfl, by show out.length ≤ 9000000; omega⟩
          simp only [B126_0, e0, Bool.not_false, cond_true, e1, hcut, F99_eq t (by omega), Option.bind_some, c1, F40_eq t (by unfold maxLen; omega), ez]
          rfl
      | some k =>
        rw [hf] at hcut hprt
        simp only [List.nil_append] at hcut hprt
        have hk := fst_lt 46 t k hf
        rw [hprt, okP_two _ _ (prt_ne _ _)] at hok
        have htk : (t.take k).length ≤ t.length := by rw [List.length_take]; omega
        have hdl : (t.drop (k + 1)).length = t.length - (k + 1) := List.length_drop
        by_cases hg : good (t.take k) = true
        · have hg' := hg
          unfold good at hg'
          simp only [Bool.and_eq_true, decide_eq_true_eq] at hg'
          have c1 : decide ((numR (t.take k)).2.2.1 = 0) = true := decide_eq_true hg'.1
          have c2 : decide ((numR (t.take k)).1 < 1) = false := decide_eq_false (by omega)
          have c3 : bytesOK (out.length + ([(numR (t.take k)).1] : List Int).length) 8 = true := by unfold bytesOK; exact decide_eq_true (by simp only [List.length_singleton]; omega)
          rw [hg, Bool.true_and] at hok
          by_cases hr0 : t.drop (k + 1) = []
          · right
            rw [hr0] at hok hcut
            have hok' : okPath s = (good [] || tl true []) := hok
            refine ⟨.inr (((), [], false, ()), ([], ())), ?_, by show false = okPath s; rw [hok', good_nil]; rfl, by show ([] : List Int).length ≤ 9000000; simp⟩
            simp only [B126_0, e0, Bool.not_false, cond_true, e1, hcut, F99_eq (t.take k) (by omega), Option.bind_some, c1, Bool.not_true, c2, Bool.or_self, cond_false, c3, decide_true, Bool.and_self]
          · left
            have er : decide (t.drop (k + 1) = []) = false := decide_eq_false hr0
            refine ⟨((t.drop (k + 1), (), ()), (out ++ [(numR (t.take k)).1], ())), ?_, ⟨_, _, rfl, by simp only [List.length_append, List.length_singleton]; omega, fun h => absurd h hr0, fun _ => by rw [hok, decide_eq_true (by simp only [List.length_append, List.length_singleton]; omega)]⟩, by show (t.drop (k + 1)).length < t.length; omega⟩
            simp only [B126_0, e0, Bool.not_false, cond_true, e1, hcut, F99_eq (t.take k) (by omega), Option.bind_some, c1, Bool.not_true, c2, Bool.or_self, cond_false, c3, er, Bool.and_false]
        · right
          have hg0 : good (t.take k) = false := by simpa using hg
          have c1 : ((!(decide ((numR (t.take k)).2.2.1 = 0))) || (decide ((numR (t.take k)).1 < 1))) = true := by
            unfold good at hg0
            rw [Bool.or_eq_true, decide_eq_true_eq]
            by_cases ha : (numR (t.take k)).2.2.1 = 0
            · right
              rw [decide_eq_true ha, Bool.true_and, decide_eq_false_iff_not] at hg0
              omega
            · left; simp [ha]
          refine ⟨.inr (((), t.map lowc, tl (decide (0 < out.length)) (t.map lowc), ()), (out, ())), ?_, by show tl _ _ = okPath s; rw [hok, hg0, dot_not hf]; rfl, by show out.length ≤ 9000000; omega⟩
          simp only [B126_0, e0, Bool.not_false, cond_true, e1, hcut, F99_eq (t.take k) (by omega), Option.bind_some, c1, F40_eq t (by unfold maxLen; omega), ez]
          rfl)
    (p := ((s, (), ()), ([], ()))) ⟨s, [], rfl, by simp, fun h => by unfold okPath; rw [if_pos h], fun h => by unfold okPath; rw [if_neg h]; rfl⟩ (by have := FUEL_big; show s.length < FUEL; omega)
  have h1' : L126_0 ((s, (), ()), (([] : List Int), ())) = some r := h1
  simp only [F126, h1']
  rcases r with ⟨⟨⟨⟩, ⟨⟩⟩, nums, ⟨⟩⟩ | ⟨⟨⟨⟩, w, ok, ⟨⟩⟩, nums, ⟨⟩⟩
  · exact ⟨[], true, nums, rfl, hr.1.symm, hr.2⟩
  · exact ⟨w, ok, nums, rfl, hr.1, hr.2⟩

theorem F91_ok (s : List UInt8) (hs : s.length ≤ 8000000) : ∃ a b e, F91 (([], s, ()), ()) = some ((a, b, e, ()), ()) ∧ decide (e = 4) = !okPath s := by
  obtain ⟨w, ok, nums, h1, rfl, hnl⟩ := F126_ok s hs
  simp only [F91, h1, Option.bind_some]
  cases okPath s with
  | false => exact ⟨0, 0, 4, rfl, rfl⟩
  | true =>
    simp only [Bool.not_true, cond_false]
    by_cases hn : decide (((nums.length : Nat) : Int) = 0) = true
    · obtain ⟨a, b, ht⟩ := top_nil w
      simp only [hn, cond_true, ht, Option.bind_some]
      exact ⟨a, b, 0, rfl, rfl⟩
    · have hn' : decide (((nums.length : Nat) : Int) = 0) = false := by simpa using hn
      obtain ⟨p1, p2, p3⟩ := parse_nil
      obtain ⟨r, g1, gr⟩ := loop_ind (f := B91_0)
        (I := fun p => ∃ i : Nat, p = ((w, (), (0:Int), (), ((nums.length : Nat) : Int), (i : Int), ()), (L0, nums, ())) ∧ i ≤ nums.length ∧ nums.length ≤ 9000000)
        (μ := fun p => nums.length - p.1.2.2.2.2.2.1.toNat)
        (Q := fun r => r = .inl ((w, (), (0:Int), ()), (L0, ())) ∨ r = .inr (((), (), (), ()), ()))
        (fun p ⟨i, hp, hi, hm⟩ => by
          subst hp
          by_cases hc : i < nums.length
          · have e : decide ((i : Int) < ((nums.length : Nat) : Int)) = true := decide_eq_true (by omega)
            by_cases h1 : nums.getD i 0 = 1
            · left
              refine ⟨((w, (), (0:Int), (), ((nums.length : Nat) : Int), ((i + 1 : Nat) : Int), ()), (L0, nums, ())), ?_, ⟨i + 1, rfl, by omega, hm⟩, by show nums.length - ((i + 1 : Nat) : Int).toNat < nums.length - (i : Int).toNat; omega⟩
              simp only [B91_0, e, cond_true, nat_nn, Bool.and_self, Int.toNat_natCast, go_nil, h1, decide_true, Option.bind_some, Bool.not_true, cond_false, w64_nat (show i < 9223372036854775807 by omega)]
            · right
              refine ⟨_, ?_, .inr rfl⟩
              simp only [B91_0, e, cond_true, nat_nn, Bool.and_self, Int.toNat_natCast, go_nil, h1, decide_false, Option.bind_some, Bool.not_false]
          · right
            have e : decide ((i : Int) < ((nums.length : Nat) : Int)) = false := decide_eq_false (by omega)
            exact ⟨_, by simp only [B91_0, e, cond_false], .inl rfl⟩)
        (p := ((w, (), (0:Int), (), ((nums.length : Nat) : Int), (0:Int), ()), (L0, nums, ()))) ⟨0, rfl, Nat.zero_le _, hnl⟩ (by have := FUEL_big; show nums.length - (0:Int).toNat < FUEL; omega)
      have g1' : L91_0 ((w, (), (0:Int), (), ((nums.length : Nat) : Int), (0:Int), ()), (L0, nums, ())) = some r := g1
      simp only [hn', cond_false, p1, p2, p3, cond_true, decide_true, Bool.not_true, g1', Option.bind_some]
      rcases gr with rfl | rfl
      · simp only [Option.bind_some, kids_nil]
        have a1 : decide ((0:Int) < ((L0.length : Nat) : Int)) = true := rfl
        have a2 : decide ((0:Int) ≤ (0:Int)) = true := rfl
        have a3 : decide ((L0.getD (Int.toNat 0) ([], [], [], 0, 0, 0, 0, 0, 0, ())).1 = ([109, 101, 115, 115, 97, 103, 101, 47, 114, 102, 99, 56, 50, 50]:List UInt8)) = false := by decide
        cases (decide (w = ([104, 101, 97, 100, 101, 114]:List UInt8)) || decide (w = ([116, 101, 120, 116]:List UInt8)))
        · simp only [cond_false, Option.bind_some, a1, a2, Bool.and_self, cond_true]
          cases (decide (w = ([104, 101, 97, 100, 101, 114]:List UInt8)) || decide (w = ([109, 105, 109, 101]:List UInt8)))
          · exact ⟨_, _, _, rfl, rfl⟩
          · exact ⟨_, _, _, rfl, rfl⟩
        · simp only [cond_true, a1, a2, Bool.and_self, a3, Bool.not_false, Bool.true_or]
          exact ⟨_, _, _, rfl, rfl⟩
      · exact ⟨_, _, _, rfl, rfl⟩
end Go.Vw

namespace Go.Vw
open Go Go.Ev
set_option maxRecDepth 100000

theorem prt_len : ∀ (s cur : List UInt8), (prt cur s).length ≤ s.length + 1
  | [], _ => by simp [prt]
  | c :: t, cur => by
    have e1 : prt cur (c :: t) = if c = 46 then cur :: prt [] t else prt (cur ++ [c]) t := rfl
    rw [e1]
    by_cases h : c = 46
    · rw [if_pos h]; have := prt_len t []; simp only [List.length_cons]; omega
    · rw [if_neg h]; have := prt_len t (cur ++ [c]); simp only [List.length_cons]; omega

theorem prt_mem : ∀ (s cur : List UInt8) (w : List UInt8), w ∈ prt cur s → w.length ≤ cur.length + s.length
  | [], cur, w, h => by
    have : w = cur := by simpa [prt] using h
    rw [this]; simp
  | c :: t, cur, w, h => by
    have e1 : prt cur (c :: t) = if c = 46 then cur :: prt [] t else prt (cur ++ [c]) t := rfl
    rw [e1] at h
    by_cases hc : c = 46
    · rw [if_pos hc] at h
      rcases List.mem_cons.1 h with rfl | h
      · omega
      · have := prt_mem t [] w h; simp only [List.length_cons, List.length_nil] at this ⊢; omega
    · rw [if_neg hc] at h
      have := prt_mem t (cur ++ [c]) w h
      simp only [List.length_append, List.length_cons, List.length_nil] at this ⊢; omega

theorem getD_last {α : Type} (l : List α) (x d : α) : (l ++ [x]).getD l.length d = x := by
  rw [List.getD_eq_getElem?_getD, List.getElem?_append_right (Nat.le_refl _)]
  simp

theorem set_last' {α : Type} (l : List α) (x y : α) : (l ++ [x]).set l.length y = l ++ [y] := by
  rw [List.set_append_right _ _ (Nat.le_refl _)]
  simp

theorem F25_eq (s : List UInt8) (hs : s.length ≤ 8000000) : F25 ((s, ()), ()) = some ((), (prt [] s, ())) := by
  obtain ⟨r, h1, rfl⟩ := loop_ind (f := B25_0)
    (I := fun p => ∃ (i : Nat) (pre : List (List UInt8)) (cur : List UInt8), p = ((s, (), (i : Int), ()), (pre ++ [cur], ())) ∧ i ≤ s.length ∧ pre.length ≤ i ∧ cur.length ≤ i ∧ pre ++ prt cur (s.drop i) = prt [] s)
    (μ := fun p => s.length - p.1.2.2.1.toNat)
    (Q := fun r => r = (((), ()), (prt [] s, ())))
    (fun p ⟨i, pre, cur, hp, hi, hpre, hcur, he⟩ => by
      subst hp
      by_cases hc : i < s.length
      · left
        have e1 : decide ((i : Int) < ((s.length : Nat) : Int)) = true := decide_eq_true (by omega)
        have e2 : decide ((i : Int) ≤ ((i + 1 : Nat) : Int)) = true := decide_eq_true (by omega)
        have e3 : decide (((i + 1 : Nat) : Int) ≤ ((s.length : Nat) : Int)) = true := decide_eq_true (by omega)
        have hdr : s.drop i = s.getD i 0 :: s.drop (i + 1) := by
          rw [List.drop_eq_getElem_cons hc, List.getD_eq_getElem?_getD, List.getElem?_eq_getElem hc]; rfl
        have hlen : ((pre ++ [cur]).length : Nat) = pre.length + 1 := by simp
        have ew : w64 (((pre.length + 1 : Nat) : Int) - 1) = (pre.length : Int) := by rw [w64_id (by omega) (by omega)]; omega
        have e4 : decide ((pre.length : Int) < ((pre.length + 1 : Nat) : Int)) = true := decide_eq_true (by omega)
        have he' := he
        rw [hdr] at he'
        have ep : prt cur (s.getD i 0 :: s.drop (i + 1)) = if s.getD i 0 = 46 then cur :: prt [] (s.drop (i + 1)) else prt (cur ++ [s.getD i 0]) (s.drop (i + 1)) := rfl
        rw [ep] at he'
        by_cases h46 : s.getD i 0 = 46
        · rw [if_pos h46] at he'
          have c3 : bytesOK ((pre ++ [cur]).length + ([([] : List UInt8)] : List (List UInt8)).length) 16 = true := by unfold bytesOK; exact decide_eq_true (by simp only [List.length_append, List.length_singleton]; omega)
          refine ⟨((s, (), ((i + 1 : Nat) : Int), ()), ((pre ++ [cur]) ++ [[]], ())), ?_, ⟨i + 1, pre ++ [cur], [], rfl, by omega, by simp only [List.length_append, List.length_singleton]; omega, by simp, by rw [← he']; simp⟩, by show s.length - ((i + 1 : Nat) : Int).toNat < s.length - (i : Int).toNat; omega⟩
          simp only [B25_0, e1, cond_true, nat_nn, Bool.and_self, Int.toNat_natCast, h46, decide_true, c3, Option.bind_some, w64_nat (show i < 9223372036854775807 by omega)]
        · rw [if_neg h46] at he'
          have e46 : decide (s.getD i 0 = 46) = false := decide_eq_false h46
          have ht : (s.drop i).take ((i + 1) - i) = [s.getD i 0] := by rw [hdr, show (i + 1) - i = 1 from by omega]; rfl
          have c4 : fits (cur.length + ([s.getD i 0] : List UInt8).length) = true := by unfold fits; exact decide_eq_true (by simp only [List.length_singleton]; omega)
          refine ⟨((s, (), ((i + 1 : Nat) : Int), ()), (pre ++ [cur ++ [s.getD i 0]], ())), ?_, ⟨i + 1, pre, cur ++ [s.getD i 0], rfl, by omega, by omega, by simp only [List.length_append, List.length_singleton]; omega, by rw [← he']⟩, by show s.length - ((i + 1 : Nat) : Int).toNat < s.length - (i : Int).toNat; omega⟩
          simp only [B25_0, e1, cond_true, nat_nn, Bool.and_self, Int.toNat_natCast, e46, cond_false, hlen, ew, e4, w64_nat (show i < 9223372036854775807 by omega), e2, e3, getD_last, set_last', ht, c4, Option.bind_some]
      · right
        have e : decide ((i : Int) < ((s.length : Nat) : Int)) = false := decide_eq_false (by omega)
        have hd : s.drop i = [] := List.drop_eq_nil_of_le (by omega)
        rw [hd] at he
        have he' : pre ++ [cur] = prt [] s := he
        exact ⟨(((), ()), (pre ++ [cur], ())), by simp only [B25_0, e, cond_false], by rw [he']⟩)
    (p := ((s, (), (0:Int), ()), ([([]:List UInt8)], ()))) ⟨0, [], [], rfl, Nat.zero_le _, Nat.zero_le _, Nat.zero_le _, rfl⟩ (by have := FUEL_big; show s.length - (0:Int).toNat < FUEL; omega)
  have h1' : L25_0 ((s, (), (0:Int), ()), (([([]:List UInt8)]:List (List UInt8)), ())) = _ := h1
  simp only [F25, h1', Option.bind_some]

theorem F11a_ok (s : List UInt8) (hs : s.length ≤ 8000000) : ∃ r, L11_0 (([], s, (), (), [], (0:Int), ()), (prt [] s, ([] : List Int), ())) = some r ∧
    match r with
      | .inl ((b, _, _, _), (o, _)) => okPath s = true ∧ b = [] ∧ o.length ≤ 9000000
      | .inr _ => okPath s = false := by
  have hw := prt_len s []
  exact loop_ind (f := B11_0)
    (I := fun p => ∃ (i : Nat) (last : List UInt8) (out : List Int), p = (([], s, (), (), last, (i : Int), ()), (prt [] s, out, ())) ∧ i ≤ (prt [] s).length ∧ out.length ≤ i ∧ (s ≠ [] → i < (prt [] s).length → okPath s = okP (decide (0 < i)) ((prt [] s).drop i)) ∧ (s ≠ [] → i = (prt [] s).length → okPath s = true))
    (μ := fun p => (prt [] s).length - p.1.2.2.2.2.2.1.toNat)
    (Q := fun r => match r with
      | .inl ((b, _, _, _), (o, _)) => okPath s = true ∧ b = [] ∧ o.length ≤ 9000000
      | .inr _ => okPath s = false)
    (fun p ⟨i, last, out, hp, hi, ho, h1, h2⟩ => by
      subst hp
      by_cases h0 : s = []
      · right
        refine ⟨.inl (([], (), last, ()), (out, ())), ?_, by unfold okPath; rw [if_pos h0], rfl, by omega⟩
        have e : decide ((0:Int) < ((s.length : Nat) : Int)) = false := by rw [h0]; rfl
        simp only [B11_0, e, Bool.false_and, cond_false]
      have e0 : decide ((0:Int) < ((s.length : Nat) : Int)) = true := decide_eq_true (by have := List.length_pos_iff.2 h0; omega)
      by_cases hc : i < (prt [] s).length
      · have hok := h1 h0 hc
        have e1 : decide ((i : Int) < (((prt [] s).length : Nat) : Int)) = true := decide_eq_true (by omega)
        have hdr : (prt [] s).drop i = (prt [] s).getD i [] :: (prt [] s).drop (i + 1) := by
          rw [List.drop_eq_getElem_cons hc, List.getD_eq_getElem?_getD, List.getElem?_eq_getElem hc]; rfl
        have hmem : (prt [] s).getD i [] ∈ prt [] s := by
          rw [List.getD_eq_getElem?_getD, List.getElem?_eq_getElem hc]; exact List.getElem_mem hc
        have hwl := prt_mem s [] _ hmem
        simp only [List.length_nil, Nat.zero_add] at hwl
        generalize hwd : (prt [] s).getD i [] = wd at *
        rw [hdr] at hok
        have ei0 : decide ((i : Int) = 0) = !decide (0 < i) := by
          by_cases h : 0 < i
          · rw [decide_eq_false (by omega), decide_eq_true h]; rfl
          · rw [decide_eq_true (by omega), decide_eq_false h]; rfl
        by_cases hg : good wd = true
        · left
          have hg' := hg
          unfold good at hg'
          simp only [Bool.and_eq_true, decide_eq_true_eq] at hg'
          have c1 : decide ((numR wd).2.2.1 = 0) = true := decide_eq_true hg'.1
          have c2 : decide ((0:Int) < (numR wd).1) = true := decide_eq_true (by omega)
          have c3 : bytesOK (out.length + ([(numR wd).1] : List Int).length) 8 = true := by unfold bytesOK; exact decide_eq_true (by simp only [List.length_singleton]; omega)
          refine ⟨(([], s, (), (), last, ((i + 1 : Nat) : Int), ()), (prt [] s, out ++ [(numR wd).1], ())), ?_, ⟨i + 1, last, _, rfl, by omega, by simp only [List.length_append, List.length_singleton]; omega, fun _ hl => ?_, fun _ hl => ?_⟩, by show (prt [] s).length - ((i + 1 : Nat) : Int).toNat < (prt [] s).length - (i : Int).toNat; omega⟩
          · simp only [B11_0, e0, e1, Bool.and_self, cond_true, nat_nn, Int.toNat_natCast, hwd, F26_eq wd (by omega), Option.bind_some, c1, c2, c3, w64_nat (show i < 9223372036854775807 by omega)]
          · have hne : (prt [] s).drop (i + 1) ≠ [] := by
              intro h
              have := congrArg List.length h
              simp only [List.length_drop, List.length_nil] at this
              omega
            rw [hok, okP_two _ _ hne, hg, decide_eq_true (show 0 < i + 1 by omega), Bool.true_and]
          · rw [hok, List.drop_eq_nil_of_le (by omega)]
            show (good wd || tl _ _) = true
            rw [hg]; rfl
        · have hg0 : good wd = false := by simpa using hg
          have c1 : (decide ((numR wd).2.2.1 = 0) && decide ((0:Int) < (numR wd).1)) = false := by
            unfold good at hg0
            rw [← hg0]
            congr 1
          by_cases hlast : i + 1 = (prt [] s).length
          · have hd1 : (prt [] s).drop (i + 1) = [] := List.drop_eq_nil_of_le (by omega)
            rw [hd1] at hok
            have hok' : okPath s = (good wd || tl (decide (0 < i)) (wd.map lowc)) := hok
            rw [hg0, Bool.false_or] at hok'
            have e2 : decide (((i + 1 : Nat) : Int) < (((prt [] s).length : Nat) : Int)) = false := decide_eq_false (by omega)
            have hcc : (((!(decide (wd.map lowc = hdW))) && (!(decide (wd.map lowc = txW)))) && ((!(decide (wd.map lowc = miW))) || (!decide (0 < i)))) = !tl (decide (0 < i)) (wd.map lowc) := by
              unfold tl
              cases decide (wd.map lowc = hdW) <;> cases decide (wd.map lowc = txW) <;> cases decide (wd.map lowc = miW) <;> cases decide (0 < i) <;> rfl
            cases htl : tl (decide (0 < i)) (wd.map lowc) with
            | true =>
              left
              rw [htl] at hok' hcc
              refine ⟨(([], s, (), (), wd.map lowc, ((i + 1 : Nat) : Int), ()), (prt [] s, out, ())), ?_, ⟨i + 1, _, _, rfl, by omega, by omega, fun _ hl => absurd hl (by omega), fun _ _ => hok'⟩, by show (prt [] s).length - ((i + 1 : Nat) : Int).toNat < (prt [] s).length - (i : Int).toNat; omega⟩
              unfold hdW txW miW at hcc
              simp only [B11_0, e0, e1, Bool.and_self, cond_true, nat_nn, Int.toNat_natCast, hwd, F26_eq wd (by omega), Option.bind_some, c1, cond_false, F22_eq wd (by omega), w64_nat (show i < 9223372036854775807 by omega), e2, Bool.false_or, ei0, hcc, Bool.not_true]
            | false =>
              right
              rw [htl] at hok' hcc
              refine ⟨.inr (((), (), (), ()), ()), ?_, hok'⟩
              unfold hdW txW miW at hcc
              simp only [B11_0, e0, e1, Bool.and_self, cond_true, nat_nn, Int.toNat_natCast, hwd, F26_eq wd (by omega), Option.bind_some, c1, cond_false, F22_eq wd (by omega), w64_nat (show i < 9223372036854775807 by omega), e2, Bool.false_or, ei0, hcc, Bool.not_false]
          · right
            have hne : (prt [] s).drop (i + 1) ≠ [] := by
              intro h
              have := congrArg List.length h
              simp only [List.length_drop, List.length_nil] at this
              omega
            rw [okP_two _ _ hne, hg0, Bool.false_and] at hok
            have e2 : decide (((i + 1 : Nat) : Int) < (((prt [] s).length : Nat) : Int)) = true := decide_eq_true (by omega)
            refine ⟨.inr (((), (), (), ()), ()), ?_, hok⟩
            simp only [B11_0, e0, e1, Bool.and_self, cond_true, nat_nn, Int.toNat_natCast, hwd, F26_eq wd (by omega), Option.bind_some, c1, cond_false, F22_eq wd (by omega), w64_nat (show i < 9223372036854775807 by omega), e2, Bool.true_or]
      · right
        have e : decide ((i : Int) < (((prt [] s).length : Nat) : Int)) = false := decide_eq_false (by omega)
        exact ⟨.inl (([], (), last, ()), (out, ())), by simp only [B11_0, e, Bool.and_false, cond_false], h2 h0 (by omega), rfl, by omega⟩)
    (p := (([], s, (), (), [], (0:Int), ()), (prt [] s, ([] : List Int), ()))) ⟨0, [], [], rfl, Nat.zero_le _, Nat.zero_le _, fun h _ => by unfold okPath; rw [if_neg h]; rfl, fun h h' => absurd h' (by have := List.length_pos_iff.2 (prt_ne s []); omega)⟩ (by have := FUEL_big; show (prt [] s).length - (0:Int).toNat < FUEL; omega)

theorem F11_ok (s : List UInt8) (hs : s.length ≤ 8000000) : ∃ a b e, F11 (([], s, ()), ()) = some ((a, b, e, ()), ()) ∧ decide (e = 4) = !okPath s := by
  obtain ⟨r, h1, hr⟩ := F11a_ok s hs
  have h1' : L11_0 ((([] : List UInt8), s, (), (), ([]:List UInt8), (0:Int), ()), (prt [] s, ([]:List Int), ())) = some r := h1
  simp only [F11, F25_eq s hs, Option.bind_some, h1']
  rcases r with ⟨⟨b, ⟨⟩, w, ⟨⟩⟩, nums, ⟨⟩⟩ | ⟨⟨⟨⟩, ⟨⟩, ⟨⟩, ⟨⟩⟩, ⟨⟩⟩
  · obtain ⟨hok, rfl, hnl⟩ := hr
    rw [hok]
    simp only [Option.bind_some]
    by_cases hn : decide (((nums.length : Nat) : Int) = 0) = true
    · simp only [hn, cond_true, refsplit_nil, Option.bind_some, decide_true, Bool.not_true, cond_false]
      cases decide (w = ([104, 101, 97, 100, 101, 114]:List UInt8)) <;> cases decide (w = ([116, 101, 120, 116]:List UInt8)) <;> exact ⟨_, _, _, rfl, rfl⟩
    · have hn' : decide (((nums.length : Nat) : Int) = 0) = false := by simpa using hn
      obtain ⟨r, g1, gr⟩ := loop_ind (f := B11_1)
        (I := fun p => ∃ i : Nat, p = (((), w, L0, (0:Int), (i : Int), ()), (nums, ())) ∧ i ≤ nums.length)
        (μ := fun p => nums.length - p.1.2.2.2.2.1.toNat)
        (Q := fun r => r = .inl ((w, L0, (0:Int), ()), ()) ∨ r = .inr (((), (), (), ()), ()))
        (fun p ⟨i, hp, hi⟩ => by
          subst hp
          by_cases hc : i < nums.length
          · have e : decide ((i : Int) < ((nums.length : Nat) : Int)) = true := decide_eq_true (by omega)
            by_cases h1 : nums.getD i 0 = 1
            · left
              refine ⟨(((), w, L0, (0:Int), ((i + 1 : Nat) : Int), ()), (nums, ())), ?_, ⟨i + 1, rfl, by omega⟩, by show nums.length - ((i + 1 : Nat) : Int).toNat < nums.length - (i : Int).toNat; omega⟩
              have e0 : decide ((0:Int) < (0:Int)) = false := rfl
              simp only [B11_1, e, cond_true, nat_nn, Bool.and_self, Int.toNat_natCast, refto_nil, h1, decide_true, Option.bind_some, Bool.not_true, cond_false, e0, w64_nat (show i < 9223372036854775807 by omega)]
            · right
              have e0 : decide ((-1:Int) < (0:Int)) = true := rfl
              refine ⟨_, ?_, .inr rfl⟩
              simp only [B11_1, e, cond_true, nat_nn, Bool.and_self, Int.toNat_natCast, refto_nil, h1, decide_false, Option.bind_some, Bool.not_false, e0]
          · right
            have e : decide ((i : Int) < ((nums.length : Nat) : Int)) = false := decide_eq_false (by omega)
            exact ⟨_, by simp only [B11_1, e, cond_false], .inl rfl⟩)
        (p := (((), w, L0, (0:Int), (0:Int), ()), (nums, ()))) ⟨0, rfl, Nat.zero_le _⟩ (by have := FUEL_big; show nums.length - (0:Int).toNat < FUEL; omega)
      have g1' : L11_1 (((), w, L0, (0:Int), (0:Int), ()), (nums, ())) = some r := g1
      simp only [hn', cond_false, refparse_nil, Option.bind_some, decide_true, Bool.not_true, g1']
      rcases gr with rfl | rfl
      · simp only [Option.bind_some]
        have a1 : decide ((0:Int) < ((L0.length : Nat) : Int)) = true := rfl
        have a2 : decide ((0:Int) ≤ (0:Int)) = true := rfl
        have a3 : decide ((L0.getD (Int.toNat 0) ([], [], [], 0, 0, 0, 0, 0, 0, ())).1 = ([109, 101, 115, 115, 97, 103, 101, 47, 114, 102, 99, 56, 50, 50]:List UInt8)) = false := by decide
        cases (decide (w = ([104, 101, 97, 100, 101, 114]:List UInt8)) || decide (w = ([116, 101, 120, 116]:List UInt8)))
        · simp only [cond_false, Option.bind_some, a1, a2, Bool.and_self, cond_true]
          cases (decide (w = ([104, 101, 97, 100, 101, 114]:List UInt8)) || decide (w = ([109, 105, 109, 101]:List UInt8)))
          · exact ⟨_, _, _, rfl, rfl⟩
          · exact ⟨_, _, _, rfl, rfl⟩
        · simp only [cond_true, a1, a2, Bool.and_self, a3, Bool.not_false, Bool.not_true, cond_false]
          exact ⟨_, _, _, rfl, rfl⟩
      · exact ⟨_, _, _, rfl, rfl⟩
  · have hok : okPath s = false := hr
    rw [hok]
    exact ⟨_, _, _, rfl, rfl⟩

theorem F66_eq (s : List UInt8) (hs : s.length ≤ 8000000) : F66 ((s, ()), ()) = some (okPath s, ()) := by
  obtain ⟨a, b, e, h, he⟩ := F91_ok s hs
  simp only [F66, h, Option.bind_some, he, Bool.not_not]

theorem F58_eq (s : List UInt8) (hs : s.length ≤ 8000000) : F58 ((s, ()), ()) = some (okPath s, ()) := by
  obtain ⟨a, b, e, h, he⟩ := F11_ok s hs
  simp only [F58, h, Option.bind_some, he, Bool.not_not]
end Go.Vw

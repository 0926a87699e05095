/- What may be folded. -/
import Derived.Test.YtppghnjcgliekaaDoorHd4
namespace Go.Hd
open Go Go.Ev
set_option maxRecDepth 100000

def ctl (c : UInt8) : Bool := (decide (c.toNat < 32) && !decide (c = 9)) || decide (c = 127)

def badC (v : List UInt8) (i : Nat) : Bool := ctl (v.getD i 0) || (bl (v.getD i 0) && ((decide (i = 0) || decide (i + 1 = v.length)) || bl (v.getD (i - 1) 0)))
def badR (v : List UInt8) (i : Nat) : Bool := ctl (v.getD i 0) || (bl (v.getD i 0) && ((decide (i = 0) || decide (i + 1 = v.length)) || bl (v.getD (i + 1) 0)))

def okv (v : List UInt8) : Bool := (List.range v.length).all fun i => !badR v i

theorem bad_iff (v : List UInt8) : ((List.range v.length).all fun i => !badC v i) = okv v := by
  unfold okv
  rw [Bool.eq_iff_iff, List.all_eq_true, List.all_eq_true]
  constructor
  · intro h i hi
    rw [List.mem_range] at hi
    have h0 := h i (List.mem_range.mpr hi)
    simp only [badC, Bool.not_or, Bool.and_eq_true, Bool.not_eq_true'] at h0
    simp only [badR, Bool.not_or, Bool.and_eq_true, Bool.not_eq_true']
    refine ⟨h0.1, ?_⟩
    rw [Bool.and_eq_false_iff]
    by_cases hb : bl (v.getD i 0) = true
    · right
      rw [hb, Bool.true_and, Bool.or_eq_false_iff] at h0
      rw [Bool.or_eq_false_iff]
      refine ⟨h0.2.1, ?_⟩
      rw [Bool.or_eq_false_iff, decide_eq_false_iff_not, decide_eq_false_iff_not] at h0
      have h1 := h (i + 1) (List.mem_range.mpr (by omega))
      simp only [badC, Bool.not_or, Bool.and_eq_true, Bool.not_eq_true', Nat.add_sub_cancel, hb, Bool.or_true, Bool.and_true] at h1
      exact h1.2
    · left; simpa using hb
  · intro h i hi
    rw [List.mem_range] at hi
    have h0 := h i (List.mem_range.mpr hi)
    simp only [badR, Bool.not_or, Bool.and_eq_true, Bool.not_eq_true'] at h0
    simp only [badC, Bool.not_or, Bool.and_eq_true, Bool.not_eq_true']
    refine ⟨h0.1, ?_⟩
    rw [Bool.and_eq_false_iff]
    by_cases hb : bl (v.getD i 0) = true
    · right
      rw [hb, Bool.true_and, Bool.or_eq_false_iff] at h0
      rw [Bool.or_eq_false_iff]
      refine ⟨h0.2.1, ?_⟩
      rw [Bool.or_eq_false_iff, decide_eq_false_iff_not, decide_eq_false_iff_not] at h0
      have h1 := h (i - 1) (List.mem_range.mpr (by omega))
      rw [show i = i - 1 + 1 by omega] at hb
      simp only [badR, Bool.not_or, Bool.and_eq_true, Bool.not_eq_true', hb, Bool.or_true, Bool.and_true] at h1
      exact h1.2
    · left; simpa using hb

theorem range_get (n i : Nat) (a : Nat) (hi : i < (List.range n).length) (ha : ∀ d, (List.range n).getD i d = a) : a = i ∧ i < n := by
  rw [List.length_range] at hi
  have := ha 0
  rw [List.getD_eq_getElem?_getD, List.getElem?_eq_getElem (by simpa using hi), List.getElem_range] at this
  exact ⟨this.symm, hi⟩

theorem F34_eq (v : List UInt8) (hv : v.length ≤ 9223372036854775807) : F34 ((v, ()), ()) = some (if okv v then (if 1024 < v.length ∨ lng v = true then 6 else 0) else 4, ()) := by
  have hF : (9223372036854775807 : Nat) < FUEL := by unfold FUEL; omega
  have h := walk_list (f := B34_0) (fun (_ : Unit) i => ((v, (v.length : Int), (i : Int), ()), ())) (List.range v.length) (fun a _ => if (!badC v a) = true then .inl () else .inr (.inr (((), ()), ()))) (fun _ => .inl ((v, ()), ())) (b := ())
    (fun b i a hi ha => by
      obtain ⟨rfl, hi⟩ := range_get _ _ _ hi ha
      have hw : w64 ((v.length : Int) - 1) = ((v.length - 1 : Nat) : Int) := by rw [w64_id (by omega) (by omega)]; omega
      have e1 : decide ((a : Int) = 0) = decide (a = 0) := by rw [decide_eq_decide]; omega
      have e2 : decide ((a : Int) = ((v.length - 1 : Nat) : Int)) = decide (a + 1 = v.length) := by rw [decide_eq_decide]; omega
      simp only [B34_0, nat_nn, nat_lt, hi, decide_true, Bool.and_self, cond_true, Int.toNat_natCast, hw, e1, e2, F25_eq, Option.bind_some, w64_nat (show a < 9223372036854775807 by omega), Bool.and_true]
      unfold badC ctl
      by_cases he : a = 0 ∨ a + 1 = v.length
      · have he' : (decide (a = 0) || decide (a + 1 = v.length)) = true := by simpa using he
        simp only [he', Bool.or_true, Bool.not_true, cond_true, cond_false, Bool.true_or, Bool.and_true, show UInt8.toNat 32 = 32 from rfl]
        cases (decide ((v.getD a 0).toNat < 32) && !decide (v.getD a 0 = 9)) || decide (v.getD a 0 = 127)
        · cases bl (v.getD a 0) <;> rfl
        · rfl
      · have he' : (decide (a = 0) || decide (a + 1 = v.length)) = false := by simpa using he
        have hw2 : w64 ((a : Int) - 1) = ((a - 1 : Nat) : Int) := by rw [w64_id (by omega) (by omega)]; omega
        have hlt : a - 1 < v.length := by omega
        simp only [hw2, nat_nn, nat_lt, hlt, decide_true, Bool.and_self, Bool.true_or, he', Bool.not_false, cond_true, Int.toNat_natCast, Bool.false_or, show UInt8.toNat 32 = 32 from rfl]
        cases (decide ((v.getD a 0).toNat < 32) && !decide (v.getD a 0 = 9)) || decide (v.getD a 0 = 127)
        · cases bl (v.getD a 0) <;> cases bl (v.getD (a - 1) 0) <;> rfl
        · rfl)
    (fun b => by simp only [List.length_range, B34_0, Int.lt_irrefl, decide_false, cond_false]) (by rw [List.length_range]; omega)
  rw [foldS_all, bad_iff] at h
  have h' : L34_0 ((v, (v.length : Int), (0:Int), ()), ()) = _ := h
  simp only [F34, h']
  cases okv v
  · rfl
  · have e : decide ((1024:Int) < ((v.length : Nat) : Int)) = decide (1024 < v.length) := by rw [decide_eq_decide]; omega
    simp only [↓reduceIte, Option.bind_some, e]
    by_cases h1 : 1024 < v.length
    · simp only [h1, decide_true, Bool.not_true, cond_false, true_or, ↓reduceIte]
    · have hsz : decide (v.length ≤ 4294967296) = true := by rw [decide_eq_true_eq]; omega
      have hlen : (List.map (fun x => x.data.toList) (Lib.goFieldsP blank50 ⟨v.toArray⟩)).length ≤ 1100002 := by
        rw [List.length_map]
        have := fields_few v
        omega
      simp only [h1, decide_false, Bool.not_false, cond_true, hsz, F48_eq _ hlen, Option.bind_some, fields_long, false_or]
      cases lng v <;> rfl

end Go.Hd

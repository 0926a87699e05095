/- Boxes: new memory, adding, sameness, what always is. -/
import Derived.Test.YtbnmcdcpendjjaaBx2
namespace Go.Bx
open Go Go.Ev
set_option maxRecDepth 100000

theorem bytes_ok {n k : Nat} (h : n * k ≤ 140737488355328) : bytesOK n k = true := decide_eq_true h

theorem F25_eq (l : List UInt8) (h : l.length ≤ 600) : F25 ((l, ()), ()) = some ((), (l, ())) := by
  have hb : bytesOK (0 + l.length) 1 = true := bytes_ok (by omega)
  cases l with
  | nil => simp only [F25, List.isEmpty_nil, cond_true, hb, List.append_nil, agr_self]
  | cons a t => simp only [F25, List.isEmpty_cons, cond_false, hb, cond_true, List.nil_append]

theorem F38_eq (l : List Ltr) (h : l.length ≤ 32) : F38 ((l, ()), ()) = some ((), (l, ())) := by
  have hb : bytesOK (([] : List Ltr).length + l.length) 40 = true := bytes_ok (by simp only [List.length_nil]; omega)
  cases l with
  | nil => simp only [F38, List.isEmpty_nil, cond_true, hb, List.append_nil, agr_self]
  | cons a t => simp only [F38, List.isEmpty_cons, cond_false, hb, cond_true, List.nil_append]

theorem set_same {α : Type} : ∀ (l : List α) (i : Nat) (a : α), (∀ d, l.getD i d = a) → l.set i a = l
  | [], _, _, _ => rfl
  | x :: t, 0, a, h => by rw [← h a]; rfl
  | x :: t, i + 1, a, h => by
    rw [List.set_cons_succ, set_same t i a (fun d => by simpa using h d)]

theorem foldS_const {α τ : Type} (r : τ) : ∀ (l : List α), foldS (fun _ (_ : Unit) => (.inl () : Unit ⊕ τ)) (fun _ => r) () l = r
  | [] => rfl
  | _ :: t => foldS_const r t

theorem L24_eq (nm : List UInt8) (v n : Int) (ls ks : List Ltr) (hl : ls.length ≤ 32) (hb : ∀ l ∈ ls, l.2.2.1.length ≤ 600) :
    L24_0 (((), (), ((ls.length : Nat) : Int), (0:Int), ()), ((nm, v, n, (), ()), ((), (), (), (), ()), ls, ks, ())) = some (((), (), ()), ((nm, v, n, (), ()), ((), (), (), (), ()), ls, ks, ())) := by
  have hF := FUEL_big
  have h := walk_list (f := B24_0) (fun (_ : Unit) i => (((), (), ((ls.length : Nat) : Int), (i : Int), ()), ((nm, v, n, (), ()), ((), (), (), (), ()), ls, ks, ()))) ls (fun _ _ => .inl ())
    (fun _ => (((), (), ()), ((nm, v, n, (), ()), ((), (), (), (), ()), ls, ks, ()))) (b := ()) (fun b i a hi ha => ?_) (fun b => ?_) (by omega)
  · rw [foldS_const] at h
    exact h
  · have hm : a ∈ ls := by
      rw [← ha (0, 0, [], ()), List.getD_eq_getElem?_getD, List.getElem?_eq_getElem hi]
      exact List.getElem_mem hi
    simp only [B24_0, nat_lt, nat_nn, hi, decide_true, Bool.and_true, cond_true, Option.bind_some, Int.toNat_natCast, ha, F25_eq _ (hb a hm), w64_nat (show i < 9223372036854775807 by omega)]
    rw [set_same ls i (a.1, a.2.1, a.2.2.1, ()) (fun d => by rw [ha])]
  · simp only [B24_0, Int.lt_irrefl, decide_false, cond_false]

theorem F24_eq (b : Box) (hl : b.2.2.2.1.length ≤ 32) (hb : ∀ l ∈ b.2.2.2.1, l.2.2.1.length ≤ 600) : F24 ((b, ()), ()) = some ((b.1, b.2.1, b.2.2.1, (), ()), (b.2.2.2.1, ())) := by
  obtain ⟨nm, v, n, ls, u⟩ := b
  cases u
  simp only [F24, F38_eq ls hl, Option.bind_some, L24_eq nm v n ls [] hl hb]

/-- what a right box is -/
theorem chk_zero {n : Int} : ∀ {ls : List Ltr} {last : Int}, code (foldS (chk1 n) (fun _ => .inl ((), ())) last ls) = 0 → ∀ l ∈ ls, last < l.1 ∧ l.1 < n ∧ l.2.1.toNat < 32 ∧ l.2.2.1.length ≤ 600
  | [], _, _, _, hm => absurd hm (List.not_mem_nil)
  | a :: t, last, h, l, hm => by
    simp only [foldS, chk1] at h
    by_cases h1 : a.1 ≤ last ∨ n ≤ a.1
    · simp [h1, code] at h
    · by_cases h2 : 32 ≤ a.2.1.toNat
      · simp [h1, h2, code] at h
      · by_cases h3 : 600 < a.2.2.1.length
        · simp [h1, h2, h3, code] at h
        · simp only [h1, h2, h3, ↓reduceIte] at h
          rcases List.mem_cons.mp hm with rfl | hm
          · exact ⟨by omega, by omega, by omega, by omega⟩
          · have := chk_zero h l hm
            exact ⟨by omega, this.2.1, this.2.2.1, this.2.2.2⟩

theorem chk_rise {n : Int} : ∀ {ls : List Ltr} {last : Int}, code (foldS (chk1 n) (fun _ => .inl ((), ())) last ls) = 0 → ls.Pairwise (fun a b => a.1 < b.1)
  | [], _, _ => List.Pairwise.nil
  | a :: t, last, h => by
    simp only [foldS, chk1] at h
    by_cases h1 : a.1 ≤ last ∨ n ≤ a.1
    · simp [h1, code] at h
    · by_cases h2 : 32 ≤ a.2.1.toNat
      · simp [h1, h2, code] at h
      · by_cases h3 : 600 < a.2.2.1.length
        · simp [h1, h2, h3, code] at h
        · simp only [h1, h2, h3, ↓reduceIte] at h
          exact List.Pairwise.cons (fun l hl => (chk_zero h l hl).1) (chk_rise h)

structure Right (b : Box) : Prop where
  valid : 1 ≤ b.2.1 ∧ b.2.1 ≤ 4294967295
  next : 1 ≤ b.2.2.1 ∧ b.2.2.1 ≤ 4294967295
  few : b.2.2.2.1.length ≤ 32
  each : ∀ l ∈ b.2.2.2.1, 0 < l.1 ∧ l.1 < b.2.2.1 ∧ l.2.1.toNat < 32 ∧ l.2.2.1.length ≤ 600
  rise : b.2.2.2.1.Pairwise (fun a b => a.1 < b.1)

theorem chk_of {n : Int} : ∀ {ls : List Ltr} {last : Int}, ls.Pairwise (fun a b => a.1 < b.1) → (∀ l ∈ ls, last < l.1 ∧ l.1 < n ∧ l.2.1.toNat < 32 ∧ l.2.2.1.length ≤ 600) → code (foldS (chk1 n) (fun _ => .inl ((), ())) last ls) = 0
  | [], _, _, _ => rfl
  | a :: t, last, hp, h => by
    have ha := h a (List.mem_cons_self ..)
    obtain ⟨hp1, hp2⟩ := List.pairwise_cons.mp hp
    have h1 : ¬ (a.1 ≤ last ∨ n ≤ a.1) := by omega
    have h2 : ¬ 32 ≤ a.2.1.toNat := by omega
    have h3 : ¬ 600 < a.2.2.1.length := by omega
    simp only [foldS, chk1, h1, h2, h3, ↓reduceIte]
    exact chk_of hp2 (fun l hl => ⟨hp1 l hl, (h l (List.mem_cons_of_mem _ hl)).2⟩)

theorem check_zero {b : Box} : check b = 0 ↔ Right b := by
  constructor
  · intro h
    unfold check at h
    by_cases h1 : b.2.1 < 1 ∨ 4294967295 < b.2.1 ∨ b.2.2.1 < 1 ∨ 4294967295 < b.2.2.1
    · rw [if_pos h1] at h; cases h
    · rw [if_neg h1] at h
      by_cases h2 : 32 < b.2.2.2.1.length
      · rw [if_pos h2] at h; cases h
      · rw [if_neg h2] at h
        exact ⟨by omega, by omega, by omega, chk_zero h, chk_rise h⟩
  · intro h
    have := h.valid
    have := h.next
    have := h.few
    unfold check
    rw [if_neg (by omega), if_neg (by omega)]
    exact chk_of h.rise h.each

def empty : Box := ([], 0, 0, [], ())

/-- a letter laid into a box -/
def add (b : Box) (f : UInt8) (p : List UInt8) : Box × Int × Int × Unit :=
  if check b ≠ 0 then (empty, 0, check b, ())
  else if 32 ≤ f.toNat then (empty, 0, 2, ())
  else if 600 < p.length then (empty, 0, 6, ())
  else if b.2.2.2.1.length = 32 ∨ b.2.2.1 = 4294967295 then (empty, 0, 8, ())
  else ((b.1, b.2.1, b.2.2.1 + 1, b.2.2.2.1 ++ [(b.2.2.1, f, p, ())], ()), b.2.2.1, 0, ())

theorem F10_eq (b : Box) (f : UInt8) (p : List UInt8) : F10 ((b, f, p, ()), ()) = some (add b f p, ()) := by
  have e16 := F16_eq b
  have e24 := F24_eq b
  have ez := check_zero (b := b)
  obtain ⟨nm, v, n, ls, u⟩ := b
  cases u
  unfold add
  simp only [F10, e16, Option.bind_some]
  generalize hc : check (nm, v, n, ls, ()) = c at *
  by_cases h0 : c = 0
  · have R := ez.mp h0
    have hr := R.few
    have hn := R.next
    simp only at hr hn
    simp only [h0, ne_eq, not_true_eq_false, ↓reduceIte, decide_true, Bool.not_true, cond_false]
    by_cases h1 : 32 ≤ f.toNat
    · simp [h1, empty]
    · by_cases h2 : 600 < p.length
      · have h2' : (600 : Int) < (p.length : Int) := by omega
        simp [h1, h2, h2', empty]
      · have h2' : ¬ (600 : Int) < (p.length : Int) := by omega
        by_cases h3 : ls.length = 32 ∨ n = 4294967295
        · have h3' : (decide (((ls.length : Nat) : Int) = 32) || decide (n = 4294967295)) = true := by
            simp only [Bool.or_eq_true, decide_eq_true_eq]; omega
          simp [h1, h2, h2', h3, h3', empty]
        · have h3' : (decide (((ls.length : Nat) : Int) = 32) || decide (n = 4294967295)) = false := by
            simp only [Bool.or_eq_false_iff, decide_eq_false_iff_not]; omega
          have hb : bytesOK (ls.length + 1) 40 = true := bytes_ok (by omega)
          simp only [show UInt8.toNat 32 = 32 from rfl, h1, h2, h2', h3, h3', decide_false, decide_true, cond_false, Option.bind_some, Bool.not_true, ↓reduceIte, e24 hr (fun l hl => (R.each l hl).2.2.2), F25_eq p (by omega), List.length_cons, List.length_nil, Nat.zero_add, hb, cond_true,
            w64_id (n := n + 1) (by omega) (by omega)]
  · simp [h0, empty]

theorem F11_eq (b : Box) (f : UInt8) (p : List UInt8) : F11 ((b, f, p, ()), ()) = some (add b f p, ()) := by
  have e17 := F17_eq b
  have ez := check_zero (b := b)
  obtain ⟨nm, v, n, ls, u⟩ := b
  cases u
  unfold add
  simp only [F11, e17, Option.bind_some]
  generalize hc : check (nm, v, n, ls, ()) = c at *
  by_cases h0 : c = 0
  · have R := ez.mp h0
    have hr := R.few
    have hn := R.next
    simp only at hr hn
    simp only [h0, ne_eq, not_true_eq_false, ↓reduceIte, decide_true, Bool.not_true, cond_false]
    by_cases h1 : 32 ≤ f.toNat
    · have h1' : 31 < f.toNat := by omega
      simp [h1, h1', empty]
    · have h1' : ¬ 31 < f.toNat := by omega
      by_cases h2 : 600 < p.length
      · have h2' : (600 : Int) < (p.length : Int) := by omega
        simp [h1, h1', h2, h2', empty]
      · have h2' : ¬ (600 : Int) < (p.length : Int) := by omega
        by_cases h3 : ls.length = 32 ∨ n = 4294967295
        · have h3' : (decide ((31 : Int) < ((ls.length : Nat) : Int)) || decide (4294967294 < n)) = true := by
            simp only [Bool.or_eq_true, decide_eq_true_eq]; omega
          simp [h1, h1', h2, h2', h3, h3', empty]
        · have h3' : (decide ((31 : Int) < ((ls.length : Nat) : Int)) || decide (4294967294 < n)) = false := by
            simp only [Bool.or_eq_false_iff, decide_eq_false_iff_not]; omega
          have hb : bytesOK (ls.length + 1) 40 = true := bytes_ok (by omega)
          have hb1 : bytesOK ls.length 40 = true := bytes_ok (by omega)
          have hb2 : bytesOK p.length 1 = true := bytes_ok (by omega)
          simp only [show UInt8.toNat 31 = 31 from rfl, h1, h1', h2, h2', h3, h3', decide_false, decide_true, cond_false, Option.bind_some, ↓reduceIte, List.length_cons, List.length_nil, Nat.zero_add, hb, hb1, hb2, cond_true, List.nil_append,
            w64_id (n := n + 1) (by omega) (by omega), agr_self]
  · simp [h0, empty]

end Go.Bx

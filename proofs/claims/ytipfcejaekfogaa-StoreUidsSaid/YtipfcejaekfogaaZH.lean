/- Texts that the last one leans on, 8. -/
import Derived.Test.YtipfcejaekfogaaZG
import Derived.Lib.TrimAscii
import Derived.Shelf.Vars
/- Taken out of the texts of another seat. -/
namespace Go.Su
open Go Go.Ev
set_option maxRecDepth 100000

section
abbrev Ltr : Type := Int × (UInt8 × (List UInt8 × Unit))

abbrev Box : Type := List UInt8 × Int × Int × List Ltr × Unit

abbrev Out : Type := (Unit × Unit) ⊕ ((Int × Unit) × Unit)

/-- one letter behind another -/
def chk1 (next : Int) (l : Ltr) (last : Int) : Int ⊕ Out :=
  if l.1 ≤ last ∨ next ≤ l.1 then .inr (.inr ((4, ()), ())) else if 32 ≤ l.2.1.toNat then .inr (.inr ((2, ()), ())) else if 600 < l.2.2.1.length then .inr (.inr ((6, ()), ())) else .inl l.1

def chk (next : Int) (ls : List Ltr) : Out := foldS (chk1 next) (fun _ => .inl ((), ())) 0 ls

def code : Out → Int
  | .inl _ => 0
  | .inr q => q.1.1

def check (b : Box) : Int :=
  if b.2.1 < 1 ∨ 4294967295 < b.2.1 ∨ b.2.2.1 < 1 ∨ 4294967295 < b.2.2.1 then 2 else if 32 < b.2.2.2.1.length then 8 else code (chk b.2.2.1 b.2.2.2.1)

theorem L56_eq (nm : List UInt8) (v n : Int) (ls : List Ltr) (hl : ls.length ≤ 32) : L56_0 (((), (0:Int), ls, ((ls.length : Nat) : Int), (0:Int), ()), ((nm, v, n, ls, ()), ())) = some (chk n ls) := by
  have hF := FUEL_big
  refine walk_list (f := B56_0) (fun b i => (((), b, ls, ((ls.length : Nat) : Int), (i : Int), ()), ((nm, v, n, ls, ()), ()))) ls (chk1 n) _ (fun b i a hi ha => ?_) (fun b => ?_) (by omega)
  · have e1 : ((0:Int), ((0:UInt8), (([]:(List UInt8)), ()))) = ((0, 0, [], ()) : Ltr) := rfl
    simp only [B56_0, nat_lt, nat_nn, hi, decide_true, Bool.and_true, cond_true, Option.bind_some, Int.toNat_natCast, ha, chk1, w64_nat (show i < 9223372036854775807 by omega)]
    by_cases h1 : a.1 ≤ b ∨ n ≤ a.1
    · simp only [h1, ↓reduceIte]
      rcases h1 with h1 | h1 <;> simp [h1]
    · simp only [h1, ↓reduceIte]
      rw [not_or] at h1
      by_cases h2 : 32 ≤ a.2.1.toNat
      · simp [h1, h2]
      · by_cases h3 : 600 < a.2.2.1.length
        · have h3' : (600 : Int) < (a.2.2.1.length : Int) := by omega
          simp [h1, h2, h3, h3']
        · have h3' : ¬ (600 : Int) < (a.2.2.1.length : Int) := by omega
          simp [h1, h2, h3, h3']
  · simp only [B56_0, Int.lt_irrefl, decide_false, cond_false]

theorem F56_eq (b : Box) : F56 ((b, ()), ()) = some (check b, ()) := by
  obtain ⟨nm, v, n, ls, u⟩ := b
  cases u
  simp only [F56, F73, check, Option.bind_some]
  by_cases h1 : v < 1 ∨ 4294967295 < v ∨ n < 1 ∨ 4294967295 < n
  · simp only [h1, ↓reduceIte]
    by_cases h2 : 1 ≤ v ∧ v ≤ 4294967295
    · have : ¬ (1 ≤ n ∧ n ≤ 4294967295) := by omega
      simp [h2, this, ← Bool.decide_and]
    · simp [h2, ← Bool.decide_and]
  · have h2 : 1 ≤ v ∧ v ≤ 4294967295 ∧ 1 ≤ n ∧ n ≤ 4294967295 := by omega
    simp only [h1, ↓reduceIte]
    by_cases h3 : 32 < ls.length
    · have h3' : (32 : Int) < (ls.length : Int) := by omega
      simp [h2, h3, h3']
    · have h3' : ¬ (32 : Int) < (ls.length : Int) := by omega
      simp only [h2, h3, h3', L56_eq nm v n ls (by omega), decide_true, decide_false, Bool.and_true, Bool.not_true, Bool.not_false, cond_true, cond_false, Option.bind_some, ↓reduceIte]
      cases chk n ls <;> rfl

/-- the bytes of letters, in the machine's sum -/
def size (ls : List Ltr) : Int := foldS (fun (l : Ltr) n => (.inl (w64 (n + (l.2.2.1.length : Int))) : Int ⊕ Int)) id 0 ls

theorem foldS_map {α β τ υ : Type} (g : τ → υ) {step : α → β → β ⊕ τ} {fin : β → τ} : ∀ (ls : List α) (b : β),
    foldS (fun a b => match step a b with | .inl c => .inl c | .inr r => .inr (g r)) (fun b => g (fin b)) b ls = g (foldS step fin b ls)
  | [], _ => rfl
  | a :: t, b => by
    simp only [foldS]
    cases step a b with
    | inl c => exact foldS_map g t c
    | inr r => rfl

theorem F57_eq (b : Box) (hl : b.2.2.2.1.length ≤ maxLen) : F57 ((b, ()), ()) = some (size b.2.2.2.1, ()) := by
  obtain ⟨nm, v, n, ls, u⟩ := b
  have hF : maxLen < FUEL := by unfold maxLen FUEL; omega
  have hm : maxLen = 9223372036854775807 := rfl
  change ls.length ≤ maxLen at hl
  have h : L57_0 (((0:Int), ls, ((ls.length : Nat) : Int), (0:Int), ()), ()) = some (foldS (fun (l : Ltr) n => (.inl (w64 (n + (l.2.2.1.length : Int))) : Int ⊕ ((Int × Unit) × Unit))) (fun n => ((n, ()), ())) 0 ls) :=
    walk_list (f := B57_0) (fun b i => ((b, ls, ((ls.length : Nat) : Int), (i : Int), ()), ())) ls _ _ (fun b i a hi ha => by
      simp only [B57_0, nat_lt, nat_nn, hi, decide_true, Bool.and_true, cond_true, Option.bind_some, Int.toNat_natCast, ha, w64_nat (show i < 9223372036854775807 by omega)])
      (fun b => by simp only [B57_0, Int.lt_irrefl, decide_false, cond_false]) (by omega)
  have e := foldS_map (fun n : Int => ((n, ()), ())) (step := fun (l : Ltr) n => (.inl (w64 (n + (l.2.2.1.length : Int))) : Int ⊕ Int)) (fin := id) ls 0
  simp only [id_eq] at e
  rw [e] at h
  simp only [F57, h, Option.bind_some, size]

end

section
theorem bytes_ok {n k : Nat} (h : n * k ≤ 140737488355328) : bytesOK n k = true := decide_eq_true h

theorem F19_eq (l : List UInt8) (h : l.length ≤ 600) : F19 ((l, ()), ()) = some ((), (l, ())) := by
  have hb : bytesOK (0 + l.length) 1 = true := bytes_ok (by omega)
  cases l with
  | nil => simp only [F19, List.isEmpty_nil, cond_true, hb, List.append_nil, agr_self]
  | cons a t => simp only [F19, List.isEmpty_cons, cond_false, hb, cond_true, List.nil_append]

theorem F18_eq (l : List Ltr) (h : l.length ≤ 32) : F18 ((l, ()), ()) = some ((), (l, ())) := by
  have hb : bytesOK (([] : List Ltr).length + l.length) 40 = true := bytes_ok (by simp only [List.length_nil]; omega)
  cases l with
  | nil => simp only [F18, List.isEmpty_nil, cond_true, hb, List.append_nil, agr_self]
  | cons a t => simp only [F18, List.isEmpty_cons, cond_false, hb, cond_true, List.nil_append]

theorem set_same {α : Type} : ∀ (l : List α) (i : Nat) (a : α), (∀ d, l.getD i d = a) → l.set i a = l
  | [], _, _, _ => rfl
  | x :: t, 0, a, h => by rw [← h a]; rfl
  | x :: t, i + 1, a, h => by
    rw [List.set_cons_succ, set_same t i a (fun d => by simpa using h d)]

theorem foldS_const {α τ : Type} (r : τ) : ∀ (l : List α), foldS (fun _ (_ : Unit) => (.inl () : Unit ⊕ τ)) (fun _ => r) () l = r
  | [] => rfl
  | _ :: t => foldS_const r t

theorem L63_eq (nm : List UInt8) (v n : Int) (ls ks : List Ltr) (hl : ls.length ≤ 32) (hb : ∀ l ∈ ls, l.2.2.1.length ≤ 600) :
    L63_0 (((), (), ((ls.length : Nat) : Int), (0:Int), ()), ((nm, v, n, (), ()), ((), (), (), (), ()), ls, ks, ())) = some (((), (), ()), ((nm, v, n, (), ()), ((), (), (), (), ()), ls, ks, ())) := by
  have hF := FUEL_big
  have h := walk_list (f := B63_0) (fun (_ : Unit) i => (((), (), ((ls.length : Nat) : Int), (i : Int), ()), ((nm, v, n, (), ()), ((), (), (), (), ()), ls, ks, ()))) ls (fun _ _ => .inl ())
    (fun _ => (((), (), ()), ((nm, v, n, (), ()), ((), (), (), (), ()), ls, ks, ()))) (b := ()) (fun b i a hi ha => ?_) (fun b => ?_) (by omega)
  · rw [foldS_const] at h
    exact h
  · have hm : a ∈ ls := by
      rw [← ha (0, 0, [], ()), List.getD_eq_getElem?_getD, List.getElem?_eq_getElem hi]
      exact List.getElem_mem hi
    simp only [B63_0, nat_lt, nat_nn, hi, decide_true, Bool.and_true, cond_true, Option.bind_some, Int.toNat_natCast, ha, F19_eq _ (hb a hm), w64_nat (show i < 9223372036854775807 by omega)]
    rw [set_same ls i (a.1, a.2.1, a.2.2.1, ()) (fun d => by rw [ha])]
  · simp only [B63_0, Int.lt_irrefl, decide_false, cond_false]

theorem F63_eq (b : Box) (hl : b.2.2.2.1.length ≤ 32) (hb : ∀ l ∈ b.2.2.2.1, l.2.2.1.length ≤ 600) : F63 ((b, ()), ()) = some ((b.1, b.2.1, b.2.2.1, (), ()), (b.2.2.2.1, ())) := by
  obtain ⟨nm, v, n, ls, u⟩ := b
  cases u
  simp only [F63, F18_eq ls hl, Option.bind_some, L63_eq nm v n ls [] hl hb]

/-- what a right box is -/
theorem chk_zero {n : Int} : ∀ {ls : List Ltr} {last : Int}, code (foldS (chk1 n) (fun _ => .inl ((), ())) last ls) = 0 → ∀ l ∈ ls, last < l.1 ∧ l.1 < n ∧ l.2.1.toNat < 32 ∧ l.2.2.1.length ≤ 600
  | [], _, _, _, hm => absurd hm (List.not_mem_nil)
  | a :: t, last, h, l, hm => by
    simp only [foldS, chk1] at h
    by_cases h1 : a.1 ≤ last ∨ n ≤ a.1
    · simp [h1, code] at h
    · by_cases h2 : 32 ≤ a.2.1.toNat
      · simp [h1, h2, code] at h
      · by_cases h3 : 600 < a.2.2.1.length
        · simp [h1, h2, h3, code] at h
        · simp only [h1, h2, h3, ↓reduceIte] at h
          rcases List.mem_cons.mp hm with rfl | hm
          · exact ⟨by omega, by omega, by omega, by omega⟩
          · have := chk_zero h l hm
            exact ⟨by omega, this.2.1, this.2.2.1, this.2.2.2⟩

theorem chk_rise {n : Int} : ∀ {ls : List Ltr} {last : Int}, code (foldS (chk1 n) (fun _ => .inl ((), ())) last ls) = 0 → ls.Pairwise (fun a b => a.1 < b.1)
  | [], _, _ => List.Pairwise.nil
  | a :: t, last, h => by
    simp only [foldS, chk1] at h
    by_cases h1 : a.1 ≤ last ∨ n ≤ a.1
    · simp [h1, code] at h
    · by_cases h2 : 32 ≤ a.2.1.toNat
      · simp [h1, h2, code] at h
      · by_cases h3 : 600 < a.2.2.1.length
        · simp [h1, h2, h3, code] at h
        · simp only [h1, h2, h3, ↓reduceIte] at h
          exact List.Pairwise.cons (fun l hl => (chk_zero h l hl).1) (chk_rise h)

structure Right (b : Box) : Prop where
  valid : 1 ≤ b.2.1 ∧ b.2.1 ≤ 4294967295
  next : 1 ≤ b.2.2.1 ∧ b.2.2.1 ≤ 4294967295
  few : b.2.2.2.1.length ≤ 32
  each : ∀ l ∈ b.2.2.2.1, 0 < l.1 ∧ l.1 < b.2.2.1 ∧ l.2.1.toNat < 32 ∧ l.2.2.1.length ≤ 600
  rise : b.2.2.2.1.Pairwise (fun a b => a.1 < b.1)

theorem chk_of {n : Int} : ∀ {ls : List Ltr} {last : Int}, ls.Pairwise (fun a b => a.1 < b.1) → (∀ l ∈ ls, last < l.1 ∧ l.1 < n ∧ l.2.1.toNat < 32 ∧ l.2.2.1.length ≤ 600) → code (foldS (chk1 n) (fun _ => .inl ((), ())) last ls) = 0
  | [], _, _, _ => rfl
  | a :: t, last, hp, h => by
    have ha := h a (List.mem_cons_self ..)
    obtain ⟨hp1, hp2⟩ := List.pairwise_cons.mp hp
    have h1 : ¬ (a.1 ≤ last ∨ n ≤ a.1) := by omega
    have h2 : ¬ 32 ≤ a.2.1.toNat := by omega
    have h3 : ¬ 600 < a.2.2.1.length := by omega
    simp only [foldS, chk1, h1, h2, h3, ↓reduceIte]
    exact chk_of hp2 (fun l hl => ⟨hp1 l hl, (h l (List.mem_cons_of_mem _ hl)).2⟩)

theorem check_zero {b : Box} : check b = 0 ↔ Right b := by
  constructor
  · intro h
    unfold check at h
    by_cases h1 : b.2.1 < 1 ∨ 4294967295 < b.2.1 ∨ b.2.2.1 < 1 ∨ 4294967295 < b.2.2.1
    · rw [if_pos h1] at h; cases h
    · rw [if_neg h1] at h
      by_cases h2 : 32 < b.2.2.2.1.length
      · rw [if_pos h2] at h; cases h
      · rw [if_neg h2] at h
        exact ⟨by omega, by omega, by omega, chk_zero h, chk_rise h⟩
  · intro h
    have := h.valid
    have := h.next
    have := h.few
    unfold check
    rw [if_neg (by omega), if_neg (by omega)]
    exact chk_of h.rise h.each

def empty : Box := ([], 0, 0, [], ())

/-- a letter laid into a box -/
def add (b : Box) (f : UInt8) (p : List UInt8) : Box × Int × Int × Unit :=
  if check b ≠ 0 then (empty, 0, check b, ())
  else if 32 ≤ f.toNat then (empty, 0, 2, ())
  else if 600 < p.length then (empty, 0, 6, ())
  else if b.2.2.2.1.length = 32 ∨ b.2.2.1 = 4294967295 then (empty, 0, 8, ())
  else ((b.1, b.2.1, b.2.2.1 + 1, b.2.2.2.1 ++ [(b.2.2.1, f, p, ())], ()), b.2.2.1, 0, ())

theorem F45_eq (b : Box) (f : UInt8) (p : List UInt8) : F45 ((b, f, p, ()), ()) = some (add b f p, ()) := by
  have e16 := F56_eq b
  have e24 := F63_eq b
  have ez := check_zero (b := b)
  obtain ⟨nm, v, n, ls, u⟩ := b
  cases u
  unfold add
  simp only [F45, e16, Option.bind_some]
  generalize hc : check (nm, v, n, ls, ()) = c at *
  by_cases h0 : c = 0
  · have R := ez.mp h0
    have hr := R.few
    have hn := R.next
    simp only at hr hn
    simp only [h0, ne_eq, not_true_eq_false, ↓reduceIte, decide_true, Bool.not_true, cond_false]
    by_cases h1 : 32 ≤ f.toNat
    · simp [h1, empty]
    · by_cases h2 : 600 < p.length
      · have h2' : (600 : Int) < (p.length : Int) := by omega
        simp [h1, h2, h2', empty]
      · have h2' : ¬ (600 : Int) < (p.length : Int) := by omega
        by_cases h3 : ls.length = 32 ∨ n = 4294967295
        · have h3' : (decide (((ls.length : Nat) : Int) = 32) || decide (n = 4294967295)) = true := by
            simp only [Bool.or_eq_true, decide_eq_true_eq]; omega
          simp [h1, h2, h2', h3, h3', empty]
        · have h3' : (decide (((ls.length : Nat) : Int) = 32) || decide (n = 4294967295)) = false := by
            simp only [Bool.or_eq_false_iff, decide_eq_false_iff_not]; omega
          have hb : bytesOK (ls.length + 1) 40 = true := bytes_ok (by omega)
          simp only [show UInt8.toNat 32 = 32 from rfl, h1, h2, h2', h3, h3', decide_false, decide_true, cond_false, Option.bind_some, Bool.not_true, ↓reduceIte, e24 hr (fun l hl => (R.each l hl).2.2.2), F19_eq p (by omega), List.length_cons, List.length_nil, Nat.zero_add, hb, cond_true,
            w64_id (n := n + 1) (by omega) (by omega)]
  · simp [h0, empty]

end

section
theorem add_len (b : Box) (f : UInt8) (p : List UInt8) : (add b f p).1.2.2.2.1.length ≤ 32 := by
  unfold add
  by_cases h0 : check b = 0
  · have R := check_zero.mp h0
    have := R.few
    rw [if_neg (not_not_intro h0)]
    split
    · exact Nat.zero_le _
    · split
      · exact Nat.zero_le _
      · split
        · exact Nat.zero_le _
        · rename_i h
          simp only [List.length_append, List.length_cons, List.length_nil]
          omega
  · rw [if_pos h0]
    exact Nat.zero_le _

end

section
def cmp3 (a b : Int) : Int := if a < b then -1 else if b < a then 1 else 0

theorem F99_eq (a : Int) : F99 ((a, ()), ()) = some (false, ()) := by
  simp only [F99, decide_true, Bool.not_true]

theorem F87_eq (u f : Int × Unit) (l : Ltr) (uid : Int) : F87 (((l.1, l.2.1, l.2.2.1, ()), uid, ()), ()) = some (cmp3 l.1 uid, ()) := by
  simp only [F87, F88, F99_eq, Option.bind_some, cond_false, cmp3]
  by_cases h1 : l.1 < uid
  · simp [h1]
  · by_cases h2 : uid < l.1
    · simp [h1, h2]
    · simp [h1, h2]

theorem mid {lo hi : Nat} (h : lo + hi < 1000) : w64 (Int.fdiv (IntKind.wrap .u64 (w64 ((lo : Int) + (hi : Int)))) (2 ^ 1)) = (((lo + hi) / 2 : Nat) : Int) := by
  rw [w64_id (n := (lo : Int) + hi) (by omega) (by omega)]
  have e : IntKind.wrap .u64 ((lo : Int) + (hi : Int)) = ((lo + hi : Nat) : Int) := by
    unfold IntKind.wrap
    simp only [IntKind.bits, IntKind.signed]
    simp
    omega
  rw [e]
  have e2 : Int.fdiv ((lo + hi : Nat) : Int) (2 ^ 1) = (((lo + hi) / 2 : Nat) : Int) := by
    rw [Int.fdiv_eq_ediv_of_nonneg _ (by decide)]
    omega
  rw [e2]
  exact w64_id (by omega) (by omega)

theorem getD_lt {ls : List Ltr} (h : ls.Pairwise (fun a b => a.1 < b.1)) {i j : Nat} (hij : i < j) (hj : j < ls.length) (d : Ltr) : (ls.getD i d).1 < (ls.getD j d).1 := by
  have := List.pairwise_iff_getElem.mp h i j (by omega) hj hij
  rw [List.getD_eq_getElem?_getD, List.getD_eq_getElem?_getD, List.getElem?_eq_getElem hj, List.getElem?_eq_getElem (show i < ls.length by omega)]
  exact this

abbrev nol : Ltr := (0, 0, [], ())

theorem L86_eq (ls : List Ltr) (uid : Int) (hl : ls.length ≤ 32) (hr : ls.Pairwise (fun a b => a.1 < b.1)) :
    ∃ lo : Nat, L86c87_0 ((ls, uid, (), ((ls.length : Nat) : Int), (0:Int), ((ls.length : Nat) : Int), ()), ()) = some ((ls, uid, (), ((ls.length : Nat) : Int), (lo : Int), ()), ()) ∧ lo ≤ ls.length ∧ (∀ k, k < lo → (ls.getD k nol).1 < uid) ∧ (∀ k, lo ≤ k → k < ls.length → uid ≤ (ls.getD k nol).1) := by
  have hF := FUEL_big
  have h := loop_ind (f := B86c87_0) (p := ((ls, uid, (), ((ls.length : Nat) : Int), (0:Int), ((ls.length : Nat) : Int), ()), ()))
    (fun p => ∃ lo hi : Nat, p = ((ls, uid, (), ((ls.length : Nat) : Int), (lo : Int), (hi : Int), ()), ()) ∧ lo ≤ hi ∧ hi ≤ ls.length ∧ (∀ k, k < lo → (ls.getD k nol).1 < uid) ∧ (∀ k, hi ≤ k → k < ls.length → uid ≤ (ls.getD k nol).1))
    (fun p => (p.1.2.2.2.2.2.1 - p.1.2.2.2.2.1).toNat)
    (fun r => ∃ lo : Nat, r = ((ls, uid, (), ((ls.length : Nat) : Int), (lo : Int), ()), ()) ∧ lo ≤ ls.length ∧ (∀ k, k < lo → (ls.getD k nol).1 < uid) ∧ (∀ k, lo ≤ k → k < ls.length → uid ≤ (ls.getD k nol).1))
    (fun p hp => by
      obtain ⟨lo, hi, rfl, h1, h2, h3, h4⟩ := hp
      by_cases hlt : lo < hi
      · left
        have hm1 : lo ≤ (lo + hi) / 2 := by omega
        have hm2 : (lo + hi) / 2 < hi := by omega
        have hm3 : (lo + hi) / 2 < ls.length := by omega
        have hg := F87_eq (0, ()) (0, ()) (ls.getD ((lo + hi) / 2) nol) uid
        have hh : B86c87_0 ((ls, uid, (), ((ls.length : Nat) : Int), (lo : Int), (hi : Int), ()), ()) = some (.inl (if (ls.getD ((lo + hi) / 2) nol).1 < uid then ((ls, uid, (), ((ls.length : Nat) : Int), (((lo + hi) / 2 + 1 : Nat) : Int), (hi : Int), ()), ()) else ((ls, uid, (), ((ls.length : Nat) : Int), (lo : Int), (((lo + hi) / 2 : Nat) : Int), ()), ()))) := by
          simp only [B86c87_0, nat_lt, nat_nn, hlt, decide_true, cond_true, Option.bind_some, mid (show lo + hi < 1000 by omega), hm3, Bool.and_true, Int.toNat_natCast]
          rw [hg]
          simp only [Option.bind_some, cmp3]
          by_cases hc : (ls.getD ((lo + hi) / 2) nol).1 < uid
          · simp only [hc, ↓reduceIte, w64_nat (show (lo + hi) / 2 < 9223372036854775807 by omega)]
            rfl
          · simp only [hc, ↓reduceIte]
            by_cases hc2 : uid < (ls.getD ((lo + hi) / 2) nol).1
            · simp only [hc2, ↓reduceIte]; rfl
            · simp only [hc2, ↓reduceIte]; rfl
        by_cases hc : (ls.getD ((lo + hi) / 2) nol).1 < uid
        · rw [if_pos hc] at hh
          refine ⟨_, hh, ⟨_, hi, rfl, by omega, h2, fun k hk => ?_, h4⟩, by simp only; omega⟩
          rcases Nat.lt_or_ge k ((lo + hi) / 2) with hk2 | hk2
          · have := getD_lt hr hk2 hm3 nol
            omega
          · obtain rfl : k = (lo + hi) / 2 := by omega
            exact hc
        · rw [if_neg hc] at hh
          refine ⟨_, hh, ⟨lo, _, rfl, hm1, by omega, h3, fun k hk hk3 => ?_⟩, by simp only; omega⟩
          rcases Nat.lt_or_ge ((lo + hi) / 2) k with hk2 | hk2
          · have := getD_lt hr hk2 hk3 nol
            omega
          · obtain rfl : k = (lo + hi) / 2 := by omega
            omega
      · right
        obtain rfl : lo = hi := by omega
        refine ⟨((ls, uid, (), ((ls.length : Nat) : Int), (lo : Int), ()), ()), ?_, lo, rfl, h2, h3, h4⟩
        simp only [B86c87_0, Int.lt_irrefl, decide_false, cond_false])
    ⟨0, ls.length, rfl, Nat.zero_le _, Nat.le_refl _, fun k h => absurd h (Nat.not_lt_zero _), fun k h h' => by omega⟩ (by simp only; omega)
  obtain ⟨r, h1, lo, rfl, h2⟩ := h
  exact ⟨lo, h1, h2⟩

/-- whether a letter is in a list -/
def has (ls : List Ltr) (uid : Int) : Bool := ls.any fun l => decide (l.1 = uid)

theorem F64_eq (b : Box) (uid : Int) (hl : b.2.2.2.1.length ≤ 32) (hr : b.2.2.2.1.Pairwise (fun a b => a.1 < b.1)) :
    ∃ i : Nat, F64 ((b, uid, ()), ()) = some (((i : Int), has b.2.2.2.1 uid, ()), ()) ∧ (has b.2.2.2.1 uid = true → i < b.2.2.2.1.length ∧ (b.2.2.2.1.getD i nol).1 = uid) := by
  obtain ⟨nm, v, n, ls, u⟩ := b
  obtain ⟨lo, h1, h2, h3, h4⟩ := L86_eq ls uid hl hr
  change ls.length ≤ 32 at hl
  change ls.Pairwise (fun a b => a.1 < b.1) at hr
  refine ⟨lo, ?_, ?_⟩
  · simp only [F64, F86c87, h1, Option.bind_some, nat_lt, nat_nn, Bool.true_and, Int.toNat_natCast]
    by_cases hlo : lo < ls.length
    · have hg := F87_eq (0, ()) (0, ()) (ls.getD lo nol) uid
      simp only [hlo, decide_true, Bool.true_or, cond_true]
      rw [hg]
      simp only [Option.bind_some]
      have e : decide (cmp3 (ls.getD lo nol).1 uid = 0) = has ls uid := by
        rw [Bool.eq_iff_iff, decide_eq_true_eq]
        unfold has
        rw [List.any_eq_true]
        constructor
        · intro hc
          refine ⟨ls.getD lo nol, ?_, ?_⟩
          · rw [List.getD_eq_getElem?_getD, List.getElem?_eq_getElem hlo]
            exact List.getElem_mem hlo
          · have := h4 lo (Nat.le_refl _) hlo
            unfold cmp3 at hc
            rw [decide_eq_true_eq]
            split at hc
            · omega
            · split at hc
              · omega
              · omega
        · rintro ⟨l, hm, he⟩
          rw [decide_eq_true_eq] at he
          obtain ⟨k, hk, rfl⟩ := List.getElem_of_mem hm
          have e1 : (ls.getD k nol).1 = uid := by
            rw [List.getD_eq_getElem?_getD, List.getElem?_eq_getElem hk]; exact he
          rcases Nat.lt_trichotomy k lo with h | h | h
          · have := h3 k h; omega
          · subst h
            unfold cmp3
            rw [if_neg (by omega), if_neg (by omega)]
          · have := getD_lt hr h hk nol
            have := h4 lo (Nat.le_refl _) hlo
            omega
      rw [e]
    · have e : has ls uid = false := by
        unfold has
        rw [List.any_eq_false]
        intro l hm
        rw [decide_eq_true_eq]
        obtain ⟨k, hk, rfl⟩ := List.getElem_of_mem hm
        have e1 : (ls.getD k nol).1 = (ls[k]).1 := by
          rw [List.getD_eq_getElem?_getD, List.getElem?_eq_getElem hk]; rfl
        have := h3 k (by omega)
        omega
      simp only [hlo, decide_false, Bool.not_false, Bool.or_true, cond_true, cond_false, e, Option.bind_some]
  · intro hh
    change has ls uid = true at hh
    unfold has at hh
    rw [List.any_eq_true] at hh
    obtain ⟨l, hm, he⟩ := hh
    rw [decide_eq_true_eq] at he
    obtain ⟨k, hk, rfl⟩ := List.getElem_of_mem hm
    have e1 : (ls.getD k nol).1 = uid := by
      rw [List.getD_eq_getElem?_getD, List.getElem?_eq_getElem hk]; exact he
    change lo < ls.length ∧ (ls.getD lo nol).1 = uid
    rcases Nat.lt_trichotomy k lo with h | h | h
    · have := h3 k h; omega
    · subst h
      exact ⟨hk, e1⟩
    · have := getD_lt hr h hk nol
      have := h4 lo (Nat.le_refl _) (by omega)
      omega

end

section
def keep (uid : Int) (l : Ltr) : Bool := !decide (l.1 = uid)

theorem F66_eq (l : Ltr) (uid : Int) : F66 (((l.1, l.2.1, l.2.2.1, ()), (), ()), ((uid, ()), ())) = some (decide (l.1 = uid), ((uid, ()), ())) := rfl

abbrev R48 : Type := (((Unit × Unit) × Unit) × ((Int × Unit) × Unit)) ⊕ (((Unit × Unit) × Int × Unit) × ((Int × Unit) × Unit))

def stp48 (uid : Int) (a : Ltr) (b : Nat) : Nat ⊕ R48 := if a.1 = uid then .inr (.inr ((((), ()), (b : Int), ()), ((uid, ()), ()))) else .inl (b + 1)

theorem L89_eq (ls : List Ltr) (uid : Int) (hl : ls.length ≤ 32) : L89c66_0 ((ls, ((), ()), ((ls.length : Nat) : Int), (0:Int), ()), ((uid, ()), ())) = some (foldS (stp48 uid) (fun _ => .inl ((((), ()), ()), ((uid, ()), ()))) 0 ls) := by
  have hF := FUEL_big
  refine walk_listI (f := B89c66_0) (fun (_ : Nat) i => ((ls, ((), ()), ((ls.length : Nat) : Int), (i : Int), ()), ((uid, ()), ()))) ls (stp48 uid) _ (fun b i => b = i)
    (fun b i a hI hi ha => ?_) (fun b _ => ?_) (by omega) rfl
  · subst hI
    have hg := F66_eq a uid
    simp only [B89c66_0, nat_lt, nat_nn, hi, decide_true, Bool.and_true, cond_true, Int.toNat_natCast, ha]
    rw [hg]
    simp only [Option.bind_some, stp48]
    by_cases h : a.1 = uid
    · simp only [h, ↓reduceIte, decide_true, cond_true]
      exact .inr ⟨_, rfl, rfl⟩
    · simp only [h, ↓reduceIte, decide_false, cond_false, w64_nat (show b < 9223372036854775807 by omega)]
      exact .inl ⟨_, rfl, rfl, trivial⟩
  · simp only [B89c66_0, Int.lt_irrefl, decide_false, cond_false]

theorem fold48 (uid : Int) (z : R48) : ∀ (ls : List Ltr) (b : Nat), has ls uid = true →
    ∃ k, foldS (stp48 uid) (fun _ => z) b ls = .inr ((((), ()), ((b + k : Nat) : Int), ()), ((uid, ()), ())) ∧ k < ls.length ∧ (ls.take (k + 1)).filter (keep uid) = ls.take k
  | [], _, h => by cases h
  | a :: t, b, h => by
    by_cases ha : a.1 = uid
    · refine ⟨0, ?_, ?_, ?_⟩
      · simp only [foldS, stp48, ha, ↓reduceIte]
        rfl
      · simp
      · simp [keep, ha]
    · have ht : has t uid = true := by
        simpa [has, ha] using h
      obtain ⟨k, h1, h2, h3⟩ := fold48 uid z t (b + 1) ht
      refine ⟨k + 1, ?_, ?_, ?_⟩
      · simp only [foldS, stp48, ha, ↓reduceIte]
        rw [show b + (k + 1) = b + 1 + k by omega]
        exact h1
      · simp only [List.length_cons]; omega
      · rw [List.take_succ_cons, List.filter_cons_of_pos (by simp [keep, ha]), h3, List.take_succ_cons]

theorem getD_of_drop {α : Type} {M ls : List α} {j : Nat} (h : M.drop j = ls.drop j) (d : α) : M.getD j d = ls.getD j d := by
  have e : (M.drop j)[0]? = (ls.drop j)[0]? := by rw [h]
  rw [List.getElem?_drop, List.getElem?_drop, Nat.add_zero] at e
  rw [List.getD_eq_getElem?_getD, List.getD_eq_getElem?_getD, e]

theorem L65_eq (ls : List Ltr) (uid : Int) (hl : ls.length ≤ 32) (k : Nat) (hk : k < ls.length) (hf : (ls.take (k + 1)).filter (keep uid) = ls.take k) :
    ∃ (i : Nat) (M : List Ltr), L65c66_0 (((), ((), ()), (k : Int), ((k + 1 : Nat) : Int), ()), (ls, (uid, ()), ())) = some (((), ((), ()), (i : Int), ()), (M, (uid, ()), ())) ∧ i ≤ M.length ∧ M.length = ls.length ∧ M.take i = ls.filter (keep uid) := by
  have hF := FUEL_big
  have h := loop_ind (f := B65c66_0) (p := (((), ((), ()), (k : Int), ((k + 1 : Nat) : Int), ()), (ls, (uid, ()), ())))
    (fun p => ∃ (i j : Nat) (M : List Ltr), p = (((), ((), ()), (i : Int), (j : Int), ()), (M, (uid, ()), ())) ∧ i < j ∧ j ≤ ls.length ∧ M.length = ls.length ∧ M.take i = (ls.take j).filter (keep uid) ∧ M.drop j = ls.drop j)
    (fun p => ((ls.length : Int) - p.1.2.2.2.1).toNat)
    (fun r => ∃ (i : Nat) (M : List Ltr), r = (((), ((), ()), (i : Int), ()), (M, (uid, ()), ())) ∧ i ≤ M.length ∧ M.length = ls.length ∧ M.take i = ls.filter (keep uid))
    (fun p hp => by
      obtain ⟨i, j, M, rfl, h1, h2, h3, h4, h5⟩ := hp
      by_cases hj : j < ls.length
      · left
        have hjM : j < M.length := by omega
        have hiM : i < M.length := by omega
        have hx := getD_of_drop h5 nol
        have hxe : ls.getD j nol = ls[j] := by rw [List.getD_eq_getElem?_getD, List.getElem?_eq_getElem hj]; rfl
        have ht : (ls.take (j + 1)).filter (keep uid) = (ls.take j).filter (keep uid) ++ [ls.getD j nol].filter (keep uid) := by
          rw [List.take_succ_eq_append_getElem hj, List.filter_append, hxe]
        have hd : M.drop (j + 1) = ls.drop (j + 1) := by
          rw [← List.drop_drop, ← List.drop_drop, h5]
        have hg := F66_eq (ls.getD j nol) uid
        by_cases hc : (ls.getD j nol).1 = uid
        · refine ⟨_, ?_, ⟨i, j + 1, M, rfl, by omega, by omega, h3, ?_, hd⟩, by simp only; omega⟩
          · simp only [B65c66_0, nat_lt, nat_nn, hjM, decide_true, Bool.and_true, cond_true, Option.bind_some, Int.toNat_natCast, hx]
            rw [hg]
            simp only [hc, decide_true, Bool.not_true, cond_false, Option.bind_some, w64_nat (show j < 9223372036854775807 by omega)]
          · rw [ht, h4]; simp only [List.filter_cons, keep, hc, decide_true, Bool.not_true, Bool.false_eq_true, ↓reduceIte, List.filter_nil, List.append_nil]
        · refine ⟨_, ?_, ⟨i + 1, j + 1, M.set i (ls.getD j nol), rfl, by omega, by omega, by rw [List.length_set]; exact h3, ?_, ?_⟩, by simp only; omega⟩
          · simp only [B65c66_0, nat_lt, nat_nn, hjM, hiM, decide_true, Bool.and_true, cond_true, Option.bind_some, Int.toNat_natCast, hx]
            rw [hg]
            simp only [hc, decide_false, Bool.not_false, cond_true, Option.bind_some, nat_nn, nat_lt, hiM, decide_true, Bool.and_true, Int.toNat_natCast, w64_nat (show j < 9223372036854775807 by omega), w64_nat (show i < 9223372036854775807 by omega)]
          · have hiS : i < (M.set i (ls.getD j nol)).length := by rw [List.length_set]; exact hiM
            rw [ht, ← h4, List.take_succ_eq_append_getElem hiS, List.take_set_of_le (Nat.le_refl _), List.getElem_set_self]
            simp only [List.filter_cons, keep, hc, decide_false, Bool.not_false, ↓reduceIte, List.filter_nil]
          · rw [List.drop_set_of_lt (by omega)]; exact hd
      · right
        obtain rfl : j = ls.length := by omega
        refine ⟨(((), ((), ()), (i : Int), ()), (M, (uid, ()), ())), ?_, i, M, rfl, by omega, h3, ?_⟩
        · simp only [B65c66_0, h3, Int.lt_irrefl, decide_false, cond_false]
        · rw [h4, List.take_length])
    ⟨k, k + 1, ls, rfl, by omega, by omega, rfl, hf.symm, rfl⟩ (by simp only; omega)
  obtain ⟨r, h1, i, M, rfl, h2⟩ := h
  exact ⟨i, M, h1, h2⟩

theorem F65_eq (ls : List Ltr) (uid : Int) (hl : ls.length ≤ 32) (hh : has ls uid = true) :
    F65c66 (((), ((), ()), ()), (ls, (uid, ()), ())) = some (ls.filter (keep uid), ((uid, ()), ())) := by
  obtain ⟨k, h1, h2, h3⟩ := fold48 uid (.inl ((((), ()), ()), ((uid, ()), ()))) ls 0 hh
  obtain ⟨i, M, h4, h5, h6, h7⟩ := L65_eq ls uid hl k h2 h3
  rw [Nat.zero_add] at h1
  have e48 : F89c66 ((ls, ((), ()), ()), ((uid, ()), ())) = some ((k : Int), ((uid, ()), ())) := by
    simp only [F89c66, L89_eq ls uid hl, h1, Option.bind_some]
  have hk : ¬ ((k : Int) = -1) := by omega
  have hi : (i : Int) ≤ (M.length : Int) := by omega
  have hlt : (List.take i M).length = i := by rw [List.length_take]; omega
  have hi2 : (i : Int) ≤ ((List.take i M ++ List.replicate (M.length - i) ((0:Int), ((0:UInt8), (([]:(List UInt8)), ()))) ++ List.drop (i + (M.length - i)) M).length : Int) := by
    simp only [List.length_append, hlt, List.length_replicate]; omega
  simp only [F65c66, e48, Option.bind_some, hk, decide_false, cond_false, w64_nat (show k < 9223372036854775807 by omega), h4, nat_nn, hi, decide_true, Bool.and_true, Int.le_refl, cond_true, Int.toNat_natCast, hi2]
  rw [List.append_assoc, List.take_left' hlt, h7]

def cut (b : Box) (uid : Int) : Box × Int × Unit :=
  if check b ≠ 0 then (empty, check b, ())
  else if has b.2.2.2.1 uid then ((b.1, b.2.1, b.2.2.1, b.2.2.2.1.filter (keep uid), ()), 0, ())
  else (empty, 9, ())

theorem F47_eq (b : Box) (uid : Int) : F47 ((b, uid, ()), ()) = some (cut b uid, ()) := by
  have e16 := F56_eq b
  have e24 := F63_eq b
  have e34 := F64_eq b uid
  have ez := check_zero (b := b)
  obtain ⟨nm, v, n, ls, u⟩ := b
  cases u
  unfold cut
  simp only [F47, e16, Option.bind_some]
  generalize hc : check (nm, v, n, ls, ()) = c at *
  by_cases h0 : c = 0
  · have R := ez.mp h0
    obtain ⟨i, h1, h2⟩ := e34 R.few R.rise
    simp only at h1 h2
    simp only [h0, ne_eq, not_true_eq_false, ↓reduceIte, decide_true, Bool.not_true, cond_false, h1, Option.bind_some]
    cases hh : has ls uid
    · simp [empty]
    · simp only [Bool.not_true, cond_false, e24 R.few (fun l hl => (R.each l hl).2.2.2), Option.bind_some, F65_eq ls uid R.few hh, ↓reduceIte]
  · simp [h0, empty]

def lay (how : Int) (was f : UInt8) : UInt8 := if how = 0 then f else if how = 1 then was ||| f else was &&& ~~~f

def stpB (how : Int) (was f : UInt8) (bit is : UInt8) : UInt8 :=
  if (decide (how = 0) && decide (f / bit % 2 = 1) || decide (how = 1) && (decide (was / bit % 2 = 1) || decide (f / bit % 2 = 1)) || decide (how = 2) && decide (was / bit % 2 = 1) && !decide (f / bit % 2 = 1)) then is + bit else is

def bits (how : Int) (was f : UInt8) : UInt8 := stpB how was f 16 (stpB how was f 8 (stpB how was f 4 (stpB how was f 2 (stpB how was f 1 0))))

/-- a letter with its flags laid -/
def relay (uid how : Int) (f : UInt8) (a : Ltr) : Ltr := if a.1 = uid then (a.1, lay how a.2.1 f, a.2.2.1, ()) else a

def flag (b : Box) (uid how : Int) (f : UInt8) : Box × Int × Unit :=
  if check b ≠ 0 then (empty, check b, ())
  else if how < 0 ∨ 2 < how ∨ 32 ≤ f.toNat then (empty, 2, ())
  else if has b.2.2.2.1 uid then ((b.1, b.2.1, b.2.2.1, b.2.2.2.1.map (relay uid how f), ()), 0, ())
  else (empty, 9, ())

theorem rise_inj {ls : List Ltr} (h : ls.Pairwise (fun a b => a.1 < b.1)) {i j : Nat} (hi : i < ls.length) (hj : j < ls.length) (he : ls[i].1 = ls[j].1) : i = j := by
  rcases Nat.lt_trichotomy i j with h' | h' | h'
  · have := List.pairwise_iff_getElem.mp h i j hi hj h'; omega
  · exact h'
  · have := List.pairwise_iff_getElem.mp h j i hj hi h'; omega

theorem set_map {ls : List Ltr} (h : ls.Pairwise (fun a b => a.1 < b.1)) {uid : Int} {i : Nat} (hi : i < ls.length) (he : (ls.getD i nol).1 = uid) (g : Ltr → Ltr) :
    ls.set i (g (ls.getD i nol)) = ls.map fun a => if a.1 = uid then g a else a := by
  have e : ls.getD i nol = ls[i] := by rw [List.getD_eq_getElem?_getD, List.getElem?_eq_getElem hi]; rfl
  rw [e] at he ⊢
  refine List.ext_getElem (by simp) fun k hk1 hk2 => ?_
  rw [List.length_set] at hk1
  rw [List.getElem_set, List.getElem_map]
  by_cases hk : i = k
  · subst hk
    simp [he]
  · have : ¬ (ls[k].1 = uid) := fun hq => hk (rise_inj h hi hk1 (by rw [he, hq]))
    simp [hk, this]

theorem F46_eq (b : Box) (uid how : Int) (f : UInt8) : F46 ((b, uid, how, f, ()), ()) = some (flag b uid how f, ()) := by
  have e16 := F56_eq b
  have e24 := F63_eq b
  have e34 := F64_eq b uid
  have ez := check_zero (b := b)
  obtain ⟨nm, v, n, ls, u⟩ := b
  cases u
  unfold flag
  simp only [F46, e16, Option.bind_some]
  generalize hc : check (nm, v, n, ls, ()) = c at *
  by_cases h0 : c = 0
  · have R := ez.mp h0
    obtain ⟨i, h1, h2⟩ := e34 R.few R.rise
    simp only at h1 h2
    simp only [h0, ne_eq, not_true_eq_false, ↓reduceIte, decide_true, Bool.not_true, cond_false, h1, Option.bind_some]
    by_cases hb : how < 0 ∨ 2 < how ∨ 32 ≤ f.toNat
    · have e : (decide (how < 0) || decide (2 < how) || decide (UInt8.toNat 32 ≤ f.toNat)) = true := by
        simp only [Bool.or_eq_true, decide_eq_true_eq, show UInt8.toNat 32 = 32 from rfl]; omega
      simp only [e, cond_true, hb, ↓reduceIte, empty]
    · have e : (decide (how < 0) || decide (2 < how) || decide (UInt8.toNat 32 ≤ f.toNat)) = false := by
        simp only [Bool.or_eq_false_iff, decide_eq_false_iff_not, show UInt8.toNat 32 = 32 from rfl]; omega
      simp only [e, cond_false, hb, ↓reduceIte]
      cases hh : has ls uid
      · simp [empty]
      · obtain ⟨hi, he⟩ := h2 hh
        have s := set_map R.rise hi he (fun a => (a.1, lay how a.2.1 f, a.2.2.1, ()))
        have hm : (fun a : Ltr => if a.1 = uid then (a.1, lay how a.2.1 f, a.2.2.1, ()) else a) = relay uid how f := rfl
        rw [hm] at s
        simp only at s
        rw [← s]
        simp only [Bool.not_true, cond_false, e24 R.few (fun l hl => (R.each l hl).2.2.2), Option.bind_some, nat_nn, nat_lt, hi, decide_true, Bool.and_true, cond_true, Int.toNat_natCast, ↓reduceIte]
        obtain rfl | rfl | rfl : how = 0 ∨ how = 1 ∨ how = 2 := by omega
        · rfl
        · rfl
        · rfl
  · simp [h0, empty]

theorem flag_len (b : Box) (uid how : Int) (f : UInt8) : (flag b uid how f).1.2.2.2.1.length ≤ 32 := by
  unfold flag
  split
  · exact Nat.zero_le _
  · rename_i h0
    have R := check_zero.mp (Classical.not_not.mp h0)
    have := R.few
    split
    · exact Nat.zero_le _
    · split
      · simp only [List.length_map]; exact this
      · exact Nat.zero_le _

theorem cut_len (b : Box) (uid : Int) : (cut b uid).1.2.2.2.1.length ≤ 32 := by
  unfold cut
  split
  · exact Nat.zero_le _
  · rename_i h0
    have R := check_zero.mp (Classical.not_not.mp h0)
    have := R.few
    split
    · exact Nat.le_trans (List.length_filter_le _ _) this
    · exact Nat.zero_le _

end

section
theorem flag_bad {b : Box} {uid how : Int} {f : UInt8} (h : (flag b uid how f).2.1 ≠ 0) : (flag b uid how f).1 = empty := by
  unfold flag at *
  split
  · rfl
  · split
    · rfl
    · split
      · rename_i h1 h2 h3
        rw [if_neg h1, if_neg h2, if_pos h3] at h
        exact absurd rfl h
      · rfl

def laid (b : Box) (uid how : Int) (f : UInt8) : Box := (b.1, b.2.1, b.2.2.1, b.2.2.2.1.map (relay uid how f), ())

theorem flag_good {b : Box} {uid how : Int} {f : UInt8} (h : (flag b uid how f).2.1 = 0) : Right b ∧ 0 ≤ how ∧ how ≤ 2 ∧ f.toNat < 32 ∧ has b.2.2.2.1 uid = true ∧ flag b uid how f = (laid b uid how f, 0, ()) := by
  unfold flag at *
  by_cases h1 : check b ≠ 0
  · rw [if_pos h1] at h
    exact absurd h h1
  · rw [if_neg h1] at h ⊢
    by_cases h2 : how < 0 ∨ 2 < how ∨ 32 ≤ f.toNat
    · rw [if_pos h2] at h
      cases h
    · rw [if_neg h2] at h ⊢
      by_cases h3 : has b.2.2.2.1 uid = true
      · rw [if_pos h3]
        exact ⟨check_zero.mp (Classical.not_not.mp h1), by omega, by omega, by omega, h3, rfl⟩
      · rw [if_neg h3] at h
        cases h

theorem flag_of {b : Box} {uid how : Int} {f : UInt8} (R : Right b) (h1 : 0 ≤ how) (h2 : how ≤ 2) (h3 : f.toNat < 32) (h4 : has b.2.2.2.1 uid = true) : flag b uid how f = (laid b uid how f, 0, ()) := by
  unfold flag
  rw [if_neg (not_not_intro (check_zero.mpr R)), if_neg (by omega), if_pos h4]
  rfl

theorem lay_all : ((List.range 32).all fun x => (List.range 32).all fun y => (List.range 3).all fun k =>
    decide ((lay k (UInt8.ofNat x) (UInt8.ofNat y)).toNat < 32) && decide (lay k (lay k (UInt8.ofNat x) (UInt8.ofNat y)) (UInt8.ofNat y) = lay k (UInt8.ofNat x) (UInt8.ofNat y)) && decide (lay 2 (lay 1 (UInt8.ofNat x) (UInt8.ofNat y)) (UInt8.ofNat y) = lay 2 (UInt8.ofNat x) (UInt8.ofNat y))) = true := by kernel_rfl

theorem lay_eq {how : Int} {was f : UInt8} (h1 : 0 ≤ how) (h2 : how ≤ 2) (hw : was.toNat < 32) (hf : f.toNat < 32) :
    (lay how was f).toNat < 32 ∧ lay how (lay how was f) f = lay how was f ∧ lay 2 (lay 1 was f) f = lay 2 was f := by
  have h := List.all_eq_true.mp (List.all_eq_true.mp (List.all_eq_true.mp lay_all was.toNat (List.mem_range.mpr hw)) f.toNat (List.mem_range.mpr hf)) how.toNat (List.mem_range.mpr (by omega))
  rw [UInt8.ofNat_toNat, UInt8.ofNat_toNat, Bool.and_eq_true, Bool.and_eq_true, decide_eq_true_eq, decide_eq_true_eq, decide_eq_true_eq] at h
  rw [show ((how.toNat : Nat) : Int) = how by omega] at h
  exact ⟨h.1.1, h.1.2, h.2⟩

theorem relay_1 (uid how : Int) (f : UInt8) (a : Ltr) : (relay uid how f a).1 = a.1 := by
  unfold relay; split <;> rfl

theorem relay_3 (uid how : Int) (f : UInt8) (a : Ltr) : (relay uid how f a).2.2.1 = a.2.2.1 := by
  unfold relay; split <;> rfl

theorem laid_right {b : Box} {uid how : Int} {f : UInt8} (R : Right b) (h1 : 0 ≤ how) (h2 : how ≤ 2) (h3 : f.toNat < 32) : Right (laid b uid how f) where
  valid := R.valid
  next := R.next
  few := by
    simp only [laid, List.length_map]; exact R.few
  each := fun l hl => by
    simp only [laid] at hl ⊢
    obtain ⟨a, ha, rfl⟩ := List.mem_map.mp hl
    have q := R.each a ha
    rw [relay_1, relay_3]
    refine ⟨q.1, q.2.1, ?_, q.2.2.2⟩
    unfold relay
    split
    · exact (lay_eq h1 h2 q.2.2.1 h3).1
    · exact q.2.2.1
  rise := by
    simp only [laid]
    rw [List.pairwise_map]
    simp only [relay_1]
    exact R.rise

theorem laid_has (b : Box) (uid how : Int) (f : UInt8) : has (laid b uid how f).2.2.2.1 uid = has b.2.2.2.1 uid := by
  simp only [laid, has, List.any_map]
  congr 1
  funext a
  simp only [Function.comp_apply, relay_1]

def cutd (b : Box) (uid : Int) : Box := (b.1, b.2.1, b.2.2.1, b.2.2.2.1.filter (keep uid), ())

theorem cut_good {b : Box} {uid : Int} (R : Right b) : cut b uid = if has b.2.2.2.1 uid then (cutd b uid, 0, ()) else (empty, 9, ()) := by
  unfold cut
  rw [if_neg (not_not_intro (check_zero.mpr R))]
  rfl

theorem cutd_right {b : Box} (R : Right b) (uid : Int) : Right (cutd b uid) where
  valid := R.valid
  next := R.next
  few := by
    have := R.few
    exact Nat.le_trans (List.length_filter_le _ _) this
  each := fun l hl => R.each l ((List.mem_filter.mp hl).1)
  rise := List.Pairwise.filter _ R.rise

theorem cutd_len {uid : Int} : ∀ {ls : List Ltr}, ls.Pairwise (fun a b => a.1 < b.1) → has ls uid = true → (ls.filter (keep uid)).length + 1 = ls.length
  | [], _, h => by cases h
  | a :: t, hp, h => by
    obtain ⟨hp1, hp2⟩ := List.pairwise_cons.mp hp
    by_cases ha : a.1 = uid
    · have : t.filter (keep uid) = t := List.filter_eq_self.mpr fun x hx => by
        have := hp1 x hx
        simp only [keep, Bool.not_eq_true', decide_eq_false_iff_not]
        omega
      rw [List.filter_cons_of_neg (by simp [keep, ha]), this, List.length_cons]
    · have ht : has t uid = true := by simpa [has, ha] using h
      rw [List.filter_cons_of_pos (by simp [keep, ha]), List.length_cons, List.length_cons, cutd_len hp2 ht]

def added (b : Box) (f : UInt8) (p : List UInt8) : Box := (b.1, b.2.1, b.2.2.1 + 1, b.2.2.2.1 ++ [(b.2.2.1, f, p, ())], ())

theorem add_good {b : Box} {f : UInt8} {p : List UInt8} (R : Right b) (hf : f.toNat < 32) (hp : p.length ≤ 600) :
    add b f p = if b.2.2.2.1.length = 32 ∨ b.2.2.1 = 4294967295 then (empty, 0, 8, ()) else (added b f p, b.2.2.1, 0, ()) := by
  unfold add
  rw [if_neg (not_not_intro (check_zero.mpr R)), if_neg (by omega), if_neg (by omega)]
  rfl

theorem added_right {b : Box} {f : UInt8} {p : List UInt8} (R : Right b) (hf : f.toNat < 32) (hp : p.length ≤ 600) (h : ¬ (b.2.2.2.1.length = 32 ∨ b.2.2.1 = 4294967295)) : Right (added b f p) where
  valid := R.valid
  next := by
    have := R.next
    simp only [added]; omega
  few := by
    have := R.few
    simp only [added, List.length_append, List.length_cons, List.length_nil]; omega
  each := fun l hl => by
    have hn := R.next
    simp only [added] at hl ⊢
    rcases List.mem_append.mp hl with hl | hl
    · have q := R.each l hl
      exact ⟨q.1, by omega, q.2.2.1, q.2.2.2⟩
    · rw [List.mem_singleton.mp hl]
      exact ⟨by omega, by simp only; omega, hf, hp⟩
  rise := by
    simp only [added]
    rw [List.pairwise_append]
    refine ⟨R.rise, List.pairwise_singleton _ _, fun x hx y hy => ?_⟩
    rw [List.mem_singleton.mp hy]
    exact (R.each x hx).2.1

end
end Go.Su
/- A box among a user's boxes: by halves, as by names. -/
namespace Go.Su
open Go Go.Ev
set_option maxRecDepth 100000

abbrev Tx : Type := List UInt8
abbrev Bx : Type := Tx × (Int × (Int × (List Ltr × Unit)))

theorem cb_le : ∀ (a b : Tx), Lib.compareBytes a b = if a < b then -1 else if a = b then 0 else 1
  | [], [] => by simp [Lib.compareBytes]
  | [], b :: bs => by simp [Lib.compareBytes]
  | a :: r, [] => by simp [Lib.compareBytes]
  | a :: r, b :: bs => by
    have ih := cb_le r bs
    simp only [Lib.compareBytes, List.cons_lt_cons_iff, List.cons.injEq]
    by_cases h1 : a < b
    · simp [h1]
    · by_cases h2 : b < a
      · have h3 : a ≠ b := fun e => by subst e; exact h1 h2
        simp [h1, h2, h3]
      · have h3 : a = b := by
          apply UInt8.toNat_inj.1
          have k1 : ¬ a.toNat < b.toNat := fun h => h1 (UInt8.lt_iff_toNat_lt.2 h)
          have k2 : ¬ b.toNat < a.toNat := fun h => h2 (UInt8.lt_iff_toNat_lt.2 h)
          omega
        subst h3
        simp [h1, ih]

theorem u8_eq {a b : UInt8} (h1 : ¬ a < b) (h2 : ¬ b < a) : a = b := by
  apply UInt8.toNat_inj.1
  have k1 : ¬ a.toNat < b.toNat := fun h => h1 (UInt8.lt_iff_toNat_lt.2 h)
  have k2 : ¬ b.toNat < a.toNat := fun h => h2 (UInt8.lt_iff_toNat_lt.2 h)
  omega

theorem tx_total : ∀ {a b : Tx}, ¬ a < b → a ≠ b → b < a
  | [], [], _, h => absurd rfl h
  | [], _ :: _, h, _ => absurd (by simp) h
  | _ :: _, [], _, _ => by simp
  | a :: r, b :: bs, h1, h2 => by
    rw [List.cons_lt_cons_iff] at h1 ⊢
    rw [not_or, not_and] at h1
    by_cases h3 : b < a
    · exact .inl h3
    · have h4 := u8_eq h1.1 h3
      subst h4
      exact .inr ⟨rfl, tx_total (h1.2 rfl) fun e => h2 (by rw [e])⟩

theorem cmpb (b : Bx) (nm : Tx) : F16 (((b.1, b.2.1, b.2.2.1, b.2.2.2.1, ()), nm, ()), ()) = some (Lib.compareBytes b.1 nm, ()) := rfl

abbrev nob : Bx := ([], 0, 0, [], ())

theorem getDb_lt {ls : List Bx} (h : ls.Pairwise (fun a b => a.1 < b.1)) {i j : Nat} (hij : i < j) (hj : j < ls.length) (d : Bx) : (ls.getD i d).1 < (ls.getD j d).1 := by
  have := List.pairwise_iff_getElem.mp h i j (by omega) hj hij
  rw [List.getD_eq_getElem?_getD, List.getD_eq_getElem?_getD, List.getElem?_eq_getElem hj, List.getElem?_eq_getElem (show i < ls.length by omega)]
  exact this

theorem cb_neg (a b : Tx) : Lib.compareBytes a b < 0 ↔ a < b := by
  rw [cb_le]
  split
  · simp [*]
  · split <;> simp [*]

theorem L15_eq (ls : List Bx) (nm : Tx) (hl : ls.length ≤ 32) (hr : ls.Pairwise (fun a b => a.1 < b.1)) :
    ∃ lo : Nat, L15c16_0 ((ls, nm, (), ((ls.length : Nat) : Int), (0:Int), ((ls.length : Nat) : Int), ()), ()) = some ((ls, nm, (), ((ls.length : Nat) : Int), (lo : Int), ()), ()) ∧ lo ≤ ls.length ∧ (∀ k, k < lo → (ls.getD k nob).1 < nm) ∧ (∀ k, lo ≤ k → k < ls.length → ¬ (ls.getD k nob).1 < nm) := by
  have hF := FUEL_big
  have h := loop_ind (f := B15c16_0) (p := ((ls, nm, (), ((ls.length : Nat) : Int), (0:Int), ((ls.length : Nat) : Int), ()), ()))
    (fun p => ∃ lo hi : Nat, p = ((ls, nm, (), ((ls.length : Nat) : Int), (lo : Int), (hi : Int), ()), ()) ∧ lo ≤ hi ∧ hi ≤ ls.length ∧ (∀ k, k < lo → (ls.getD k nob).1 < nm) ∧ (∀ k, hi ≤ k → k < ls.length → ¬ (ls.getD k nob).1 < nm))
    (fun p => (p.1.2.2.2.2.2.1 - p.1.2.2.2.2.1).toNat)
    (fun r => ∃ lo : Nat, r = ((ls, nm, (), ((ls.length : Nat) : Int), (lo : Int), ()), ()) ∧ lo ≤ ls.length ∧ (∀ k, k < lo → (ls.getD k nob).1 < nm) ∧ (∀ k, lo ≤ k → k < ls.length → ¬ (ls.getD k nob).1 < nm))
    (fun p hp => by
      obtain ⟨lo, hi, rfl, h1, h2, h3, h4⟩ := hp
      by_cases hlt : lo < hi
      · left
        have hm1 : lo ≤ (lo + hi) / 2 := by omega
        have hm2 : (lo + hi) / 2 < hi := by omega
        have hm3 : (lo + hi) / 2 < ls.length := by omega
        have hg := cmpb (ls.getD ((lo + hi) / 2) nob) nm
        have hh : B15c16_0 ((ls, nm, (), ((ls.length : Nat) : Int), (lo : Int), (hi : Int), ()), ()) = some (.inl (if (ls.getD ((lo + hi) / 2) nob).1 < nm then ((ls, nm, (), ((ls.length : Nat) : Int), (((lo + hi) / 2 + 1 : Nat) : Int), (hi : Int), ()), ()) else ((ls, nm, (), ((ls.length : Nat) : Int), (lo : Int), (((lo + hi) / 2 : Nat) : Int), ()), ()))) := by
          simp only [B15c16_0, nat_lt, nat_nn, hlt, decide_true, cond_true, Option.bind_some, mid (show lo + hi < 1000 by omega), hm3, Bool.and_true, Int.toNat_natCast]
          rw [hg]
          simp only [Option.bind_some]
          by_cases hc : (ls.getD ((lo + hi) / 2) nob).1 < nm
          · simp only [decide_eq_true ((cb_neg _ _).2 hc), hc, ↓reduceIte, w64_nat (show (lo + hi) / 2 < 9223372036854775807 by omega)]
            rfl
          · simp only [decide_eq_false (fun h => hc ((cb_neg _ _).1 h)), hc, ↓reduceIte]
            rfl
        by_cases hc : (ls.getD ((lo + hi) / 2) nob).1 < nm
        · rw [if_pos hc] at hh
          refine ⟨_, hh, ⟨_, hi, rfl, by omega, h2, fun k hk => ?_, h4⟩, by simp only; omega⟩
          rcases Nat.lt_or_ge k ((lo + hi) / 2) with hk2 | hk2
          · exact List.lt_trans (getDb_lt hr hk2 hm3 nob) hc
          · obtain rfl : k = (lo + hi) / 2 := by omega
            exact hc
        · rw [if_neg hc] at hh
          refine ⟨_, hh, ⟨lo, _, rfl, hm1, by omega, h3, fun k hk hk3 => ?_⟩, by simp only; omega⟩
          rcases Nat.lt_or_ge ((lo + hi) / 2) k with hk2 | hk2
          · exact fun hh => hc (List.lt_trans (getDb_lt hr hk2 hk3 nob) hh)
          · obtain rfl : k = (lo + hi) / 2 := by omega
            exact hc
      · right
        obtain rfl : lo = hi := by omega
        refine ⟨((ls, nm, (), ((ls.length : Nat) : Int), (lo : Int), ()), ()), ?_, lo, rfl, h2, h3, h4⟩
        simp only [B15c16_0, Int.lt_irrefl, decide_false, cond_false])
    ⟨0, ls.length, rfl, Nat.zero_le _, Nat.le_refl _, fun k h => absurd h (Nat.not_lt_zero _), fun k h h' => by omega⟩ (by simp only; omega)
  obtain ⟨r, h1, lo, rfl, h2⟩ := h
  exact ⟨lo, h1, h2⟩


abbrev Usr : Type := Tx × Int × List Bx × Unit

/-- has a user a box of a name? -/
def hasB (ls : List Bx) (nm : Tx) : Bool := ls.any fun b => decide (b.1 = nm)

theorem F10_eq (u : Usr) (nm : Tx) (hl : u.2.2.1.length ≤ 32) (hr : u.2.2.1.Pairwise (fun a b => a.1 < b.1)) :
    ∃ lo : Nat, F10 ((u, nm, ()), ()) = some (((lo : Int), hasB u.2.2.1 nm, ()), ()) ∧ lo ≤ u.2.2.1.length ∧ (∀ k, k < lo → (u.2.2.1.getD k nob).1 < nm) ∧ (∀ k, lo ≤ k → k < u.2.2.1.length → ¬ (u.2.2.1.getD k nob).1 < nm) ∧
      (hasB u.2.2.1 nm = true → lo < u.2.2.1.length ∧ (u.2.2.1.getD lo nob).1 = nm) ∧ (hasB u.2.2.1 nm = false → ∀ k, k < u.2.2.1.length → (u.2.2.1.getD k nob).1 ≠ nm) := by
  obtain ⟨un, uv, ls, ⟨⟩⟩ := u
  change ls.length ≤ 32 at hl
  change ls.Pairwise (fun a b => a.1 < b.1) at hr
  obtain ⟨lo, h1, h2, h3, h4⟩ := L15_eq ls nm hl hr
  have hyes : hasB ls nm = true → lo < ls.length ∧ (ls.getD lo nob).1 = nm := fun hh => by
    unfold hasB at hh
    rw [List.any_eq_true] at hh
    obtain ⟨b, hm, he⟩ := hh
    rw [decide_eq_true_eq] at he
    obtain ⟨k, hk, rfl⟩ := List.getElem_of_mem hm
    have e1 : (ls.getD k nob).1 = nm := by
      rw [List.getD_eq_getElem?_getD, List.getElem?_eq_getElem hk]; exact he
    rcases Nat.lt_trichotomy k lo with h | h | h
    · have := h3 k h; rw [e1] at this; exact absurd this (List.lt_irrefl _)
    · subst h; exact ⟨hk, e1⟩
    · have q1 := getDb_lt hr h hk nob
      have q2 := h4 lo (Nat.le_refl _) (by omega)
      rw [e1] at q1
      exact absurd q1 q2
  have hno : hasB ls nm = false → ∀ k, k < ls.length → (ls.getD k nob).1 ≠ nm := fun hh k hk he => by
    unfold hasB at hh
    rw [List.any_eq_false] at hh
    have := hh ls[k] (List.getElem_mem hk)
    rw [decide_eq_true_eq] at this
    apply this
    rw [List.getD_eq_getElem?_getD, List.getElem?_eq_getElem hk] at he
    exact he
  refine ⟨lo, ?_, h2, h3, h4, hyes, hno⟩
  simp only [F10, F15c16, h1, Option.bind_some, nat_lt, nat_nn, Bool.true_and, Int.toNat_natCast]
  by_cases hlo : lo < ls.length
  · simp only [hlo, decide_true, Bool.true_or, cond_true]
    rw [cmpb (ls.getD lo nob) nm]
    simp only [Option.bind_some]
    have e : decide (Lib.compareBytes (ls.getD lo nob).1 nm = 0) = hasB ls nm := by
      cases hb : hasB ls nm with
      | true =>
        rw [(hyes hb).2, cb_le, if_neg (List.lt_irrefl _), if_pos rfl]
        rfl
      | false =>
        have := hno hb lo hlo
        rw [cb_le, if_neg (h4 lo (Nat.le_refl _) hlo), if_neg this]
        rfl
    rw [e]
  · have e : hasB ls nm = false := by
      cases hb : hasB ls nm with
      | true => exact absurd (hyes hb).1 hlo
      | false => rfl
    simp only [hlo, decide_false, Bool.not_false, Bool.or_true, cond_true, cond_false, e, Option.bind_some]

end Go.Su
/- What a user holds, and copies. -/
namespace Go.Su
open Go Go.Ev
set_option maxRecDepth 100000

theorem L11_eq (nm : List UInt8) (v n : Int) (ls ks : List Ltr) (hl : ls.length ≤ 32) (hb : ∀ l ∈ ls, l.2.2.1.length ≤ 600) :
    L11_0 (((), (), ((ls.length : Nat) : Int), (0:Int), ()), ((nm, v, n, (), ()), ((), (), (), (), ()), ls, ks, ())) = some (((), (), ()), ((nm, v, n, (), ()), ((), (), (), (), ()), ls, ks, ())) := by
  have hF := FUEL_big
  have h := walk_list (f := B11_0) (fun (_ : Unit) i => (((), (), ((ls.length : Nat) : Int), (i : Int), ()), ((nm, v, n, (), ()), ((), (), (), (), ()), ls, ks, ()))) ls (fun _ _ => .inl ())
    (fun _ => (((), (), ()), ((nm, v, n, (), ()), ((), (), (), (), ()), ls, ks, ()))) (b := ()) (fun b i a hi ha => ?_) (fun b => ?_) (by omega)
  · rw [foldS_const] at h
    exact h
  · have hm : a ∈ ls := by
      rw [← ha (0, 0, [], ()), List.getD_eq_getElem?_getD, List.getElem?_eq_getElem hi]
      exact List.getElem_mem hi
    simp only [B11_0, nat_lt, nat_nn, hi, decide_true, Bool.and_true, cond_true, Option.bind_some, Int.toNat_natCast, ha, F19_eq _ (hb a hm), w64_nat (show i < 9223372036854775807 by omega)]
    rw [set_same ls i (a.1, a.2.1, a.2.2.1, ()) (fun d => by rw [ha])]
  · simp only [B11_0, Int.lt_irrefl, decide_false, cond_false]

theorem F11_eq (b : Box) (hl : b.2.2.2.1.length ≤ 32) (hb : ∀ l ∈ b.2.2.2.1, l.2.2.1.length ≤ 600) : F11 ((b, ()), ()) = some ((b.1, b.2.1, b.2.2.1, b.2.2.2.1, ()), ()) := by
  obtain ⟨nm, v, n, ls, u⟩ := b
  cases u
  simp only [F11, F18_eq ls hl, Option.bind_some, L11_eq nm v n ls [] hl hb]


abbrev P2i : Type := (Int × Int × Unit) × Unit

/-- how many letters and bytes boxes have -/
def heldS (b : Bx) (c : Int × Int) : (Int × Int) ⊕ P2i := .inl (w64 (c.1 + (b.2.2.2.1.length : Int)), w64 (c.2 + size b.2.2.2.1))
def held (ls : List Bx) : P2i := foldS heldS (fun c => ((c.1, c.2, ()), ())) (0, 0) ls
def wth (ls : List Bx) : Bool := decide ((held ls).1.1 ≤ 40) && decide ((held ls).1.2.1 ≤ 1200)

theorem F48_eq (u : Usr) (hl : u.2.2.1.length ≤ 32) (hb : ∀ b ∈ u.2.2.1, b.2.2.2.1.length ≤ 32) : F48 ((u, ()), ()) = some (wth u.2.2.1, ()) := by
  have hF := FUEL_big
  obtain ⟨un, uv, ls, ⟨⟩⟩ := u
  change ls.length ≤ 32 at hl
  change ∀ b ∈ ls, b.2.2.2.1.length ≤ 32 at hb
  have h : L48_0 (((0:Int), (0:Int), ls, ((ls.length : Nat) : Int), (0:Int), ()), ()) = some (held ls) := by
    unfold L48_0 held
    refine walk_listI (b := ((0, 0) : Int × Int)) (f := B48_0) (fun (c : Int × Int) i => ((c.1, c.2, ls, ((ls.length : Nat) : Int), (i : Int), ()), ())) ls heldS _ (fun _ _ => True) (fun c i a _ hi ha => ?_) (fun c _ => ?_) (by omega) trivial
    · refine .inl ⟨_, rfl, trivial, ?_⟩
      have hm : a ∈ ls := by
        have := ha a
        rw [List.getD_eq_getElem?_getD, List.getElem?_eq_getElem hi] at this
        rw [← this]
        exact List.getElem_mem hi
      have hs := F57_eq (a.1, a.2.1, a.2.2.1, a.2.2.2.1, ()) (Nat.le_trans (hb a hm) (by decide))
      have hw := w64_nat (show i < 9223372036854775807 by omega)
      simp only [B48_0, nat_lt, nat_nn, hi, decide_true, Bool.and_true, cond_true, Option.bind_some, Int.toNat_natCast, ha, hs]
      rw [hw]
    · simp only [B48_0, Int.lt_irrefl, decide_false, cond_false]
  simp only [F48, h, Option.bind_some, wth]

end Go.Su
/- What changes a box of a user's. -/
namespace Go.Su
open Go Go.Ev
set_option maxRecDepth 100000

/-- a deed: what, user, box, to, UID, how, flags, shard, epoch, bytes -/
abbrev Dd : Type := Int × Tx × Tx × Tx × Int × Int × UInt8 × Int × Int × List UInt8 × Unit

/-- what a deed makes of a box -/
def did (b : Box) (d : Dd) : Box × Int × Int :=
  if d.1 = 4 then ((add b d.2.2.2.2.2.2.1 d.2.2.2.2.2.2.2.2.2.1).1, (add b d.2.2.2.2.2.2.1 d.2.2.2.2.2.2.2.2.2.1).2.1, (add b d.2.2.2.2.2.2.1 d.2.2.2.2.2.2.2.2.2.1).2.2.1)
  else if d.1 = 5 then ((flag b d.2.2.2.2.1 d.2.2.2.2.2.1 d.2.2.2.2.2.2.1).1, 0, (flag b d.2.2.2.2.1 d.2.2.2.2.2.1 d.2.2.2.2.2.2.1).2.1)
  else if d.1 = 6 then ((cut b d.2.2.2.2.1).1, 0, (cut b d.2.2.2.2.1).2.1)
  else (b, 0, 0)

def bxOf (b : Bx) : Box := (b.1, b.2.1, b.2.2.1, b.2.2.2.1, ())
def ofBx (b : Box) : Bx := (b.1, (b.2.1, (b.2.2.1, (b.2.2.2.1, ()))))

theorem did_len (b : Box) (d : Dd) (h : b.2.2.2.1.length ≤ 32) : (did b d).1.2.2.2.1.length ≤ 32 := by
  unfold did
  split
  · exact add_len _ _ _
  · split
    · exact flag_len _ _ _ _
    · split
      · exact cut_len _ _
      · exact h

theorem F40_eq (l : List Bx) (h : l.length ≤ 32) : F40 ((l, ()), ()) = some ((), (l, ())) := by
  have hb : bytesOK (([] : List Bx).length + l.length) 56 = true := bytes_ok (by simp only [List.length_nil]; omega)
  cases l with
  | nil => simp only [F40, List.isEmpty_nil, cond_true, hb, List.append_nil, agr_self]
  | cons a t => simp only [F40, List.isEmpty_cons, cond_false, hb, cond_true, List.nil_append]

/-- what becomes of a user by what changes a box -/
def boxd (u : Usr) (lo : Nat) (d : Dd) : Usr × Int × Int × Unit :=
  if (did (bxOf (u.2.2.1.getD lo nob)) d).2.2 ≠ 0 then (u, 0, (did (bxOf (u.2.2.1.getD lo nob)) d).2.2, ())
  else if wth (u.2.2.1.set lo (ofBx (did (bxOf (u.2.2.1.getD lo nob)) d).1)) = true then ((u.1, u.2.1, u.2.2.1.set lo (ofBx (did (bxOf (u.2.2.1.getD lo nob)) d).1), ()), (did (bxOf (u.2.2.1.getD lo nob)) d).2.1, 0, ())
  else ((u.1, u.2.1, u.2.2.1.set lo (ofBx (did (bxOf (u.2.2.1.getD lo nob)) d).1), ()), 0, 8, ())

theorem F26_eq (u : Usr) (d : Dd) (hl : u.2.2.1.length ≤ 32) (hb : ∀ b ∈ u.2.2.1, b.2.2.2.1.length ≤ 32) (hr : u.2.2.1.Pairwise (fun a b => a.1 < b.1)) :
    (hasB u.2.2.1 d.2.2.1 = false ∧ F26 ((u, d, ()), ()) = some ((u, 0, 9, ()), ())) ∨
    ∃ lo : Nat, lo < u.2.2.1.length ∧ (u.2.2.1.getD lo nob).1 = d.2.2.1 ∧ F26 ((u, d, ()), ()) = some (boxd u lo d, ()) := by
  obtain ⟨un, uv, ls, ⟨⟩⟩ := u
  obtain ⟨lo, h1, _, _, _, h5, _⟩ := F10_eq (un, uv, ls, ()) d.2.2.1 hl hr
  obtain ⟨dd, du, db, dt, uid, how, fl, ds, de, by', ⟨⟩⟩ := d
  change ls.length ≤ 32 at hl
  change ∀ b ∈ ls, b.2.2.2.1.length ≤ 32 at hb
  simp only at h1 h5
  cases hh : hasB ls db with
  | false =>
    refine .inl ⟨rfl, ?_⟩
    simp only [F26, h1, hh, Option.bind_some, Bool.not_false, cond_true]
  | true =>
    obtain ⟨h6, h7⟩ := h5 hh
    refine .inr ⟨lo, h6, h7, ?_⟩
    have hm : ls.getD lo nob ∈ ls := by
      rw [List.getD_eq_getElem?_getD, List.getElem?_eq_getElem h6]
      exact List.getElem_mem h6
    have hd := did_len (bxOf (ls.getD lo nob)) (dd, du, db, dt, uid, how, fl, ds, de, by', ()) (hb _ hm)
    have key : ∀ B : Bx, B.2.2.2.1.length ≤ 32 → F48 (((un, uv, ls.set lo B, ()), ()), ()) = some (wth (ls.set lo B), ()) := fun B hB =>
      F48_eq (un, uv, ls.set lo B, ()) (by simpa using hl) (fun b hbm => by
        rcases List.mem_or_eq_of_mem_set hbm with h | rfl
        · exact hb b h
        · exact hB)
    have h40 := F40_eq ls hl
    unfold boxd
    unfold did at hd ⊢
    simp only [F26, h1, hh, Option.bind_some, Bool.not_true, cond_false, nat_nn, nat_lt, h6, decide_true, Bool.and_true, cond_true, Int.toNat_natCast]
    have fin : ∀ (B : Box) (n e : Int), B.2.2.2.1.length ≤ 32 →
        (cond (!(decide (e = (0:Int)))) (some (((un, uv, ls, ()), (0:Int), e, ()), ())) (Option.bind (F40 ((ls, ()), ())) fun r11 => (Option.bind (cond ((decide ((0:Int) ≤ (lo : Int))) && (decide ((lo : Int) < (((List.length r11.2.1) : Nat) : Int)))) (some (((), (), n, ()), ((un, uv, (), ()), ((), (), (), ()), (List.set r11.2.1 (Int.toNat (lo : Int)) (ofBx B)), ([] : List Bx), ()))) none) fun p12 => (Option.bind (Option.bind (F48 (((p12.2.1.1, p12.2.1.2.1, p12.2.2.2.1, ()), ()), ())) fun r13 => (some (((), (), p12.1.2.2.1, (!r13.1), ()), ((p12.2.1.1, p12.2.1.2.1, (), ()), ((), (), (), ()), p12.2.2.2.1, p12.2.2.2.2.1, ())))) fun p14 => (cond p14.1.2.2.2.1 (Option.bind (some (((), (), (), ()), ((p14.2.1.1, p14.2.1.2.1, (), ()), p14.2.2.2.1, ()))) fun p15 => (some (((p15.2.1.1, p15.2.1.2.1, p15.2.2.1, ()), (0:Int), (8:Int), ()), ()))) (some (((p14.2.1.1, p14.2.1.2.1, p14.2.2.2.1, ()), p14.1.2.2.1, (0:Int), ()), ())))))))
        = some ((if e ≠ 0 then ((un, uv, ls, ()), 0, e, ()) else if wth (ls.set lo (ofBx B)) = true then ((un, uv, ls.set lo (ofBx B), ()), n, 0, ()) else ((un, uv, ls.set lo (ofBx B), ()), 0, 8, ()) : Usr × Int × Int × Unit), ()) := fun B n e hB => by
      by_cases he : e = 0
      · simp only [he, decide_true, Bool.not_true, cond_false, h40, Option.bind_some, nat_nn, nat_lt, h6, Bool.and_true, cond_true, Int.toNat_natCast, key (ofBx B) hB, ne_eq, not_true_eq_false, ↓reduceIte]
        cases wth (ls.set lo (ofBx B)) <;> simp
      · simp only [he, decide_false, Bool.not_false, cond_true, ne_eq, not_false_eq_true, ↓reduceIte]
    by_cases c4 : dd = 4
    · simp only [c4, ↓reduceIte, decide_true, cond_true, F45_eq, Option.bind_some] at hd ⊢
      exact fin _ _ _ hd
    · by_cases c5 : dd = 5
      · simp only [c5, show ¬ (5:Int) = 4 from by decide, decide_false, cond_false, ↓reduceIte, decide_true, cond_true, F46_eq, Option.bind_some] at hd ⊢
        exact fin _ _ _ hd
      · by_cases c6 : dd = 6
        · simp only [c6, show ¬ (6:Int) = 4 from by decide, show ¬ (6:Int) = 5 from by decide, decide_false, cond_false, ↓reduceIte, decide_true, cond_true, F47_eq, Option.bind_some] at hd ⊢
          exact fin _ _ _ hd
        · simp only [c4, c5, c6, decide_false, cond_false, ↓reduceIte, Option.bind_some] at hd ⊢
          exact fin (bxOf (ls.getD lo nob)) 0 0 hd

end Go.Su
/- What changes which boxes a user has; a user comes. -/
namespace Go.Su
open Go Go.Ev
set_option maxRecDepth 100000

def inbx : Tx := [73, 78, 66, 79, 88]

/-- what becomes of a user by what changes which boxes there are -/
def shpd (u : Usr) (lo : Nat) (d : Dd) : Usr × Int × Int × Unit :=
  if d.1 = 2 then
    if hasB u.2.2.1 d.2.2.1 = true then (u, 0, 10, ())
    else if u.2.2.1.length = 6 ∨ u.2.1 = 4294967295 then (u, 0, 8, ())
    else ((u.1, w64 (u.2.1 + 1), insL u.2.2.1 (lo : Int) [(d.2.2.1, (w64 (u.2.1 + 1), (1, ([], ()))))], ()), w64 (u.2.1 + 1), 0, ())
  else if hasB u.2.2.1 d.2.2.1 = false then (u, 0, 9, ())
  else if d.2.2.1 = inbx then (u, 0, 13, ())
  else ((u.1, u.2.1, delL u.2.2.1 (lo : Int) ((lo + 1 : Nat) : Int), ()), 0, 0, ())

theorem F24_eq (u : Usr) (d : Dd) (hl : u.2.2.1.length ≤ 32) (hr : u.2.2.1.Pairwise (fun a b => a.1 < b.1)) :
    ∃ lo : Nat, F24 ((u, d, ()), ()) = some (shpd u lo d, ()) ∧ lo ≤ u.2.2.1.length ∧ (∀ k, k < lo → (u.2.2.1.getD k nob).1 < d.2.2.1) ∧ (∀ k, lo ≤ k → k < u.2.2.1.length → ¬ (u.2.2.1.getD k nob).1 < d.2.2.1) ∧
      (hasB u.2.2.1 d.2.2.1 = true → lo < u.2.2.1.length ∧ (u.2.2.1.getD lo nob).1 = d.2.2.1) ∧ (hasB u.2.2.1 d.2.2.1 = false → ∀ k, k < u.2.2.1.length → (u.2.2.1.getD k nob).1 ≠ d.2.2.1) := by
  obtain ⟨un, uv, ls, ⟨⟩⟩ := u
  obtain ⟨lo, h1, h2, h3, h4, h5, h6⟩ := F10_eq (un, uv, ls, ()) d.2.2.1 hl hr
  refine ⟨lo, ?_, h2, h3, h4, h5, h6⟩
  clear h3 h4 h6
  obtain ⟨dd, du, db, dt, uid, how, fl, ds, de, by', ⟨⟩⟩ := d
  change ls.length ≤ 32 at hl
  simp only at h1 h2 h5
  have h40 := F40_eq ls hl
  have hi : ∀ x : Bx, insOK ls (lo : Int) [x] = true := fun x => by
    unfold insOK
    simp only [List.length_singleton, Bool.and_eq_true, decide_eq_true_eq]
    omega
  unfold shpd
  by_cases c2 : dd = 2
  · cases hh : hasB ls db with
    | true => simp only [F24, h1, hh, c2, decide_true, Bool.true_and, cond_true, Option.bind_some, ↓reduceIte]
    | false =>
      by_cases c6 : ls.length = 6 ∨ uv = 4294967295
      · have e : (decide (((ls.length : Nat) : Int) = (6:Int)) || decide (uv = (4294967295:Int))) = true := by
          rw [Bool.or_eq_true, decide_eq_true_eq, decide_eq_true_eq]; omega
        simp only [F24, h1, hh, c2, e, c6, decide_true, Bool.true_and, Bool.and_false, cond_true, cond_false, Option.bind_some, ↓reduceIte, Bool.false_eq_true]
      · have e : (decide (((ls.length : Nat) : Int) = (6:Int)) || decide (uv = (4294967295:Int))) = false := by
          rw [Bool.or_eq_false_iff, decide_eq_false_iff_not, decide_eq_false_iff_not]; omega
        simp only [F24, h1, hh, c2, e, c6, decide_true, Bool.true_and, Bool.and_false, cond_true, cond_false, Option.bind_some, ↓reduceIte, Bool.false_eq_true, h40, hi, agr_self]
  · cases hh : hasB ls db with
    | false => simp only [F24, h1, hh, c2, decide_false, Bool.false_and, cond_true, cond_false, Option.bind_some, ↓reduceIte, Bool.not_false]
    | true =>
      obtain ⟨h7, _⟩ := h5 hh
      have hw := w64_nat (show lo < 9223372036854775807 by omega)
      have hd : delOK ls (lo : Int) ((lo + 1 : Nat) : Int) = true := by
        unfold delOK
        simp only [Bool.and_eq_true, decide_eq_true_eq]
        omega
      by_cases ci : db = inbx
      · subst ci
        have ci' : decide (inbx = ([73, 78, 66, 79, 88] : List UInt8)) = true := rfl
        simp only [F24, h1, hh, c2, ci', decide_false, Bool.false_and, cond_true, cond_false, Option.bind_some, ↓reduceIte, Bool.not_true, Bool.true_eq_false]
      · have ci' : ¬ db = [73, 78, 66, 79, 88] := ci
        simp only [F24, h1, hh, c2, ci, ci', decide_false, Bool.false_and, cond_true, cond_false, Option.bind_some, ↓reduceIte, Bool.not_true, h40, hw, hd, Bool.true_eq_false]

abbrev Mp : Type := List (Tx × (Tx × (Int × (List Bx × Unit))))

/-- a user comes -/
def come (m : Mp) (u : Usr) : Int × Mp :=
  if (mapGet .str m u.1).isSome = true then (10, m) else if m.length = 16 then (8, m) else (0, mapSet .str m u.1 (u.1, (u.2.1, (u.2.2.1, ()))))

theorem F22_eq (m : Mp) (u : Usr) : F22 ((true, u, ()), (((), ()), m, ())) = some ((come m u).1, (((), ()), (come m u).2, ())) := by
  obtain ⟨un, uv, ls, ⟨⟩⟩ := u
  unfold come
  simp only [F22, cond_true, agr_self, Option.bind_some]
  cases hg : (mapGet .str m un).isSome with
  | true => simp only [cond_true, ↓reduceIte]
  | false =>
    by_cases h : m.length = 16
    · have h' : decide (((m.length : Nat) : Int) = 16) = true := decide_eq_true (by omega)
      rw [if_neg (by simp), if_pos h]
      simp only [cond_false, h', cond_true]
    · have h' : decide (((m.length : Nat) : Int) = 16) = false := decide_eq_false (by omega)
      rw [if_neg (by simp), if_neg h]
      simp only [cond_false, h', Option.bind_some]

end Go.Su
/- Laws of maps as lists. -/
namespace Go.Ev
open Go

/-- keys that are held equal are equal -/
def KE (t : Ty) : Prop := ∀ a b : t.den, keyEq t a b = true ↔ a = b
theorem KE_str : KE .str := fun a b => by simp [keyEq]
theorem KE_int (k : IntKind) : KE (.int k) := fun a b => by simp [keyEq]

section
variable {t : Ty} {β : Type}

theorem KE.ne (h : KE t) {a b : t.den} (hn : a ≠ b) : keyEq t a b = false := by
  cases e : keyEq t a b with
  | false => rfl
  | true => exact absurd ((h a b).1 e) hn
theorem KE.eq (h : KE t) (a : t.den) : keyEq t a a = true := (h a a).2 rfl

theorem mapGet_none (h : KE t) {k : t.den} : ∀ {l : List (t.den × β)}, mapGet t l k = none ↔ ∀ p ∈ l, p.1 ≠ k
  | [] => by simp [mapGet]
  | e :: r => by
    by_cases he : e.1 = k
    · simp only [mapGet, (h e.1 k).2 he, cond_true]
      constructor
      · intro h'; cases h'
      · intro h'; exact absurd he (h' e (by simp))
    · simp only [mapGet, h.ne he, cond_false, mapGet_none h (l := r), List.mem_cons, forall_eq_or_imp, ne_eq]
      exact ⟨fun h' => ⟨he, h'⟩, fun h' => h'.2⟩

theorem mapGet_some (h : KE t) {k : t.den} {x : β} : ∀ {l : List (t.den × β)}, mapGet t l k = some x → (k, x) ∈ l
  | [], e => by simp [mapGet] at e
  | e :: r, h' => by
    by_cases he : e.1 = k
    · simp only [mapGet, (h e.1 k).2 he, cond_true, Option.some.injEq] at h'
      obtain ⟨a, b⟩ := e
      simp only at he h'
      subst he
      subst h'
      simp
    · simp only [mapGet, h.ne he, cond_false] at h'
      exact List.mem_cons_of_mem _ (mapGet_some h h')

theorem mapGet_mem (h : KE t) {k : t.den} {x : β} : ∀ {l : List (t.den × β)}, (l.map (·.1)).Nodup → (k, x) ∈ l → mapGet t l k = some x
  | [], _, hm => by simp at hm
  | e :: r, hn, hm => by
    simp only [List.map_cons, List.nodup_cons, List.mem_map, not_exists, not_and] at hn
    rcases List.mem_cons.1 hm with rfl | hm
    · simp only [mapGet, h.eq, cond_true]
    · have he : e.1 ≠ k := fun e' => hn.1 (k, x) hm e'.symm
      simp only [mapGet, h.ne he, cond_false]
      exact mapGet_mem h hn.2 hm

theorem mapSet_new (h : KE t) {k : t.den} {x : β} : ∀ {l : List (t.den × β)}, mapGet t l k = none → mapSet t l k x = l ++ [(k, x)]
  | [], _ => rfl
  | e :: r, hg => by
    have he : e.1 ≠ k := (mapGet_none h).1 hg e (by simp)
    simp only [mapGet, h.ne he, cond_false] at hg
    simp only [mapSet, h.ne he, cond_false, mapSet_new h hg, List.cons_append]

theorem mapSet_keys (h : KE t) {k : t.den} {x y : β} : ∀ {l : List (t.den × β)}, mapGet t l k = some y → (mapSet t l k x).map (·.1) = l.map (·.1)
  | [], e => by simp [mapGet] at e
  | e :: r, hg => by
    by_cases he : e.1 = k
    · have hk : keyEq t e.1 k = true := (h e.1 k).2 he
      simp only [mapSet, hk, cond_true, List.map_cons]
      rw [he]
    · simp only [mapGet, h.ne he, cond_false] at hg
      simp only [mapSet, h.ne he, cond_false, List.map_cons, mapSet_keys h hg]

theorem mapSet_nd (h : KE t) {k : t.den} {x : β} {l : List (t.den × β)} (hn : (l.map (·.1)).Nodup) : ((mapSet t l k x).map (·.1)).Nodup := by
  cases hg : mapGet t l k with
  | none =>
    rw [mapSet_new h hg, List.map_append, List.nodup_append]
    refine ⟨hn, by simp, fun a ha b hb => ?_⟩
    simp only [List.map_cons, List.map_nil, List.mem_singleton] at hb
    subst hb
    obtain ⟨p, hp, rfl⟩ := List.mem_map.1 ha
    exact (mapGet_none h).1 hg p hp
  | some y => rw [mapSet_keys h hg]; exact hn

theorem mapSet_len (h : KE t) {k : t.den} {x : β} {l : List (t.den × β)} : (mapSet t l k x).length = cond (mapGet t l k).isSome l.length (l.length + 1) := by
  cases hg : mapGet t l k with
  | none => simp [mapSet_new h hg]
  | some y =>
    have := congrArg List.length (mapSet_keys h (x := x) hg)
    simpa using this

theorem mapSet_mem (h : KE t) {k : t.den} {x : β} : ∀ {l : List (t.den × β)}, (l.map (·.1)).Nodup → ∀ p, p ∈ mapSet t l k x ↔ p = (k, x) ∨ (p ∈ l ∧ p.1 ≠ k)
  | [], _, p => by simp [mapSet]
  | e :: r, hn, p => by
    simp only [List.map_cons, List.nodup_cons, List.mem_map, not_exists, not_and] at hn
    by_cases he : e.1 = k
    · simp only [mapSet, (h e.1 k).2 he, cond_true, List.mem_cons]
      constructor
      · rintro (rfl | hp)
        · exact .inl rfl
        · exact .inr ⟨.inr hp, fun e' => hn.1 p hp (by rw [e', he])⟩
      · rintro (rfl | ⟨rfl | hp, hne⟩)
        · exact .inl rfl
        · exact absurd he hne
        · exact .inr hp
    · simp only [mapSet, h.ne he, cond_false, List.mem_cons, mapSet_mem h hn.2 p]
      constructor
      · rintro (rfl | rfl | ⟨hp, hne⟩)
        · exact .inr ⟨.inl rfl, he⟩
        · exact .inl rfl
        · exact .inr ⟨.inr hp, hne⟩
      · rintro (rfl | ⟨rfl | hp, hne⟩)
        · exact .inr (.inl rfl)
        · exact .inl rfl
        · exact .inr (.inr ⟨hp, hne⟩)

theorem mapDel_sub : ∀ (l : List (t.den × β)) (k : t.den), (mapDel t l k).Sublist l
  | [], _ => by simp [mapDel]
  | e :: r, k => by
    cases he : keyEq t e.1 k with
    | true => simp only [mapDel, he, cond_true]; exact List.sublist_cons_self _ _
    | false => simp only [mapDel, he, cond_false]; exact (mapDel_sub r k).cons_cons _

theorem mapDel_nd {k : t.den} {l : List (t.den × β)} (hn : (l.map (·.1)).Nodup) : ((mapDel t l k).map (·.1)).Nodup := ((mapDel_sub l k).map _).nodup hn

theorem mapDel_mem (h : KE t) {k : t.den} : ∀ {l : List (t.den × β)}, (l.map (·.1)).Nodup → ∀ p, p ∈ mapDel t l k ↔ p ∈ l ∧ p.1 ≠ k
  | [], _, p => by simp [mapDel]
  | e :: r, hn, p => by
    simp only [List.map_cons, List.nodup_cons, List.mem_map, not_exists, not_and] at hn
    by_cases he : e.1 = k
    · simp only [mapDel, (h e.1 k).2 he, cond_true, List.mem_cons]
      constructor
      · intro hp
        exact ⟨.inr hp, fun e' => hn.1 p hp (by rw [e', he])⟩
      · rintro ⟨rfl | hp, hne⟩
        · exact absurd he hne
        · exact hp
    · simp only [mapDel, h.ne he, cond_false, List.mem_cons, mapDel_mem h hn.2 p]
      constructor
      · rintro (rfl | ⟨hp, hne⟩)
        · exact ⟨.inl rfl, he⟩
        · exact ⟨.inr hp, hne⟩
      · rintro ⟨rfl | hp, hne⟩
        · exact .inl rfl
        · exact .inr ⟨hp, hne⟩

theorem mapDel_len (h : KE t) {k : t.den} {y : β} : ∀ {l : List (t.den × β)}, mapGet t l k = some y → (mapDel t l k).length + 1 = l.length
  | [], e => by simp [mapGet] at e
  | e :: r, hg => by
    by_cases he : e.1 = k
    · simp only [mapDel, (h e.1 k).2 he, cond_true, List.length_cons]
    · simp only [mapGet, h.ne he, cond_false] at hg
      simp only [mapDel, h.ne he, cond_false, List.length_cons, mapDel_len h hg]

/-- A map is known by what it holds. -/
theorem mapGet_iff (h : KE t) {l : List (t.den × β)} (hn : (l.map (·.1)).Nodup) {k : t.den} {x : β} : mapGet t l k = some x ↔ (k, x) ∈ l := ⟨mapGet_some h, mapGet_mem h hn⟩

theorem mapGet_set (h : KE t) {l : List (t.den × β)} (hn : (l.map (·.1)).Nodup) {k k' : t.den} {x : β} : mapGet t (mapSet t l k x) k' = cond (keyEq t k' k) (some x) (mapGet t l k') := by
  by_cases hk : k' = k
  · subst hk
    rw [h.eq, cond_true]
    exact mapGet_mem h (mapSet_nd h hn) ((mapSet_mem h hn _).2 (.inl rfl))
  · rw [h.ne hk, cond_false]
    cases hg : mapGet t l k' with
    | none =>
      rw [mapGet_none h] at hg ⊢
      intro p hp
      rcases (mapSet_mem h hn p).1 hp with rfl | ⟨hp, _⟩
      · exact fun e => hk e.symm
      · exact hg p hp
    | some y => exact mapGet_mem h (mapSet_nd h hn) ((mapSet_mem h hn _).2 (.inr ⟨mapGet_some h hg, hk⟩))

theorem mapGet_del (h : KE t) {l : List (t.den × β)} (hn : (l.map (·.1)).Nodup) {k k' : t.den} : mapGet t (mapDel t l k) k' = cond (keyEq t k' k) none (mapGet t l k') := by
  by_cases hk : k' = k
  · subst hk
    rw [h.eq, cond_true, mapGet_none h]
    exact fun p hp => ((mapDel_mem h hn p).1 hp).2
  · rw [h.ne hk, cond_false]
    cases hg : mapGet t l k' with
    | none =>
      rw [mapGet_none h] at hg ⊢
      exact fun p hp => hg p ((mapDel_mem h hn p).1 hp).1
    | some y => exact mapGet_mem h (mapDel_nd hn) ((mapDel_mem h hn _).2 ⟨mapGet_some h hg, hk⟩)
end
end Go.Ev
/- A user's box. -/
namespace Go.Su
open Go Go.Ev
set_option maxRecDepth 100000

/-- a user that is right -/
structure Good (u : Usr) : Prop where
  few : u.2.2.1.length ≤ 6
  rise : u.2.2.1.Pairwise (fun a b => a.1 < b.1)
  each : ∀ b ∈ u.2.2.1, Right (bxOf b)
  valid : 1 ≤ u.2.1 ∧ u.2.1 ≤ 4294967295
  below : ∀ b ∈ u.2.2.1, b.2.1 ≤ u.2.1

def usr (x : Tx × (Int × (List Bx × Unit))) : Usr := (x.1, x.2.1, x.2.2.1, ())

theorem Good.len {u : Usr} (g : Good u) : ∀ b ∈ u.2.2.1, b.2.2.2.1.length ≤ 32 := fun b hb => (g.each b hb).few

theorem getD_mem {ls : List Bx} {lo : Nat} (h : lo < ls.length) : ls.getD lo nob ∈ ls := by
  rw [List.getD_eq_getElem?_getD, List.getElem?_eq_getElem h]
  exact List.getElem_mem h

/-- which box a store has of a name -/
def boxOf (m : Mp) (user nm : Tx) : Option Bx :=
  match mapGet .str m user with
  | none => none
  | some u => u.2.2.1.find? fun b => decide (b.1 = nm)

theorem find_at {ls : List Bx} (hr : ls.Pairwise (fun a b => a.1 < b.1)) {lo : Nat} (h : lo < ls.length) {nm : Tx} (hn : (ls.getD lo nob).1 = nm) : ls.find? (fun b => decide (b.1 = nm)) = some (ls.getD lo nob) := by
  induction ls generalizing lo with
  | nil => simp at h
  | cons a t ih =>
    obtain ⟨h1, h2⟩ := List.pairwise_cons.1 hr
    rw [List.find?_cons]
    cases lo with
    | zero =>
      rw [List.getD_cons_zero] at hn ⊢
      rw [hn]
      simp
    | succ k =>
      rw [List.getD_cons_succ] at hn ⊢
      have hk : k < t.length := by simpa using h
      have hne : a.1 ≠ nm := fun e => by
        have := h1 _ (getD_mem hk)
        rw [hn, e] at this
        exact List.lt_irrefl _ this
      rw [decide_eq_false hne]
      exact ih h2 hk hn

theorem find_none {ls : List Bx} {nm : Tx} (h : hasB ls nm = false) : ls.find? (fun b => decide (b.1 = nm)) = none := by
  rw [List.find?_eq_none]
  intro b hb he
  unfold hasB at h
  rw [List.any_eq_false] at h
  exact h b hb he

theorem F6_eq (m : Mp) (user nm : Tx) (hg : ∀ u, mapGet .str m user = some u → Good (usr u)) :
    F6 ((true, user, nm, ()), (((), ()), m, ())) = some ((match boxOf m user nm with | some b => (bxOf b, (0:Int), ()) | none => (([], 0, 0, [], ()), (9:Int), ()) : Box × Int × Unit), (((), ()), m, ())) := by
  unfold boxOf
  cases hu : mapGet .str m user with
  | none =>
    obtain ⟨lo, h1, _, _, _, h5, _⟩ := F10_eq (([], 0, [], ()) : Usr) nm (by simp) List.Pairwise.nil
    have hb : hasB ([] : List Bx) nm = false := rfl
    simp only [hb] at h1
    simp only [F6, hu, Option.isSome_none, Option.getD_none, Bool.not_true, cond_false, cond_true, Option.bind_some, h1, Bool.not_false, Bool.or_self]
  | some u =>
    have G := hg u hu
    obtain ⟨un, uv, ls, ⟨⟩⟩ := u
    have hl : ls.length ≤ 32 := Nat.le_trans G.few (by decide)
    obtain ⟨lo, h1, _, _, _, h5, _⟩ := F10_eq ((un, uv, ls, ()) : Usr) nm hl G.rise
    simp only at h1 h5
    cases hh : hasB ls nm with
    | false =>
      rw [hh] at h1
      simp only [F6, hu, Option.isSome_some, Option.getD_some, Bool.not_true, cond_false, cond_true, Option.bind_some, h1, Bool.not_false, Bool.or_true, find_none hh]
    | true =>
      obtain ⟨h6, h7⟩ := h5 hh
      rw [hh] at h1
      have R := G.each _ (getD_mem h6)
      have h11 := F11_eq (bxOf (ls.getD lo nob)) R.few (fun l hl => (R.each l hl).2.2.2)
      unfold bxOf at h11
      simp only at h11
      simp only [F6, hu, Option.isSome_some, Option.getD_some, Bool.not_true, cond_false, cond_true, Option.bind_some, h1, Bool.or_self, nat_nn, nat_lt, h6, decide_true, Bool.and_true, Int.toNat_natCast, h11, bxOf]
      rw [find_at (ls := ls) G.rise h6 h7]

end Go.Su
/- One deed. -/
namespace Go.Su
open Go Go.Ev
set_option maxRecDepth 100000

/-- a user is kept, if all went well -/
def kept (m : Mp) (user : Tx) (r : Usr × Int × Int × Unit) : (Int × Int × Unit) × Mp :=
  ((r.2.1, r.2.2.1, ()), if r.2.2.1 = 0 then mapSet .str m user (r.1.1, (r.1.2.1, (r.1.2.2.1, ()))) else m)

def newU (user : Tx) : Usr := (user, 1, [(inbx, (1, (1, ([], ()))))], ())

theorem F14_bad (m : Mp) (d : Dd) (e : Int) (hc : F21 ((d, ()), ()) = some (e, ())) (he : e ≠ 0) : F14 ((true, d, ()), (((), ()), m, ())) = some ((0, e, ()), (((), ()), m, ())) := by
  obtain ⟨dd, du, db, dt, uid, how, fl, ds, de, by', ⟨⟩⟩ := d
  simp only [F14, hc, Option.bind_some, decide_eq_false he, Bool.not_false, cond_true]

theorem F14_open (m : Mp) (d : Dd) (hc : F21 ((d, ()), ()) = some (0, ())) (h1 : d.1 = 1) :
    F14 ((true, d, ()), (((), ()), m, ())) = some ((1, (come m (newU d.2.1)).1, ()), (((), ()), (come m (newU d.2.1)).2, ())) := by
  obtain ⟨dd, du, db, dt, uid, how, fl, ds, de, by', ⟨⟩⟩ := d
  simp only at h1
  subst h1
  have h22 := F22_eq m (newU du)
  unfold newU inbx at h22
  simp only [F14, hc, Option.bind_some, decide_true, Bool.not_true, cond_false, cond_true, agr_self, h22, newU, inbx]

theorem F14_gone (m : Mp) (d : Dd) (hc : F21 ((d, ()), ()) = some (0, ())) (h1 : d.1 ≠ 1) (h8 : d.1 ≠ 8) (hm : mapGet .str m d.2.1 = none) :
    F14 ((true, d, ()), (((), ()), m, ())) = some ((0, 9, ()), (((), ()), m, ())) := by
  obtain ⟨dd, du, db, dt, uid, how, fl, ds, de, by', ⟨⟩⟩ := d
  simp only at h1 h8 hm
  simp only [F14, hc, Option.bind_some, decide_true, Bool.not_true, cond_false, cond_true, agr_self, hm, decide_eq_false h1, decide_eq_false h8, Option.isSome_none, Bool.not_false]

theorem F14_shape (m : Mp) (d : Dd) (u : Tx × (Int × (List Bx × Unit))) (lo : Nat) (hc : F21 ((d, ()), ()) = some (0, ())) (h2 : d.1 = 2 ∨ d.1 = 3) (hm : mapGet .str m d.2.1 = some u)
    (h24 : F24 ((usr u, d, ()), ()) = some (shpd (usr u) lo d, ())) :
    F14 ((true, d, ()), (((), ()), m, ())) = some ((kept m d.2.1 (shpd (usr u) lo d)).1, (((), ()), (kept m d.2.1 (shpd (usr u) lo d)).2, ())) := by
  obtain ⟨dd, du, db, dt, uid, how, fl, ds, de, by', ⟨⟩⟩ := d
  obtain ⟨un, uv, ls, ⟨⟩⟩ := u
  simp only at h2 hm
  generalize shpd (usr (un, uv, ls, ())) lo (dd, du, db, dt, uid, how, fl, ds, de, by', ()) = R at h24 ⊢
  obtain ⟨⟨ru, rv, rl, ⟨⟩⟩, rn, re, ⟨⟩⟩ := R
  unfold usr at h24
  simp only at h24
  have h1 : dd ≠ 1 := by omega
  have h8 : dd ≠ 8 := by omega
  by_cases h22 : dd = 2
  · subst h22
    simp only [F14, hc, Option.bind_some, decide_true, Bool.not_true, cond_false, cond_true, agr_self, hm, decide_eq_false h1, decide_eq_false h8, Option.isSome_some, Option.getD_some, h24, kept]
    by_cases hr : re = 0
    · simp [hr]
    · simp [hr]
  · have h33 : dd = 3 := by omega
    subst h33
    simp only [F14, hc, Option.bind_some, decide_true, Bool.not_true, cond_false, cond_true, agr_self, hm, decide_eq_false h1, decide_eq_false h8, decide_eq_false h22, Option.isSome_some, Option.getD_some, h24, kept]
    by_cases hr : re = 0
    · simp [hr]
    · simp [hr]

theorem F14_box (m : Mp) (d : Dd) (u : Tx × (Int × (List Bx × Unit))) (R : Usr × Int × Int × Unit) (hc : F21 ((d, ()), ()) = some (0, ())) (h1 : d.1 ≠ 1) (h2 : d.1 ≠ 2) (h3 : d.1 ≠ 3) (h7 : d.1 ≠ 7) (h8 : d.1 ≠ 8) (h9 : d.1 ≠ 9) (hm : mapGet .str m d.2.1 = some u)
    (h26 : F26 ((usr u, d, ()), ()) = some (R, ())) :
    F14 ((true, d, ()), (((), ()), m, ())) = some ((kept m d.2.1 R).1, (((), ()), (kept m d.2.1 R).2, ())) := by
  obtain ⟨dd, du, db, dt, uid, how, fl, ds, de, by', ⟨⟩⟩ := d
  obtain ⟨un, uv, ls, ⟨⟩⟩ := u
  obtain ⟨⟨ru, rv, rl, ⟨⟩⟩, rn, re, ⟨⟩⟩ := R
  simp only at h1 h2 h3 h7 h8 h9 hm
  unfold usr at h26
  simp only at h26
  simp only [F14, hc, Option.bind_some, decide_true, Bool.not_true, cond_false, cond_true, agr_self, hm, decide_eq_false h1, decide_eq_false h2, decide_eq_false h3, decide_eq_false h7, decide_eq_false h8, decide_eq_false h9, Option.isSome_some, Option.getD_some, h26, kept]
  by_cases hr : re = 0
  · simp [hr]
  · simp [hr]

end Go.Su
/- A list of one deed. -/
namespace Go.Su
open Go Go.Ev
set_option maxRecDepth 100000

abbrev R9 : Type := ((Bool × Unit × Unit) × ((Unit × Unit) × Mp × (List Int) × Unit)) ⊕ ((Bool × Unit × Int × Int × Unit) × ((Unit × Unit) × Mp × (List Int) × Unit))

theorem F9_one (m m' : Mp) (d : Dd) (n e : Int) (h14 : F14 ((true, d, ()), (((), ()), m, ())) = some ((n, e, ()), (((), ()), m', ()))) :
    F9 ((true, [d], ()), (((), ()), m, ())) = some (((), 0, e, ()), (((), ()), m', (if e = 0 then [n] else []), ())) := by
  have hF := FUEL_big
  obtain ⟨dd, du, db, dt, uid, how, fl, ds, de, by', ⟨⟩⟩ := d
  have hL : L9_0 ((true, (), [((dd, du, db, dt, uid, how, fl, ds, de, by', ()) : Dd)], (1:Int), (0:Int), ()), (((), ()), m, ([]:List Int), ())) =
      some (if e = 0 then (.inl ((true, (), ()), (((), ()), m', [n], ())) : R9) else .inr ((true, (), 0, e, ()), (((), ()), m', [], ()))) := by
    unfold L9_0
    refine (walk_listI (b := ((m, []) : Mp × List Int)) (f := B9_0) (fun (b : Mp × List Int) i => ((true, (), [((dd, du, db, dt, uid, how, fl, ds, de, by', ()) : Dd)], (1:Int), (i : Int), ()), (((), ()), b.1, b.2, ()))) [((dd, du, db, dt, uid, how, fl, ds, de, by', ()) : Dd)]
      (fun _ _ => if e = 0 then .inl (m', [n]) else .inr (.inr ((true, (), 0, e, ()), (((), ()), m', [], ())) : R9)) (fun b => (.inl ((true, (), ()), (((), ()), b.1, b.2, ())) : R9)) (fun b i => i = 0 → b = (m, []))
      (fun b i a hI hi ha => ?_) (fun b _ => ?_) (by simp only [List.length_singleton]; omega) (fun _ => rfl)).trans ?_
    · have hi0 : i = 0 := by simp only [List.length_singleton] at hi; omega
      subst hi0
      obtain rfl := hI rfl
      have hw : w64 (0 + 1) = 1 := by rw [w64_id (by omega) (by omega)]; rfl
      by_cases he : e = 0
      · subst he
        refine .inl ⟨_, if_pos rfl, fun h => by omega, ?_⟩
        have hb : bytesOK (([] : List Int).length + 1) 8 = true := bytes_ok (by simp only [List.length_nil]; omega)
        simp only [B9_0, List.length_singleton, Int.natCast_zero, show decide ((0:Int) < 1) = true from rfl, show decide ((0:Int) ≤ 0) = true from rfl, Bool.and_true, cond_true, Option.bind_some, Int.toNat_zero, List.getD_cons_zero, Int.natCast_one, h14, decide_true, Bool.not_true, cond_false, List.nil_append, hb, hw]
        rfl
      · refine .inr ⟨_, if_neg he, ?_⟩
        simp only [B9_0, List.length_singleton, Int.natCast_zero, show decide ((0:Int) < 1) = true from rfl, show decide ((0:Int) ≤ 0) = true from rfl, Bool.and_true, cond_true, Option.bind_some, Int.toNat_zero, List.getD_cons_zero, Int.natCast_one, h14, decide_eq_false he, Bool.not_false]
    · simp only [B9_0, List.length_singleton, Int.natCast_one, Int.lt_irrefl, decide_false, cond_false]
    · by_cases he : e = 0
      · simp only [foldS, he, ↓reduceIte]
      · simp only [foldS, he, ↓reduceIte]
  have h1 : decide ((1 : Int) = 0) = false := rfl
  have h2 : decide ((12:Int) < 1) = false := rfl
  simp only [F9, Bool.not_true, cond_false, List.length_singleton, Int.natCast_one, h1, h2, hL, Option.bind_some]
  by_cases he : e = 0
  · simp only [he, ↓reduceIte, Option.bind_some]
  · simp only [he, ↓reduceIte, Option.bind_some]

theorem F5_one (m m' : Mp) (d : Dd) (n e : Int) (h14 : F14 ((true, d, ()), (((), ()), m, ())) = some ((n, e, ()), (((), ()), m', ()))) :
    F5 ((true, [d], ()), (((), ()), m, ())) = some (((), 0, e, ()), (((), ()), (if e = 0 then m' else m), (if e = 0 then [n] else []), ())) := by
  have h9 := F9_one m m' d n e h14
  by_cases he : e = 0
  · subst he
    simp only [F5, F8, Bool.not_true, cond_false, cond_true, Option.bind_some, h9, decide_true, ↓reduceIte]
  · simp only [he, ↓reduceIte] at h9
    simp only [F5, F8, Bool.not_true, cond_false, cond_true, Option.bind_some, h9, he, decide_false, ↓reduceIte]

end Go.Su
/- What a deed leaves of a box that is right. -/
namespace Go.Su
open Go Go.Ev
set_option maxRecDepth 100000

structure Kept (b : Box) (d : Dd) (r : Box × Int × Int) : Prop where
  right : Right r.1
  name : r.1.1 = b.1
  valid : r.1.2.1 = b.2.1
  next : b.2.2.1 ≤ r.1.2.2.1
  put : d.1 = 4 → r.2.1 = b.2.2.1 ∧ r.1.2.2.1 = b.2.2.1 + 1 ∧ r.1.2.2.2.1 = b.2.2.2.1 ++ [(b.2.2.1, d.2.2.2.2.2.2.1, d.2.2.2.2.2.2.2.2.2.1, ())]
  else' : d.1 ≠ 4 → r.2.1 = 0

theorem did_kept {b : Box} (R : Right b) (d : Dd) (h : (did b d).2.2 = 0) : Kept b d (did b d) := by
  obtain ⟨dd, du, db, dt, uid, how, fl, ds, de, by', ⟨⟩⟩ := d
  unfold did at h ⊢
  simp only at h ⊢
  by_cases c4 : dd = 4
  · subst c4
    simp only [↓reduceIte] at h ⊢
    by_cases hf : fl.toNat < 32
    · by_cases hp : by'.length ≤ 600
      · rw [add_good R hf hp] at h ⊢
        by_cases hc : b.2.2.2.1.length = 32 ∨ b.2.2.1 = 4294967295
        · rw [if_pos hc] at h
          exact absurd h (by decide)
        · rw [if_neg hc]
          exact ⟨added_right R hf hp hc, rfl, rfl, by simp only [added]; omega, fun _ => ⟨rfl, rfl, rfl⟩, fun h => absurd rfl h⟩
      · unfold add at h
        rw [if_neg (not_not_intro (check_zero.mpr R)), if_neg (by omega), if_pos (by omega)] at h
        exact absurd h (by decide)
    · unfold add at h
      rw [if_neg (not_not_intro (check_zero.mpr R)), if_pos (by omega)] at h
      exact absurd h (by decide)
  · rw [if_neg c4] at h ⊢
    by_cases c5 : dd = 5
    · subst c5
      simp only [↓reduceIte] at h ⊢
      obtain ⟨_, h1, h2, h3, h4, h5⟩ := flag_good h
      rw [h5]
      exact ⟨laid_right R h1 h2 h3, rfl, rfl, Int.le_refl _, fun h => absurd h c4, fun _ => rfl⟩
    · rw [if_neg c5] at h ⊢
      by_cases c6 : dd = 6
      · subst c6
        simp only [↓reduceIte] at h ⊢
        rw [cut_good R] at h ⊢
        by_cases hh : has b.2.2.2.1 uid = true
        · rw [if_pos hh] at h ⊢
          exact ⟨cutd_right R uid, rfl, rfl, Int.le_refl _, fun h => absurd h c4, fun _ => rfl⟩
        · rw [if_neg hh] at h
          exact absurd h (by decide)
      · rw [if_neg c6]
        exact ⟨R, rfl, rfl, Int.le_refl _, fun h => absurd h c4, fun _ => rfl⟩

end Go.Su
/- Users stay right. -/
namespace Go.Su
open Go Go.Ev
set_option maxRecDepth 100000

theorem new_good (user : Tx) : Good (newU user) where
  few := by simp [newU]
  rise := by simp [newU]
  each := fun b hb => by
    simp only [newU, List.mem_singleton] at hb
    subst hb
    exact ⟨by simp [bxOf], by simp [bxOf], by simp [bxOf], by simp [bxOf], by simp [bxOf]⟩
  valid := by simp [newU]
  below := fun b hb => by
    simp only [newU, List.mem_singleton] at hb
    subst hb
    simp [newU]

theorem names_rise {ls : List Bx} : ls.Pairwise (fun a b => a.1 < b.1) ↔ (ls.map (fun b => b.1)).Pairwise (fun a b => a < b) := by
  rw [List.pairwise_map]

theorem set_rise {ls : List Bx} (hr : ls.Pairwise (fun a b => a.1 < b.1)) {lo : Nat} {B : Bx} (h : B.1 = (ls.getD lo nob).1) (hl : lo < ls.length) : (ls.set lo B).Pairwise (fun a b => a.1 < b.1) := by
  rw [names_rise] at hr ⊢
  rw [List.map_set, set_same]
  · exact hr
  · intro d
    rw [List.getD_eq_getElem?_getD, List.getElem?_map, List.getElem?_eq_getElem hl, h, List.getD_eq_getElem?_getD, List.getElem?_eq_getElem hl]
    rfl

theorem ins_rise {ls : List Bx} (hr : ls.Pairwise (fun a b => a.1 < b.1)) {lo : Nat} {x : Bx} (h1 : ∀ k, k < lo → (ls.getD k nob).1 < x.1) (h2 : ∀ k, lo ≤ k → k < ls.length → x.1 < (ls.getD k nob).1) :
    (ls.take lo ++ [x] ++ ls.drop lo).Pairwise (fun a b => a.1 < b.1) := by
  have k1 : ∀ a ∈ ls.take lo, a.1 < x.1 := fun a ha => by
    obtain ⟨i, hi, rfl⟩ := List.mem_take_iff_getElem.1 ha
    have := h1 i (by omega)
    rw [List.getD_eq_getElem?_getD, List.getElem?_eq_getElem (by omega)] at this
    exact this
  have k2 : ∀ b ∈ ls.drop lo, x.1 < b.1 := fun b hb => by
    obtain ⟨i, hi, rfl⟩ := List.mem_drop_iff_getElem.1 hb
    have := h2 (lo + i) (by omega) (by omega)
    rw [List.getD_eq_getElem?_getD, List.getElem?_eq_getElem (by omega)] at this
    exact this
  rw [List.append_assoc, List.pairwise_append]
  refine ⟨hr.sublist (List.take_sublist _ _), ?_, fun a ha b hb => ?_⟩
  · rw [List.singleton_append, List.pairwise_cons]
    exact ⟨k2, hr.sublist (List.drop_sublist _ _)⟩
  · rw [List.singleton_append] at hb
    rcases List.mem_cons.1 hb with rfl | hb
    · exact k1 a ha
    · exact List.lt_trans (k1 a ha) (k2 b hb)

theorem del_sub (ls : List Bx) (lo : Nat) : (ls.take lo ++ ls.drop (lo + 1)).Sublist ls := by
  have h : (ls.take lo ++ ls.drop (lo + 1)).Sublist (ls.take lo ++ ls.drop lo) := by
    refine List.Sublist.append_left ?_ _
    exact List.drop_sublist_drop_left _ (Nat.le_succ lo)
  rw [List.take_append_drop] at h
  exact h

theorem boxd_good {u : Usr} (G : Good u) {lo : Nat} (hl : lo < u.2.2.1.length) (d : Dd) (h : (boxd u lo d).2.2.1 = 0) :
    Good (boxd u lo d).1 ∧ Kept (bxOf (u.2.2.1.getD lo nob)) d (did (bxOf (u.2.2.1.getD lo nob)) d) ∧
      boxd u lo d = ((u.1, u.2.1, u.2.2.1.set lo (ofBx (did (bxOf (u.2.2.1.getD lo nob)) d).1), ()), (did (bxOf (u.2.2.1.getD lo nob)) d).2.1, 0, ()) := by
  have hm := getD_mem hl
  have R := G.each _ hm
  have e : boxd u lo d = ((u.1, u.2.1, u.2.2.1.set lo (ofBx (did (bxOf (u.2.2.1.getD lo nob)) d).1), ()), (did (bxOf (u.2.2.1.getD lo nob)) d).2.1, 0, ()) ∧ (did (bxOf (u.2.2.1.getD lo nob)) d).2.2 = 0 := by
    unfold boxd at h ⊢
    by_cases h0 : (did (bxOf (u.2.2.1.getD lo nob)) d).2.2 = 0
    · rw [if_neg (not_not_intro h0)] at h ⊢
      by_cases hw : wth (u.2.2.1.set lo (ofBx (did (bxOf (u.2.2.1.getD lo nob)) d).1)) = true
      · rw [if_pos hw]; exact ⟨rfl, h0⟩
      · rw [if_neg hw] at h; exact absurd h (by simp)
    · rw [if_pos h0] at h
      exact absurd h h0
  have K := did_kept R d e.2
  refine ⟨?_, K, e.1⟩
  rw [e.1]
  generalize did (bxOf (u.2.2.1.getD lo nob)) d = r at K
  exact {
    few := by simp only [List.length_set]; exact G.few
    rise := set_rise G.rise (by simp only [ofBx]; rw [K.name]; rfl) hl
    each := fun b hb => by
      rcases List.mem_or_eq_of_mem_set hb with h | rfl
      · exact G.each b h
      · exact K.right
    valid := G.valid
    below := fun b hb => by
      rcases List.mem_or_eq_of_mem_set hb with h | rfl
      · exact G.below b h
      · have := G.below _ hm
        simp only [ofBx]
        rw [K.valid]
        exact this }

end Go.Su
/- Users stay right: boxes that come and go. -/
namespace Go.Su
open Go Go.Ev
set_option maxRecDepth 100000

theorem make_good {u : Usr} (G : Good u) {lo : Nat} (d : Dd) (h2 : d.1 = 2) (hlo : lo ≤ u.2.2.1.length) (h3 : ∀ k, k < lo → (u.2.2.1.getD k nob).1 < d.2.2.1) (h4 : ∀ k, lo ≤ k → k < u.2.2.1.length → ¬ (u.2.2.1.getD k nob).1 < d.2.2.1)
    (h6 : hasB u.2.2.1 d.2.2.1 = false → ∀ k, k < u.2.2.1.length → (u.2.2.1.getD k nob).1 ≠ d.2.2.1) (h : (shpd u lo d).2.2.1 = 0) :
    Good (shpd u lo d).1 ∧ hasB u.2.2.1 d.2.2.1 = false ∧ shpd u lo d = ((u.1, u.2.1 + 1, u.2.2.1.take lo ++ [((d.2.2.1, (u.2.1 + 1, (1, ([], ())))) : Bx)] ++ u.2.2.1.drop lo, ()), u.2.1 + 1, 0, ()) := by
  have hv := G.valid
  have hw : w64 (u.2.1 + 1) = u.2.1 + 1 := w64_id (by omega) (by omega)
  have e : shpd u lo d = ((u.1, u.2.1 + 1, u.2.2.1.take lo ++ [((d.2.2.1, (u.2.1 + 1, (1, ([], ())))) : Bx)] ++ u.2.2.1.drop lo, ()), u.2.1 + 1, 0, ()) ∧ hasB u.2.2.1 d.2.2.1 = false ∧ u.2.2.1.length ≠ 6 ∧ u.2.1 ≠ 4294967295 := by
    unfold shpd at h ⊢
    rw [if_pos h2] at h ⊢
    cases hh : hasB u.2.2.1 d.2.2.1 with
    | true => rw [hh, if_pos rfl] at h; exact absurd h (by simp)
    | false =>
      rw [hh, if_neg (by simp)] at h
      rw [if_neg (by simp)]
      by_cases hc : u.2.2.1.length = 6 ∨ u.2.1 = 4294967295
      · rw [if_pos hc] at h; exact absurd h (by simp)
      · rw [if_neg hc, hw]
        rw [not_or] at hc
        exact ⟨by simp only [insL, Int.toNat_natCast], rfl, hc.1, hc.2⟩
  refine ⟨?_, e.2.1, e.1⟩
  rw [e.1]
  have hno := h6 e.2.1
  have hf := G.few
  have hmem : ∀ b ∈ u.2.2.1.take lo ++ [((d.2.2.1, (u.2.1 + 1, (1, ([], ())))) : Bx)] ++ u.2.2.1.drop lo, b ∈ u.2.2.1 ∨ b = (d.2.2.1, (u.2.1 + 1, (1, ([], ())))) := fun b hb => by
    rcases List.mem_append.1 hb with hb | hb
    · rcases List.mem_append.1 hb with hb | hb
      · exact .inl (List.mem_of_mem_take hb)
      · exact .inr (List.mem_singleton.1 hb)
    · exact .inl (List.mem_of_mem_drop hb)
  exact {
    few := by
      simp only [List.length_append, List.length_take, List.length_drop, List.length_singleton]
      have := e.2.2.1
      omega
    rise := ins_rise G.rise h3 fun k hk hk2 => tx_total (h4 k hk hk2) (hno k hk2)
    each := fun b hb => by
      rcases hmem b hb with h | rfl
      · exact G.each b h
      · have := e.2.2.2
        exact ⟨by simp only [bxOf]; omega, by simp [bxOf], by simp [bxOf], by simp [bxOf], by simp [bxOf]⟩
    valid := by have := e.2.2.2; simp only; omega
    below := fun b hb => by
      rcases hmem b hb with h | rfl
      · have := G.below b h; simp only; omega
      · exact Int.le_refl _ }

theorem drop_good {u : Usr} (G : Good u) {lo : Nat} (d : Dd) (h2 : d.1 ≠ 2) (h : (shpd u lo d).2.2.1 = 0) :
    Good (shpd u lo d).1 ∧ shpd u lo d = ((u.1, u.2.1, u.2.2.1.take lo ++ u.2.2.1.drop (lo + 1), ()), 0, 0, ()) := by
  have e : shpd u lo d = ((u.1, u.2.1, u.2.2.1.take lo ++ u.2.2.1.drop (lo + 1), ()), 0, 0, ()) := by
    unfold shpd at h ⊢
    rw [if_neg h2] at h ⊢
    cases hh : hasB u.2.2.1 d.2.2.1 with
    | false => rw [hh, if_pos rfl] at h; exact absurd h (by simp)
    | true =>
      rw [hh, if_neg (by simp)] at h
      rw [if_neg (by simp)]
      by_cases hc : d.2.2.1 = inbx
      · rw [if_pos hc] at h; exact absurd h (by simp)
      · rw [if_neg hc]
        simp only [delL, Int.toNat_natCast]
  refine ⟨?_, e⟩
  rw [e]
  have hs := del_sub u.2.2.1 lo
  exact {
    few := Nat.le_trans hs.length_le G.few
    rise := G.rise.sublist hs
    each := fun b hb => G.each b (hs.mem hb)
    valid := G.valid
    below := fun b hb => G.below b (hs.mem hb) }

end Go.Su
/- What a deed's kind is among. -/
namespace Go.Su
open Go Go.Ev
set_option maxRecDepth 100000

abbrev R50 : Type := (Unit × Unit) ⊕ ((Int × Unit) × Unit)
def stp50 (x : Int) (a : Int) (b : Nat) : Nat ⊕ R50 := if x = a then .inr (.inr (((b : Int), ()), ())) else .inl (b + 1)

theorem fold50 (x : Int) : ∀ (l : List Int) (b : Nat), (x ∉ l ∧ foldS (stp50 x) (fun _ => (.inl ((), ()) : R50)) b l = .inl ((), ())) ∨ (x ∈ l ∧ ∃ n : Nat, foldS (stp50 x) (fun _ => (.inl ((), ()) : R50)) b l = .inr (((n : Int), ()), ()))
  | [], b => .inl ⟨by simp, rfl⟩
  | a :: t, b => by
    simp only [foldS, stp50]
    by_cases h : x = a
    · exact .inr ⟨by simp [h], b, by simp [h]⟩
    · rw [if_neg h]
      rcases fold50 x t (b + 1) with ⟨h1, h2⟩ | ⟨h1, n, h2⟩
      · exact .inl ⟨by simp [h, h1], h2⟩
      · exact .inr ⟨by simp [h1], n, h2⟩

theorem F29_eq (l : List Int) (x : Int) (hl : l.length ≤ 32) : F29 ((l, x, ()), ()) = some (decide (x ∈ l), ()) := by
  have hF := FUEL_big
  have h0 : L50_0 ((l, x, ((l.length : Nat) : Int), (0:Int), ()), ()) = some (foldS (stp50 x) (fun _ => (.inl ((), ()) : R50)) 0 l) := by
    unfold L50_0
    refine walk_listI (b := 0) (f := B50_0) (fun (_ : Nat) i => ((l, x, ((l.length : Nat) : Int), (i : Int), ()), ())) l (stp50 x) _ (fun b i => b = i)
      (fun b i a hI hi ha => ?_) (fun b _ => ?_) (by omega) rfl
    · subst hI
      have hw := w64_nat (show b < 9223372036854775807 by omega)
      simp only [B50_0, nat_lt, nat_nn, hi, decide_true, Bool.and_true, cond_true, Int.toNat_natCast, ha, stp50]
      by_cases h : x = a
      · exact .inr ⟨_, if_pos h, by simp [h]⟩
      · refine .inl ⟨_, if_neg h, rfl, ?_⟩
        simp only [h, decide_false, cond_false]
        rw [hw]
    · simp only [B50_0, Int.lt_irrefl, decide_false, cond_false]
  rcases fold50 x l 0 with ⟨h1, h2⟩ | ⟨h1, n, h2⟩
  · simp only [F29, F50, h0, h2, Option.bind_some, h1, decide_false]
    rfl
  · simp only [F29, F50, h0, h2, Option.bind_some, h1, decide_true, nat_nn]

theorem F28_eq (l : List Int) (d : Dd) (hl : l.length ≤ 32) : F28 ((l, (), ()), (d, ())) = some (decide (d.1 ∈ l), (d, ())) := by
  obtain ⟨dd, du, db, dt, uid, how, fl, ds, de, by', ⟨⟩⟩ := d
  simp only [F28, F29_eq l dd hl, Option.bind_some]

end Go.Su
/- Taken out of the texts of another seat. -/
namespace Go.Su
open Go Go.Ev
set_option maxRecDepth 100000

section
def lowc (c : UInt8) : UInt8 := if 65 ≤ c.toNat ∧ c.toNat ≤ 90 then c + 32 else c

theorem append_set {α : Type} : ∀ (a t : List α) (x y : α), (a ++ x :: t).set a.length y = a ++ y :: t
  | [], _, _, _ => rfl
  | b :: a, t, x, y => by
    simp only [List.cons_append, List.length_cons, List.set_cons_succ, append_set a t x y]

theorem drop_cons {α : Type} {s : List α} {i : Nat} {a : α} (hi : i < s.length) (ha : ∀ d, s.getD i d = a) : s.drop i = a :: s.drop (i + 1) := by
  rw [List.drop_eq_getElem_cons hi]
  have := ha s[i]
  rw [List.getD_eq_getElem?_getD, List.getElem?_eq_getElem hi] at this
  rw [show s[i] = a from this]

theorem foldS_push {α β τ : Type} (g : α → β) (fin : List β → τ) : ∀ (s : List α) (b : List β), foldS (fun a b => (.inl (b ++ [g a]) : List β ⊕ τ)) fin b s = fin (b ++ s.map g)
  | [], b => by simp [foldS]
  | a :: t, b => by
    simp only [foldS]
    rw [foldS_push g fin t]
    simp

theorem F92_eq (s : List UInt8) (hs : s.length ≤ maxLen) : F92 ((s, ()), ()) = some (s.map lowc, ()) := by
  have hF : maxLen < FUEL := by unfold maxLen FUEL; omega
  have hm : maxLen = 9223372036854775807 := rfl
  have h := walk_listI (f := B92_0) (fun (b : List UInt8) i => (((), (), ((s.length : Nat) : Int), (i : Int), ()), (b ++ s.drop i, ()))) s (fun a b => .inl (b ++ [lowc a])) (fun b => (((), ()), (b, ()))) (fun b i => b.length = i) (b := [])
    (fun b i a hI hi ha => .inl ⟨_, rfl, by rw [List.length_append, hI]; rfl, by
      subst hI
      have hd := drop_cons hi ha
      have hlt : b.length < (b ++ s.drop b.length).length := by rw [hd]; simp
      have hg : (b ++ s.drop b.length).getD b.length 0 = a := by
        rw [hd, List.getD_eq_getElem?_getD, List.getElem?_append_right (Nat.le_refl _)]
        simp
      have hset : (b ++ s.drop b.length).set b.length (a + 32) = b ++ [a + 32] ++ s.drop (b.length + 1) := by
        rw [hd, append_set]; simp
      have hkeep : b ++ s.drop b.length = b ++ [a] ++ s.drop (b.length + 1) := by
        rw [hd]; simp
      simp only [B92_0, nat_lt, nat_nn, hi, hlt, decide_true, Bool.and_true, cond_true, Int.toNat_natCast, hg, hset, w64_nat (show b.length < 9223372036854775807 by omega), show UInt8.toNat 65 = 65 from rfl, show UInt8.toNat 90 = 90 from rfl]
      unfold lowc
      by_cases h1 : 65 ≤ a.toNat
      · by_cases h2 : a.toNat ≤ 90
        · simp only [h1, h2, decide_true, Bool.and_self, cond_true, Option.bind_some, and_self, ↓reduceIte, w64_nat (show b.length < 9223372036854775807 by omega)]
        · simp only [h1, h2, decide_true, decide_false, Bool.and_false, cond_false, Option.bind_some, and_false, ↓reduceIte, ← hkeep, w64_nat (show b.length < 9223372036854775807 by omega)]
      · simp only [h1, decide_false, Bool.false_and, cond_false, Option.bind_some, false_and, ↓reduceIte, ← hkeep, w64_nat (show b.length < 9223372036854775807 by omega)]⟩)
    (fun b _ => by simp only [B92_0, Int.lt_irrefl, decide_false, cond_false, List.drop_length, List.append_nil]) (by omega) rfl
  rw [foldS_push] at h
  have h' : L92_0 (((), (), ((s.length : Nat) : Int), (0:Int), ()), (s, ())) = some (((), ()), (s.map lowc, ())) := h
  simp only [F92, h', Option.bind_some]

end

theorem F72_eq (a b : Tx) (ha : a.length ≤ maxLen) (hb : b.length ≤ maxLen) : F72 ((a, b, ()), ()) = some (decide (a.map lowc = b.map lowc), ()) := by
  simp only [F72, F92_eq a ha, F92_eq b hb, Option.bind_some]

def fld (s : Tx) : Tx := if s.map lowc = inbx.map lowc then inbx else s

theorem F52_eq (s : Tx) (hs : s.length ≤ maxLen) : F52 ((s, ()), ()) = some (fld s, ()) := by
  have h := F72_eq s inbx hs (by decide)
  unfold inbx at h
  unfold fld inbx
  simp only [F52, h, Option.bind_some]
  by_cases hc : s.map lowc = List.map lowc [73, 78, 66, 79, 88]
  · simp only [hc, decide_true, cond_true, ↓reduceIte]
  · simp only [hc, decide_false, cond_false, ↓reduceIte]

theorem F31_some (s : Tx) : ∃ b, F31 ((s, ()), ()) = some (b, ()) := by
  cases hc : (((!(decide (s = ([]:List UInt8)))) && (decide ((((List.length s) : Nat) : Int) ≤ (24:Int)))) && (decide ((quo s).2.2 = (0:Int)))) with
  | false => exact ⟨false, by simp only [F31, hc, cond_false]⟩
  | true =>
    have hl : s.length ≤ 24 := by
      simp only [Bool.and_eq_true, decide_eq_true_eq] at hc
      omega
    exact ⟨decide (fld s = s), by simp only [F31, hc, cond_true, F52_eq s (Nat.le_trans hl (by decide)), Option.bind_some]⟩

theorem F32_some (a : Bool) (n x y : Int) : ∃ b, F32 ((a, n, x, y, ()), ()) = some (b, ()) := by
  cases a with
  | false => exact ⟨decide (n = 0), by simp only [F32, Bool.not_false, cond_true]⟩
  | true => exact ⟨decide (x ≤ n) && decide (n ≤ y), by simp only [F32, Bool.not_true, cond_false]⟩

end Go.Su
/- A user's name is judged. -/
namespace Go.Su
open Go Go.Ev
set_option maxRecDepth 100000

section
def wid (s : List UInt8) : Nat := (Go.Lib.decodeGo ⟨s.toArray⟩).2

theorem wid_eq {s : List UInt8} (h : s ≠ []) : wid s = (Lib.decodeL s).2 := by
  unfold wid Lib.decodeGo
  have : ¬ (⟨s.toArray⟩ : ByteArray).size = 0 := by
    show ¬ s.toArray.size = 0
    simpa using h
  rw [if_neg this]
  rfl

theorem decodeN_4 (n b0 b1 b2 b3 : Nat) : (Lib.decodeN n b0 b1 b2 b3).2 ≤ 4 := by
  unfold Lib.decodeN
  repeat' split
  all_goals simp

theorem wid_pos {s : List UInt8} (h : s ≠ []) : 1 ≤ wid s ∧ wid s ≤ s.length ∧ wid s ≤ 4 := by
  rw [wid_eq h]
  exact ⟨Lib.decodeL_width s, Lib.decodeL_le s h, by rw [Lib.decodeL_N]; exact decodeN_4 _ _ _ _ _⟩

theorem dec_at {s : List UInt8} {i : Nat} (h : i < s.length) : Utf8.decode ⟨s.toArray⟩ i = Lib.decodeL (s.drop i) := by
  rw [← Lib.decodeL_drop]

theorem wid_at {s : List UInt8} {i : Nat} (h : i < s.length) : (Utf8.decode ⟨s.toArray⟩ i).2 = wid (s.drop i) := by
  have hne : s.drop i ≠ [] := by
    intro he
    have := congrArg List.length he
    rw [List.length_drop, List.length_nil] at this
    omega
  rw [wid_eq hne, ← Lib.decodeL_drop]

end

theorem dec_pos (s : List UInt8) (i : Nat) (h : i < s.length) : 1 ≤ (Utf8.decode ⟨s.toArray⟩ i).2 := by
  rw [wid_at h]
  exact (wid_pos (by rw [ne_eq, List.drop_eq_nil_iff]; omega)).1

theorem L30_iter (s : List UInt8) : ∀ (k i : Nat), s.length - i < k → ∃ r, iter B30_0 k ((s, (), ()), ((s, i), ())) = some r
  | 0, _, h => absurd h (Nat.not_lt_zero _)
  | k + 1, i, h => by
    rw [iter]
    by_cases hi : i < s.length
    · cases hb : B30_0 ((s, (), ()), ((s, i), ())) with
      | none =>
        exfalso
        simp only [B30_0, hi, decide_true, cond_true] at hb
        revert hb
        generalize (!_) = c
        cases c <;> simp
      | some q =>
        cases q with
        | inr r => exact ⟨r, rfl⟩
        | inl p =>
          have hp : p = ((s, (), ()), ((s, i + (Utf8.decode ⟨s.toArray⟩ i).2), ())) := by
            simp only [B30_0, hi, decide_true, cond_true] at hb
            revert hb
            generalize (!_) = c
            cases c
            · intro hb
              simp only [cond_false, Option.some.injEq, Sum.inl.injEq] at hb
              exact hb.symm
            · intro hb
              simp at hb
          subst hp
          have := dec_pos s i hi
          exact L30_iter s k _ (by omega)
    · refine ⟨.inl ((s, ()), ()), ?_⟩
      simp only [B30_0, hi, decide_false, cond_false]

theorem F30_some (s : Tx) (hs : s.length ≤ maxLen) : ∃ b, F30 ((s, ()), ()) = some (b, ()) := by
  have hF : maxLen < FUEL := by unfold maxLen FUEL; omega
  obtain ⟨r, hr⟩ := L30_iter s FUEL 0 (by omega)
  have h : L30_0 ((s, (), ()), ((s, 0), ())) = some r := hr
  cases r with
  | inl r => exact ⟨(!(decide (r.1.1 = ([]:List UInt8)))) && (decide ((((List.length r.1.1) : Nat) : Int) ≤ (24:Int))), by simp only [F30, h, Option.bind_some]⟩
  | inr r => exact ⟨false, by simp only [F30, h, Option.bind_some]⟩

end Go.Su
/- A store stays right. -/
namespace Go.Su
open Go Go.Ev
set_option maxRecDepth 100000

structure GoodM (m : Mp) : Prop where
  nodup : (m.map (·.1)).Nodup
  good : ∀ (k : Tx) u, mapGet .str m k = some u → Good (usr u)

theorem GoodM.nil : GoodM [] := ⟨List.nodup_nil, fun k u h => by cases h⟩

theorem GoodM.set {m : Mp} (G : GoodM m) (k : Tx) (u : Usr) (hu : Good u) : GoodM (mapSet .str m k (u.1, (u.2.1, (u.2.2.1, ())))) where
  nodup := mapSet_nd KE_str G.nodup
  good := fun k' u' h => by
    rw [mapGet_set KE_str G.nodup] at h
    cases hk : keyEq .str k' k with
    | true =>
      rw [hk, cond_true, Option.some.injEq] at h
      subst h
      exact hu
    | false =>
      rw [hk, cond_false] at h
      exact G.good k' u' h

theorem come_goodM {m : Mp} (G : GoodM m) (user : Tx) : GoodM (come m (newU user)).2 := by
  unfold come
  split
  · exact G
  · split
    · exact G
    · exact G.set _ (newU user) (new_good user)

theorem kept_goodM {m : Mp} (G : GoodM m) (user : Tx) (r : Usr × Int × Int × Unit) (h : r.2.2.1 = 0 → Good r.1) : GoodM (kept m user r).2 := by
  unfold kept
  simp only
  split
  · rename_i h0
    exact G.set _ r.1 (h h0)
  · exact G

end Go.Su
/- Check answers, but for Enter. -/
namespace Go.Su
open Go Go.Ev
set_option maxRecDepth 100000

theorem bind_tot {α β : Type} {x : Option α} {f : α → Option β} (P : α → Prop) (h1 : ∃ a, x = some a ∧ P a) (h2 : ∀ a, P a → ∃ e, f a = some e) : ∃ e, x.bind f = some e := by
  obtain ⟨a, rfl, ha⟩ := h1
  exact h2 a ha

theorem cond_tot {α : Type} {P : α → Prop} {c : Bool} {x y : Option α} (h1 : ∃ a, x = some a ∧ P a) (h2 : ∃ a, y = some a ∧ P a) : ∃ a, (cond c x y) = some a ∧ P a := by
  cases c
  · exact h2
  · exact h1

theorem bind_totP {α β : Type} {x : Option α} {f : α → Option β} (P : α → Prop) {Q : β → Prop} (h1 : ∃ a, x = some a ∧ P a) (h2 : ∀ a, P a → ∃ e, f a = some e ∧ Q e) : ∃ e, x.bind f = some e ∧ Q e := by
  obtain ⟨a, rfl, ha⟩ := h1
  exact h2 a ha

end Go.Su
/- Check answers, but for Enter. -/
namespace Go.Su
open Go Go.Ev
set_option maxRecDepth 100000

def OkP {α : Type} (x : Option α) (P : α → Prop) : Prop := ∃ a, x = some a ∧ P a

theorem ok_some {α : Type} {a : α} {P : α → Prop} (h : P a) : OkP (some a) P := ⟨a, rfl, h⟩
theorem ok_b1 {α β : Type} {x : Option α} {f : α → Option β} {P : β → Prop} {a : α} (h : x = some a) (h2 : OkP (f a) P) : OkP (x.bind f) P := by
  subst h; exact h2
theorem ok_b2 {β : Type} {x : Option (Bool × Unit)} {f : Bool × Unit → Option β} {P : β → Prop} (h : ∃ b, x = some (b, ())) (h2 : ∀ b, OkP (f (b, ())) P) : OkP (x.bind f) P := by
  obtain ⟨b, rfl⟩ := h; exact h2 b
theorem ok_b3 {α β : Type} {x : Option α} {f : α → Option β} {P : β → Prop} (Q : α → Prop) (h : OkP x Q) (h2 : ∀ a, Q a → OkP (f a) P) : OkP (x.bind f) P := by
  obtain ⟨a, rfl, ha⟩ := h; exact h2 a ha
theorem ok_cond {α : Type} {c : Bool} {x y : Option α} {P : α → Prop} (h1 : OkP x P) (h2 : OkP y P) : OkP (cond c x y) P := by
  cases c
  · exact h2
  · exact h1
theorem ok_condT {α : Type} {c : Bool} {x y : Option α} {P : α → Prop} (h : c = true) (h1 : OkP x P) : OkP (cond c x y) P := by
  subst h; exact h1

abbrev Mid : Type := (Unit × (Unit × Unit) × Bool × Unit) × (Dd × Unit)
def isMid (d : Dd) (a : Mid) : Prop := ∃ b, a = (((), ((), ()), b, ()), (d, ()))

theorem F21_some (d : Dd) (h8 : d.1 ≠ 8) (hu : d.2.1.length ≤ maxLen) : ∃ e, F21 ((d, ()), ()) = some (e, ()) := by
  obtain ⟨dd, du, db, dt, uid, how, fl, ds, de, by', ⟨⟩⟩ := d
  have h28 : ∀ l : List Int, l.length ≤ 32 → F28 ((l, (), ()), ((dd, du, db, dt, uid, how, fl, ds, de, by', ()), ())) = some (decide (dd ∈ l), ((dd, du, db, dt, uid, how, fl, ds, de, by', ()), ())) := fun l hl => F28_eq l _ hl
  have h288 : F28 (([(8:Int)], (), ()), ((dd, du, db, dt, uid, how, fl, ds, de, by', ()), ())) = some (false, ((dd, du, db, dt, uid, how, fl, ds, de, by', ()), ())) := by
    rw [h28 [8] (by decide)]
    have : decide (dd ∈ [(8:Int)]) = false := by simpa using h8
    rw [this]
  have h30 := F30_some du hu
  suffices h : OkP (F21 (((dd, du, db, dt, uid, how, fl, ds, de, by', ()), ()), ())) fun a => a.2 = () by
    obtain ⟨a, ha, _⟩ := h
    exact ⟨a.1, ha⟩
  unfold F21
  dsimp only
  refine ok_b1 (h28 _ (by decide)) ?_
  dsimp only
  refine ok_b3 (fun a => ∃ e, a = Sum.inr ((e, ()), ())) ?_ ?_
  rotate_left
  · rintro a ⟨e, rfl⟩
    exact ok_some rfl
  refine ok_cond (ok_some ⟨_, rfl⟩) ?_
  refine ok_b3 (isMid (dd, du, db, dt, uid, how, fl, ds, de, by', ())) ?_ ?_
  · refine ok_b2 h30 fun b => ?_
    dsimp only
    repeat' first
      | exact ok_some ⟨_, rfl⟩
      | (refine ok_b1 (h28 _ (by decide)) ?_; dsimp only)
      | (refine ok_b2 (F31_some _) fun b => ?_; dsimp only)
      | refine ok_cond ?_ ?_
  rintro _ ⟨b, rfl⟩
  dsimp only
  refine ok_cond (ok_some ⟨_, rfl⟩) ?_
  refine ok_b3 (isMid (dd, du, db, dt, uid, how, fl, ds, de, by', ())) ?_ ?_
  · repeat' first
      | exact ok_some ⟨_, rfl⟩
      | (refine ok_b1 (h28 _ (by decide)) ?_; dsimp only)
      | (refine ok_b2 (F32_some _ _ _ _) fun b => ?_; dsimp only)
      | refine ok_condT (decide_eq_true rfl) ?_
      | refine ok_cond ?_ ?_
  rintro _ ⟨b, rfl⟩
  dsimp only
  repeat' first
    | exact ok_some ⟨_, rfl⟩
    | (refine ok_b1 h288 ?_; dsimp only)
    | (refine ok_b1 (h28 _ (by decide)) ?_; dsimp only)
    | refine ok_condT rfl ?_
    | refine ok_cond ?_ ?_

end Go.Su
/- live. -/
namespace Go.Su
open Go Go.Ev
set_option maxRecDepth 100000

def dOpen : Dd := (1, [117], [], [], 0, 0, 0, 0, 0, [], ())
def dPut : Dd := (4, [117], [73, 78, 66, 79, 88], [], 0, 0, 0, 0, 0, [120], ())
theorem chk_open : F21 ((dOpen, ()), ()) = some (0, ()) := by kernel_rfl
theorem chk_put : F21 ((dPut, ()), ()) = some (0, ()) := by kernel_rfl
def m1 : Mp := [([117], ([117], (1, ([(inbx, (1, (1, ([], ()))))], ()))))]
def m2 : Mp := [([117], ([117], (1, ([(inbx, (1, (2, ([(1, (0, ([120], ())))], ()))))], ()))))]

theorem one_open : F14 ((true, dOpen, ()), (((), ()), [], ())) = some ((1, 0, ()), (((), ()), m1, ())) :=
  (F14_open [] dOpen chk_open rfl).trans (by rfl)

theorem one_put : F14 ((true, dPut, ()), (((), ()), m1, ())) = some ((1, 0, ()), (((), ()), m2, ())) := by
  have hR : ∃ R, F26 ((newU [117], dPut, ()), ()) = some (R, ()) ∧ R = (([117], 1, [(inbx, (1, (2, ([(1, (0, ([120], ())))], ()))))], ()), 1, 0, ()) := by
    have G := new_good [117]
    rcases F26_eq (newU [117]) dPut (Nat.le_trans G.few (by decide)) G.len G.rise with ⟨h, _⟩ | ⟨lo, h1, _, h2⟩
    · exact absurd h (by decide)
    · have : lo = 0 := by simpa [newU] using h1
      subst this
      exact ⟨_, h2, by rfl⟩
  obtain ⟨R, h1, h2⟩ := hR
  subst h2
  exact (F14_box m1 dPut ([117], (1, ([(inbx, (1, (1, ([], ()))))], ()))) _ chk_put (by decide) (by decide) (by decide) (by decide) (by decide) (by decide) rfl h1).trans (by rfl)

theorem run_two : L9_0 ((true, (), [dOpen, dPut], (2:Int), (0:Int), ()), (((), ()), ([] : Mp), ([]:List Int), ())) = some (.inl ((true, (), ()), (((), ()), m2, [1, 1], ())) : R9) := by
  have o1 := one_open
  have o2 := one_put
  unfold dOpen at o1
  unfold dPut at o2
  have s0 : B9_0 ((true, (), [dOpen, dPut], (2:Int), (0:Int), ()), (((), ()), ([] : Mp), ([]:List Int), ())) = some (.inl ((true, (), [dOpen, dPut], (2:Int), (1:Int), ()), (((), ()), m1, ([1]:List Int), ()))) := by
    have hw : w64 (0 + 1) = 1 := by rfl
    simp only [B9_0, dOpen, dPut, List.length_cons, List.length_nil, show decide ((0:Int) < 2) = true from rfl, show decide ((0:Int) ≤ 0) = true from rfl, show decide ((0:Int) < ((0 + 1 + 1 : Nat) : Int)) = true from rfl, Bool.and_true, cond_true, Option.bind_some, Int.toNat_zero, List.getD_cons_zero, o1, decide_true, Bool.not_true, cond_false, List.nil_append, hw]
    rfl
  have s1 : B9_0 ((true, (), [dOpen, dPut], (2:Int), (1:Int), ()), (((), ()), m1, ([1]:List Int), ())) = some (.inl ((true, (), [dOpen, dPut], (2:Int), (2:Int), ()), (((), ()), m2, ([1, 1]:List Int), ()))) := by
    have hw : w64 (1 + 1) = 2 := by rfl
    simp only [B9_0, dOpen, dPut, List.length_cons, List.length_nil, show decide ((1:Int) < 2) = true from rfl, show decide ((0:Int) ≤ 1) = true from rfl, show decide ((1:Int) < ((0 + 1 + 1 : Nat) : Int)) = true from rfl, Bool.and_true, cond_true, Option.bind_some, show (1:Int).toNat = 1 from rfl, List.getD_cons_succ, List.getD_cons_zero, o2, decide_true, Bool.not_true, cond_false, hw]
    rfl
  have s2 : B9_0 ((true, (), [dOpen, dPut], (2:Int), (2:Int), ()), (((), ()), m2, ([1, 1]:List Int), ())) = some (.inr (.inl ((true, (), ()), (((), ()), m2, [1, 1], ())) : R9)) := by
    simp only [B9_0, show decide ((2:Int) < 2) = false from rfl, cond_false]
  show iter B9_0 FUEL _ = _
  rw [show FUEL = 9223372036854775805 + 1 + 1 + 1 from rfl]
  simp only [iter, s0, s1, s2]

theorem two : F5 ((true, [dOpen, dPut], ()), (((), ()), ([] : Mp), ())) = some (((), 0, 0, ()), (((), ()), m2, [1, 1], ())) := by
  have h1 : decide (((2 : Nat) : Int) = 0) = false := rfl
  have h2 : decide ((12:Int) < ((2 : Nat) : Int)) = false := rfl
  have h := run_two
  simp only [F5, F8, F9, Bool.not_true, cond_false, cond_true, Option.bind_some, List.length_cons, List.length_nil, show ((0 + 1 + 1 : Nat) : Int) = 2 from rfl, show decide ((2:Int) = 0) = false from rfl, show decide ((12:Int) < 2) = false from rfl, h, decide_true]

theorem box_two : F6 ((true, [117], [73, 78, 66, 79, 88], ()), (((), ()), m2, ())) = some (((inbx, 1, 2, [(1, (0, ([120], ())))], ()), (0:Int), ()), (((), ()), m2, ())) := by
  refine (F6_eq m2 [117] [73, 78, 66, 79, 88] fun u hu => ?_).trans (by rfl)
  have : u = ([117], (1, ([(inbx, (1, (2, ([(1, (0, ([120], ())))], ()))))], ()))) := by
    have h : mapGet .str m2 [117] = some ([117], (1, ([(inbx, (1, (2, ([(1, (0, ([120], ())))], ()))))], ()))) := rfl
    rw [h] at hu
    exact (Option.some.inj hu).symm
  subst this
  exact {
    few := by decide
    rise := by simp [usr]
    each := fun b hb => by
      simp only [usr, List.mem_singleton] at hb
      subst hb
      exact ⟨by decide, by decide, by decide, by decide, by decide⟩
    valid := by decide
    below := fun b hb => by
      simp only [usr, List.mem_singleton] at hb
      subst hb
      decide }

theorem live_true : F7 ((), ()) = some (true, ()) := by
  have h5 := two
  have h6 := box_two
  unfold dOpen dPut at h5
  have h12 : F12 (([1, 1], [1, 1], ()), ()) = some (true, ()) := by kernel_rfl
  simp only [F7, F4, Option.bind_some, List.isEmpty_cons, Bool.not_false, cond_true, h5, h6, decide_true, h12]
  rfl

end Go.Su
/- What one deed that goes well leaves. -/
namespace Go.Su
open Go Go.Ev
set_option maxRecDepth 100000

abbrev UT : Type := Tx × (Int × (List Bx × Unit))

/-- how a user's boxes may change -/
def Grows (u u' : UT) : Prop := u.2.1 ≤ u'.2.1 ∧ ∀ b' ∈ u'.2.2.1, (∃ b ∈ u.2.2.1, b.1 = b'.1 ∧ b.2.1 = b'.2.1 ∧ b.2.2.1 ≤ b'.2.2.1) ∨ u.2.1 < b'.2.1

theorem Grows.refl (u : UT) : Grows u u := ⟨Int.le_refl _, fun b hb => .inl ⟨b, hb, rfl, rfl, Int.le_refl _⟩⟩

structure StepOK (m : Mp) (d : Dd) (n : Int) (m' : Mp) : Prop where
  good : GoodM m'
  old : ∀ (k : Tx) (u : UT), mapGet .str m k = some u → ∃ u', mapGet .str m' k = some u' ∧ Grows u u'
  put : d.1 = 4 → ∃ (u u' : UT) (b b' : Bx), mapGet .str m d.2.1 = some u ∧ mapGet .str m' d.2.1 = some u' ∧ b ∈ u.2.2.1 ∧ b' ∈ u'.2.2.1 ∧ b.1 = d.2.2.1 ∧ b'.1 = d.2.2.1 ∧ b'.2.1 = b.2.1 ∧ n = b.2.2.1 ∧ b'.2.2.1 = n + 1 ∧
    b'.2.2.2.1 = b.2.2.2.1 ++ [(n, d.2.2.2.2.2.2.1, d.2.2.2.2.2.2.2.2.2.1, ())]
  make : d.1 = 2 → ∃ (u u' : UT) (b' : Bx), mapGet .str m d.2.1 = some u ∧ mapGet .str m' d.2.1 = some u' ∧ b' ∈ u'.2.2.1 ∧ b'.1 = d.2.2.1 ∧ b'.2.1 = n ∧ n = u.2.1 + 1 ∧ u'.2.1 = n

theorem kept_step {m : Mp} (G : GoodM m) {user : Tx} {u : UT} (hm : mapGet .str m user = some u) {r : Usr × Int × Int × Unit} (h0 : r.2.2.1 = 0) (hg : Good r.1) (hb : Grows u r.1) :
    GoodM (kept m user r).2 ∧ mapGet .str (kept m user r).2 user = some r.1 ∧ ∀ (k : Tx) (v : UT), mapGet .str m k = some v → ∃ v', mapGet .str (kept m user r).2 k = some v' ∧ Grows v v' := by
  have hk : (kept m user r).2 = mapSet .str m user r.1 := by
    unfold kept
    rw [if_pos h0]
  have hs : ∀ k : Tx, mapGet .str (kept m user r).2 k = cond (keyEq .str k user) (some r.1) (mapGet .str m k) := fun k => by
    rw [hk, mapGet_set KE_str G.nodup]
  refine ⟨kept_goodM G user r fun _ => hg, by rw [hs, KE.eq KE_str, cond_true], fun k v hv => ?_⟩
  rw [hs]
  cases hq : keyEq .str k user with
  | true =>
    have : k = user := (KE_str k user).1 hq
    subst this
    rw [hm] at hv
    cases hv
    exact ⟨r.1, rfl, hb⟩
  | false => exact ⟨v, hv, Grows.refl v⟩

theorem mem_set {ls : List Bx} {lo : Nat} {B b' : Bx} (h : b' ∈ ls.set lo B) : b' ∈ ls ∨ b' = B := List.mem_or_eq_of_mem_set h

theorem F14_step {m : Mp} (G : GoodM m) (d : Dd) (h7 : d.1 ≠ 7) (h8 : d.1 ≠ 8) (h9 : d.1 ≠ 9) (hu : d.2.1.length ≤ maxLen) :
    ∃ n e m', F14 ((true, d, ()), (((), ()), m, ())) = some ((n, e, ()), (((), ()), m', ())) ∧ (e = 0 → StepOK m d n m') := by
  obtain ⟨e0, hc⟩ := F21_some d h8 hu
  by_cases he0 : e0 = 0
  · subst he0
    by_cases h1 : d.1 = 1
    · refine ⟨_, _, _, F14_open m d hc h1, fun he => ?_⟩
      have hcg := come_goodM G d.2.1
      cases hg : mapGet .str m d.2.1 with
      | some v =>
        exfalso
        unfold come at he
        have : (mapGet .str m (newU d.2.1).1).isSome = true := by
          show (mapGet .str m d.2.1).isSome = true
          rw [hg]; rfl
        rw [if_pos this] at he
        exact absurd he (by simp)
      | none =>
        by_cases hl : m.length = 16
        · exfalso
          unfold come at he
          have : ¬ (mapGet .str m (newU d.2.1).1).isSome = true := by
            show ¬ (mapGet .str m d.2.1).isSome = true
            rw [hg]; simp
          rw [if_neg this, if_pos hl] at he
          exact absurd he (by simp)
        · refine ⟨hcg, fun k v hv => ?_, fun h => by omega, fun h => by omega⟩
          have hcm : (come m (newU d.2.1)).2 = mapSet .str m d.2.1 (newU d.2.1) := by
            unfold come
            have : ¬ (mapGet .str m (newU d.2.1).1).isSome = true := by
              show ¬ (mapGet .str m d.2.1).isSome = true
              rw [hg]; simp
            rw [if_neg this, if_neg hl]
            rfl
          rw [hcm, mapGet_set KE_str G.nodup]
          cases hq : keyEq .str k d.2.1 with
          | true =>
            have : k = d.2.1 := (KE_str k d.2.1).1 hq
            rw [this, hg] at hv
            cases hv
          | false => exact ⟨v, hv, Grows.refl v⟩
    · cases hm : mapGet .str m d.2.1 with
      | none => exact ⟨_, _, _, F14_gone m d hc h1 h8 hm, fun h => absurd h (by decide)⟩
      | some u =>
        have Gu : Good u := G.good d.2.1 u hm
        by_cases h23 : d.1 = 2 ∨ d.1 = 3
        · obtain ⟨lo, e1, e2, e3, e4, e5, e6⟩ := F24_eq u d (Nat.le_trans Gu.few (by decide)) Gu.rise
          refine ⟨_, _, _, F14_shape m d u lo hc h23 hm e1, fun he => ?_⟩
          have he : (shpd u lo d).2.2.1 = 0 := he
          by_cases h2 : d.1 = 2
          · obtain ⟨g1, g2, g3⟩ := make_good Gu d h2 e2 e3 e4 e6 he
            have hgr : Grows u (shpd (usr u) lo d).1 := by
              show Grows u (shpd u lo d).1
              rw [g3]
              refine ⟨by simp only; omega, fun b' hb' => ?_⟩
              rcases List.mem_append.1 hb' with hb | hb
              · rcases List.mem_append.1 hb with hb | hb
                · exact .inl ⟨b', List.mem_of_mem_take hb, rfl, rfl, Int.le_refl _⟩
                · refine .inr ?_
                  rw [List.mem_singleton.1 hb]
                  simp only
                  omega
              · exact .inl ⟨b', List.mem_of_mem_drop hb, rfl, rfl, Int.le_refl _⟩
            obtain ⟨k1, k2, k3⟩ := kept_step G hm (r := shpd (usr u) lo d) he g1 hgr
            refine ⟨k1, k3, fun h => by omega, fun _ => ?_⟩
            have hn : (shpd (usr u) lo d).2.1 = u.2.1 + 1 := by
              show (shpd u lo d).2.1 = _
              rw [g3]
            have hr1 : (shpd (usr u) lo d).1 = (u.1, u.2.1 + 1, u.2.2.1.take lo ++ [((d.2.2.1, (u.2.1 + 1, (1, ([], ())))) : Bx)] ++ u.2.2.1.drop lo, ()) := by
              show (shpd u lo d).1 = _
              rw [g3]
            rw [hr1] at k2
            rw [hn]
            exact ⟨u, _, (d.2.2.1, (u.2.1 + 1, (1, ([], ())))), hm, k2, by simp, rfl, rfl, rfl, rfl⟩
          · obtain ⟨g1, g2⟩ := drop_good Gu d h2 he
            have hgr : Grows u (shpd (usr u) lo d).1 := by
              show Grows u (shpd u lo d).1
              rw [g2]
              exact ⟨Int.le_refl _, fun b' hb' => .inl ⟨b', (del_sub u.2.2.1 lo).mem hb', rfl, rfl, Int.le_refl _⟩⟩
            obtain ⟨k1, k2, k3⟩ := kept_step G hm (r := shpd (usr u) lo d) he g1 hgr
            exact ⟨k1, k3, fun h => by omega, fun h => absurd h h2⟩
        · rw [not_or] at h23
          rcases F26_eq u d (Nat.le_trans Gu.few (by decide)) Gu.len Gu.rise with ⟨_, e1⟩ | ⟨lo, l1, l2, e1⟩
          · exact ⟨_, _, _, F14_box m d u _ hc h1 h23.1 h23.2 h7 h8 h9 hm e1, fun h => absurd h (by simp)⟩
          · refine ⟨_, _, _, F14_box m d u _ hc h1 h23.1 h23.2 h7 h8 h9 hm e1, fun he => ?_⟩
            have he : (boxd u lo d).2.2.1 = 0 := he
            obtain ⟨g1, K, g3⟩ := boxd_good Gu l1 d he
            have hmem := getD_mem l1
            generalize hD : did (bxOf (u.2.2.1.getD lo nob)) d = R at K g3
            have hgr : Grows u (boxd u lo d).1 := by
              rw [g3]
              refine ⟨Int.le_refl _, fun b' hb' => ?_⟩
              rcases mem_set hb' with hb | rfl
              · exact .inl ⟨b', hb, rfl, rfl, Int.le_refl _⟩
              · exact .inl ⟨_, hmem, K.name.symm, K.valid.symm, K.next⟩
            obtain ⟨k1, k2, k3⟩ := kept_step G hm (r := boxd u lo d) he g1 hgr
            refine ⟨k1, k3, fun h4 => ?_, fun h => absurd h h23.1⟩
            obtain ⟨p1, p2, p3⟩ := K.put h4
            have hn : (boxd u lo d).2.1 = (u.2.2.1.getD lo nob).2.2.1 := by
              rw [g3]
              exact p1
            have hr1 : (boxd u lo d).1 = (u.1, u.2.1, u.2.2.1.set lo (ofBx R.1), ()) := by rw [g3]
            rw [hr1] at k2
            rw [hn]
            refine ⟨u, _, u.2.2.1.getD lo nob, ofBx R.1, hm, k2, hmem, List.mem_set l1 _, l2, ?_, K.valid, rfl, p2, p3⟩
            show R.1.1 = _
            rw [K.name]
            exact l2
  · exact ⟨0, e0, m, F14_bad m d e0 hc he0, fun h => absurd h he0⟩

end Go.Su
/- The loops through what was given. -/
namespace Go.Su
open Go Go.Ev
set_option maxRecDepth 100000

abbrev Gv : Type := Tx × (Tx × (Int × (Int × Unit)))

theorem foldS_id {α β τ : Type} (fin : β → τ) (b : β) : ∀ (ls : List α), foldS (fun _ b => (.inl b : β ⊕ τ)) fin b ls = fin b
  | [] => rfl
  | _ :: t => foldS_id fin b t

theorem getD_at {α : Type} {ls : List α} {i : Nat} {a : α} (hi : i < ls.length) (ha : ∀ d, ls.getD i d = a) : a ∈ ls := by
  have := ha ls[i]
  rw [List.getD_eq_getElem?_getD, List.getElem?_eq_getElem hi] at this
  rw [← this]
  exact List.getElem_mem hi

theorem L31_eq (l : List Dd) (i f : Int) (all made : List Gv) (dd : Int) (du db dt : Tx) (uid how : Int) (fl : UInt8) (ds de : Int) (by' : List UInt8) (n : List Int) (bn : Tx) (bv bx : Int) (bl : List Ltr) (gu gb : Tx) (gv gi : Int) (m : Mp)
    (hlen : all.length ≤ 1000) (hno : ∀ a ∈ all, ¬ (a.1 = gu ∧ a.2.1 = gb ∧ a.2.2.1 = gv ∧ a.2.2.2.1 = gi)) :
    L3_1 ((l, (), (), (), i, (), (), (), f, (), (0:Int), ()), (((), ()), all, made, (dd, du, db, dt, uid, how, fl, ds, de, by', ()), n, (bn, bv, bx, bl, ()), (gu, gb, gv, gi, ()), m, ())) =
      some (.inl ((l, (), (), (), i, (), (), (), f, (), ()), (((), ()), all, made, (dd, du, db, dt, uid, how, fl, ds, de, by', ()), n, (bn, bv, bx, bl, ()), (gu, gb, gv, gi, ()), m, ()))) := by
  have hF := FUEL_big
  unfold L3_1
  refine (walk_listI (b := ()) (f := B3_1) (fun (_ : Unit) k => ((l, (), (), (), i, (), (), (), f, (), (k : Int), ()), (((), ()), all, made, (dd, du, db, dt, uid, how, fl, ds, de, by', ()), n, (bn, bv, bx, bl, ()), (gu, gb, gv, gi, ()), m, ()))) all
    (fun _ b => .inl b) (fun _ => .inl ((l, (), (), (), i, (), (), (), f, (), ()), (((), ()), all, made, (dd, du, db, dt, uid, how, fl, ds, de, by', ()), n, (bn, bv, bx, bl, ()), (gu, gb, gv, gi, ()), m, ()))) (fun _ _ => True)
    (fun b k a _ hk ha => ?_) (fun b _ => ?_) (by omega) trivial).trans (by rw [foldS_id])
  · refine .inl ⟨_, rfl, trivial, ?_⟩
    have hmem := getD_at hk ha
    have hne := hno a hmem
    have hw := w64_nat (show k < 9223372036854775807 by omega)
    have hc : (decide (a.1 = gu) && (decide (a.2.1 = gb) && (decide (a.2.2.1 = gv) && decide (a.2.2.2.1 = gi)))) = false := by
      rw [Bool.eq_false_iff]
      intro h
      simp only [Bool.and_eq_true, decide_eq_true_eq] at h
      exact hne ⟨h.1, h.2.1, h.2.2.1, h.2.2.2⟩
    simp only [B3_1, nat_lt, nat_nn, hk, decide_true, Bool.and_true, cond_true, Int.toNat_natCast, ha, hc, cond_false, hw]
  · simp only [B3_1, Int.lt_irrefl, decide_false, cond_false]

theorem L32_eq (l : List Dd) (i f : Int) (all made : List Gv) (dd : Int) (du db dt : Tx) (uid how : Int) (fl : UInt8) (ds de : Int) (by' : List UInt8) (n1 : Int) (bn : Tx) (bv bx : Int) (bl : List Ltr) (m : Mp)
    (hlen : made.length ≤ 1000) (hno : ∀ a ∈ made, a.1 = du → a.2.2.1 < n1) :
    L3_2 ((l, (), (), (), i, (), (), (), f, (0:Int), ()), (((), ()), all, made, (dd, du, db, dt, uid, how, fl, ds, de, by', ()), [n1], (bn, bv, bx, bl, ()), m, ())) =
      some (.inl ((l, (), (), (), i, (), (), (), f, ()), (((), ()), all, made, (dd, du, db, dt, uid, how, fl, ds, de, by', ()), [n1], (bn, bv, bx, bl, ()), m, ()))) := by
  have hF := FUEL_big
  unfold L3_2
  refine (walk_listI (b := ()) (f := B3_2) (fun (_ : Unit) k => ((l, (), (), (), i, (), (), (), f, (k : Int), ()), (((), ()), all, made, (dd, du, db, dt, uid, how, fl, ds, de, by', ()), [n1], (bn, bv, bx, bl, ()), m, ()))) made
    (fun _ b => .inl b) (fun _ => .inl ((l, (), (), (), i, (), (), (), f, ()), (((), ()), all, made, (dd, du, db, dt, uid, how, fl, ds, de, by', ()), [n1], (bn, bv, bx, bl, ()), m, ()))) (fun _ _ => True)
    (fun b k a _ hk ha => ?_) (fun b _ => ?_) (by omega) trivial).trans (by rw [foldS_id])
  · refine .inl ⟨_, rfl, trivial, ?_⟩
    have hmem := getD_at hk ha
    have hne := hno a hmem
    have hw := w64_nat (show k < 9223372036854775807 by omega)
    have hc : (decide (a.1 = du) && decide (n1 ≤ a.2.2.1)) = false := by
      rw [Bool.eq_false_iff]
      intro h
      simp only [Bool.and_eq_true, decide_eq_true_eq] at h
      have := hne h.1
      omega
    have h1 : decide ((0:Int) < ((List.length [n1] : Nat) : Int)) = true := rfl
    simp only [B3_2, nat_lt, nat_nn, hk, decide_true, Bool.and_true, Bool.true_or, cond_true, Int.toNat_natCast, ha, h1, List.getD_cons_zero, hc, cond_false, hw]
  · simp only [B3_2, Int.lt_irrefl, decide_false, cond_false]

end Go.Su
/- One round of the statement's loop. -/
namespace Go.Su
open Go Go.Ev
set_option maxRecDepth 100000

structure Inv (i : Nat) (all made : List Gv) (m : Mp) : Prop where
  good : GoodM m
  la : all.length ≤ i
  lm : made.length ≤ i
  given : ∀ a ∈ all, ∃ u : UT, mapGet .str m a.1 = some u ∧ a.2.2.1 ≤ u.2.1 ∧ ∀ b ∈ u.2.2.1, b.1 = a.2.1 → b.2.1 = a.2.2.1 → a.2.2.2.1 < b.2.2.1
  mades : ∀ a ∈ made, ∃ u : UT, mapGet .str m a.1 = some u ∧ a.2.2.1 ≤ u.2.1

theorem Inv.up {i : Nat} {all made : List Gv} {m : Mp} (I : Inv i all made m) : Inv (i + 1) all made m := ⟨I.good, Nat.le_succ_of_le I.la, Nat.le_succ_of_le I.lm, I.given, I.mades⟩

theorem Inv.step {i : Nat} {all made : List Gv} {m m' : Mp} {d : Dd} {n : Int} (I : Inv i all made m) (S : StepOK m d n m') : Inv (i + 1) all made m' where
  good := S.good
  la := Nat.le_succ_of_le I.la
  lm := Nat.le_succ_of_le I.lm
  given := fun a ha => by
    obtain ⟨u, h1, h2, h3⟩ := I.given a ha
    obtain ⟨u', k1, k2, k3⟩ := S.old _ _ h1
    refine ⟨u', k1, by omega, fun b' hb' e1 e2 => ?_⟩
    rcases k3 b' hb' with ⟨b, q1, q2, q3, q4⟩ | h
    · have := h3 b q1 (q2.trans e1) (q3.trans e2)
      omega
    · omega
  mades := fun a ha => by
    obtain ⟨u, h1, h2⟩ := I.mades a ha
    obtain ⟨u', k1, k2, _⟩ := S.old _ _ h1
    exact ⟨u', k1, by omega⟩

theorem rise_box {ls : List Bx} (hr : ls.Pairwise (fun a b => a.1 < b.1)) {b c : Bx} (hb : b ∈ ls) (hc : c ∈ ls) (h : b.1 = c.1) : b = c := by
  induction ls with
  | nil => cases hb
  | cons a t ih =>
    obtain ⟨h1, h2⟩ := List.pairwise_cons.1 hr
    rcases List.mem_cons.1 hb with e1 | hb2
    · rcases List.mem_cons.1 hc with e2 | hc2
      · rw [e1, e2]
      · have := h1 c hc2
        rw [← e1, h] at this
        exact absurd this (List.lt_irrefl _)
    · rcases List.mem_cons.1 hc with e2 | hc2
      · have := h1 b hb2
        rw [← e2, h] at this
        exact absurd this (List.lt_irrefl _)
      · exact ih h2 hb2 hc2

theorem box_at {m : Mp} {user nm : Tx} {u : UT} {b : Bx} (G : Good u) (hm : mapGet .str m user = some u) (hb : b ∈ u.2.2.1) (hn : b.1 = nm) : boxOf m user nm = some b := by
  unfold boxOf
  rw [hm]
  show u.2.2.1.find? _ = _
  obtain ⟨lo, h1, h2⟩ := List.getElem_of_mem hb
  have hg : u.2.2.1.getD lo nob = b := by rw [List.getD_eq_getElem?_getD, List.getElem?_eq_getElem h1]; exact h2
  have := find_at G.rise h1 (nm := nm) (by rw [hg]; exact hn)
  rw [hg] at this
  exact this

def st3 (l : List Dd) (i : Nat) (all made : List Gv) (m : Mp) : (List Dd × Unit × Unit × Unit × Int × Unit) × ((Unit × Unit) × List Gv × List Gv × Mp × Unit) := ((l, (), (), (), (i : Int), ()), (((), ()), all, made, m, ()))

theorem round_ok (l : List Dd) (i : Nat) (all made : List Gv) (m : Mp) (hi : i < l.length) (h150 : i < 150) (hs : ∀ d ∈ l, d.2.1.length ≤ maxLen) (I : Inv i all made m) :
    ∃ all' made' m', B3_0 (st3 l i all made m) = some (.inl (st3 l (i + 1) all' made' m')) ∧ Inv (i + 1) all' made' m' := by
  obtain ⟨d, hd⟩ : ∃ d, ∀ x, l.getD i x = d := ⟨l[i], fun x => by rw [List.getD_eq_getElem?_getD, List.getElem?_eq_getElem hi]; rfl⟩
  have hu := hs d (getD_at hi hd)
  have hw := w64_nat (show i < 9223372036854775807 by omega)
  have h15 : decide ((i : Int) < 150) = true := decide_eq_true (by omega)
  obtain ⟨dd, du, db, dt, uid, how, fl, ds, de, by', ⟨⟩⟩ := d
  change du.length ≤ maxLen at hu
  by_cases hskip : (dd = 8 ∨ dd = 9) ∨ dd = 7
  · refine ⟨all, made, m, ?_, I.up⟩
    have hk : ((decide (dd = (8:Int)) || decide (dd = (9:Int))) || decide (dd = (7:Int))) = true := by
      simp only [Bool.or_eq_true, decide_eq_true_eq]
      exact hskip
    unfold st3
    simp only [B3_0, nat_lt, nat_nn, hi, decide_true, h15, Bool.and_true, cond_true, Int.toNat_natCast, hd, Option.bind_some, hk, hw]
  · have hk : ((decide (dd = (8:Int)) || decide (dd = (9:Int))) || decide (dd = (7:Int))) = false := by
      rw [Bool.eq_false_iff]
      simp only [ne_eq, Bool.or_eq_true, decide_eq_true_eq]
      exact hskip
    rw [not_or, not_or] at hskip
    obtain ⟨n, e, m', h14, hok⟩ := F14_step I.good (dd, du, db, dt, uid, how, fl, ds, de, by', ()) hskip.2 hskip.1.1 hskip.1.2 hu
    have h5 := F5_one m m' _ n e h14
    by_cases he : e = 0
    · subst he
      have S := hok rfl
      have J := I.step S
      rw [if_pos rfl, if_pos rfl] at h5
      have h6 := F6_eq m' du db (fun u hu => S.good.good du u hu)
      have hn1 : decide (((List.length [n] : Nat) : Int) = 1) = true := rfl
      have hn0 : decide ((0:Int) < ((List.length [n] : Nat) : Int)) = true := rfl
      have hm1 : decide (((1 : Nat) : Int) = 1) = true := rfl
      have hm0 : decide ((0:Int) < ((1 : Nat) : Int)) = true := rfl
      by_cases h4 : dd = 4
      · subst h4
        obtain ⟨u, u', b, b', p1, p2, p3, p4, p5, p6, p7, p8, p9, p10⟩ := S.put rfl
        simp only at p1 p2 p5 p6 p10
        have hbox := box_at (S.good.good du u' p2) p2 p4 p6
        rw [hbox] at h6
        obtain ⟨bn, bv, bx, bl, ⟨⟩⟩ := b'
        simp only at p6 p7 p9 p10
        have hlen : bl.length = b.2.2.2.1.length + 1 := by rw [p10]; simp
        have hfew : bl.length ≤ 32 := by
          have := (S.good.good du u' p2).each _ p4
          exact this.few
        have hlast : ∀ x : Ltr, bl.getD (bl.length - 1) x = (n, fl, by', ()) := fun x => by
          rw [List.getD_eq_getElem?_getD]
          simp only [p10, List.length_append, List.length_singleton, Nat.add_sub_cancel]
          rw [List.getElem?_append_right (Nat.le_refl _), Nat.sub_self]
          rfl
        have hwl : w64 (((bl.length : Nat) : Int) - 1) = ((bl.length - 1 : Nat) : Int) := by
          rw [w64_id (by omega) (by omega)]
          omega
        have hll : bl.length - 1 < bl.length := by omega
        have hl0 : decide (((bl.length : Nat) : Int) = 0) = false := decide_eq_false (by omega)
        have hno : ∀ a ∈ all, ¬ (a.1 = du ∧ a.2.1 = db ∧ a.2.2.1 = bv ∧ a.2.2.2.1 = n) := fun a ha ⟨q1, q2, q3, q4⟩ => by
          obtain ⟨v, h1, h2, h3⟩ := I.given a ha
          rw [q1, p1] at h1
          cases h1
          have := h3 b p3 (by rw [q2]; exact p5) (by rw [q3, p7])
          omega
        have h31 := L31_eq l (i : Int) 0 all made 4 du db dt uid how fl ds de by' [n] bn bv bx bl du db bv n m' (by have := I.la; omega) hno
        have hbk : bytesOK (all.length + 1) 48 = true := bytes_ok (by have := I.la; omega)
        refine ⟨all ++ [(du, (db, (bv, (n, ()))))], made, m', ?_, ?_⟩
        · have h42 : decide ((4:Int) = 2) = false := rfl
          simp only [bxOf] at h6
          unfold st3
          simp only [B3_0, nat_lt, nat_nn, hi, decide_true, h15, Bool.and_true, cond_true, Int.toNat_natCast, hd, Option.bind_some, hk, cond_false, h5, Bool.not_true, h6, hn1, hn0, hm1, hm0, List.getD_cons_zero, h31, hwl, hll, Bool.true_or, hl0, Bool.or_false, Bool.false_or,
            hlast, hbk, h42, hw, List.length_singleton]
        · refine ⟨J.good, by simp only [List.length_append, List.length_singleton]; have := I.la; omega, J.lm, fun a ha => ?_, J.mades⟩
          rcases List.mem_append.1 ha with ha | ha
          · exact J.given a ha
          · rw [List.mem_singleton.1 ha]
            refine ⟨u', p2, (S.good.good du u' p2).below _ p4, fun c hc e1 e2 => ?_⟩
            have := rise_box (S.good.good du u' p2).rise hc p4 (e1.trans p6.symm)
            rw [this]
            show n < bx
            omega
      · by_cases h2 : dd = 2
        · subst h2
          obtain ⟨u, u', b', p1, p2, p3, p4, p5, p6, p7⟩ := S.make rfl
          simp only at p1 p2 p4
          have hbox := box_at (S.good.good du u' p2) p2 p3 p4
          rw [hbox] at h6
          obtain ⟨bn, bv, bx, bl, ⟨⟩⟩ := b'
          simp only at p4 p5
          subst p5
          have hv := (I.good.good du u p1).valid
          have hv1 : 1 ≤ u.2.1 := hv.1
          have hno : ∀ a ∈ made, a.1 = du → a.2.2.1 < bv := fun a ha q1 => by
            obtain ⟨v, h1, h2⟩ := I.mades a ha
            rw [q1, p1] at h1
            cases h1
            omega
          have h32 := L32_eq l (i : Int) 0 all made 2 du db dt uid how fl ds de by' bv bn bv bx bl m' (by have := I.lm; omega) hno
          have hbk : bytesOK (made.length + 1) 48 = true := bytes_ok (by have := I.lm; omega)
          have hn2 : decide (bv ≤ 1) = false := decide_eq_false (by omega)
          refine ⟨all, made ++ [(du, ([], (bv, (0, ()))))], m', ?_, ?_⟩
          · have h24 : decide ((2:Int) = 4) = false := rfl
            simp only [bxOf] at h6
            unfold st3
            simp only [B3_0, nat_lt, nat_nn, hi, decide_true, h15, Bool.and_true, cond_true, Int.toNat_natCast, hd, Option.bind_some, hk, cond_false, h5, Bool.not_true, h6, hn1, hn0, hm1, hm0, List.getD_cons_zero, h32, Bool.true_or, Bool.or_false, Bool.false_or,
              hbk, h24, hw, List.length_singleton, hn2]
          · refine ⟨J.good, J.la, by simp only [List.length_append, List.length_singleton]; have := I.lm; omega, J.given, fun a ha => ?_⟩
            rcases List.mem_append.1 ha with ha | ha
            · exact J.mades a ha
            · rw [List.mem_singleton.1 ha]
              exact ⟨u', p2, by show bv ≤ u'.2.1; omega⟩
        · refine ⟨all, made, m', ?_, J⟩
          cases hbox : boxOf m' du db with
          | some b' =>
            rw [hbox] at h6
            simp only [bxOf] at h6
            unfold st3
            simp only [B3_0, nat_lt, nat_nn, hi, decide_true, h15, Bool.and_true, cond_true, Int.toNat_natCast, hd, Option.bind_some, hk, cond_false, h5, Bool.not_true, h6, hn1, decide_eq_false h4, decide_eq_false h2, hw]
          | none =>
            rw [hbox] at h6
            simp only at h6
            unfold st3
            simp only [B3_0, nat_lt, nat_nn, hi, decide_true, h15, Bool.and_true, cond_true, Int.toNat_natCast, hd, Option.bind_some, hk, cond_false, h5, Bool.not_true, h6, hn1, decide_eq_false h4, decide_eq_false h2, hw]
    · refine ⟨all, made, m, ?_, I.up⟩
      rw [if_neg he, if_neg he] at h5
      unfold st3
      simp only [B3_0, nat_lt, nat_nn, hi, decide_true, h15, Bool.and_true, cond_true, Int.toNat_natCast, hd, Option.bind_some, hk, cond_false, h5, decide_eq_false he, Bool.not_false, hw]

end Go.Su
/- The law of StoreUids. -/
namespace Go.Su
open Go Go.Ev
set_option maxRecDepth 100000

theorem iter3 (l : List Dd) (hs : ∀ d ∈ l, d.2.1.length ≤ maxLen) : ∀ (k i : Nat) (all made : List Gv) (m : Mp), 150 - i < k → Inv i all made m → iter B3_0 k (st3 l i all made m) = some (.inl ((), ()))
  | 0, _, _, _, _, h, _ => absurd h (Nat.not_lt_zero _)
  | k + 1, i, all, made, m, h, I => by
    rw [iter]
    by_cases hi : i < l.length
    · by_cases h150 : i < 150
      · obtain ⟨all', made', m', e, J⟩ := round_ok l i all made m hi h150 hs I
        rw [e]
        exact iter3 l hs k (i + 1) all' made' m' (by omega) J
      · have h15 : decide ((i : Int) < 150) = false := decide_eq_false (by omega)
        unfold st3
        simp only [B3_0, h15, Bool.and_false, cond_false]
    · unfold st3
      simp only [B3_0, nat_lt, hi, decide_false, Bool.false_and, cond_false]

theorem law3 (l : List Dd) (hs : ∀ d ∈ l, d.2.1.length ≤ maxLen) : F3 ((l, ()), ()) = some (true, ()) := by
  have hI : Inv 0 [] [] [] := ⟨GoodM.nil, Nat.le_refl _, Nat.le_refl _, fun a ha => (by cases ha), fun a ha => (by cases ha)⟩
  have hL : L3_0 (st3 l 0 [] [] []) = some (.inl ((), ())) := iter3 l hs FUEL 0 [] [] [] (by unfold FUEL; omega) hI
  unfold st3 at hL
  have h7 := live_true
  simp only [Int.natCast_zero] at hL
  simp only [F3, F4, Option.bind_some, hL, h7]

end Go.Su
/- The table that the world holds. -/
namespace Go.Su
open Go Go.Ev Go.Proofs
set_option maxRecDepth 100000
theorem maxl (w : World) (h : w.ShapedOpen Try.prog) : ∃ m, w.cell? ⟨0, 0, none⟩ = some (.int .i64 m) :=
  Go.Proofs.cell_of_shapedOpen_int (zero := #[.int .i64 0]) (t := 3) h (of_decide_eq_true (by kernel_rfl)) (by kernel_rfl) rfl (by kernel_rfl) (by kernel_rfl) Try.underlying3
end Go.Su

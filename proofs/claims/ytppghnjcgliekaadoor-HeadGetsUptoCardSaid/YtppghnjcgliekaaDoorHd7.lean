/- The law HeadGets. -/
import Derived.Test.YtppghnjcgliekaaDoorHd4
import Derived.Test.YtppghnjcgliekaaDoorEvWb
namespace Go.Hd
open Go Go.Ev
set_option maxRecDepth 100000

def lowc (c : UInt8) : UInt8 := if 65 ≤ c.toNat ∧ c.toNat ≤ 90 then c + 32 else c

theorem append_set {α : Type} : ∀ (a t : List α) (x y : α), (a ++ x :: t).set a.length y = a ++ y :: t
  | [], _, _, _ => rfl
  | b :: a, t, x, y => by
    simp only [List.cons_append, List.length_cons, List.set_cons_succ, append_set a t x y]

theorem drop_cons {α : Type} {s : List α} {i : Nat} {a : α} (hi : i < s.length) (ha : ∀ d, s.getD i d = a) : s.drop i = a :: s.drop (i + 1) := by
  rw [List.drop_eq_getElem_cons hi]
  have := ha s[i]
  rw [List.getD_eq_getElem?_getD, List.getElem?_eq_getElem hi] at this
  rw [show s[i] = a from this]

theorem foldS_push {α β τ : Type} (g : α → β) (fin : List β → τ) : ∀ (s : List α) (b : List β), foldS (fun a b => (.inl (b ++ [g a]) : List β ⊕ τ)) fin b s = fin (b ++ s.map g)
  | [], b => by simp [foldS]
  | a :: t, b => by
    simp only [foldS]
    rw [foldS_push g fin t]
    simp

theorem F56_eq (s : List UInt8) (hs : s.length ≤ maxLen) : F56 ((s, ()), ()) = some (s.map lowc, ()) := by
  have hF : maxLen < FUEL := by unfold maxLen FUEL; omega
  have hm : maxLen = 9223372036854775807 := rfl
  have h := walk_listI (f := B56_0) (fun (b : List UInt8) i => (((), (), ((s.length : Nat) : Int), (i : Int), ()), (b ++ s.drop i, ()))) s (fun a b => .inl (b ++ [lowc a])) (fun b => (((), ()), (b, ()))) (fun b i => b.length = i) (b := [])
    (fun b i a hI hi ha => .inl ⟨_, rfl, by rw [List.length_append, hI]; rfl, by
      subst hI
      have hd := drop_cons hi ha
      have hlt : b.length < (b ++ s.drop b.length).length := by rw [hd]; simp
      have hg : (b ++ s.drop b.length).getD b.length 0 = a := by
        rw [hd, List.getD_eq_getElem?_getD, List.getElem?_append_right (Nat.le_refl _)]
        simp
      have hset : (b ++ s.drop b.length).set b.length (a + 32) = b ++ [a + 32] ++ s.drop (b.length + 1) := by
        rw [hd, append_set]; simp
      have hkeep : b ++ s.drop b.length = b ++ [a] ++ s.drop (b.length + 1) := by
        rw [hd]; simp
      simp only [B56_0, nat_lt, nat_nn, hi, hlt, decide_true, Bool.and_true, cond_true, Int.toNat_natCast, hg, hset, w64_nat (show b.length < 9223372036854775807 by omega), show UInt8.toNat 65 = 65 from rfl, show UInt8.toNat 90 = 90 from rfl]
      unfold lowc
      by_cases h1 : 65 ≤ a.toNat
      · by_cases h2 : a.toNat ≤ 90
        · simp only [h1, h2, decide_true, Bool.and_self, cond_true, Option.bind_some, and_self, ↓reduceIte, w64_nat (show b.length < 9223372036854775807 by omega)]
        · simp only [h1, h2, decide_true, decide_false, Bool.and_false, cond_false, Option.bind_some, and_false, ↓reduceIte, ← hkeep, w64_nat (show b.length < 9223372036854775807 by omega)]
      · simp only [h1, decide_false, Bool.false_and, cond_false, Option.bind_some, false_and, ↓reduceIte, ← hkeep, w64_nat (show b.length < 9223372036854775807 by omega)]⟩)
    (fun b _ => by simp only [B56_0, Int.lt_irrefl, decide_false, cond_false, List.drop_length, List.append_nil]) (by omega) rfl
  rw [foldS_push] at h
  have h' : L56_0 (((), (), ((s.length : Nat) : Int), (0:Int), ()), (s, ())) = some (((), ()), (s.map lowc, ())) := h
  simp only [F56, h', Option.bind_some]

theorem F43_eq (s : List UInt8) (hs : s.length ≤ maxLen) : F43 ((s, ()), ()) = some (s.map lowc, ()) := by
  have hF : maxLen < FUEL := by unfold maxLen FUEL; omega
  have hm : maxLen = 9223372036854775807 := rfl
  have h := walk_listI (f := B43_0) (fun (b : List UInt8) i => ((s, b, (i : Int), ()), ())) s (fun a b => .inl (b ++ [lowc a])) (fun b => ((b, ()), ())) (fun b i => b.length = i) (b := [])
    (fun b i a hI hi ha => .inl ⟨_, rfl, by rw [List.length_append, hI]; rfl, by
      have hf : fits (b.length + 1) = true := decide_eq_true (by omega)
      simp only [B43_0, nat_lt, nat_nn, hi, decide_true, Bool.and_true, cond_true, Int.toNat_natCast, ha, List.length_cons, List.length_nil, Nat.zero_add, show UInt8.toNat 65 = 65 from rfl, show UInt8.toNat 90 = 90 from rfl]
      unfold lowc
      by_cases h1 : 65 ≤ a.toNat
      · by_cases h2 : a.toNat ≤ 90
        · simp only [h1, h2, decide_true, Bool.and_self, cond_true, Option.bind_some, and_self, ↓reduceIte, hf, w64_nat (show i < 9223372036854775807 by omega)]
        · simp only [h1, h2, decide_true, decide_false, Bool.and_false, cond_false, cond_true, Option.bind_some, and_false, ↓reduceIte, hf, w64_nat (show i < 9223372036854775807 by omega)]
      · simp only [h1, decide_false, Bool.false_and, cond_false, cond_true, Option.bind_some, false_and, ↓reduceIte, hf, w64_nat (show i < 9223372036854775807 by omega)]⟩)
    (fun b _ => by simp only [B43_0, Int.lt_irrefl, decide_false, cond_false]) (by omega) rfl
  rw [foldS_push] at h
  have h' : L43_0 ((s, [], (0:Int), ()), ()) = some ((s.map lowc, ()), ()) := h
  simp only [F43, h', Option.bind_some]

abbrev Fld : Type := List UInt8 × (List UInt8 × (Int × Unit))

def hit (name : List UInt8) (f : Fld) : Bool := decide (f.1.map lowc = name.map lowc)

def alls (l : List Fld) (name : List UInt8) : List (List UInt8) := (l.filter (hit name)).map fun f => f.2.1

theorem F42_eq (a b : List UInt8) (ha : a.length ≤ maxLen) (hb : b.length ≤ maxLen) : F42 ((a, b, ()), ()) = some (decide (a.map lowc = b.map lowc), ()) := by
  simp only [F42, F56_eq a ha, F56_eq b hb, Option.bind_some]

theorem foldS_filter {τ : Type} (name : List UInt8) (fin : List (List UInt8) → τ) : ∀ (s : List Fld) (b : List (List UInt8)), foldS (fun a b => (.inl (if hit name a = true then b ++ [a.2.1] else b) : List (List UInt8) ⊕ τ)) fin b s = fin (b ++ alls s name)
  | [], b => by simp [foldS, alls]
  | a :: t, b => by
    simp only [foldS]
    rw [foldS_filter name fin t]
    unfold alls
    rw [List.filter_cons]
    split <;> simp

theorem F20_eq (l : List Fld) (name : List UInt8) (hl : l.length ≤ 1100000) (hn : name.length ≤ maxLen) (hf : ∀ f ∈ l, f.1.length ≤ maxLen) : F20 ((l, name, ()), ()) = some (alls l name, ()) := by
  have hF := FUEL_big
  have h := walk_listI (f := B20_0) (fun (b : List (List UInt8)) i => ((name, (), l, (l.length : Int), (i : Int), ()), (b, ()))) l (fun a b => .inl (if hit name a = true then b ++ [a.2.1] else b)) (fun b => (((), ()), (b, ())))
    (fun b i => b.length ≤ i) (b := [])
    (fun b i a hI hi ha => .inl ⟨_, rfl, by
      have hI : b.length ≤ i := hI
      show (if hit name a = true then b ++ [a.2.1] else b).length ≤ i + 1
      split
      · rw [List.length_append, List.length_singleton]; omega
      · omega, by
      have hI : b.length ≤ i := hI
      have hm : a ∈ l := by
        have := ha a
        rw [List.getD_eq_getElem?_getD, List.getElem?_eq_getElem hi] at this
        rw [← show l[i] = a from this]
        exact List.getElem_mem hi
      have e := F42_eq a.1 name (hf a hm) hn
      have hby : bytesOK (b.length + (List.length ([a.2.1]:List (List UInt8)))) 16 = true := by
        unfold bytesOK; rw [decide_eq_true_eq, List.length_singleton]; omega
      simp only [B20_0, nat_lt, nat_nn, hi, decide_true, Bool.and_self, cond_true, Int.toNat_natCast, ha, Option.bind_some, e]
      unfold hit
      cases decide (a.1.map lowc = name.map lowc)
      · simp only [cond_false, Option.bind_some, Bool.false_eq_true, ↓reduceIte, w64_nat (show i < 9223372036854775807 by omega)]
      · simp only [cond_true, Option.bind_some, ↓reduceIte, hby, w64_nat (show i < 9223372036854775807 by omega)]⟩)
    (fun b _ => by simp only [B20_0, Int.lt_irrefl, decide_false, cond_false]) (by omega) (Nat.le_refl _)
  rw [foldS_filter, List.nil_append] at h
  have h' : L20_0 ((name, (), l, (l.length : Int), (0:Int), ()), (([]:List (List UInt8)), ())) = _ := h
  simp only [F20, h', Option.bind_some]

theorem F21_eq (l : List Fld) (name : List UInt8) (hl : l.length ≤ 1100000) (hn : name.length ≤ maxLen) (hf : ∀ f ∈ l, f.1.length ≤ maxLen) : F21 ((l, name, ()), ()) = some (alls l name, ()) := by
  have hF := FUEL_big
  have h := walk_listI (f := B21_0) (fun (b : List (List UInt8)) i => ((l, name, (), (i : Int), ()), (b, ()))) l (fun a b => .inl (if hit name a = true then b ++ [a.2.1] else b)) (fun b => (((), ()), (b, ())))
    (fun b i => b.length ≤ i) (b := [])
    (fun b i a hI hi ha => .inl ⟨_, rfl, by
      have hI : b.length ≤ i := hI
      show (if hit name a = true then b ++ [a.2.1] else b).length ≤ i + 1
      split
      · rw [List.length_append, List.length_singleton]; omega
      · omega, by
      have hI : b.length ≤ i := hI
      have hm : a ∈ l := by
        have := ha a
        rw [List.getD_eq_getElem?_getD, List.getElem?_eq_getElem hi] at this
        rw [← show l[i] = a from this]
        exact List.getElem_mem hi
      have e := F43_eq a.1 (hf a hm)
      have e2 := F43_eq name hn
      have hby : bytesOK (b.length + (List.length ([a.2.1]:List (List UInt8)))) 16 = true := by
        unfold bytesOK; rw [decide_eq_true_eq, List.length_singleton]; omega
      simp only [B21_0, nat_lt, nat_nn, hi, decide_true, Bool.and_self, cond_true, Int.toNat_natCast, ha, Option.bind_some, e, e2]
      unfold hit
      cases decide (a.1.map lowc = name.map lowc)
      · simp only [cond_false, Option.bind_some, Bool.false_eq_true, ↓reduceIte, w64_nat (show i < 9223372036854775807 by omega)]
      · simp only [cond_true, Option.bind_some, ↓reduceIte, hby, w64_nat (show i < 9223372036854775807 by omega)]⟩)
    (fun b _ => by simp only [B21_0, Int.lt_irrefl, decide_false, cond_false]) (by omega) (Nat.le_refl _)
  rw [foldS_filter, List.nil_append] at h
  have h' : L21_0 ((l, name, (), (0:Int), ()), (([]:List (List UInt8)), ())) = _ := h
  simp only [F21, h', Option.bind_some]

theorem F22_eq (l : List Fld) (name : List UInt8) (hl : l.length ≤ 1100000) (hn : name.length ≤ maxLen) (hf : ∀ f ∈ l, f.1.length ≤ maxLen) :
    F22 ((l, name, ()), ()) = some (((alls l name).getD 0 [], !(alls l name).isEmpty, ()), ()) := by
  simp only [F22, F20_eq l name hl hn hf, Option.bind_some]
  cases alls l name with
  | nil => rfl
  | cons a t =>
    have c1 : decide ((((a :: t).length : Nat) : Int) = 0) = false := by rw [decide_eq_false_iff_not, List.length_cons]; omega
    have c2 : decide ((0:Int) < (((a :: t).length : Nat) : Int)) = true := by rw [decide_eq_true_eq, List.length_cons]; omega
    simp only [c1, c2, cond_true, cond_false]
    rfl

theorem law9 (l : List Fld) (name : List UInt8) (hl : l.length ≤ 1100000) (hn : name.length ≤ maxLen) (hf : ∀ f ∈ l, f.1.length ≤ maxLen) : F9 ((l, name, ()), ()) = some (true, ()) := by
  have hF := FUEL_big
  have hlen : (alls l name).length ≤ 1100000 := by
    unfold alls
    rw [List.length_map]
    exact Nat.le_trans (List.length_filter_le _ _) hl
  have e20 := F20_eq l name hl hn hf
  have e21 := F21_eq l name hl hn hf
  have e22 := F22_eq l name hl hn hf
  generalize alls l name = A at *
  have h := walk_list (f := B9_0 F12 F20 F21 F22) (fun (_ : Unit) i => ((l, name, A, A, (i : Int), ()), ())) A (fun a (_ : Unit) => .inl ()) (fun _ => .inl ((l, name, A, ()), ())) (b := ())
    (fun b i a hi ha => by
      simp only [B9_0, nat_lt, nat_nn, hi, decide_true, Bool.and_self, cond_true, cond_false, Int.toNat_natCast, ha, Bool.not_true, w64_nat (show i < 9223372036854775807 by omega)])
    (fun b => by simp only [B9_0, Int.lt_irrefl, decide_false, cond_false]) (by omega)
  have hfold : ∀ t : List (List UInt8), foldS (fun a (_ : Unit) => (.inl () : Unit ⊕ (((List Fld × List UInt8 × List (List UInt8) × Unit) × Unit) ⊕ ((Unit × Unit) × Unit)))) (fun _ => .inl ((l, name, A, ()), ())) () t = .inl ((l, name, A, ()), ()) := by
    intro t
    induction t with
    | nil => rfl
    | cons a t ih => exact ih
  rw [hfold] at h
  have h' : L9_0 F12 F20 F21 F22 ((l, name, A, A, (0:Int), ()), ()) = _ := h
  simp only [F9, F9a, e20, e21, e22, h', Option.bind_some, decide_true, Bool.not_true, cond_false, live12]
  cases A with
  | nil => simp
  | cons a t => simp

theorem sum_count {α : Type} (g : α → Nat) (hg : ∀ x, 1 ≤ g x) : ∀ l : List α, l.length ≤ (l.map g).sum
  | [] => Nat.le_refl _
  | a :: l => by
    have := sum_count g hg l
    have := hg a
    simp only [List.length_cons, List.map_cons, List.sum_cons]
    omega

theorem sum_mem {α : Type} (g : α → Nat) : ∀ (l : List α) (x : α), x ∈ l → g x ≤ (l.map g).sum
  | [], x, h => by cases h
  | a :: l, x, h => by
    simp only [List.map_cons, List.sum_cons]
    rcases List.mem_cons.mp h with rfl | h
    · omega
    · have := sum_mem g l x h
      omega

theorem law9' (l : List Fld) (name : List UInt8) (hl : sizD (.sl (.pair .str (.pair .str (.pair (.int .i64) .unit)))) l ≤ 1100000) (hn : name.length ≤ 1100000) : F9 ((l, name, ()), ()) = some (true, ()) := by
  have hm : maxLen = 9223372036854775807 := rfl
  have h1 : (List.map (sizD (.pair .str (.pair .str (.pair (.int .i64) .unit)))) l).sum ≤ 1100000 := hl
  have h2 := sum_count (sizD (.pair .str (.pair .str (.pair (.int .i64) .unit)))) (fun x => by simp only [sizD]; omega) l
  refine law9 l name (by omega) (by omega) fun f hf => ?_
  have h3 := sum_mem (sizD (.pair .str (.pair .str (.pair (.int .i64) .unit)))) l f hf
  have h4 : f.1.length + 1 ≤ sizD (.pair .str (.pair .str (.pair (.int .i64) .unit))) f := by
    simp only [sizD]; omega
  omega

end Go.Hd

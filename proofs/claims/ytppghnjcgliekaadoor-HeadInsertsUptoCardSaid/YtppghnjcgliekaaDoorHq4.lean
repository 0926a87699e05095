/- A folded field is split: it is one field, as it was. -/
import Derived.Test.YtppghnjcgliekaaDoorHq3
namespace Go.Hd
open Go Go.Ev
set_option maxRecDepth 100000

/-! ### fuel plays no part -/
theorem spl_fuel : ∀ (k k' : Nat) (rest : List UInt8) (at' : Nat) (out : List Fld), rest.length < k → rest.length < k' → spl k rest at' out = spl k' rest at' out
  | 0, _, _, _, _, h, _ => absurd h (Nat.not_lt_zero _)
  | _ + 1, 0, _, _, _, _, h => absurd h (Nat.not_lt_zero _)
  | k + 1, k' + 1, rest, at', out, h, h' => by
    unfold spl
    by_cases hr : rest = []
    · rw [if_pos hr, if_pos hr]
    · rw [if_neg hr, if_neg hr]
      have n3 : 1 ≤ (ln rest).2 := by
        cases rest with
        | nil => exact absurd rfl hr
        | cons a t => exact ln_pos a t
      have hpos := List.length_pos_iff.mpr hr
      have ih := fun at' out => spl_fuel k k' (rest.drop (ln rest).2) at' out (by rw [List.length_drop]; omega) (by rw [List.length_drop]; omega)
      simp only [ih]

def sp (rest : List UInt8) (at' : Nat) (out : List Fld) : (List Fld × Nat) ⊕ (Nat × Int) := spl (rest.length + 1) rest at' out

theorem ln_crlf : ∀ (l r : List UInt8), 13 ∉ l → ln (l ++ 13 :: 10 :: r) = (l, l.length + 2)
  | [], r, _ => by simp [ln]
  | a :: t, r, h => by
    have ha : ¬ a = 13 := fun e => h (by rw [e]; exact List.mem_cons_self ..)
    have ih := ln_crlf t r fun hm => h (List.mem_cons_of_mem _ hm)
    rw [List.cons_append]
    unfold ln
    rw [if_neg (fun e => ha e.1), ih]
    simp only [List.length_cons]

/-- a line, and what is left behind it -/
theorem sp_line (l r : List UInt8) (at' : Nat) (out : List Fld) (h13 : 13 ∉ l) (hne : l ≠ []) : sp (l ++ 13 :: 10 :: r) at' out =
    if 1024 < l.length then .inr (at', 6)
    else if (bl (l.getD 0 0) && decide (0 < out.length)) = true then sp r (at' + (l.length + 2)) (addl out l)
    else match fst 58 l with
      | none => .inr (at', 4)
      | some j =>
        if rn (l.take j) = true then
          if 40 ≤ out.length then .inr (at', 6)
          else sp r (at' + (l.length + 2)) (out ++ [(l.take j, (l.drop (j + 1), (((at' : Nat) : Int), ())))])
        else .inr (at', 4) := by
  have hd : (l ++ 13 :: 10 :: r).drop (l.length + 2) = r := by
    rw [show l ++ 13 :: 10 :: r = (l ++ [13, 10]) ++ r by simp, show l.length + 2 = (l ++ [13, 10]).length by simp, List.drop_left]
  have hrest : ¬ (l ++ 13 :: 10 :: r) = [] := by simp
  have hf := fun at' out => spl_fuel (l ++ 13 :: 10 :: r).length (r.length + 1) r at' out (by simp only [List.length_append, List.length_cons]; omega) (by omega)
  unfold sp
  conv => lhs; unfold spl
  rw [if_neg hrest, ln_crlf l r h13]
  simp only [hd, hf, hne, ↓reduceIte]
  rfl

theorem addl_addl (out : List Fld) (a b : List UInt8) (h : 0 < out.length) : addl (addl out a) b = addl out (a ++ b) := by
  unfold addl
  rw [List.length_set, List.set_set]
  have hg : (out.set (out.length - 1) ((out.getD (out.length - 1) nof).1, ((out.getD (out.length - 1) nof).2.1 ++ a, ((out.getD (out.length - 1) nof).2.2.1, ())))).getD (out.length - 1) nof = ((out.getD (out.length - 1) nof).1, ((out.getD (out.length - 1) nof).2.1 ++ a, ((out.getD (out.length - 1) nof).2.2.1, ()))) := by
    rw [List.getD_eq_getElem?_getD, List.getElem?_set_self (by omega)]
    rfl
  rw [hg]
  simp only [List.append_assoc]

/-- the lines of words -/
def tx : List UInt8 → List (List UInt8) → List UInt8
  | now, [] => now ++ [13, 10]
  | now, w :: ws => if 78 < now.length + w.length then now ++ 13 :: 10 :: tx w ws else tx (now ++ w) ws

theorem fw_tx : ∀ (ws : List (List UInt8)) (out now : List UInt8), (fw out now ws).1 ++ (fw out now ws).2 ++ [13, 10] = out ++ tx now ws
  | [], out, now => by simp [fw, tx]
  | w :: ws, out, now => by
    unfold fw tx
    split
    · rw [fw_tx ws]
      simp
    · rw [fw_tx ws]

theorem lines_tx (n v : List UInt8) : lines n v = tx (n ++ [58] ++ ([32] ++ (w1 v).1)) (w1 v).2 := by
  unfold lines
  rw [fw_tx]
  rfl

/-- a word that may be folded -/
def wOK (w : List UInt8) : Prop := (∃ b t, w = b :: t ∧ bl b = true) ∧ 13 ∉ w ∧ w.length ≤ 901

theorem sp_cont (r : List UInt8) : ∀ (ws : List (List UInt8)) (now : List UInt8) (at' : Nat) (out : List Fld), (∃ b t, now = b :: t ∧ bl b = true) → 13 ∉ now → now.length ≤ 1024 → (∀ w ∈ ws, wOK w) → 0 < out.length →
    sp (tx now ws ++ r) at' out = sp r (at' + (tx now ws).length) (addl out (now ++ ws.flatten))
  | [], now, at', out, hb, h13, hlen, _, h0 => by
    obtain ⟨b, t, rfl, hb⟩ := hb
    have hno : ¬ 1024 < (b :: t).length := by omega
    have : (bl ((b :: t).getD 0 0) && decide (0 < out.length)) = true := by
      rw [Bool.and_eq_true, decide_eq_true_eq]; exact ⟨hb, h0⟩
    show sp ((b :: t) ++ [13, 10] ++ r) at' out = _
    rw [List.append_assoc]
    show sp ((b :: t) ++ 13 :: 10 :: r) at' out = _
    rw [sp_line (b :: t) r at' out h13 (by simp), if_neg hno, if_pos this]
    simp [tx]
  | w :: ws, now, at', out, hb, h13, hlen, hws, h0 => by
    obtain ⟨wb, w13, wlen⟩ := hws w (List.mem_cons_self ..)
    have hws' := fun x hx => hws x (List.mem_cons_of_mem _ hx)
    unfold tx
    by_cases h : 78 < now.length + w.length
    · rw [if_pos h]
      have hne : now ≠ [] := by
        obtain ⟨b, t, rfl, _⟩ := hb
        simp
      have hno : ¬ 1024 < now.length := by omega
      have : (bl (now.getD 0 0) && decide (0 < out.length)) = true := by
        obtain ⟨b, t, rfl, hb⟩ := hb
        rw [Bool.and_eq_true, decide_eq_true_eq]; exact ⟨hb, h0⟩
      have e : (now ++ 13 :: 10 :: tx w ws) ++ r = now ++ 13 :: 10 :: (tx w ws ++ r) := by simp
      rw [e, sp_line now _ at' out h13 hne, if_neg hno, if_pos this]
      rw [sp_cont r ws w _ _ wb w13 (by omega) hws' (by rw [addl_len]; exact h0), addl_addl _ _ _ h0]
      congr 1
      simp only [List.length_append, List.length_cons]
      omega
    · rw [if_neg h]
      rw [sp_cont r ws (now ++ w) at' out (by
        obtain ⟨b, t, rfl, hb⟩ := hb
        exact ⟨b, t ++ w, by simp, hb⟩) (by
        rw [List.mem_append]
        rintro (h | h)
        · exact h13 h
        · exact w13 h) (by rw [List.length_append]; omega) hws' h0]
      simp

theorem fst_name (n x : List UInt8) (hn : n.all nmc = true) : fst 58 (n ++ 58 :: x) = some n.length := by
  induction n with
  | nil => simp [fst]
  | cons a n ih =>
    simp only [List.all_cons, Bool.and_eq_true] at hn
    have ha : ¬ a = 58 := by
      intro e
      subst e
      exact absurd hn.1 (by decide)
    simp only [List.cons_append, fst, ha, ↓reduceIte, ih hn.2, Option.map_some, List.length_cons]

theorem sp_first (r n : List UInt8) (hn : rn n = true) : ∀ (ws : List (List UInt8)) (x : List UInt8) (at' : Nat), 13 ∉ n ++ 58 :: x → (n ++ 58 :: x).length ≤ 1024 → (∀ w ∈ ws, wOK w) →
    sp (tx (n ++ 58 :: x) ws ++ r) at' [] = sp r (at' + (tx (n ++ 58 :: x) ws).length) [(n, (x ++ ws.flatten, ((at' : Int), ())))]
  | [], x, at', h13, hlen, _ => by
    have hno : ¬ 1024 < (n ++ 58 :: x).length := by omega
    have hall : n.all nmc = true := by
      unfold rn at hn
      rw [Bool.and_eq_true] at hn
      exact hn.1
    show sp ((n ++ 58 :: x) ++ [13, 10] ++ r) at' [] = _
    rw [List.append_assoc]
    show sp ((n ++ 58 :: x) ++ 13 :: 10 :: r) at' [] = _
    rw [sp_line _ r at' [] h13 (by simp), if_neg hno, fst_name n x hall]
    have e1 : (n ++ 58 :: x).take n.length = n := by simp
    have e2 : (n ++ 58 :: x).drop (n.length + 1) = x := by
      rw [show n ++ 58 :: x = (n ++ [58]) ++ x by simp, show n.length + 1 = (n ++ [58]).length by simp, List.drop_left]
    simp [e1, e2, hn, tx]
    congr 1
  | w :: ws, x, at', h13, hlen, hws => by
    obtain ⟨wb, w13, wlen⟩ := hws w (List.mem_cons_self ..)
    have hws' := fun y hy => hws y (List.mem_cons_of_mem _ hy)
    have hall : n.all nmc = true := by
      unfold rn at hn
      rw [Bool.and_eq_true] at hn
      exact hn.1
    unfold tx
    by_cases h : 78 < (n ++ 58 :: x).length + w.length
    · rw [if_pos h]
      have hno : ¬ 1024 < (n ++ 58 :: x).length := by omega
      have e : ((n ++ 58 :: x) ++ 13 :: 10 :: tx w ws) ++ r = (n ++ 58 :: x) ++ 13 :: 10 :: (tx w ws ++ r) := by simp
      have e1 : (n ++ 58 :: x).take n.length = n := by simp
      have e2 : (n ++ 58 :: x).drop (n.length + 1) = x := by
        rw [show n ++ 58 :: x = (n ++ [58]) ++ x by simp, show n.length + 1 = (n ++ [58]).length by simp, List.drop_left]
      have hc : ¬ (bl ((n ++ 58 :: x).getD 0 0) && decide (0 < ([] : List Fld).length)) = true := by simp
      have h40 : ¬ 40 ≤ ([] : List Fld).length := by simp
      rw [e, sp_line _ _ at' [] h13 (by simp), if_neg hno, if_neg hc, fst_name n x hall]
      simp only [e1, e2]
      rw [if_pos hn, if_neg h40]
      rw [sp_cont r ws w _ _ wb w13 (by omega) hws' (by simp)]
      have ea : addl ([] ++ [(n, (x, (((at' : Nat) : Int), ())))]) (w ++ ws.flatten) = [(n, (x ++ (w ++ ws.flatten), ((at' : Int), ())))] := rfl
      rw [ea]
      simp only [List.flatten_cons, List.length_append, List.length_cons]
      congr 1
      omega
    · rw [if_neg h]
      have ea : (n ++ 58 :: x) ++ w = n ++ 58 :: (x ++ w) := by simp
      rw [ea]
      have hl : (n ++ 58 :: x).length + w.length = (n ++ 58 :: (x ++ w)).length := by rw [← ea]; simp only [List.length_append]
      rw [sp_first r n hn ws (x ++ w) at' (by
        rw [← ea, List.mem_append]
        rintro (h | h)
        · exact h13 h
        · exact w13 h) (by omega) hws']
      simp

theorem ok_get {v : List UInt8} (h : okv v = true) {i : Nat} (hi : i < v.length) : badR v i = false := by
  unfold okv at h
  rw [List.all_eq_true] at h
  simpa using h i (List.mem_range.mpr hi)

theorem ok_13 {v : List UInt8} (h : okv v = true) : 13 ∉ v := by
  intro hm
  obtain ⟨i, hi, e⟩ := List.mem_iff_getElem.mp hm
  have := ok_get h hi
  unfold badR at this
  rw [Bool.or_eq_false_iff] at this
  rw [List.getD_eq_getElem?_getD, List.getElem?_eq_getElem hi, e] at this
  exact absurd this.1 (by decide)

theorem rn_13 {n : List UInt8} (h : rn n = true) : 13 ∉ n := by
  intro hm
  unfold rn at h
  rw [Bool.and_eq_true, List.all_eq_true] at h
  exact absurd (h.1 13 hm) (by decide)

theorem w1_mem {v : List UInt8} {w : List UInt8} (hw : w ∈ (w1 v).2) {x : UInt8} (hx : x ∈ w) : x ∈ v := by
  rw [w1_join v, List.mem_append]
  exact .inr (List.mem_flatten.mpr ⟨w, hw, hx⟩)

theorem words_ok {v : List UInt8} (hok : okv v = true) (hl : lng v = false) : ∀ w ∈ (w1 v).2, wOK w := by
  intro w hw
  obtain ⟨b, t, e, hb, _⟩ := w1_snd v w hw
  refine ⟨⟨b, t, e, hb⟩, fun hx => ok_13 hok (w1_mem hw hx), ?_⟩
  unfold lng at hl
  rw [Bool.or_eq_false_iff, List.any_eq_false] at hl
  have := hl.2 w hw
  rw [decide_eq_true_eq] at this
  omega

theorem sp_lines (n v r : List UInt8) (hn : rn n = true) (hok : okv v = true) (hl : lng v = false) :
    sp (lines n v ++ r) 0 [] = sp r (lines n v).length [(n, (32 :: v, ((0 : Int), ())))] := by
  have hn24 : n.length ≤ 24 := by
    unfold rn at hn
    simp only [Bool.and_eq_true, decide_eq_true_eq] at hn
    exact hn.2.2
  have h1 : (w1 v).1.length ≤ 900 := by
    unfold lng at hl
    rw [Bool.or_eq_false_iff, decide_eq_false_iff_not] at hl
    omega
  have e : n ++ [58] ++ ([32] ++ (w1 v).1) = n ++ 58 :: (32 :: (w1 v).1) := by simp
  rw [lines_tx, e]
  rw [sp_first r n hn (w1 v).2 (32 :: (w1 v).1) 0 (by
    intro hm
    rw [List.mem_append, List.mem_cons, List.mem_cons] at hm
    rcases hm with h | h | h | h
    · exact rn_13 hn h
    · exact absurd h (by decide)
    · exact absurd h (by decide)
    · exact ok_13 hok (by rw [w1_join v, List.mem_append]; exact .inl h)) (by simp only [List.length_append, List.length_cons]; omega) (words_ok hok hl)]
  rw [Nat.zero_add]
  have ej : 32 :: (w1 v).1 ++ (w1 v).2.flatten = 32 :: v := by
    rw [List.cons_append, ← w1_join v]
  rw [ej]
  rfl

/-- a value that may be folded has no blanks at its ends -/
theorem trm_ok {v : List UInt8} (hok : okv v = true) : trm (32 :: v) = v := by
  have e1 : ltr (32 :: v) = v := by
    have : ltr (32 :: v) = ltr v := by simp [ltr, bl]
    rw [this]
    cases v with
    | nil => rfl
    | cons a t =>
      have hb := ok_get hok (i := 0) (by simp)
      unfold badR at hb
      rw [Bool.or_eq_false_iff] at hb
      have : bl a = false := by simpa using hb.2
      simp [ltr, this]
  unfold trm
  rw [e1]
  rcases List.eq_nil_or_concat v with rfl | ⟨l, a, rfl⟩
  · rfl
  · rw [List.concat_eq_append] at *
    have hb := ok_get hok (i := l.length) (by simp)
    unfold badR at hb
    rw [Bool.or_eq_false_iff, get_last] at hb
    have : bl a = false := by simpa using hb.2
    rw [rtr_snoc, this]
    simp

theorem split_fold (n v : List UInt8) (hn : rn n = true) (hok : okv v = true) (hl : lng v = false) : split (lines n v) = ([(n, (v, ((0 : Int), ())))], ((lines n v).length : Int), 0, ()) := by
  have h := sp_lines n v [] hn hok hl
  rw [List.append_nil] at h
  unfold split
  change fin (sp (lines n v) 0 []) = _
  rw [h]
  show fin (spl 1 [] _ _) = _
  simp only [spl, ↓reduceIte, fin, List.map_cons, List.map_nil, trf, trm_ok hok]

end Go.Hd

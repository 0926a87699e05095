/- A folded field is split: it is one field, as it was. -/
import Derived.Test.YtppghnjcgliekaaDoorHq3
namespace Go.Hd
open Go Go.Ev
set_option maxRecDepth 100000

/-! ### fuel plays no part -/
theorem spl_fuel : ∀ (k k' : Nat) (rest : List UInt8) (at' : Nat) (out : List Fld), rest.length < k → rest.length < k' → spl k rest at' out = spl k' rest at' out
  | 0, _, _, _, _, h, _ => absurd h (Nat.not_lt_zero _)
  | _ + 1, 0, _, _, _, _, h => absurd h (Nat.not_lt_zero _)
  | k + 1, k' + 1, rest, at', out, h, h' => by
    unfold spl
    by_cases hr : rest = []
    · rw [if_pos hr, if_pos hr]
    · rw [if_neg hr, if_neg hr]
      have n3 : 1 ≤ (ln rest).2 := by
        cases rest with
        | nil => exact absurd rfl hr
        | cons a t => exact ln_pos a t
      have hpos := List.length_pos_iff.mpr hr
      have ih := fun at' out => spl_fuel k k' (rest.drop (ln rest).2) at' out (by rw [List.length_drop]; omega) (by rw [List.length_drop]; omega)
      simp only [ih]

def sp (rest : List UInt8) (at' : Nat) (out : List Fld) : (List Fld × Nat) ⊕ (Nat × Int) := spl (rest.length + 1) rest at' out

theorem ln_crlf : ∀ (l r : List UInt8), 13 ∉ l → ln (l ++ 13 :: 10 :: r) = (l, l.length + 2)
  | [], r, _ => by simp [ln]
  | a :: t, r, h => by
    have ha : ¬ a = 13 := fun e => h (by rw [e]; exact List.mem_cons_self ..)
    have ih := ln_crlf t r fun hm => h (List.mem_cons_of_mem _ hm)
    rw [List.cons_append]
    unfold ln
    rw [if_neg (fun e => ha e.1), ih]
    simp only [List.length_cons]

/-- a line, and what is left behind it -/
theorem sp_line (l r : List UInt8) (at' : Nat) (out : List Fld) (h13 : 13 ∉ l) (hne : l ≠ []) : sp (l ++ 13 :: 10 :: r) at' out =
    if 1024 < l.length then .inr (at', 6)
    else if (bl (l.getD 0 0) && decide (0 < out.length)) = true then sp r (at' + (l.length + 2)) (addl out l)
    else match fst 58 l with
      | none => .inr (at', 4)
      | some j =>
        if rn (l.take j) = true then
          if 40 ≤ out.length then .inr (at', 6)
          else sp r (at' + (l.length + 2)) (out ++ [(l.take j, (l.drop (j + 1), (((at' : Nat) : Int), ())))])
        else .inr (at', 4) := by
  have hd : (l ++ 13 :: 10 :: r).drop (l.length + 2) = r := by
    rw [show l ++ 13 :: 10 :: r = (l ++ [13, 10]) ++ r by simp, show l.length + 2 = (l ++ [13, 10]).length by simp, List.drop_left]
  have hrest : ¬ (l ++ 13 :: 10 :: r) = [] := by simp
  have hf := fun at' out => spl_fuel (l ++ 13 :: 10 :: r).length (r.length + 1) r at' out (by simp only [List.length_append, List.length_cons]; omega) (by omega)
  unfold sp
  conv => lhs; unfold spl
  rw [if_neg hrest, ln_crlf l r h13]
  simp only [hd, hf, hne, ↓reduceIte]
  rfl

theorem addl_addl (out : List Fld) (a b : List UInt8) (h : 0 < out.length) : addl (addl out a) b = addl out (a ++ b) := by
  unfold addl
  rw [List.length_set, List.set_set]
  have hg : (out.set (out.length - 1) ((out.getD (out.length - 1) nof).1, ((out.getD (out.length - 1) nof).2.1 ++ a, ((out.getD (out.length - 1) nof).2.2.1, ())))).getD (out.length - 1) nof = ((out.getD (out.length - 1) nof).1, ((out.getD (out.length - 1) nof).2.1 ++ a, ((out.getD (out.length - 1) nof).2.2.1, ()))) := by
    rw [List.getD_eq_getElem?_getD, List.getElem?_set_self (by omega)]
    rfl
  rw [hg]
  simp only [List.append_assoc]

/-- the lines of words -/
def tx : List UInt8 → List (List UInt8) → List UInt8
  | now, [] => now ++ [13, 10]
  | now, w :: ws => if 78 < now.length + w.length then now ++ 13 :: 10 :: tx w ws else tx (now ++ w) ws

theorem fw_tx : ∀ (ws : List (List UInt8)) (out now : List UInt8), (fw out now ws).1 ++ (fw out now ws).2 ++ [13, 10] = out ++ tx now ws
  | [], out, now => by simp [fw, tx]
  | w :: ws, out, now => by
    unfold fw tx
    split
    · rw [fw_tx ws]
      simp
    · rw [fw_tx ws]

theorem lines_tx (n v : List UInt8) : lines n v = tx (n ++ [58] ++ ([32] ++ (w1 v).1)) (w1 v).2 := by
  unfold lines
  rw [fw_tx]
  rfl

/-- a word that may be folded -/
def wOK (w : List UInt8) : Prop := (∃ b t, w = b :: t ∧ bl b = true) ∧ 13 ∉ w ∧ w.length ≤ 901

theorem sp_cont (r : List UInt8) : ∀ (ws : List (List UInt8)) (now : List UInt8) (at' : Nat) (out : List Fld), (∃ b t, now = b :: t ∧ bl b = true) → 13 ∉ now → now.length ≤ 1024 → (∀ w ∈ ws, wOK w) → 0 < out.length →
    sp (tx now ws ++ r) at' out = sp r (at' + (tx now ws).length) (addl out (now ++ ws.flatten))
  | [], now, at', out, hb, h13, hlen, _, h0 => by
    obtain ⟨b, t, rfl, hb⟩ := hb
    have hno : ¬ 1024 < (b :: t).length := by omega
    have : (bl ((b :: t).getD 0 0) && decide (0 < out.length)) = true := by
      rw [Bool.and_eq_true, decide_eq_true_eq]; exact ⟨hb, h0⟩
    show sp ((b :: t) ++ [13, 10] ++ r) at' out = _
    rw [List.append_assoc]
    show sp ((b :: t) ++ 13 :: 10 :: r) at' out = _
    rw [sp_line (b :: t) r at' out h13 (by simp), if_neg hno, if_pos this]
    simp [tx]
  | w :: ws, now, at', out, hb, h13, hlen, hws, h0 => by
    obtain ⟨wb, w13, wlen⟩ := hws w (List.mem_cons_self ..)
    have hws' := fun x hx => hws x (List.mem_cons_of_mem _ hx)
    unfold tx
    by_cases h : 78 < now.length + w.length
    · rw [if_pos h]
      have hne : now ≠ [] := by
        obtain ⟨b, t, rfl, _⟩ := hb
        simp
      have hno : ¬ 1024 < now.length := by omega
      have : (bl (now.getD 0 0) && decide (0 < out.length)) = true := by
        obtain ⟨b, t, rfl, hb⟩ := hb
        rw [Bool.and_eq_true, decide_eq_true_eq]; exact ⟨hb, h0⟩
      have e : (now ++ 13 :: 10 :: tx w ws) ++ r = now ++ 13 :: 10 :: (tx w ws ++ r) := by simp
      rw [e, sp_line now _ at' out h13 hne, if_neg hno, if_pos this]
      rw [sp_cont r ws w _ _ wb w13 (by omega) hws' (by rw [addl_len]; exact h0), addl_addl _ _ _ h0]
      congr 1
      simp only [List.length_append, List.length_cons]
      omega
    · rw [if_neg h]
      rw [sp_cont r ws (now ++ w) at' out (by
        obtain ⟨b, t, rfl, hb⟩ := hb
        exact ⟨b, t ++ w, by simp, hb⟩) (by
        rw [List.mem_append]
        rintro (h | h)
        · exact h13 h
        · exact w13 h) (by rw [List.length_append]; omega) hws' h0]
      simp

theorem fst_name (n x : List UInt8) (hn : n.all nmc = true) : fst 58 (n ++ 58 :: x) = some n.length := by
  induction n with
  | nil => simp [fst]
  | cons a n ih =>
    simp only [List.all_cons, Bool.and_eq_true] at hn
    have ha : ¬ a = 58 := by
      intro e
      subst e
      exact absurd hn.1 (by decide)
    simp only [List.cons_append, fst, ha, ↓reduceIte, ih hn.2, Option.map_some, List.length_cons]

theorem sp_first (r n : List UInt8) (hn : rn n = true) : ∀ (ws : List (List UInt8)) (x : List UInt8) (at' : Nat), 13 ∉ n ++ 58 :: x → (n ++ 58 :: x).length ≤ 1024 → (∀ w ∈ ws, wOK w) →
    sp (tx (n ++ 58 :: x) ws ++ r) at' [] = sp r (at' + (tx (n ++ 58 :: x) ws).length) [(n, (x ++ ws.flatten, ((at' : Int), ())))]
  | [], x, at', h13, hlen, _ => by
    have hno : ¬ 1024 < (n ++ 58 :: x).length := by omega
    have hall : n.all nmc = true := by
      unfold rn at hn
      rw [Bool.and_eq_true] at hn
      exact hn.1
    show sp ((n ++ 58 :: x) ++ [13, 10] ++ r) at' [] = _
    rw [List.append_assoc]
    show sp ((n ++ 58 :: x) ++ 13 :: 10 :: r) at' [] = _
    rw [sp_line _ r at' [] h13 (by simp), if_neg hno, fst_name n x hall]
    have e1 : (n ++ 58 :: x).take n.length = n := by simp
    have e2 : (n ++ 58 :: x).drop (n.length + 1) = x := by
      rw [show n ++ 58 :: x = (n ++ [58]) ++ x by simp, show n.length + 1 = (n ++ [58]).length by simp, List.drop_left]
    simp [e1, e2, hn, tx]
    congr 1
  | w :: ws, x, at', h13, hlen, hws => by
    obtain ⟨wb, w13, wlen⟩ := hws w (List.mem_cons_self ..)
    have hws' := fun y hy => hws y (List.mem_cons_of_mem _ hy)
    have hall : n.all nmc = true := by
      unfold rn at hn
      rw [Bool.and_eq_true] at hn
      exact hn.1
    unfold tx
    by_cases h : 78 < (n ++ 58 :: x).length + w.length
    · rw [if_pos h]
      have hno : ¬ 1024 < (n ++ 58 :: x).length := by omega
      have e : ((n ++ 58 :: x) ++ 13 :: 10 :: tx w ws) ++ r = (n ++ 58 :: x) ++ 13 :: 10 :: (tx w ws ++ r) := by simp
      have e1 : (n ++ 58 :: x).take n.length = n := by simp
      have e2 : (n ++ 58 :: x).drop (n.length + 1) = x := by
        rw [show n ++ 58 :: x = (n ++ [58]) ++ x by simp, show n.length + 1 = (n ++ [58]).length by simp, List.drop_left]
      have hc : ¬ (bl ((n ++ 58 :: x).getD 0 0) && decide (0 < ([] : List Fld).length)) = true := by simp
      have h40 : ¬ 40 ≤ ([] : List Fld).length := by simp
      rw [e, sp_line _ _ at' [] h13 (by simp), if_neg hno, if_neg hc, fst_name n x hall]
      simp only [e1, e2]
      rw [if_pos hn, if_neg h40]
      rw [sp_cont r ws w _ _ wb w13 (by omega) hws' (by simp)]
      have ea : addl ([] ++ [(n, (x, (((at' : Nat) : Int), ())))]) (w ++ ws.flatten) = [(n, (x ++ (w ++ ws.flatten), ((at' : Int), ())))] := rfl
      rw [ea]
      simp only [List.flatten_cons, List.length_append, List.length_cons]
      congr 1
      omega
    · rw [if_neg h]
      have ea : (n ++ 58 :: x) ++ w = n ++ 58 :: (x ++ w) := by simp
      rw [ea]
      have hl : (n ++ 58 :: x).length + w.length = (n ++ 58 :: (x ++ w)).length := by rw [← ea]; simp only [List.length_append]
      rw [sp_first r n hn ws (x ++ w) at' (by
        rw [← ea, List.mem_append]
        rintro (h | h)
        · exact h13 h
        · exact w13 h) (by omega) hws']
      simp

theorem ok_get {v : List UInt8} (h : okv v = true) {i : Nat} (hi : i < v.length) : badR v i = false := by
  unfold okv at h
  rw [List.all_eq_true] at h
  simpa using h i (List.mem_range.mpr hi)

theorem ok_13 {v : List UInt8} (h : okv v = true) : 13 ∉ v := by
  intro hm
  obtain ⟨i, hi, e⟩ := List.mem_iff_getElem.mp hm
  have := ok_get h hi
  unfold badR at this
  rw [Bool.or_eq_false_iff] at this
  rw [List.getD_eq_getElem?_getD, List.getElem?_eq_getElem hi, e] at this
  exact absurd this.1 (by decide)

theorem rn_13 {n : List UInt8} (h : rn n = true) : 13 ∉ n := by
  intro hm
  unfold rn at h
  rw [Bool.and_eq_true, List.all_eq_true] at h
  exact absurd (h.1 13 hm) (by decide)

theorem w1_mem {v : List UInt8} {w : List UInt8} (hw : w ∈ (w1 v).2) {x : UInt8} (hx : x ∈ w) : x ∈ v := by
  rw [w1_join v, List.mem_append]
  exact .inr (List.mem_flatten.mpr ⟨w, hw, hx⟩)

theorem words_ok {v : List UInt8} (hok : okv v = true) (hl : lng v = false) : ∀ w ∈ (w1 v).2, wOK w := by
  intro w hw
  obtain ⟨b, t, e, hb, _⟩ := w1_snd v w hw
  refine ⟨⟨b, t, e, hb⟩, fun hx => ok_13 hok (w1_mem hw hx), ?_⟩
  unfold lng at hl
  rw [Bool.or_eq_false_iff, List.any_eq_false] at hl
  have := hl.2 w hw
  rw [decide_eq_true_eq] at this
  omega

theorem sp_lines (n v r : List UInt8) (hn : rn n = true) (hok : okv v = true) (hl : lng v = false) :
    sp (lines n v ++ r) 0 [] = sp r (lines n v).length [(n, (32 :: v, ((0 : Int), ())))] := by
  have hn24 : n.length ≤ 24 := by
    unfold rn at hn
    simp only [Bool.and_eq_true, decide_eq_true_eq] at hn
    exact hn.2.2
  have h1 : (w1 v).1.length ≤ 900 := by
    unfold lng at hl
    rw [Bool.or_eq_false_iff, decide_eq_false_iff_not] at hl
    omega
  have e : n ++ [58] ++ ([32] ++ (w1 v).1) = n ++ 58 :: (32 :: (w1 v).1) := by simp
  rw [lines_tx, e]
  rw [sp_first r n hn (w1 v).2 (32 :: (w1 v).1) 0 (by
    intro hm
    rw [List.mem_append, List.mem_cons, List.mem_cons] at hm
    rcases hm with h | h | h | h
    · exact rn_13 hn h
    · exact absurd h (by decide)
    · exact absurd h (by decide)
    · exact ok_13 hok (by rw [w1_join v, List.mem_append]; exact .inl h)) (by simp only [List.length_append, List.length_cons]; omega) (words_ok hok hl)]
  rw [Nat.zero_add]
  have ej : 32 :: (w1 v).1 ++ (w1 v).2.flatten = 32 :: v := by
    rw [List.cons_append, ← w1_join v]
  rw [ej]
  rfl

/-- a value that may be folded has no blanks at its ends -/
theorem trm_ok {v : List UInt8} (hok : okv v = true) : trm (32 :: v) = v := by
  have e1 : ltr (32 :: v) = v := by
    have : ltr (32 :: v) = ltr v := by simp [ltr, bl]
    rw [this]
    cases v with
    | nil => rfl
    | cons a t =>
      have hb := ok_get hok (i := 0) (by simp)
      unfold badR at hb
      rw [Bool.or_eq_false_iff] at hb
      have : bl a = false := by simpa using hb.2
      simp [ltr, this]
  unfold trm
  rw [e1]
  rcases List.eq_nil_or_concat v with rfl | ⟨l, a, rfl⟩
  · rfl
  · rw [List.concat_eq_append] at *
    have hb := ok_get hok (i := l.length) (by simp)
    unfold badR at hb
    rw [Bool.or_eq_false_iff, get_last] at hb
    have : bl a = false := by simpa using hb.2
    rw [rtr_snoc, this]
    simp

theorem split_fold (n v : List UInt8) (hn : rn n = true) (hok : okv v = true) (hl : lng v = false) : split (lines n v) = ([(n, (v, ((0 : Int), ())))], ((lines n v).length : Int), 0, ()) := by
  have h := sp_lines n v [] hn hok hl
  rw [List.append_nil] at h
  unfold split
  change fin (sp (lines n v) 0 []) = _
  rw [h]
  show fin (spl 1 [] _ _) = _
  simp only [spl, ↓reduceIte, fin, List.map_cons, List.map_nil, trf, trm_ok hok]

end Go.Hd

namespace Go.Hd
open Go Go.Ev
set_option maxRecDepth 100000

theorem L5a_eq (s : List UInt8) (sh : Bool) (L : List (List UInt8)) (hL : L.length ≤ 1100000) : L5_0 F10 F12 F14 F16 ((s, (), sh, (0:Int), ()), (L, ())) = some ((s, (sh && L.all fun w => decide (w.length ≤ 78)), ()), ()) := by
  have hF := FUEL_big
  have h := walk_list (f := B5_0 F10 F12 F14 F16) (fun (b : Bool) i => ((s, (), b, (i : Int), ()), (L, ()))) L (fun a b => .inl (b && decide (a.length ≤ 78))) (fun b => ((s, b, ()), ())) (b := sh)
    (fun b i a hi ha => by
      have e : decide (((a.length : Nat) : Int) ≤ 78) = decide (a.length ≤ 78) := by rw [decide_eq_decide]; omega
      simp only [B5_0, nat_nn, nat_lt, hi, decide_true, Bool.and_self, Bool.true_or, cond_true, Int.toNat_natCast, ha, e, Option.bind_some, w64_nat (show i < 9223372036854775807 by omega)])
    (fun b => by simp only [B5_0, Int.lt_irrefl, decide_false, cond_false]) (by omega)
  have hfold : ∀ (t : List (List UInt8)) (b : Bool), foldS (fun a b => (.inl (b && decide (a.length ≤ 78)) : Bool ⊕ ((List UInt8 × Bool × Unit) × Unit))) (fun b => ((s, b, ()), ())) b t = ((s, (b && t.all fun w => decide (w.length ≤ 78)), ()), ()) := by
    intro t
    induction t with
    | nil => intro b; simp [foldS]
    | cons a t ih => intro b; simp only [foldS, ih, List.all_cons, Bool.and_assoc]
  rw [hfold] at h
  exact h

/-- no line is too long -/
def chk (s : Bool) : List UInt8 → Int → Bool
  | [], _ => true
  | c :: t, z => if c = 13 then (if (s && decide (78 < z)) = true then false else chk s t (-1)) else chk s t (z + 1)

theorem L5b_eq (s : List UInt8) (sh : Bool) (hs : s.length ≤ 1100000) : L5_1 F10 F12 F14 F16 ((s, sh, (0:Int), (0:Int), ()), ()) = some (if chk sh s 0 then .inl ((), ()) else .inr (((), ()), ())) := by
  have hF := FUEL_big
  have h := walk_listI (f := B5_1 F10 F12 F14 F16) (fun (z : Int) i => ((s, sh, z, (i : Int), ()), ())) s
    (fun a z => if a = 13 then (if (sh && decide (78 < z)) = true then .inr (.inr (((), ()), ())) else .inl (-1)) else .inl (z + 1)) (fun _ => .inl ((), ())) (fun z i => -1 ≤ z ∧ z ≤ i) (b := 0)
    (fun z i a hI hi ha => by
      obtain ⟨z1, z2⟩ := hI
      simp only [B5_1, nat_nn, nat_lt, hi, decide_true, Bool.and_self, cond_true, Int.toNat_natCast, ha]
      by_cases h13 : a = 13
      · simp only [h13, decide_true, cond_true, ↓reduceIte]
        cases hh : sh && decide (78 < z)
        · left
          refine ⟨-1, rfl, ⟨by omega, by omega⟩, ?_⟩
          simp only [cond_false, Option.bind_some, w64_nat (show i < 9223372036854775807 by omega)]
          rfl
        · right
          exact ⟨_, rfl, rfl⟩
      · left
        refine ⟨z + 1, if_neg h13, ⟨by omega, by omega⟩, ?_⟩
        have hw : w64 (z + 1) = z + 1 := w64_id (by omega) (by omega)
        simp only [h13, decide_false, cond_false, Option.bind_some, hw, w64_nat (show i < 9223372036854775807 by omega)])
    (fun z _ => by simp only [B5_1, Int.lt_irrefl, decide_false, cond_false]) (by omega) ⟨by omega, by omega⟩
  have h' : L5_1 F10 F12 F14 F16 ((s, sh, (0:Int), (0:Int), ()), ()) = _ := h
  rw [h']
  clear h h'
  congr 1
  generalize (0:Int) = z
  clear hs
  induction s generalizing z with
  | nil => rfl
  | cons a t ih =>
    simp only [foldS, chk]
    by_cases h13 : a = 13
    · simp only [h13, ↓reduceIte]
      cases sh && decide (78 < z)
      · simp only [Bool.false_eq_true, ↓reduceIte, ih]
      · simp only [↓reduceIte, Bool.false_eq_true]
    · simp only [h13, ↓reduceIte, ih]

theorem chk_pre (s : Bool) (r : List UInt8) : ∀ (l : List UInt8) (z : Int), 13 ∉ l → chk s (l ++ r) z = chk s r (z + (l.length : Nat))
  | [], z, _ => by simp
  | a :: t, z, h => by
    have ha : ¬ a = 13 := fun e => h (by rw [e]; exact List.mem_cons_self ..)
    simp only [List.cons_append, chk, ha, ↓reduceIte]
    rw [chk_pre s r t (z + 1) fun hm => h (List.mem_cons_of_mem _ hm)]
    congr 1
    simp only [List.length_cons]
    omega

theorem chk_line (s : Bool) (r l : List UInt8) (h13 : 13 ∉ l) (hl : s = true → l.length ≤ 78) : chk s (l ++ 13 :: 10 :: r) 0 = chk s r 0 := by
  rw [chk_pre s _ l 0 h13]
  have hno : ¬ (s && decide ((78:Int) < 0 + (l.length : Nat))) = true := by
    rw [Bool.and_eq_true, decide_eq_true_eq]
    rintro ⟨h1, h2⟩
    have := hl h1
    omega
  have h10 : ¬ (10 : UInt8) = 13 := by decide
  simp only [chk, ↓reduceIte, hno, h10]
  rfl

theorem chk_tx (s : Bool) : ∀ (ws : List (List UInt8)) (now : List UInt8), 13 ∉ now → (∀ w ∈ ws, 13 ∉ w) → (s = true → now.length ≤ 78 ∧ ∀ w ∈ ws, w.length ≤ 78) → chk s (tx now ws) 0 = true
  | [], now, h13, _, hs => by
    show chk s (now ++ 13 :: 10 :: []) 0 = true
    rw [chk_line s [] now h13 fun h => (hs h).1]
    rfl
  | w :: ws, now, h13, hw, hs => by
    unfold tx
    by_cases h : 78 < now.length + w.length
    · rw [if_pos h, chk_line s _ now h13 fun h => (hs h).1]
      exact chk_tx s ws w (hw w (List.mem_cons_self ..)) (fun x hx => hw x (List.mem_cons_of_mem _ hx)) fun h => ⟨(hs h).2 w (List.mem_cons_self ..), fun x hx => (hs h).2 x (List.mem_cons_of_mem _ hx)⟩
    · rw [if_neg h]
      refine chk_tx s ws (now ++ w) ?_ (fun x hx => hw x (List.mem_cons_of_mem _ hx)) fun h => ⟨by rw [List.length_append]; omega, fun x hx => (hs h).2 x (List.mem_cons_of_mem _ hx)⟩
      rw [List.mem_append]
      rintro (h | h)
      · exact h13 h
      · exact hw w (List.mem_cons_self ..) h

theorem lines_len (n v : List UInt8) : (lines n v).length ≤ n.length + 3 * v.length + 10 := by
  have hfl := fw_len (w1 v).2 [] (n ++ [58] ++ ([32] ++ (w1 v).1))
  have h2 := tot_le _ (w1_snd v)
  have hl := w1_lens v
  unfold lines
  simp only [List.length_append, List.length_cons, List.length_nil] at *
  omega

theorem law5 (n v : List UInt8) (hn : n.length ≤ 9223372036854775807) (hv : v.length ≤ 9223372036854775807) : F5 ((n, v, ()), ()) = some (true, ()) := by
  simp only [F5, F5a, F14_eq n v hn hv, Option.bind_some, live12]
  unfold fold
  by_cases hrn : rn n = true
  case neg =>
    simp only [hrn, Bool.false_eq_true, ↓reduceIte, show decide ((4:Int) = 0) = false from rfl, Bool.not_false, cond_true, decide_true, Bool.and_self]
  by_cases hok : okv v = true
  case neg =>
    simp only [hrn, hok, Bool.false_eq_true, ↓reduceIte, show decide ((4:Int) = 0) = false from rfl, Bool.not_false, cond_true, decide_true, Bool.and_self]
  by_cases hbig : 1024 < v.length ∨ lng v = true
  · simp only [hrn, hok, hbig, ↓reduceIte, show decide ((6:Int) = 0) = false from rfl, Bool.not_false, cond_true, decide_true, Bool.and_self]
  have hlen : v.length ≤ 1024 := by omega
  have hlng : lng v = false := by
    cases h : lng v
    · rfl
    · exact absurd (.inr h) hbig
  have hn24 : n.length ≤ 24 := by
    unfold rn at hrn
    simp only [Bool.and_eq_true, decide_eq_true_eq] at hrn
    exact hrn.2.2
  have hll := lines_len n v
  have e10 := F10_eq (lines n v) (by omega)
  rw [split_fold n v hrn hok hlng] at e10
  have e16 := F16_eq v (by omega)
  have hw1 := w1_lens v
  have hwl := ws_len _ (w1_snd v)
  have ew : w64 (w64 (((n.length : Nat) : Int) + 1) + (((([32] ++ (w1 v).1) : List UInt8).length : Nat) : Int)) = ((n.length + 1 + (([32] ++ (w1 v).1) : List UInt8).length : Nat) : Int) := by
    simp only [List.length_append, List.length_cons, List.length_nil]
    rw [w64_nat (by omega), w64_id (by omega) (by omega)]
    omega
  have d1 : decide ((0:Int) < ((((([32] ++ (w1 v).1) :: (w1 v).2) : List (List UInt8)).length : Nat) : Int)) = true := by rw [decide_eq_true_eq, List.length_cons]; omega
  have d2 : decide (((n.length + 1 + (([32] ++ (w1 v).1) : List UInt8).length : Nat) : Int) ≤ 78) = decide (n.length + 1 + (([32] ++ (w1 v).1) : List UInt8).length ≤ 78) := by rw [decide_eq_decide]; omega
  have hg : ((([32] ++ (w1 v).1) :: (w1 v).2).getD 0 ([]:List UInt8)) = [32] ++ (w1 v).1 := rfl
  have hlist : List.getD [(n, (v, ((0 : Int), ())))] 0 (([]:List UInt8), (([]:List UInt8), ((0:Int), ()))) = (n, (v, ((0 : Int), ()))) := rfl
  have hc1 : decide ((0:Int) < (([(n, (v, ((0 : Int), ())))] : List Fld).length : Nat)) = true := rfl
  have hc2 : decide (((([(n, (v, ((0 : Int), ())))] : List Fld).length : Nat) : Int) = 1) = true := rfl
  simp only [hrn, hok, hbig, ↓reduceIte, decide_true, Bool.not_true, cond_false, e10, Option.bind_some, hlist, hc1, hc2, Bool.or_self, Bool.true_or, cond_true, e16, d1, hg, ew, d2]
  have e5a := L5a_eq (lines n v) (decide (n.length + 1 + (([32] ++ (w1 v).1) : List UInt8).length ≤ 78)) (([32] ++ (w1 v).1) :: (w1 v).2) (by simp only [List.length_cons]; omega)
  simp only [e5a, Option.bind_some]
  have e5b := L5b_eq (lines n v) ((decide (n.length + 1 + (([32] ++ (w1 v).1) : List UInt8).length ≤ 78)) && ((([32] ++ (w1 v).1) :: (w1 v).2).all fun w => decide (w.length ≤ 78))) (by omega)
  have hchk : chk ((decide (n.length + 1 + (([32] ++ (w1 v).1) : List UInt8).length ≤ 78)) && ((([32] ++ (w1 v).1) :: (w1 v).2).all fun w => decide (w.length ≤ 78))) (lines n v) 0 = true := by
    rw [lines_tx]
    refine chk_tx _ _ _ ?_ (fun w hw => (words_ok hok hlng w hw).2.1) fun h => ?_
    · intro hm
      simp only [List.mem_append, List.mem_singleton] at hm
      rcases hm with (h | h) | h | h
      · exact rn_13 hrn h
      · exact absurd h (by decide)
      · exact absurd h (by decide)
      · exact ok_13 hok (by rw [w1_join v, List.mem_append]; exact .inl h)
    · rw [Bool.and_eq_true, decide_eq_true_eq, List.all_eq_true] at h
      refine ⟨?_, fun w hw => ?_⟩
      · have := h.1
        simp only [List.length_append, List.length_cons, List.length_nil] at *
        omega
      · have := h.2 w (List.mem_cons_of_mem _ hw)
        rwa [decide_eq_true_eq] at this
  rw [hchk] at e5b
  simp only [e5b, ↓reduceIte, Option.bind_some, live12]

end Go.Hd

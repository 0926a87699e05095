/- The law HeadFolds. -/
import Derived.Test.YtppghnjcgliekaaDoorHd5
namespace Go.Hd
open Go Go.Ev
set_option maxRecDepth 100000

/-! ### the document's answer -/
theorem L15a_eq (n v : List UInt8) (hv : v.length ≤ 9223372036854775807) : L15_0 ((n, v, (0:Int), ()), ()) = some (if okv v then .inl ((n, v, ()), ()) else .inr (((), (), ()), ())) := by
  have hF : (9223372036854775807 : Nat) < FUEL := by unfold FUEL; omega
  have h := walk_list (f := B15_0) (fun (_ : Unit) i => ((n, v, (i : Int), ()), ())) (List.range v.length) (fun a _ => if (!badR v a) = true then .inl () else .inr (.inr (((), (), ()), ()))) (fun _ => .inl ((n, v, ()), ())) (b := ())
    (fun b i a hi ha => by
      obtain ⟨rfl, hi⟩ := range_get _ _ _ hi ha
      have e1 : decide ((a : Int) = 0) = decide (a = 0) := by rw [decide_eq_decide]; omega
      have e2 : decide (((a + 1 : Nat) : Int) = ((v.length : Nat) : Int)) = decide (a + 1 = v.length) := by rw [decide_eq_decide]; omega
      simp only [B15_0, nat_nn, nat_lt, hi, decide_true, Bool.and_self, cond_true, Int.toNat_natCast, e1, F29_eq, Option.bind_some, w64_nat (show a < 9223372036854775807 by omega), e2]
      unfold badR ctl
      simp only [show UInt8.toNat 32 = 32 from rfl]
      cases (decide ((v.getD a 0).toNat < 32) && !decide (v.getD a 0 = 9)) || decide (v.getD a 0 = 127)
      case true => rfl
      case false =>
        cases hb : bl (v.getD a 0)
        · simp only [cond_false, Bool.not_false, Bool.or_true, cond_true, Bool.false_and, Bool.or_self, ↓reduceIte]
        · by_cases he : a = 0 ∨ a + 1 = v.length
          · have he' : (decide (a = 0) || decide (a + 1 = v.length)) = true := by simpa using he
            simp only [he', Bool.or_true, Bool.true_or, Bool.not_true, cond_true, cond_false, Bool.and_self, Bool.false_eq_true, ↓reduceIte]
          · have he' : (decide (a = 0) || decide (a + 1 = v.length)) = false := by simpa using he
            have hlt : a + 1 < v.length := by omega
            simp only [hlt, nat_nn, he', decide_true, Bool.and_self, Bool.true_or, Bool.not_false, cond_true, cond_false, Bool.true_and, Bool.false_or]
            cases bl (v.getD (a + 1) 0) <;> rfl)
    (fun b => by simp only [List.length_range, B15_0, Int.lt_irrefl, decide_false, cond_false]) (by rw [List.length_range]; omega)
  rw [foldS_all] at h
  exact h

def stp16 (a : UInt8) (ws : List (List UInt8)) : List (List UInt8) :=
  if bl a = true then ws ++ [[a]] else ws.set (ws.length - 1) (ws.getD (ws.length - 1) [] ++ [a])

theorem set_last {α : Type} (l : List α) (x y : α) : (l ++ [x]).set l.length y = l ++ [y] := by
  induction l with
  | nil => rfl
  | cons a l ih => simp

theorem get_last {α : Type} (l : List α) (x d : α) : (l ++ [x]).getD l.length d = x := by
  rw [List.getD_eq_getElem?_getD, List.getElem?_append_right (Nat.le_refl _)]; simp

theorem fold16 : ∀ (v : List UInt8) (ws : List (List UInt8)) (cur : List UInt8), v.foldl (fun ws a => stp16 a ws) (ws ++ [cur]) = ws ++ ((cur ++ (w1 v).1) :: (w1 v).2)
  | [], ws, cur => by simp [w1]
  | a :: t, ws, cur => by
    have hl : (ws ++ [cur]).length - 1 = ws.length := by simp
    rw [List.foldl_cons]
    by_cases hb : bl a = true
    · have e : stp16 a (ws ++ [cur]) = (ws ++ [cur]) ++ [[a]] := by simp only [stp16, hb, ↓reduceIte]
      rw [e, fold16 t (ws ++ [cur]) [a]]
      simp [w1, hb]
    · have e : stp16 a (ws ++ [cur]) = ws ++ [cur ++ [a]] := by
        simp only [stp16, hb, Bool.false_eq_true, ↓reduceIte, hl, set_last, get_last]
      rw [e, fold16 t ws (cur ++ [a])]
      simp [w1, hb]

theorem F16_eq (v : List UInt8) (hv : v.length ≤ 2000) : F16 ((v, ()), ()) = some ((), ((([32] ++ (w1 v).1) :: (w1 v).2), ())) := by
  have hF := FUEL_big
  have h := walk_listI (f := B16_0) (fun (ws : List (List UInt8)) i => ((v, (), (i : Int), ()), (ws, ()))) v (fun a ws => .inl (stp16 a ws)) (fun ws => (((), ()), (ws, ())))
    (fun ws i => 1 ≤ ws.length ∧ ws.length ≤ i + 1 ∧ ∀ w ∈ ws, w.length ≤ i + 1) (b := [[32]])
    (fun ws i a hI hi ha => by
      obtain ⟨i1, i2, i3⟩ := hI
      left
      have hget : ∀ (l : List (List UInt8)) (j : Nat), (∀ w ∈ l, w.length ≤ i + 1) → (l.getD j []).length ≤ i + 1 := by
        intro l j hl
        rw [List.getD_eq_getElem?_getD]
        cases hh : l[j]? with
        | none => simp
        | some w => exact hl w (List.mem_of_getElem? hh)
      have hsub : List.take (i + 1 - i) (List.drop i v) = [a] := by
        rw [List.drop_eq_getElem_cons hi, show i + 1 - i = 1 by omega, List.take_succ_cons, List.take_zero]
        have := ha 0
        rw [List.getD_eq_getElem?_getD, List.getElem?_eq_getElem hi] at this
        simpa using this
      refine ⟨stp16 a ws, rfl, ?_, ?_⟩
      · unfold stp16
        split
        · refine ⟨by simp, by simp; omega, fun w hw => ?_⟩
          rcases List.mem_append.mp hw with h | h
          · have := i3 w h; omega
          · rw [List.mem_singleton] at h; subst h; simp
        · refine ⟨by simpa using i1, by rw [List.length_set]; omega, fun w hw => ?_⟩
          rcases List.mem_or_eq_of_mem_set hw with h | h
          · have := i3 w h; omega
          · subst h
            have := hget ws (ws.length - 1) i3
            rw [List.length_append, List.length_singleton]; omega
      · have hc : decide ((i : Int) ≤ ((i + 1 : Nat) : Int)) = true := by rw [decide_eq_true_eq]; omega
        have hc2 : decide (((i + 1 : Nat) : Int) ≤ ((v.length : Nat) : Int)) = true := by rw [decide_eq_true_eq]; omega
        have hby : bytesOK (ws.length + (List.length ([([]:List UInt8)]:List (List UInt8)))) 16 = true := by
          unfold bytesOK; rw [decide_eq_true_eq]; simp; omega
        simp only [B16_0, nat_nn, nat_lt, hi, decide_true, Bool.and_self, cond_true, Int.toNat_natCast, ha, F29_eq, Option.bind_some, hby, w64_nat (show i < 9223372036854775807 by omega)]
        unfold stp16
        by_cases hb : bl a = true
        · have hw : w64 ((((ws ++ [([]:List UInt8)]).length : Nat) : Int) - 1) = ((ws.length : Nat) : Int) := by
            rw [List.length_append, List.length_singleton, w64_id (by omega) (by omega)]; omega
          have hlt : ws.length < (ws ++ [([]:List UInt8)]).length := by simp
          have hfits : fits (([]:List UInt8).length + [a].length) = true := rfl
          simp only [hb, cond_true, Option.bind_some, hw, nat_nn, nat_lt, hlt, decide_true, Bool.and_self, hc, hc2, Int.toNat_natCast, hsub, get_last, hfits, set_last, List.nil_append, ↓reduceIte, w64_nat (show i < 9223372036854775807 by omega)]
        · have hb' := hb
          rw [Bool.not_eq_true] at hb'
          have hw : w64 (((ws.length : Nat) : Int) - 1) = ((ws.length - 1 : Nat) : Int) := by
            rw [w64_id (by omega) (by omega)]; omega
          have hlt : ws.length - 1 < ws.length := by omega
          have hfits : fits ((ws.getD (ws.length - 1) []).length + [a].length) = true := by
            have := hget ws (ws.length - 1) i3
            unfold fits; rw [decide_eq_true_eq, List.length_singleton]; omega
          simp only [hb', cond_false, cond_true, Option.bind_some, hw, nat_nn, nat_lt, hlt, decide_true, Bool.and_self, hc, hc2, Int.toNat_natCast, hsub, hfits, Bool.false_eq_true, ↓reduceIte, w64_nat (show i < 9223372036854775807 by omega)])
    (fun ws _ => by simp only [B16_0, Int.lt_irrefl, decide_false, cond_false]) (by omega) ⟨Nat.le_refl _, Nat.le_refl _, by simp⟩
  have h' : L16_0 ((v, (), (0:Int), ()), (([([32]:List UInt8)]:List (List UInt8)), ())) = _ := h
  simp only [F16, h', Option.bind_some]
  have hfold : ∀ (t : List UInt8) (ws : List (List UInt8)), foldS (fun a ws => (.inl (stp16 a ws) : List (List UInt8) ⊕ ((Unit × Unit) × (List (List UInt8) × Unit)))) (fun ws => (((), ()), (ws, ()))) ws t = (((), ()), (t.foldl (fun ws a => stp16 a ws) ws, ())) := by
    intro t
    induction t with
    | nil => intro ws; rfl
    | cons a t ih => intro ws; exact ih _
  rw [hfold]
  have := fold16 v [] [32]
  rw [List.nil_append] at this
  rw [this]
  rfl

theorem L15b_eq (n : List UInt8) (L : List (List UInt8)) (hL : L.length ≤ 1100002) : L15_1 ((n, (), (0:Int), ()), (L, ())) = some (if L.any (fun w => decide (901 < w.length)) then .inr (((), (), ()), ()) else .inl ((n, (), ()), (L, ()))) := by
  have hF := FUEL_big
  have h := walk_list (f := B15_1) (fun (_ : Unit) i => ((n, (), (i : Int), ()), (L, ()))) L (fun a _ => if (!decide (901 < a.length)) = true then .inl () else .inr (.inr (((), (), ()), ()))) (fun _ => .inl ((n, (), ()), (L, ()))) (b := ())
    (fun b i a hi ha => by
      have e : decide ((901:Int) < ((a.length : Nat) : Int)) = decide (901 < a.length) := by rw [decide_eq_decide]; omega
      simp only [B15_1, nat_nn, nat_lt, hi, decide_true, Bool.and_self, cond_true, Int.toNat_natCast, ha, e]
      cases decide (901 < a.length)
      · simp only [cond_false, Bool.not_false, ↓reduceIte, w64_nat (show i < 9223372036854775807 by omega)]
      · rfl)
    (fun b => by simp only [B15_1, Int.lt_irrefl, decide_false, cond_false]) (by omega)
  rw [foldS_all] at h
  have h' : L15_1 ((n, (), (0:Int), ()), (L, ())) = _ := h
  rw [h']
  have : (L.all fun a => !decide (901 < a.length)) = !(L.any fun a => decide (901 < a.length)) := by
    induction L with
    | nil => rfl
    | cons a L ih => simp only [List.all_cons, List.any_cons, Bool.not_or, Bool.and_eq_true, List.not_any_eq_all_not]
  rw [this]
  cases L.any fun a => decide (901 < a.length) <;> rfl

/-- lines of words -/
def fw : List UInt8 → List UInt8 → List (List UInt8) → List UInt8 × List UInt8
  | out, now, [] => (out, now)
  | out, now, w :: ws => if 78 < now.length + w.length then fw (out ++ now ++ [13, 10]) w ws else fw out (now ++ w) ws

def tot (ws : List (List UInt8)) : Nat := (ws.map fun w => w.length + 2).sum

theorem fw_len : ∀ (ws : List (List UInt8)) (out now : List UInt8), (fw out now ws).1.length + (fw out now ws).2.length ≤ out.length + now.length + tot ws
  | [], out, now => by simp [fw, tot]
  | w :: ws, out, now => by
    unfold fw tot
    rw [List.map_cons, List.sum_cons]
    split
    · have := fw_len ws (out ++ now ++ [13, 10]) w
      unfold tot at this
      simp only [List.length_append, List.length_cons, List.length_nil] at this
      omega
    · have := fw_len ws out (now ++ w)
      unfold tot at this
      simp only [List.length_append] at this
      omega

theorem L15c_iter (L : List (List UInt8)) : ∀ (ws : List (List UInt8)) (k i : Nat) (out now : List UInt8), i ≤ L.length → L.drop i = ws → L.length ≤ 1100002 → out.length + now.length + tot ws ≤ 100000 → ws.length < k →
    iter B15_2 k (((), out, now, (i : Int), ()), (L, ())) = some (((fw out now ws).1, (fw out now ws).2, ()), ())
  | _, 0, _, _, _, _, _, _, _, h => absurd h (Nat.not_lt_zero _)
  | [], k + 1, i, out, now, hi, hd, _, _, _ => by
    have hl : L.length ≤ i := List.drop_eq_nil_iff.mp hd
    have : decide (i < L.length) = false := by rw [decide_eq_false_iff_not]; omega
    simp only [iter, B15_2, nat_lt, this, cond_false, fw]
  | w :: ws, k + 1, i, out, now, hi, hd, hLen, htot, hk => by
    have hlt : i < L.length := by
      rcases Nat.lt_or_ge i L.length with h | h
      · exact h
      · rw [List.drop_eq_nil_iff.mpr h] at hd; cases hd
    have e := List.drop_eq_getElem_cons hlt
    rw [hd] at e
    obtain ⟨e1, e2⟩ := List.cons.inj e
    have hg : L.getD i [] = w := by rw [List.getD_eq_getElem?_getD, List.getElem?_eq_getElem hlt, e1]; rfl
    have ht : tot (w :: ws) = w.length + 2 + tot ws := by simp [tot]
    rw [ht] at htot
    have hw : w64 (((now.length : Nat) : Int) + ((w.length : Nat) : Int)) = ((now.length + w.length : Nat) : Int) := by
      rw [w64_id (by omega) (by omega)]; omega
    have hc : decide ((78:Int) < ((now.length + w.length : Nat) : Int)) = decide (78 < now.length + w.length) := by rw [decide_eq_decide]; omega
    have f1 : fits (out.length + now.length) = true := by unfold fits; rw [decide_eq_true_eq]; omega
    have f2 : fits ((out ++ now).length + ([13, 10]:List UInt8).length) = true := by unfold fits; rw [decide_eq_true_eq]; simp; omega
    have f3 : fits (([]:List UInt8).length + w.length) = true := by unfold fits; rw [decide_eq_true_eq]; simp; omega
    have f4 : fits (now.length + w.length) = true := by unfold fits; rw [decide_eq_true_eq]; omega
    simp only [iter, B15_2, nat_lt, nat_nn, hlt, decide_true, Bool.and_self, cond_true, Int.toNat_natCast, hg, hw, hc, f1, f2, fw, w64_nat (show i < 9223372036854775807 by omega)]
    by_cases h : 78 < now.length + w.length
    · have ih := L15c_iter L ws k (i + 1) (out ++ now ++ [13, 10]) w hlt e2.symm hLen (by simp only [List.length_append, List.length_cons, List.length_nil]; omega) (by simp only [List.length_cons] at hk; omega)
      simp only [h, decide_true, cond_true, Option.bind_some, nat_nn, hlt, Bool.and_self, hg, f3, ↓reduceIte, List.nil_append, Int.toNat_natCast, nat_lt, decide_true, w64_nat (show i < 9223372036854775807 by omega)]
      exact ih
    · have ih := L15c_iter L ws k (i + 1) out (now ++ w) hlt e2.symm hLen (by simp only [List.length_append]; omega) (by simp only [List.length_cons] at hk; omega)
      simp only [h, decide_false, cond_false, Option.bind_some, nat_nn, hlt, decide_true, Bool.and_self, cond_true, hg, f4, ↓reduceIte, Int.toNat_natCast, nat_lt, w64_nat (show i < 9223372036854775807 by omega)]
      exact ih

def lines (n v : List UInt8) : List UInt8 :=
  (fw [] (n ++ [58] ++ ([32] ++ (w1 v).1)) (w1 v).2).1 ++ (fw [] (n ++ [58] ++ ([32] ++ (w1 v).1)) (w1 v).2).2 ++ [13, 10]

def fold (n v : List UInt8) : (List UInt8 × Int × Unit) :=
  if rn n = true then
    (if okv v = true then (if 1024 < v.length ∨ lng v = true then ([], 6, ()) else (lines n v, 0, ())) else ([], 4, ()))
  else ([], 4, ())

theorem tot_le : ∀ ws : List (List UInt8), (∀ w ∈ ws, wordOK w) → tot ws ≤ 3 * ws.flatten.length
  | [], _ => Nat.le_refl _
  | w :: ws, h => by
    have ih := tot_le ws fun x hx => h x (List.mem_cons_of_mem _ hx)
    obtain ⟨b, t, rfl, _, _⟩ := h w (List.mem_cons_self ..)
    simp only [tot, List.map_cons, List.sum_cons, List.flatten_cons, List.length_append, List.length_cons] at *
    omega

theorem ws_len : ∀ ws : List (List UInt8), (∀ w ∈ ws, wordOK w) → ws.length ≤ ws.flatten.length
  | [], _ => Nat.le_refl _
  | w :: ws, h => by
    have ih := ws_len ws fun x hx => h x (List.mem_cons_of_mem _ hx)
    obtain ⟨b, t, rfl, _, _⟩ := h w (List.mem_cons_self ..)
    simp only [List.flatten_cons, List.length_append, List.length_cons] at *
    omega

theorem w1_lens (v : List UInt8) : (w1 v).1.length + (w1 v).2.flatten.length = v.length := by
  conv => rhs; rw [w1_join v]
  rw [List.length_append]

theorem F15_eq (n v : List UInt8) (hn : n.length ≤ 9223372036854775807) (hv : v.length ≤ 9223372036854775807) : F15 ((n, v, ()), ()) = some (fold n v, ()) := by
  have hF := FUEL_big
  simp only [F15, F31_eq n hn, Option.bind_some, fold]
  by_cases hrn : rn n = true
  case neg =>
    rw [Bool.not_eq_true] at hrn
    simp only [hrn, Bool.not_false, cond_true, Bool.false_eq_true, ↓reduceIte]
  simp only [hrn, Bool.not_true, cond_false, ↓reduceIte, L15a_eq n v hv]
  by_cases hok : okv v = true
  case neg =>
    rw [Bool.not_eq_true] at hok
    simp only [hok, Bool.false_eq_true, ↓reduceIte, Option.bind_some]
  have e : decide ((1024:Int) < ((v.length : Nat) : Int)) = decide (1024 < v.length) := by rw [decide_eq_decide]; omega
  simp only [hok, ↓reduceIte, Option.bind_some, e]
  by_cases hlen : 1024 < v.length
  · simp only [hlen, decide_true, cond_true, true_or, ↓reduceIte]
  have hl := w1_lens v
  have h1 := ws_len _ (w1_snd v)
  have h2 := tot_le _ (w1_snd v)
  have hn24 : n.length ≤ 24 := by
    unfold rn at hrn
    simp only [Bool.and_eq_true, decide_eq_true_eq] at hrn
    exact hrn.2.2
  simp only [hlen, decide_false, cond_false, false_or, F16_eq v (by omega), Option.bind_some]
  have e15 := L15b_eq n (([32] ++ (w1 v).1) :: (w1 v).2) (by simp only [List.length_cons]; omega)
  have hany : (([32] ++ (w1 v).1) :: (w1 v).2).any (fun w => decide (901 < w.length)) = lng v := by
    rw [List.any_cons]
    unfold lng
    congr 1
    rw [decide_eq_decide, List.length_append, List.length_singleton]
    omega
  rw [hany] at e15
  simp only [e15]
  cases hlng : lng v
  case true => rfl
  have c1 : decide ((0:Int) < (((([32] ++ (w1 v).1) :: (w1 v).2).length : Nat) : Int)) = true := by rw [decide_eq_true_eq, List.length_cons]; omega
  have hg : ((([32] ++ (w1 v).1) :: (w1 v).2).getD 0 ([]:List UInt8)) = [32] ++ (w1 v).1 := rfl
  have f1 : fits (n.length + ([58]:List UInt8).length) = true := by unfold fits; rw [decide_eq_true_eq]; simp; omega
  have f2 : fits ((n ++ [58]).length + ([32] ++ (w1 v).1).length) = true := by
    unfold fits; rw [decide_eq_true_eq]; simp only [List.length_append, List.length_cons, List.length_nil]; omega
  have hloop : L15_2 (((), ([]:List UInt8), (n ++ [58] ++ ([32] ++ (w1 v).1)), (1:Int), ()), ((([32] ++ (w1 v).1) :: (w1 v).2), ())) = _ :=
    L15c_iter (([32] ++ (w1 v).1) :: (w1 v).2) (w1 v).2 FUEL 1 [] (n ++ [58] ++ ([32] ++ (w1 v).1)) (by simp) rfl (by simp only [List.length_cons]; omega)
      (by simp only [List.length_append, List.length_cons, List.length_nil]; omega) (by omega)
  have hfl := fw_len (w1 v).2 [] (n ++ [58] ++ ([32] ++ (w1 v).1))
  simp only [List.length_append, List.length_cons, List.length_nil] at hfl
  simp only [Bool.false_eq_true, ↓reduceIte, Option.bind_some, f1, c1, cond_true, hg, f2, hloop]
  unfold lines
  generalize fw [] (n ++ [58] ++ ([32] ++ (w1 v).1)) (w1 v).2 = o at *
  have f3 : fits (o.1.length + o.2.length) = true := by unfold fits; rw [decide_eq_true_eq]; omega
  have f4 : fits ((o.1 ++ o.2).length + ([13, 10]:List UInt8).length) = true := by
    unfold fits; rw [decide_eq_true_eq]; simp only [List.length_append, List.length_cons, List.length_nil]; omega
  simp only [f3, f4, cond_true]

/-! ### the program's answer -/
theorem L35_iter (c : UInt8) (r : List UInt8) (hr : ∀ d, r.head? = some d → bl d = true) : ∀ (t p : List UInt8) (k : Nat), (∀ x ∈ t, bl x = false) → p.length + t.length + r.length ≤ 1000000 → t.length < k →
    iter B35_0 k (((), ((p.length + 1 : Nat) : Int), ()), ((c :: (p ++ t ++ r), ()), ())) = some (((), ((p.length + t.length + 1 : Nat) : Int), ()), ((c :: (p ++ t ++ r), ()), ()))
  | _, _, 0, _, _, h => absurd h (Nat.not_lt_zero _)
  | [], p, k + 1, _, hlen, _ => by
    cases r with
    | nil =>
      have hl : (c :: (p ++ [] ++ [])).length = p.length + 1 := by simp
      have d1 : decide (p.length + 1 < (c :: (p ++ [] ++ [])).length) = false := by rw [hl]; simp
      simp only [iter, B35_0, nat_nn, nat_lt, d1, Bool.and_false, Bool.not_false, Bool.or_true, cond_true, cond_false, List.length_nil, Nat.add_zero]
    | cons d r =>
      have hl : (c :: (p ++ [] ++ d :: r)).length = p.length + 1 + (r.length + 1) := by simp; omega
      have d1 : decide (p.length + 1 < (c :: (p ++ [] ++ d :: r)).length) = true := by rw [hl, decide_eq_true_eq]; omega
      have hg : (c :: (p ++ [] ++ d :: r)).getD (p.length + 1) 0 = d := by
        rw [List.getD_cons_succ, List.append_nil, List.getD_eq_getElem?_getD, List.getElem?_append_right (Nat.le_refl _)]; simp
      have hb := hr d rfl
      simp only [iter, B35_0, nat_nn, nat_lt, d1, Bool.and_self, Bool.true_or, cond_true, Int.toNat_natCast, hg, F25_eq, hb, Option.bind_some, Bool.not_true, cond_false, List.length_nil, Nat.add_zero]
  | x :: t, p, k + 1, ht, hlen, hk => by
    have hl : (c :: (p ++ x :: t ++ r)).length = p.length + 1 + (t.length + 1 + r.length) := by simp; omega
    have d1 : decide (p.length + 1 < (c :: (p ++ x :: t ++ r)).length) = true := by rw [hl, decide_eq_true_eq]; omega
    have hg : (c :: (p ++ x :: t ++ r)).getD (p.length + 1) 0 = x := by
      rw [List.getD_cons_succ, List.append_assoc, List.getD_eq_getElem?_getD, List.getElem?_append_right (Nat.le_refl _)]; simp
    have hb := ht x (List.mem_cons_self ..)
    simp only [List.length_cons] at hlen hk
    simp only [iter, B35_0, nat_nn, nat_lt, d1, Bool.and_self, Bool.true_or, cond_true, Int.toNat_natCast, hg, F25_eq, hb, Option.bind_some, Bool.not_false, w64_nat (show p.length + 1 < 9223372036854775807 by omega)]
    have ih := L35_iter c r hr t (p ++ [x]) k (fun y hy => ht y (List.mem_cons_of_mem _ hy)) (by rw [List.length_append, List.length_singleton]; omega) (by omega)
    have e1 : p ++ [x] ++ t ++ r = p ++ x :: t ++ r := by simp
    have e2 : (p ++ [x]).length = p.length + 1 := by simp
    rw [e1, e2] at ih
    rw [ih, List.length_cons, show p.length + 1 + t.length + 1 = p.length + (t.length + 1) + 1 by omega]

theorem F35_eq (c : UInt8) (t r : List UInt8) (ht : ∀ x ∈ t, bl x = false) (hr : ∀ d, r.head? = some d → bl d = true) (hlen : t.length + r.length ≤ 1000000) :
    F35 (((), ()), ((c :: t ++ r, ()), ())) = some (c :: t, ((r, ()), ())) := by
  have hF := FUEL_big
  have h : L35_0 (((), (1:Int), ()), ((c :: (t ++ r), ()), ())) = _ := L35_iter c r hr t [] FUEL ht (by simpa using hlen) (by omega)
  have hl : (c :: (t ++ r)).length = t.length + 1 + r.length := by simp; omega
  have d1 : decide (((t.length + 1 : Nat) : Int) ≤ ((((c :: (t ++ r)).length) : Nat) : Int)) = true := by rw [hl, decide_eq_true_eq]; omega
  have e1 : List.take (t.length + 1) (c :: (t ++ r)) = c :: t := by simp
  have e2 : List.drop (t.length + 1) (c :: (t ++ r)) = r := by simp
  have e3 : List.take ((c :: (t ++ r)).length - (t.length + 1)) r = r := by rw [hl]; exact List.take_of_length_le (by omega)
  rw [List.cons_append]
  simp only [F35, h, Option.bind_some, List.nil_append, List.length_nil, Nat.zero_add, nat_nn, d1, Int.le_refl, decide_true, Bool.and_self, cond_true, Int.toNat_natCast, e1, e2, e3]

theorem flat_head (ws : List (List UInt8)) (h : ∀ w ∈ ws, wordOK w) : ∀ d, ws.flatten.head? = some d → bl d = true := by
  cases ws with
  | nil => intro d hd; cases hd
  | cons w ws =>
    obtain ⟨b, t, rfl, hb, _⟩ := h w (List.mem_cons_self ..)
    intro d hd
    simp at hd
    rw [← hd]
    exact hb

theorem L14_iter : ∀ (ws : List (List UInt8)) (k : Nat) (out now : List UInt8), (∀ w ∈ ws, wordOK w) → out.length + now.length + tot ws ≤ 100000 → ws.flatten.length ≤ 100000 → ws.length < k →
    iter B14_0 k ((out ++ now, ((now.length : Nat) : Int), false, (), ((), ()), ()), ((ws.flatten, ()), ())) = some ((((fw out now ws).1 ++ (fw out now ws).2), ()), ())
  | _, 0, _, _, _, _, _, h => absurd h (Nat.not_lt_zero _)
  | [], k + 1, out, now, _, _, _, _ => by
    simp only [iter, B14_0, List.flatten_nil, decide_true, Bool.not_true, cond_false, fw]
  | w :: ws, k + 1, out, now, hw, htot, hfl, hk => by
    have hr := flat_head ws fun x hx => hw x (List.mem_cons_of_mem _ hx)
    obtain ⟨c, t, rfl, hc, ht⟩ := hw w (List.mem_cons_self ..)
    have htt : tot ((c :: t) :: ws) = (c :: t).length + 2 + tot ws := by simp [tot]
    rw [htt] at htot
    simp only [List.flatten_cons, List.length_append, List.length_cons] at hfl htot hk
    have e := F35_eq c t ws.flatten ht hr (by omega)
    have hne : decide ((c :: t) ++ ws.flatten = []) = false := by simp
    have hs : w64 (((now.length : Nat) : Int) + (((c :: t).length : Nat) : Int)) = ((now.length + (c :: t).length : Nat) : Int) := by
      rw [List.length_cons, w64_id (by omega) (by omega)]; omega
    have hd : decide ((78:Int) < ((now.length + (c :: t).length : Nat) : Int)) = decide (78 < now.length + (c :: t).length) := by rw [decide_eq_decide]; omega
    simp only [iter, B14_0, List.flatten_cons, hne, Bool.not_false, cond_true, e, Option.bind_some, hs, hd, Bool.and_true, fw]
    have f2 : fits ((out ++ now).length + ([13, 10]:List UInt8).length) = true := by unfold fits; rw [decide_eq_true_eq]; simp; omega
    by_cases h : 78 < now.length + (c :: t).length
    · have ih := L14_iter ws k (out ++ now ++ [13, 10]) (c :: t) (fun x hx => hw x (List.mem_cons_of_mem _ hx)) (by simp only [List.length_append, List.length_cons, List.length_nil]; omega) (by omega) (by omega)
      have f3 : fits ((out ++ now ++ [13, 10]).length + (c :: t).length) = true := by unfold fits; rw [decide_eq_true_eq]; simp; omega
      have hz : w64 ((0:Int) + (((c :: t).length : Nat) : Int)) = (((c :: t).length : Nat) : Int) := by rw [Int.zero_add, List.length_cons]; exact w64_id (by omega) (by omega)
      simp only [h, decide_true, cond_true, f2, Option.bind_some, f3, hz, ↓reduceIte]
      exact ih
    · have ih := L14_iter ws k out (now ++ (c :: t)) (fun x hx => hw x (List.mem_cons_of_mem _ hx)) (by simp only [List.length_append, List.length_cons]; omega) (by omega) (by omega)
      have f3 : fits ((out ++ now).length + (c :: t).length) = true := by unfold fits; rw [decide_eq_true_eq]; simp; omega
      simp only [h, decide_false, cond_false, Option.bind_some, f3, cond_true, hs, ↓reduceIte]
      rw [List.append_assoc]
      rw [List.length_append] at ih
      exact ih

theorem F14_eq (n v : List UInt8) (hn : n.length ≤ 9223372036854775807) (hv : v.length ≤ 9223372036854775807) : F14 ((n, v, ()), ()) = some (fold n v, ()) := by
  have hF := FUEL_big
  simp only [F14, F27_eq n hn, Option.bind_some, fold]
  by_cases hrn : rn n = true
  case neg =>
    rw [Bool.not_eq_true] at hrn
    simp only [hrn, Bool.not_false, cond_true, Bool.false_eq_true, ↓reduceIte]
  simp only [hrn, Bool.not_true, cond_false, ↓reduceIte, F34_eq v hv, Option.bind_some]
  by_cases hok : okv v = true
  case neg =>
    rw [Bool.not_eq_true] at hok
    simp only [hok, Bool.false_eq_true, ↓reduceIte, show decide ((4:Int) = 0) = false from rfl, Bool.not_false, cond_true]
  simp only [hok, ↓reduceIte]
  by_cases hbig : 1024 < v.length ∨ lng v = true
  · simp only [hbig, ↓reduceIte, show decide ((6:Int) = 0) = false from rfl, Bool.not_false, cond_true]
  have hlen : v.length ≤ 1024 := by omega
  have hl := w1_lens v
  have h1 := ws_len _ (w1_snd v)
  have h2 := tot_le _ (w1_snd v)
  have hn24 : n.length ≤ 24 := by
    unfold rn at hrn
    simp only [Bool.and_eq_true, decide_eq_true_eq] at hrn
    exact hrn.2.2
  have f1 : fits (n.length + ([58]:List UInt8).length) = true := by unfold fits; rw [decide_eq_true_eq]; simp; omega
  have f2 : fits (([32]:List UInt8).length + v.length) = true := by unfold fits; rw [decide_eq_true_eq]; simp; omega
  simp only [hbig, ↓reduceIte, decide_true, Bool.not_true, cond_false, f1, f2, cond_true]
  have hloop : L14_0 (((n ++ [58]), (((n ++ ([58]:List UInt8)).length : Nat) : Int), true, (), ((), ()), ()), ((([32] ++ v), ()), ())) = some ((((fw [] (n ++ [58] ++ ([32] ++ (w1 v).1)) (w1 v).2).1 ++ (fw [] (n ++ [58] ++ ([32] ++ (w1 v).1)) (w1 v).2).2), ()), ()) := by
    obtain ⟨k, hk⟩ : ∃ k, FUEL = k + 1 := ⟨FUEL - 1, by omega⟩
    show loopOf B14_0 _ = _
    unfold loopOf
    rw [hk]
    have e := F35_eq 32 (w1 v).1 (w1 v).2.flatten (w1_fst v) (flat_head _ (w1_snd v)) (by omega)
    have hj : ([32] ++ v) = 32 :: (w1 v).1 ++ (w1 v).2.flatten := by
      show 32 :: v = 32 :: ((w1 v).1 ++ (w1 v).2.flatten)
      rw [← w1_join v]
    rw [hj]
    have hne : decide ((32 :: (w1 v).1) ++ (w1 v).2.flatten = []) = false := by simp
    have f3 : fits ((n ++ [58]).length + (32 :: (w1 v).1).length) = true := by
      unfold fits; rw [decide_eq_true_eq]; simp only [List.length_append, List.length_cons, List.length_nil]; omega
    have hs : w64 ((((n ++ ([58]:List UInt8)).length : Nat) : Int) + (((32 :: (w1 v).1).length : Nat) : Int)) = (((n ++ [58] ++ ([32] ++ (w1 v).1)).length : Nat) : Int) := by
      simp only [List.length_append, List.length_cons, List.length_nil]
      rw [w64_id (by omega) (by omega)]; omega
    simp only [iter, B14_0, hne, Bool.not_false, cond_true, e, Option.bind_some, Bool.not_true, Bool.and_false, cond_false, f3, hs]
    exact L14_iter (w1 v).2 k [] (n ++ [58] ++ ([32] ++ (w1 v).1)) (w1_snd v) (by simp only [List.length_append, List.length_cons, List.length_nil]; omega) (by omega) (by omega)
  have hfl := fw_len (w1 v).2 [] (n ++ [58] ++ ([32] ++ (w1 v).1))
  simp only [List.length_append, List.length_cons, List.length_nil] at hfl
  simp only [hloop, Option.bind_some]
  unfold lines
  generalize fw [] (n ++ [58] ++ ([32] ++ (w1 v).1)) (w1 v).2 = o at *
  have f4 : fits ((o.1 ++ o.2).length + ([13, 10]:List UInt8).length) = true := by
    unfold fits; rw [decide_eq_true_eq]; simp only [List.length_append, List.length_cons, List.length_nil]; omega
  simp only [f4, cond_true]

theorem law4 (n v : List UInt8) (hn : n.length ≤ 9223372036854775807) (hv : v.length ≤ 9223372036854775807) : F4 ((n, v, ()), ()) = some (true, ()) := by
  simp only [F4, F4a, F14_eq n v hn hv, F15_eq n v hn hv, live12, Option.bind_some, decide_true, Bool.and_self]

end Go.Hd

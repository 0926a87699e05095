/- The law HeadInserts. -/
import Derived.Test.YtppghnjcgliekaaDoorHq4
namespace Go.Hd
open Go Go.Ev
set_option maxRecDepth 100000

def shift (d : Nat) (f : Fld) : Fld := (f.1, (f.2.1, (f.2.2.1 + (d : Int), ())))

theorem spl_more : ∀ (k : Nat) (rest : List UInt8) (at' : Nat) (out : List Fld) (o : List Fld) (a : Nat), spl k rest at' out = .inl (o, a) → out.length ≤ o.length
  | 0, _, _, out, o, a, h => by
    simp only [spl, Sum.inl.injEq, Prod.mk.injEq] at h
    rw [h.1]
    exact Nat.le_refl _
  | k + 1, rest, at', out, o, a, h => by
    unfold spl at h
    split at h
    · simp only [Sum.inl.injEq, Prod.mk.injEq] at h
      rw [h.1]
      exact Nat.le_refl _
    · split at h
      · simp only [Sum.inl.injEq, Prod.mk.injEq] at h
        rw [h.1]
        exact Nat.le_refl _
      · split at h
        · cases h
        · split at h
          · have := spl_more k _ _ _ o a h
            rwa [addl_len] at this
          · split at h
            · cases h
            · split at h
              · split at h
                · cases h
                · have := spl_more k _ _ _ o a h
                  rw [List.length_append] at this
                  omega
              · cases h

theorem addl_shift (d : Nat) (f : Fld) (out : List Fld) (l : List UInt8) (h : 0 < out.length) : addl (f :: out.map (shift d)) l = f :: (addl out l).map (shift d) := by
  unfold addl
  have e1 : (f :: out.map (shift d)).length - 1 = (out.length - 1) + 1 := by simp only [List.length_cons, List.length_map]; omega
  have e2 : (f :: out.map (shift d)).getD ((out.length - 1) + 1) nof = shift d (out.getD (out.length - 1) nof) := by
    rw [List.getD_cons_succ, List.getD_eq_getElem?_getD, List.getD_eq_getElem?_getD, List.getElem?_map, List.getElem?_eq_getElem (by omega)]
    rfl
  rw [e1, e2, List.set_cons_succ, List.map_set]
  rfl

theorem rn_blank (c : UInt8) (t : List UInt8) (hb : bl c = true) (j : Nat) : rn ((c :: t).take j) = false := by
  cases j with
  | zero => rfl
  | succ j =>
    have : nmc c = false := by
      unfold bl at hb
      rw [Bool.or_eq_true, decide_eq_true_eq, decide_eq_true_eq] at hb
      rcases hb with rfl | rfl <;> decide
    unfold rn
    rw [List.take_succ_cons, List.all_cons, this]
    rfl

/-- a field ahead of others -/
theorem spl_ahead (d : Nat) (f : Fld) : ∀ (k : Nat) (rest : List UInt8) (at' : Nat) (out o : List Fld) (a : Nat), spl k rest at' out = .inl (o, a) → o.length < 40 → spl k rest (at' + d) (f :: out.map (shift d)) = .inl (f :: o.map (shift d), a + d)
  | 0, _, _, out, o, a, h, _ => by
    simp only [spl, Sum.inl.injEq, Prod.mk.injEq] at h
    rw [← h.1, ← h.2]
    rfl
  | k + 1, rest, at', out, o, a, h, ho => by
    unfold spl at h ⊢
    by_cases hr : rest = []
    · rw [if_pos hr] at h ⊢
      simp only [Sum.inl.injEq, Prod.mk.injEq] at h
      rw [← h.1, ← h.2]
    · rw [if_neg hr] at h ⊢
      by_cases hl : (ln rest).1 = []
      · rw [if_pos hl] at h ⊢
        simp only [Sum.inl.injEq, Prod.mk.injEq] at h
        rw [← h.1, ← h.2, Nat.add_right_comm]
      · rw [if_neg hl] at h ⊢
        by_cases hlong : 1024 < (ln rest).1.length
        · rw [if_pos hlong] at h; cases h
        · rw [if_neg hlong] at h ⊢
          by_cases hb : bl ((ln rest).1.getD 0 0) = true
          · by_cases h0 : 0 < out.length
            · have c1 : (bl ((ln rest).1.getD 0 0) && decide (0 < out.length)) = true := by rw [hb, decide_eq_true h0]; rfl
              have c2 : (bl ((ln rest).1.getD 0 0) && decide (0 < (f :: out.map (shift d)).length)) = true := by rw [hb, decide_eq_true (by simp)]; rfl
              rw [if_pos c1] at h
              rw [if_pos c2, addl_shift d f out _ h0, Nat.add_right_comm]
              exact spl_ahead d f k _ _ _ o a h ho
            · exfalso
              have c1 : ¬ (bl ((ln rest).1.getD 0 0) && decide (0 < out.length)) = true := by rw [decide_eq_false h0]; simp
              rw [if_neg c1] at h
              cases hc : (ln rest).1 with
              | nil => exact hl hc
              | cons c t =>
                rw [hc] at h hb
                cases hf : fst 58 (c :: t) with
                | none => rw [hf] at h; cases h
                | some j =>
                  rw [hf] at h
                  simp only [rn_blank c t hb j, Bool.false_eq_true, ↓reduceIte] at h
                  cases h
          · have c1 : ¬ (bl ((ln rest).1.getD 0 0) && decide (0 < out.length)) = true := by rw [Bool.not_eq_true] at hb; rw [hb]; simp
            have c2 : ¬ (bl ((ln rest).1.getD 0 0) && decide (0 < (f :: out.map (shift d)).length)) = true := by rw [Bool.not_eq_true] at hb; rw [hb]; simp
            rw [if_neg c1] at h
            rw [if_neg c2]
            cases hf : fst 58 (ln rest).1 with
            | none => rw [hf] at h; cases h
            | some j =>
              rw [hf] at h
              simp only at h ⊢
              by_cases hrn : rn ((ln rest).1.take j) = true
              · rw [if_pos hrn] at h ⊢
                by_cases h40 : 40 ≤ out.length
                · rw [if_pos h40] at h; cases h
                · rw [if_neg h40] at h
                  have hm := spl_more k _ _ _ o a h
                  rw [List.length_append, List.length_singleton] at hm
                  have h40' : ¬ 40 ≤ (f :: out.map (shift d)).length := by simp only [List.length_cons, List.length_map]; omega
                  rw [if_neg h40']
                  have ih := spl_ahead d f k _ _ _ o a h ho
                  rw [List.map_append, ← List.cons_append, Nat.add_right_comm] at ih
                  exact ih
              · rw [if_neg hrn] at h; cases h

theorem spl_at : ∀ (k : Nat) (rest : List UInt8) (at' : Nat) (out o : List Fld) (a N : Nat), spl k rest at' out = .inl (o, a) → at' + rest.length ≤ N → (∀ f ∈ out, 0 ≤ f.2.2.1 ∧ f.2.2.1 ≤ (N : Int)) → a ≤ N ∧ ∀ f ∈ o, 0 ≤ f.2.2.1 ∧ f.2.2.1 ≤ (N : Int)
  | 0, _, _, out, o, a, N, h, hN, ho => by
    simp only [spl, Sum.inl.injEq, Prod.mk.injEq] at h
    rw [← h.1, ← h.2]
    exact ⟨by omega, ho⟩
  | k + 1, rest, at', out, o, a, N, h, hN, ho => by
    have hl := ln_le rest
    unfold spl at h
    split at h
    · simp only [Sum.inl.injEq, Prod.mk.injEq] at h
      rw [← h.1, ← h.2]
      exact ⟨by omega, ho⟩
    · split at h
      · simp only [Sum.inl.injEq, Prod.mk.injEq] at h
        rw [← h.1, ← h.2]
        exact ⟨by omega, ho⟩
      · split at h
        · cases h
        · split at h
          · next hc =>
            rw [Bool.and_eq_true, decide_eq_true_eq] at hc
            refine spl_at k _ _ _ o a N h (by rw [List.length_drop]; omega) fun f hf => ?_
            rcases List.mem_or_eq_of_mem_set hf with hm | rfl
            · exact ho f hm
            · have hmem : out.getD (out.length - 1) nof ∈ out := by
                rw [List.getD_eq_getElem?_getD, List.getElem?_eq_getElem (by omega)]
                exact List.getElem_mem _
              have := ho _ hmem
              exact this
          · split at h
            · cases h
            · split at h
              · split at h
                · cases h
                · refine spl_at k _ _ _ o a N h (by rw [List.length_drop]; omega) fun f hf => ?_
                  rcases List.mem_append.mp hf with hm | hm
                  · exact ho f hm
                  · rw [List.mem_singleton] at hm
                    subst hm
                    exact ⟨by simp only; omega, by simp only; omega⟩
              · cases h

theorem split_insert (n v b : List UInt8) (hn : rn n = true) (hok : okv v = true) (hl : lng v = false) (o : List Fld) (a : Nat) (h : spl (b.length + 1) b 0 [] = .inl (o, a)) (ho : o.length < 40) :
    split (lines n v ++ b) = ((n, (v, ((0 : Int), ()))) :: (o.map trf).map (shift (lines n v).length), ((a + (lines n v).length : Nat) : Int), 0, ()) := by
  have h1 := sp_lines n v b hn hok hl
  have h2 := spl_ahead (lines n v).length (n, (32 :: v, ((0 : Int), ()))) _ _ _ _ _ _ h ho
  rw [Nat.zero_add] at h2
  unfold split
  change fin (sp (lines n v ++ b) 0 []) = _
  rw [h1]
  change fin (spl (b.length + 1) b _ _) = _
  rw [show ([(n, (32 :: v, ((0 : Int), ())))] : List Fld) = (n, (32 :: v, ((0 : Int), ()))) :: ([] : List Fld).map (shift (lines n v).length) from rfl, h2]
  simp only [fin, List.map_cons, List.map_map, trf, trm_ok hok]
  rfl

theorem lines_len' (n v : List UInt8) : (lines n v).length ≤ n.length + 3 * v.length + 10 := by
  have hfl := fw_len (w1 v).2 [] (n ++ [58] ++ ([32] ++ (w1 v).1))
  have h2 := tot_le _ (w1_snd v)
  have hl := w1_lens v
  unfold lines
  simp only [List.length_append, List.length_cons, List.length_nil] at *
  omega

theorem spl_err : ∀ (k : Nat) (rest : List UInt8) (at' : Nat) (out : List Fld) (e : Nat × Int), spl k rest at' out = .inr e → e.2 ≠ 0
  | 0, _, _, out, e, h => by simp [spl] at h
  | k + 1, rest, at', out, e, h => by
    unfold spl at h
    split at h
    · cases h
    · split at h
      · cases h
      · split at h
        · cases h
          exact (by decide : (6:Int) ≠ 0)
        · split at h
          · exact spl_err k _ _ _ e h
          · split at h
            · cases h
              exact (by decide : (4:Int) ≠ 0)
            · split at h
              · split at h
                · cases h
                  exact (by decide : (6:Int) ≠ 0)
                · exact spl_err k _ _ _ e h
              · cases h
                exact (by decide : (4:Int) ≠ 0)

theorem fold_nil (n v : List UInt8) (h : ¬ (fold n v).2.1 = 0) : (fold n v).1 = [] := by
  unfold fold at h ⊢
  split
  · split
    · split
      · rfl
      · next h1 h2 h3 => simp only [h1, h2, h3, ↓reduceIte, not_true_eq_false] at h
    · rfl
  · rfl

theorem F19_eq (b n v : List UInt8) (hb : b.length ≤ 1050000) (hn : n.length ≤ 1100000) (hv : v.length ≤ 1100000) :
    F19 ((b, n, v, ()), ()) = some (((), (fold n v).2.1, ()), ((if (fold n v).2.1 = 0 then (fold n v).1 ++ b else []), ())) := by
  simp only [F19, F14_eq n v (by omega) (by omega), Option.bind_some]
  by_cases h : (fold n v).2.1 = 0
  · have hlen : (fold n v).1.length ≤ 4000 := by
      unfold fold at h ⊢
      split
      · next hrn =>
        rw [if_pos hrn] at h
        split
        · next hok =>
          rw [if_pos hok] at h
          split
          · simp
          · next hbig =>
            have hn24 : n.length ≤ 24 := by
              unfold rn at hrn
              simp only [Bool.and_eq_true, decide_eq_true_eq] at hrn
              exact hrn.2.2
            have := lines_len' n v
            simp only
            omega
        · simp
      · simp
    have hby : bytesOK ((fold n v).1.length + b.length) 1 = true := by unfold bytesOK; rw [decide_eq_true_eq]; omega
    simp only [h, decide_true, Bool.not_true, cond_false, hby, cond_true, ↓reduceIte]
  · simp only [h, decide_false, Bool.not_false, cond_true, ↓reduceIte]

theorem L8_eq (s : List UInt8) (l : List Fld) (x : Fld) (hs : s.length ≤ 1000000) (hl : l.length ≤ 1000) (hat : ∀ f ∈ l, 0 ≤ f.2.2.1 ∧ f.2.2.1 ≤ 1100000) :
    L8_0 F10 F11 F12 F15 F19 ((s, l, x :: l.map (shift s.length), (0:Int), ()), ()) = some (.inl ((), ())) := by
  have hF := FUEL_big
  have h := walk_list (f := B8_0 F10 F11 F12 F15 F19) (fun (_ : Unit) i => ((s, l, x :: l.map (shift s.length), (i : Int), ()), ())) l (fun a (_ : Unit) => .inl ()) (fun _ => .inl ((), ())) (b := ())
    (fun b i a hi ha => by
      have hm : a ∈ l := by
        have := ha a
        rw [List.getD_eq_getElem?_getD, List.getElem?_eq_getElem hi] at this
        rw [← show l[i] = a from this]
        exact List.getElem_mem hi
      have hlt : i + 1 < (x :: l.map (shift s.length)).length := by simp only [List.length_cons, List.length_map]; omega
      have hg : (x :: l.map (shift s.length)).getD (i + 1) (([]:List UInt8), (([]:List UInt8), ((0:Int), ()))) = shift s.length a := by
        have := ha a
        rw [List.getD_eq_getElem?_getD, List.getElem?_eq_getElem hi] at this
        rw [List.getD_cons_succ, List.getD_eq_getElem?_getD, List.getElem?_map, List.getElem?_eq_getElem hi]
        simp only [Option.map_some, Option.getD_some] at this ⊢
        rw [this]
      obtain ⟨a1, a2⟩ := hat a hm
      have hw : w64 (a.2.2.1 + ((s.length : Nat) : Int)) = a.2.2.1 + ((s.length : Nat) : Int) := w64_id (by omega) (by omega)
      simp only [B8_0, nat_lt, nat_nn, hi, hlt, decide_true, Bool.and_self, Bool.true_or, cond_true, cond_false, Int.toNat_natCast, ha, hg, hw, shift, Bool.not_true, Bool.or_self, w64_nat (show i < 9223372036854775807 by omega)])
    (fun b => by simp only [B8_0, Int.lt_irrefl, decide_false, cond_false]) (by omega)
  have hfold : ∀ t : List Fld, foldS (fun a (_ : Unit) => (.inl () : Unit ⊕ ((Unit × Unit) ⊕ ((Unit × Unit) × Unit)))) (fun _ => .inl ((), ())) () t = .inl ((), ()) := by
    intro t
    induction t with
    | nil => rfl
    | cons a t ih => exact ih
  rw [hfold] at h
  exact h

theorem law8 (b n v : List UInt8) (hb : b.length ≤ 1050000) (hn : n.length ≤ 1100000) (hv : v.length ≤ 1100000) : F8 ((b, n, v, ()), ()) = some (true, ()) := by
  have e15 := F15_eq n v (by omega) (by omega)
  have e19 := F19_eq b n v hb hn hv
  have e11 := F11_eq b (by omega)
  simp only [F8, F8a, e15, e19, e11, Option.bind_some, live12]
  by_cases h0 : (fold n v).2.1 = 0
  case neg =>
    simp only [h0, ↓reduceIte, decide_false, decide_true, Bool.not_true, Bool.not_false, Bool.and_false, Bool.or_false, List.length_nil, Bool.or_true, Bool.true_or, cond_true, cond_false, Bool.or_self, Bool.true_and, show decide ((0:Int) < ((0:Nat):Int)) = false from rfl]
    have hfit : fits ((fold n v).1.length + b.length) = true := by rw [fold_nil n v h0]; unfold fits; rw [decide_eq_true_eq, List.length_nil]; omega
    simp [hfit]
  obtain ⟨hrn, hok, hbig, hfold⟩ : rn n = true ∧ okv v = true ∧ ¬ (1024 < v.length ∨ lng v = true) ∧ fold n v = (lines n v, 0, ()) := by
    unfold fold at h0 ⊢
    by_cases hrn : rn n = true
    · by_cases hok : okv v = true
      · by_cases hbig : 1024 < v.length ∨ lng v = true
        · simp only [hrn, hok, hbig, ↓reduceIte] at h0
          omega
        · exact ⟨hrn, hok, hbig, by simp only [hrn, hok, hbig, ↓reduceIte]⟩
      · simp only [hrn, hok, ↓reduceIte, Bool.false_eq_true] at h0
        omega
    · simp only [hrn, ↓reduceIte, Bool.false_eq_true] at h0
      omega
  have hn24 : n.length ≤ 24 := by
    unfold rn at hrn
    simp only [Bool.and_eq_true, decide_eq_true_eq] at hrn
    exact hrn.2.2
  have hlng : lng v = false := by
    cases h : lng v
    · rfl
    · exact absurd (.inr h) hbig
  have hll := lines_len' n v
  have hfit : fits ((lines n v).length + b.length) = true := by unfold fits; rw [decide_eq_true_eq]; omega
  rw [hfold]
  simp only [hfit, ↓reduceIte, decide_true, Bool.not_true, Bool.or_self, Bool.true_or, cond_true, cond_false, Bool.false_and, Bool.false_or]
  have e10 := F10_eq (lines n v ++ b) (by rw [List.length_append]; omega)
  cases hs : spl (b.length + 1) b 0 [] with
  | inr e =>
    have hsp : split b = ([], ((e.1 : Nat) : Int), e.2, ()) := by unfold split; rw [hs]; rfl
    rw [hsp]
    by_cases he : e.2 = 0
    · exfalso
      exact spl_err _ _ _ _ _ hs he
    · simp only [he, decide_false, Bool.not_false, Bool.true_or, cond_true]
  | inl q =>
    obtain ⟨o, a⟩ := q
    have hsp : split b = (o.map trf, ((a : Nat) : Int), 0, ()) := by unfold split; rw [hs]; rfl
    have hfew : o.length ≤ 40 := by
      have := spl_few (b.length + 1) b 0 [] (Nat.zero_le _)
      rw [hs] at this
      simpa [fin] using this
    obtain ⟨ha, hat⟩ := spl_at _ _ _ _ _ _ b.length hs (by omega) (fun f hf => by cases hf)
    rw [hsp]
    have hl40 : decide ((40:Int) ≤ (((o.map trf).length : Nat) : Int)) = decide (40 ≤ o.length) := by rw [decide_eq_decide, List.length_map]; omega
    simp only [decide_true, Bool.not_true, Bool.false_or, hl40]
    by_cases h40 : 40 ≤ o.length
    · simp only [h40, decide_true, cond_true]
    · rw [split_insert n v b hrn hok hlng o a hs (by omega)] at e10
      have e8 := L8_eq (lines n v) (o.map trf) (n, (v, ((0 : Int), ()))) (by omega) (by rw [List.length_map]; omega) (fun f hf => by
        obtain ⟨g, hg, rfl⟩ := List.mem_map.mp hf
        have := hat g hg
        simp only [trf]
        omega)
      have d1 : decide ((0:Int) < ((((n, (v, ((0 : Int), ()))) :: (o.map trf).map (shift (lines n v).length)).length : Nat) : Int)) = true := by rw [decide_eq_true_eq, List.length_cons]; omega
      have d2 : w64 ((((o.map trf).length : Nat) : Int) + 1) = ((((n, (v, ((0 : Int), ()))) :: (o.map trf).map (shift (lines n v).length)).length : Nat) : Int) := by
        rw [w64_nat (by rw [List.length_map]; omega)]
        simp only [List.length_cons, List.length_map]
      have d3 : w64 (((a : Nat) : Int) + (((lines n v).length : Nat) : Int)) = ((a + (lines n v).length : Nat) : Int) := by
        rw [w64_id (by omega) (by omega)]; omega
      have hg : ((n, (v, ((0 : Int), ()))) :: (o.map trf).map (shift (lines n v).length)).getD 0 (([]:List UInt8), (([]:List UInt8), ((0:Int), ()))) = (n, (v, ((0 : Int), ()))) := rfl
      simp only [h40, decide_false, cond_false, e10, Option.bind_some, d1, d2, d3, hg, decide_true, Bool.not_true, Bool.or_self, Bool.true_or, cond_true, e8]

end Go.Hd

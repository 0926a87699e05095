/- Boxes: cuts and flags. -/
import Derived.Test.YtbnmcdcpendjjaaBx5
namespace Go.Bx
open Go Go.Ev
set_option maxRecDepth 100000

def keep (uid : Int) (l : Ltr) : Bool := !decide (l.1 = uid)

theorem F36_eq (l : Ltr) (uid : Int) : F36 (((l.1, l.2.1, l.2.2.1, ()), (), ()), ((uid, ()), ())) = some (decide (l.1 = uid), ((uid, ()), ())) := rfl

abbrev R48 : Type := (((Unit × Unit) × Unit) × ((Int × Unit) × Unit)) ⊕ (((Unit × Unit) × Int × Unit) × ((Int × Unit) × Unit))

def stp48 (uid : Int) (a : Ltr) (b : Nat) : Nat ⊕ R48 := if a.1 = uid then .inr (.inr ((((), ()), (b : Int), ()), ((uid, ()), ()))) else .inl (b + 1)

theorem L48_eq (ls : List Ltr) (uid : Int) (hl : ls.length ≤ 32) : L48c36_0 ((ls, ((), ()), ((ls.length : Nat) : Int), (0:Int), ()), ((uid, ()), ())) = some (foldS (stp48 uid) (fun _ => .inl ((((), ()), ()), ((uid, ()), ()))) 0 ls) := by
  have hF := FUEL_big
  refine walk_listI (f := B48c36_0) (fun (_ : Nat) i => ((ls, ((), ()), ((ls.length : Nat) : Int), (i : Int), ()), ((uid, ()), ()))) ls (stp48 uid) _ (fun b i => b = i)
    (fun b i a hI hi ha => ?_) (fun b _ => ?_) (by omega) rfl
  · subst hI
    have hg := F36_eq a uid
    simp only [B48c36_0, nat_lt, nat_nn, hi, decide_true, Bool.and_true, cond_true, Int.toNat_natCast, ha]
    rw [hg]
    simp only [Option.bind_some, stp48]
    by_cases h : a.1 = uid
    · simp only [h, ↓reduceIte, decide_true, cond_true]
      exact .inr ⟨_, rfl, rfl⟩
    · simp only [h, ↓reduceIte, decide_false, cond_false, w64_nat (show b < 9223372036854775807 by omega)]
      exact .inl ⟨_, rfl, rfl, trivial⟩
  · simp only [B48c36_0, Int.lt_irrefl, decide_false, cond_false]

theorem fold48 (uid : Int) (z : R48) : ∀ (ls : List Ltr) (b : Nat), has ls uid = true →
    ∃ k, foldS (stp48 uid) (fun _ => z) b ls = .inr ((((), ()), ((b + k : Nat) : Int), ()), ((uid, ()), ())) ∧ k < ls.length ∧ (ls.take (k + 1)).filter (keep uid) = ls.take k
  | [], _, h => by cases h
  | a :: t, b, h => by
    by_cases ha : a.1 = uid
    · refine ⟨0, ?_, ?_, ?_⟩
      · simp only [foldS, stp48, ha, ↓reduceIte]
        rfl
      · simp
      · simp [keep, ha]
    · have ht : has t uid = true := by
        simpa [has, ha] using h
      obtain ⟨k, h1, h2, h3⟩ := fold48 uid z t (b + 1) ht
      refine ⟨k + 1, ?_, ?_, ?_⟩
      · simp only [foldS, stp48, ha, ↓reduceIte]
        rw [show b + (k + 1) = b + 1 + k by omega]
        exact h1
      · simp only [List.length_cons]; omega
      · rw [List.take_succ_cons, List.filter_cons_of_pos (by simp [keep, ha]), h3, List.take_succ_cons]

theorem getD_of_drop {α : Type} {M ls : List α} {j : Nat} (h : M.drop j = ls.drop j) (d : α) : M.getD j d = ls.getD j d := by
  have e : (M.drop j)[0]? = (ls.drop j)[0]? := by rw [h]
  rw [List.getElem?_drop, List.getElem?_drop, Nat.add_zero] at e
  rw [List.getD_eq_getElem?_getD, List.getD_eq_getElem?_getD, e]

theorem L35_eq (ls : List Ltr) (uid : Int) (hl : ls.length ≤ 32) (k : Nat) (hk : k < ls.length) (hf : (ls.take (k + 1)).filter (keep uid) = ls.take k) :
    ∃ (i : Nat) (M : List Ltr), L35c36_0 (((), ((), ()), (k : Int), ((k + 1 : Nat) : Int), ()), (ls, (uid, ()), ())) = some (((), ((), ()), (i : Int), ()), (M, (uid, ()), ())) ∧ i ≤ M.length ∧ M.length = ls.length ∧ M.take i = ls.filter (keep uid) := by
  have hF := FUEL_big
  have h := loop_ind (f := B35c36_0) (p := (((), ((), ()), (k : Int), ((k + 1 : Nat) : Int), ()), (ls, (uid, ()), ())))
    (fun p => ∃ (i j : Nat) (M : List Ltr), p = (((), ((), ()), (i : Int), (j : Int), ()), (M, (uid, ()), ())) ∧ i < j ∧ j ≤ ls.length ∧ M.length = ls.length ∧ M.take i = (ls.take j).filter (keep uid) ∧ M.drop j = ls.drop j)
    (fun p => ((ls.length : Int) - p.1.2.2.2.1).toNat)
    (fun r => ∃ (i : Nat) (M : List Ltr), r = (((), ((), ()), (i : Int), ()), (M, (uid, ()), ())) ∧ i ≤ M.length ∧ M.length = ls.length ∧ M.take i = ls.filter (keep uid))
    (fun p hp => by
      obtain ⟨i, j, M, rfl, h1, h2, h3, h4, h5⟩ := hp
      by_cases hj : j < ls.length
      · left
        have hjM : j < M.length := by omega
        have hiM : i < M.length := by omega
        have hx := getD_of_drop h5 nol
        have hxe : ls.getD j nol = ls[j] := by rw [List.getD_eq_getElem?_getD, List.getElem?_eq_getElem hj]; rfl
        have ht : (ls.take (j + 1)).filter (keep uid) = (ls.take j).filter (keep uid) ++ [ls.getD j nol].filter (keep uid) := by
          rw [List.take_succ_eq_append_getElem hj, List.filter_append, hxe]
        have hd : M.drop (j + 1) = ls.drop (j + 1) := by
          rw [← List.drop_drop, ← List.drop_drop, h5]
        have hg := F36_eq (ls.getD j nol) uid
        by_cases hc : (ls.getD j nol).1 = uid
        · refine ⟨_, ?_, ⟨i, j + 1, M, rfl, by omega, by omega, h3, ?_, hd⟩, by simp only; omega⟩
          · simp only [B35c36_0, nat_lt, nat_nn, hjM, decide_true, Bool.and_true, cond_true, Option.bind_some, Int.toNat_natCast, hx]
            rw [hg]
            simp only [hc, decide_true, Bool.not_true, cond_false, Option.bind_some, w64_nat (show j < 9223372036854775807 by omega)]
          · rw [ht, h4]; simp only [List.filter_cons, keep, hc, decide_true, Bool.not_true, Bool.false_eq_true, ↓reduceIte, List.filter_nil, List.append_nil]
        · refine ⟨_, ?_, ⟨i + 1, j + 1, M.set i (ls.getD j nol), rfl, by omega, by omega, by rw [List.length_set]; exact h3, ?_, ?_⟩, by simp only; omega⟩
          · simp only [B35c36_0, nat_lt, nat_nn, hjM, hiM, decide_true, Bool.and_true, cond_true, Option.bind_some, Int.toNat_natCast, hx]
            rw [hg]
            simp only [hc, decide_false, Bool.not_false, cond_true, Option.bind_some, nat_nn, nat_lt, hiM, decide_true, Bool.and_true, Int.toNat_natCast, w64_nat (show j < 9223372036854775807 by omega), w64_nat (show i < 9223372036854775807 by omega)]
          · have hiS : i < (M.set i (ls.getD j nol)).length := by rw [List.length_set]; exact hiM
            rw [ht, ← h4, List.take_succ_eq_append_getElem hiS, List.take_set_of_le (Nat.le_refl _), List.getElem_set_self]
            simp only [List.filter_cons, keep, hc, decide_false, Bool.not_false, ↓reduceIte, List.filter_nil]
          · rw [List.drop_set_of_lt (by omega)]; exact hd
      · right
        obtain rfl : j = ls.length := by omega
        refine ⟨(((), ((), ()), (i : Int), ()), (M, (uid, ()), ())), ?_, i, M, rfl, by omega, h3, ?_⟩
        · simp only [B35c36_0, h3, Int.lt_irrefl, decide_false, cond_false]
        · rw [h4, List.take_length])
    ⟨k, k + 1, ls, rfl, by omega, by omega, rfl, hf.symm, rfl⟩ (by simp only; omega)
  obtain ⟨r, h1, i, M, rfl, h2⟩ := h
  exact ⟨i, M, h1, h2⟩

theorem F35_eq (ls : List Ltr) (uid : Int) (hl : ls.length ≤ 32) (hh : has ls uid = true) :
    F35c36 (((), ((), ()), ()), (ls, (uid, ()), ())) = some (ls.filter (keep uid), ((uid, ()), ())) := by
  obtain ⟨k, h1, h2, h3⟩ := fold48 uid (.inl ((((), ()), ()), ((uid, ()), ()))) ls 0 hh
  obtain ⟨i, M, h4, h5, h6, h7⟩ := L35_eq ls uid hl k h2 h3
  rw [Nat.zero_add] at h1
  have e48 : F48c36 ((ls, ((), ()), ()), ((uid, ()), ())) = some ((k : Int), ((uid, ()), ())) := by
    simp only [F48c36, L48_eq ls uid hl, h1, Option.bind_some]
  have hk : ¬ ((k : Int) = -1) := by omega
  have hi : (i : Int) ≤ (M.length : Int) := by omega
  have hlt : (List.take i M).length = i := by rw [List.length_take]; omega
  have hi2 : (i : Int) ≤ ((List.take i M ++ List.replicate (M.length - i) ((0:Int), ((0:UInt8), (([]:(List UInt8)), ()))) ++ List.drop (i + (M.length - i)) M).length : Int) := by
    simp only [List.length_append, hlt, List.length_replicate]; omega
  simp only [F35c36, e48, Option.bind_some, hk, decide_false, cond_false, w64_nat (show k < 9223372036854775807 by omega), h4, nat_nn, hi, decide_true, Bool.and_true, Int.le_refl, cond_true, Int.toNat_natCast, hi2]
  rw [List.append_assoc, List.take_left' hlt, h7]

/-- a letter replaced by letters -/
def wth (uid : Int) (l : List Ltr) (a : Ltr) : List Ltr := if a.1 = uid then l else [a]

def stp37 (uid : Int) (l : List Ltr) (a : Ltr) (b : Bool × List Ltr) : (Bool × List Ltr) ⊕ ((Unit × Unit × Bool × Unit) × ((Unit × Unit × Unit × Unit × Unit) × ((List UInt8) × Int × Int × Unit × Unit) × List Ltr × List Ltr × Unit)) :=
  .inl (b.1 || decide (a.1 = uid), b.2 ++ wth uid l a)

theorem fold37 (uid : Int) (l : List Ltr) (fin) : ∀ (ls : List Ltr) (b : Bool × List Ltr), foldS (stp37 uid l) fin b ls = fin (b.1 || has ls uid, b.2 ++ ls.flatMap (wth uid l))
  | [], b => by simp [foldS, has]
  | a :: t, b => by
    simp only [foldS, stp37]
    rw [fold37 uid l fin t]
    simp [has, Bool.or_assoc]

theorem F37_eq (b : Box) (uid : Int) (l : List Ltr) (hl : b.2.2.2.1.length ≤ 32) (h1 : l.length ≤ 1) :
    F37 ((b, uid, l, ()), ()) = some (((b.1, b.2.1, b.2.2.1, (), ()), has b.2.2.2.1 uid, ()), (b.2.2.2.1.flatMap (wth uid l), ())) := by
  obtain ⟨nm, v, n, ls, u⟩ := b
  cases u
  have hF := FUEL_big
  change ls.length ≤ 32 at hl
  have h : L37_0 ((uid, l, (), (), (), false, (0:Int), ()), ((nm, v, n, ls, ()), ((), (), (), (), ()), (nm, v, n, (), ()), [], [], ())) = some (foldS (stp37 uid l) (fun b => (((), (), b.1, ()), (((), (), (), (), ()), (nm, v, n, (), ()), [], b.2, ()))) (false, []) ls) := by
    refine walk_listI (f := B37_0) (fun (b : Bool × List Ltr) i => ((uid, l, (), (), (), b.1, (i : Int), ()), ((nm, v, n, ls, ()), ((), (), (), (), ()), (nm, v, n, (), ()), [], b.2, ()))) ls (stp37 uid l) _ (fun b i => b.2.length ≤ i) (b := (false, []))
      (fun b i a hI hi ha => .inl ⟨_, rfl, ?_, ?_⟩) (fun b _ => ?_) (by omega) (Nat.le_refl _)
    · simp only [List.length_append, wth]
      split
      · omega
      · simp only [List.length_cons, List.length_nil]; omega
    · have hb1 : bytesOK (b.2.length + l.length) 40 = true := bytes_ok (by omega)
      have hb2 : bytesOK (b.2.length + 1) 40 = true := bytes_ok (by omega)
      simp only [B37_0, nat_lt, nat_nn, hi, decide_true, Bool.and_true, cond_true, Option.bind_some, Int.toNat_natCast, ha, List.length_cons, List.length_nil, Nat.zero_add, hb1, hb2, w64_nat (show i < 9223372036854775807 by omega), wth]
      by_cases hc : a.1 = uid
      · simp only [hc, decide_true, cond_true, Option.bind_some, Bool.or_true, ↓reduceIte, w64_nat (show i < 9223372036854775807 by omega)]
      · simp only [hc, decide_false, cond_false, Option.bind_some, Bool.or_false, ↓reduceIte, w64_nat (show i < 9223372036854775807 by omega)]
    · simp only [B37_0, Int.lt_irrefl, decide_false, cond_false]
  rw [fold37] at h
  simp only [F37, h, Option.bind_some, Bool.false_or, List.nil_append]

theorem flat_filter (uid : Int) : ∀ (ls : List Ltr), ls.flatMap (wth uid []) = ls.filter (keep uid)
  | [] => rfl
  | a :: t => by
    rw [List.flatMap_cons, flat_filter uid t, List.filter_cons]
    by_cases h : a.1 = uid <;> simp [wth, keep, h]

def cut (b : Box) (uid : Int) : Box × Int × Unit :=
  if check b ≠ 0 then (empty, check b, ())
  else if has b.2.2.2.1 uid then ((b.1, b.2.1, b.2.2.1, b.2.2.2.1.filter (keep uid), ()), 0, ())
  else (empty, 9, ())

theorem F21_eq (b : Box) (uid : Int) : F21 ((b, uid, ()), ()) = some (cut b uid, ()) := by
  have e16 := F16_eq b
  have e24 := F24_eq b
  have e34 := F34_eq b uid
  have ez := check_zero (b := b)
  obtain ⟨nm, v, n, ls, u⟩ := b
  cases u
  unfold cut
  simp only [F21, e16, Option.bind_some]
  generalize hc : check (nm, v, n, ls, ()) = c at *
  by_cases h0 : c = 0
  · have R := ez.mp h0
    obtain ⟨i, h1, h2⟩ := e34 R.few R.rise
    simp only at h1 h2
    simp only [h0, ne_eq, not_true_eq_false, ↓reduceIte, decide_true, Bool.not_true, cond_false, h1, Option.bind_some]
    cases hh : has ls uid
    · simp [empty]
    · simp only [Bool.not_true, cond_false, e24 R.few (fun l hl => (R.each l hl).2.2.2), Option.bind_some, F35_eq ls uid R.few hh, ↓reduceIte]
  · simp [h0, empty]

theorem F23_eq (b : Box) (uid : Int) : F23 ((b, uid, ()), ()) = some (cut b uid, ()) := by
  have e17 := F17_eq b
  have e37 := F37_eq b uid []
  have ez := check_zero (b := b)
  obtain ⟨nm, v, n, ls, u⟩ := b
  cases u
  unfold cut
  simp only [F23, e17, Option.bind_some]
  generalize hc : check (nm, v, n, ls, ()) = c at *
  by_cases h0 : c = 0
  · have R := ez.mp h0
    simp only [h0, ne_eq, not_true_eq_false, ↓reduceIte, decide_true, Bool.not_true, cond_false, e37 R.few (Nat.zero_le _), Option.bind_some, flat_filter]
    cases hh : has ls uid
    · simp [empty]
    · simp
  · simp [h0, empty]

/-! flags -/
def lay (how : Int) (was f : UInt8) : UInt8 := if how = 0 then f else if how = 1 then was ||| f else was &&& ~~~f

def stpB (how : Int) (was f : UInt8) (bit is : UInt8) : UInt8 :=
  if (decide (how = 0) && decide (f / bit % 2 = 1) || decide (how = 1) && (decide (was / bit % 2 = 1) || decide (f / bit % 2 = 1)) || decide (how = 2) && decide (was / bit % 2 = 1) && !decide (f / bit % 2 = 1)) then is + bit else is

def bits (how : Int) (was f : UInt8) : UInt8 := stpB how was f 16 (stpB how was f 8 (stpB how was f 4 (stpB how was f 2 (stpB how was f 1 0))))

theorem bits_all : ((List.range 32).all fun x => (List.range 32).all fun y => decide (bits 0 (UInt8.ofNat x) (UInt8.ofNat y) = lay 0 (UInt8.ofNat x) (UInt8.ofNat y)) && decide (bits 1 (UInt8.ofNat x) (UInt8.ofNat y) = lay 1 (UInt8.ofNat x) (UInt8.ofNat y)) && decide (bits 2 (UInt8.ofNat x) (UInt8.ofNat y) = lay 2 (UInt8.ofNat x) (UInt8.ofNat y))) = true := by kernel_rfl

theorem bits_eq {how : Int} {was f : UInt8} (h1 : 0 ≤ how) (h2 : how ≤ 2) (hw : was.toNat < 32) (hf : f.toNat < 32) : bits how was f = lay how was f := by
  have h := List.all_eq_true.mp (List.all_eq_true.mp bits_all was.toNat (List.mem_range.mpr hw)) f.toNat (List.mem_range.mpr hf)
  rw [UInt8.ofNat_toNat, UInt8.ofNat_toNat, Bool.and_eq_true, Bool.and_eq_true, decide_eq_true_eq, decide_eq_true_eq, decide_eq_true_eq] at h
  obtain rfl | rfl | rfl : how = 0 ∨ how = 1 ∨ how = 2 := by omega
  · exact h.1.1
  · exact h.1.2
  · exact h.2

theorem B22_1_eq (b : Box) (uid how : Int) (f is bit : UInt8) (l : Ltr) (ks : List Ltr) (hb : bit.toNat < 32) (h0 : bit ≠ 0) :
    B22_1 ((uid, how, f, (), (), (), is, bit, ()), (b, ((), (), (), (), ()), l, ks, ())) = some (.inl ((uid, how, f, (), (), (), stpB how l.2.1 f bit is, bit * 2, ()), (b, ((), (), (), (), ()), l, ks, ()))) := by
  have h2 : decide ((2 : UInt8) ≠ 0) = true := rfl
  have hb' : decide (bit.toNat < UInt8.toNat 32) = true := decide_eq_true hb
  have h0' : decide (bit ≠ 0) = true := decide_eq_true h0
  simp only [B22_1, hb', h0', h2, cond_true, Option.bind_some, stpB]
  generalize hq : (decide (how = 0) && decide (f / bit % 2 = 1) || decide (how = 1) && (decide (l.2.1 / bit % 2 = 1) || decide (f / bit % 2 = 1)) || decide (how = 2) && decide (l.2.1 / bit % 2 = 1) && !decide (f / bit % 2 = 1)) = q
  cases q
  · simp only [cond_false, Option.bind_some, Bool.false_eq_true, ↓reduceIte]
  · simp only [cond_true, Option.bind_some, ↓reduceIte]

theorem iter_more {σ τ : Type} {f : σ → Option (σ ⊕ τ)} {p q : σ} {n : Nat} (h : f p = some (.inl q)) : iter f (n + 1) p = iter f n q := by
  simp only [iter, h]

theorem L22_1_eq (b : Box) (uid how : Int) (f : UInt8) (l : Ltr) (ks : List Ltr) :
    L22_1 ((uid, how, f, (), (), (), 0, 1, ()), (b, ((), (), (), (), ()), l, ks, ())) = some ((uid, (), (), (), bits how l.2.1 f, ()), (b, ((), (), (), (), ()), l, ks, ())) := by
  change iter B22_1 (9223372036854775802 + 1 + 1 + 1 + 1 + 1 + 1) _ = _
  rw [iter_more (B22_1_eq b uid how f _ 1 l ks (by decide) (by decide)), iter_more (B22_1_eq b uid how f _ (1 * 2) l ks (by decide) (by decide)), iter_more (B22_1_eq b uid how f _ (1 * 2 * 2) l ks (by decide) (by decide)),
    iter_more (B22_1_eq b uid how f _ (1 * 2 * 2 * 2) l ks (by decide) (by decide)), iter_more (B22_1_eq b uid how f _ (1 * 2 * 2 * 2 * 2) l ks (by decide) (by decide))]
  have e : decide (UInt8.toNat (1 * 2 * 2 * 2 * 2 * 2) < UInt8.toNat 32) = false := by decide
  simp only [iter, B22_1, e, cond_false]
  rfl

/-- a letter with its flags laid -/
def relay (uid how : Int) (f : UInt8) (a : Ltr) : Ltr := if a.1 = uid then (a.1, lay how a.2.1 f, a.2.2.1, ()) else a

def flag (b : Box) (uid how : Int) (f : UInt8) : Box × Int × Unit :=
  if check b ≠ 0 then (empty, check b, ())
  else if how < 0 ∨ 2 < how ∨ 32 ≤ f.toNat then (empty, 2, ())
  else if has b.2.2.2.1 uid then ((b.1, b.2.1, b.2.2.1, b.2.2.2.1.map (relay uid how f), ()), 0, ())
  else (empty, 9, ())

theorem rise_inj {ls : List Ltr} (h : ls.Pairwise (fun a b => a.1 < b.1)) {i j : Nat} (hi : i < ls.length) (hj : j < ls.length) (he : ls[i].1 = ls[j].1) : i = j := by
  rcases Nat.lt_trichotomy i j with h' | h' | h'
  · have := List.pairwise_iff_getElem.mp h i j hi hj h'; omega
  · exact h'
  · have := List.pairwise_iff_getElem.mp h j i hj hi h'; omega

theorem set_map {ls : List Ltr} (h : ls.Pairwise (fun a b => a.1 < b.1)) {uid : Int} {i : Nat} (hi : i < ls.length) (he : (ls.getD i nol).1 = uid) (g : Ltr → Ltr) :
    ls.set i (g (ls.getD i nol)) = ls.map fun a => if a.1 = uid then g a else a := by
  have e : ls.getD i nol = ls[i] := by rw [List.getD_eq_getElem?_getD, List.getElem?_eq_getElem hi]; rfl
  rw [e] at he ⊢
  refine List.ext_getElem (by simp) fun k hk1 hk2 => ?_
  rw [List.length_set] at hk1
  rw [List.getElem_set, List.getElem_map]
  by_cases hk : i = k
  · subst hk
    simp [he]
  · have : ¬ (ls[k].1 = uid) := fun hq => hk (rise_inj h hi hk1 (by rw [he, hq]))
    simp [hk, this]

theorem F20_eq (b : Box) (uid how : Int) (f : UInt8) : F20 ((b, uid, how, f, ()), ()) = some (flag b uid how f, ()) := by
  have e16 := F16_eq b
  have e24 := F24_eq b
  have e34 := F34_eq b uid
  have ez := check_zero (b := b)
  obtain ⟨nm, v, n, ls, u⟩ := b
  cases u
  unfold flag
  simp only [F20, e16, Option.bind_some]
  generalize hc : check (nm, v, n, ls, ()) = c at *
  by_cases h0 : c = 0
  · have R := ez.mp h0
    obtain ⟨i, h1, h2⟩ := e34 R.few R.rise
    simp only at h1 h2
    simp only [h0, ne_eq, not_true_eq_false, ↓reduceIte, decide_true, Bool.not_true, cond_false, h1, Option.bind_some]
    by_cases hb : how < 0 ∨ 2 < how ∨ 32 ≤ f.toNat
    · have e : (decide (how < 0) || decide (2 < how) || decide (UInt8.toNat 32 ≤ f.toNat)) = true := by
        simp only [Bool.or_eq_true, decide_eq_true_eq, show UInt8.toNat 32 = 32 from rfl]; omega
      simp only [e, cond_true, hb, ↓reduceIte, empty]
    · have e : (decide (how < 0) || decide (2 < how) || decide (UInt8.toNat 32 ≤ f.toNat)) = false := by
        simp only [Bool.or_eq_false_iff, decide_eq_false_iff_not, show UInt8.toNat 32 = 32 from rfl]; omega
      simp only [e, cond_false, hb, ↓reduceIte]
      cases hh : has ls uid
      · simp [empty]
      · obtain ⟨hi, he⟩ := h2 hh
        have s := set_map R.rise hi he (fun a => (a.1, lay how a.2.1 f, a.2.2.1, ()))
        have hm : (fun a : Ltr => if a.1 = uid then (a.1, lay how a.2.1 f, a.2.2.1, ()) else a) = relay uid how f := rfl
        rw [hm] at s
        simp only at s
        rw [← s]
        simp only [Bool.not_true, cond_false, e24 R.few (fun l hl => (R.each l hl).2.2.2), Option.bind_some, nat_nn, nat_lt, hi, decide_true, Bool.and_true, cond_true, Int.toNat_natCast, ↓reduceIte]
        obtain rfl | rfl | rfl : how = 0 ∨ how = 1 ∨ how = 2 := by omega
        · rfl
        · rfl
        · rfl
  · simp [h0, empty]

abbrev R22 : Type := ((Unit × Unit) × ((Unit × Unit × Unit × Unit × Unit) × List Ltr × Unit)) ⊕ ((Unit × Unit × Unit) × (((List UInt8) × Int × Int × Unit × Unit) × List Ltr × Unit))

def stp22 (nm : List UInt8) (v n : Int) (ls : List Ltr) (uid how : Int) (f : UInt8) (a : Ltr) (_ : Unit) : Unit ⊕ R22 :=
  if a.1 = uid then .inr (.inr (((), (), ()), ((nm, v, n, (), ()), ls.flatMap (wth uid [(a.1, bits how a.2.1 f, a.2.2.1, ())]), ()))) else .inl ()

theorem L22_0_eq (nm : List UInt8) (v n : Int) (ls : List Ltr) (uid how : Int) (f : UInt8) (hl : ls.length ≤ 32) :
    L22_0 ((uid, how, f, (), (), (0:Int), ()), ((nm, v, n, ls, ()), ((), (), (), (), ()), [], ())) = some (foldS (stp22 nm v n ls uid how f) (fun _ => .inl (((), ()), (((), (), (), (), ()), [], ()))) () ls) := by
  have hF := FUEL_big
  refine walk_list (f := B22_0) (fun (_ : Unit) i => ((uid, how, f, (), (), (i : Int), ()), ((nm, v, n, ls, ()), ((), (), (), (), ()), [], ()))) ls (stp22 nm v n ls uid how f) _ (fun b i a hi ha => ?_) (fun b => ?_) (by omega)
  · have e37 := F37_eq (nm, v, n, ls, ()) uid [(a.1, bits how a.2.1 f, a.2.2.1, ())] hl (by simp)
    have e22 := L22_1_eq (nm, v, n, ls, ()) uid how f (a.1, a.2.1, a.2.2.1, ()) []
    simp only at e37 e22
    simp only [B22_0, nat_lt, nat_nn, hi, decide_true, Bool.and_true, cond_true, Option.bind_some, Int.toNat_natCast, ha, stp22]
    by_cases hc : a.1 = uid
    · simp only [hc, decide_true, Bool.not_true, cond_false, Option.bind_some, ↓reduceIte]
      rw [hc] at e22 e37
      rw [e22]
      simp only [Option.bind_some]
      rw [e37]
      simp only [Option.bind_some]
    · simp only [hc, decide_false, Bool.not_false, cond_true, Option.bind_some, ↓reduceIte, w64_nat (show i < 9223372036854775807 by omega)]
  · simp only [B22_0, Int.lt_irrefl, decide_false, cond_false]

theorem flat_map {ls : List Ltr} (h : ls.Pairwise (fun a b => a.1 < b.1)) {uid : Int} {a : Ltr} (ha : a ∈ ls) (he : a.1 = uid) (g : Ltr → Ltr) :
    ls.flatMap (wth uid [g a]) = ls.map fun x => if x.1 = uid then g x else x := by
  have : ∀ t : List Ltr, (∀ x ∈ t, x ∈ ls) → t.flatMap (wth uid [g a]) = t.map fun x => if x.1 = uid then g x else x := by
    intro t
    induction t with
    | nil => intro _; rfl
    | cons x t ih =>
      intro hx
      rw [List.flatMap_cons, ih (fun y hy => hx y (List.mem_cons_of_mem _ hy)), List.map_cons]
      by_cases hq : x.1 = uid
      · obtain ⟨i, hi, hi2⟩ := List.getElem_of_mem ha
        obtain ⟨j, hj, hj2⟩ := List.getElem_of_mem (hx x (List.mem_cons_self ..))
        have : i = j := rise_inj h hi hj (by rw [hi2, hj2, he, hq])
        subst this
        obtain rfl : a = x := by rw [← hi2, ← hj2]
        simp [wth, hq]
      · simp [wth, hq]
  exact this ls fun _ h => h

theorem fold22 (nm : List UInt8) (v n : Int) (ls : List Ltr) (uid how : Int) (f : UInt8) (z : R22) (hr : ls.Pairwise (fun a b => a.1 < b.1)) (h32 : ∀ l ∈ ls, l.2.1.toNat < 32) (h1 : 0 ≤ how) (h2 : how ≤ 2) (hf : f.toNat < 32) :
    ∀ t : List Ltr, (∀ x ∈ t, x ∈ ls) → foldS (stp22 nm v n ls uid how f) (fun _ => z) () t = if has t uid then .inr (((), (), ()), ((nm, v, n, (), ()), ls.map (relay uid how f), ())) else z
  | [], _ => rfl
  | a :: t, hx => by
    by_cases hc : a.1 = uid
    · have hm := hx a (List.mem_cons_self ..)
      have e := flat_map hr hm hc (fun a => (a.1, lay how a.2.1 f, a.2.2.1, ()))
      have hb := bits_eq h1 h2 (h32 a hm) hf
      simp only [foldS, stp22, hc, ↓reduceIte, has, List.any_cons, decide_true, Bool.true_or, hb]
      rw [hc] at e
      rw [e]
      have hm : (fun a : Ltr => if a.1 = uid then (a.1, lay how a.2.1 f, a.2.2.1, ()) else a) = relay uid how f := rfl
      rw [hm]
    · have ih := fold22 nm v n ls uid how f z hr h32 h1 h2 hf t (fun y hy => hx y (List.mem_cons_of_mem _ hy))
      simp only [foldS, stp22, hc, ↓reduceIte, has, List.any_cons, decide_false, Bool.false_or]
      exact ih

theorem F22_eq (b : Box) (uid how : Int) (f : UInt8) : F22 ((b, uid, how, f, ()), ()) = some (flag b uid how f, ()) := by
  have e17 := F17_eq b
  have ez := check_zero (b := b)
  obtain ⟨nm, v, n, ls, u⟩ := b
  cases u
  unfold flag
  simp only [F22, e17, Option.bind_some]
  generalize hc : check (nm, v, n, ls, ()) = c at *
  by_cases h0 : c = 0
  · have R := ez.mp h0
    simp only [h0, ne_eq, not_true_eq_false, ↓reduceIte, decide_true, Bool.not_true, cond_false, Option.bind_some]
    by_cases hb : how < 0 ∨ 2 < how ∨ 32 ≤ f.toNat
    · have e : ((!decide (how = 0)) && (!decide (how = 1)) && (!decide (how = 2)) || decide (UInt8.toNat 31 < f.toNat)) = true := by
        simp only [Bool.or_eq_true, Bool.and_eq_true, Bool.not_eq_true', decide_eq_false_iff_not, decide_eq_true_eq, show UInt8.toNat 31 = 31 from rfl]; omega
      simp only [e, cond_true, hb, ↓reduceIte, empty]
    · have e : ((!decide (how = 0)) && (!decide (how = 1)) && (!decide (how = 2)) || decide (UInt8.toNat 31 < f.toNat)) = false := by
        obtain rfl | rfl | rfl : how = 0 ∨ how = 1 ∨ how = 2 := by omega
        all_goals
          simp only [Bool.or_eq_false_iff, decide_eq_false_iff_not, show UInt8.toNat 31 = 31 from rfl]
          exact ⟨rfl, by omega⟩
      have e22 := fold22 nm v n ls uid how f (.inl (((), ()), (((), (), (), (), ()), [], ()))) R.rise (fun l hl => (R.each l hl).2.2.1) (by omega) (by omega) (by omega) ls (fun _ h => h)
      simp only [e, cond_false, hb, ↓reduceIte, L22_0_eq nm v n ls uid how f R.few, e22, Option.bind_some]
      cases hh : has ls uid
      · simp [empty]
      · simp
  · simp [h0, empty]

theorem flag_len (b : Box) (uid how : Int) (f : UInt8) : (flag b uid how f).1.2.2.2.1.length ≤ 32 := by
  unfold flag
  split
  · exact Nat.zero_le _
  · rename_i h0
    have R := check_zero.mp (Classical.not_not.mp h0)
    have := R.few
    split
    · exact Nat.zero_le _
    · split
      · simp only [List.length_map]; exact this
      · exact Nat.zero_le _

theorem cut_len (b : Box) (uid : Int) : (cut b uid).1.2.2.2.1.length ≤ 32 := by
  unfold cut
  split
  · exact Nat.zero_le _
  · rename_i h0
    have R := check_zero.mp (Classical.not_not.mp h0)
    have := R.few
    split
    · exact Nat.le_trans (List.length_filter_le _ _) this
    · exact Nat.zero_le _

theorem law8 (b : Box) (uid how : Int) (f : UInt8) : F8 ((b, (uid, how, f, ()), ()), ()) = some (true, ()) := by
  have e20 := F20_eq b uid how f
  have e22 := F22_eq b uid how f
  have e21 := F21_eq b uid
  have e23 := F23_eq b uid
  have hm : maxLen = 9223372036854775807 := rfl
  have hl1 := flag_len b uid how f
  have hl2 := cut_len b uid
  have s1 := F13_self (flag b uid how f).1 (by omega)
  have s2 := F13_self (cut b uid).1 (by omega)
  generalize flag b uid how f = r at *
  generalize cut b uid = q at *
  obtain ⟨⟨nm1, v1, n1, ls1, u1⟩, x1, u2⟩ := r
  obtain ⟨⟨nm2, v2, n2, ls2, u3⟩, x2, u4⟩ := q
  cases u1; cases u2; cases u3; cases u4
  obtain ⟨nm, v, n, ls, u⟩ := b
  cases u
  simp only [F8, e20, e21, e22, e23, live12, s1, s2, Option.bind_some, cond_true, decide_true, Bool.and_true]

end Go.Bx

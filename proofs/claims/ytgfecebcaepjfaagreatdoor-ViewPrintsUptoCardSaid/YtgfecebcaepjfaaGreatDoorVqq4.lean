/- Great letters; names; what an item must be. -/
import Derived.Test.YtgfecebcaepjfaaGreatDoorVqq3
namespace Go.Vw
open Go Go.Ev
set_option maxRecDepth 100000

def upc (c : UInt8) : UInt8 := if 97 ≤ c.toNat ∧ c.toNat ≤ 122 then c - 32 else c

theorem F67_eq (s : List UInt8) (hs : s.length ≤ maxLen) : F67 ((s, ()), ()) = some (s.map upc, ()) := by
  have hF : maxLen < FUEL := by unfold maxLen FUEL; omega
  have hm : maxLen = 9223372036854775807 := rfl
  have h := walk_listI (f := B67_0) (fun (b : List UInt8) i => (((), (), ((s.length : Nat) : Int), (i : Int), ()), (b ++ s.drop i, ()))) s (fun a b => .inl (b ++ [upc a])) (fun b => (((), ()), (b, ()))) (fun b i => b.length = i) (b := [])
    (fun b i a hI hi ha => .inl ⟨_, rfl, by rw [List.length_append, hI]; rfl, by
      subst hI
      have hd := drop_cons hi ha
      have hlt : b.length < (b ++ s.drop b.length).length := by rw [hd]; simp
      have hg : (b ++ s.drop b.length).getD b.length 0 = a := by
        rw [hd, List.getD_eq_getElem?_getD, List.getElem?_append_right (Nat.le_refl _)]
        simp
      have hset : (b ++ s.drop b.length).set b.length (a - 32) = b ++ [a - 32] ++ s.drop (b.length + 1) := by
        rw [hd, append_set]; simp
      have hkeep : b ++ s.drop b.length = b ++ [a] ++ s.drop (b.length + 1) := by
        rw [hd]; simp
      simp only [B67_0, nat_lt, nat_nn, hi, hlt, decide_true, Bool.and_true, cond_true, Int.toNat_natCast, hg, hset, w64_nat (show b.length < 9223372036854775807 by omega), show UInt8.toNat 97 = 97 from rfl, show UInt8.toNat 122 = 122 from rfl]
      unfold upc
      by_cases h1 : 97 ≤ a.toNat
      · by_cases h2 : a.toNat ≤ 122
        · simp only [h1, h2, decide_true, Bool.and_self, cond_true, Option.bind_some, and_self, ↓reduceIte, w64_nat (show b.length < 9223372036854775807 by omega)]
        · simp only [h1, h2, decide_true, decide_false, Bool.and_false, cond_false, Option.bind_some, and_false, ↓reduceIte, ← hkeep, w64_nat (show b.length < 9223372036854775807 by omega)]
      · simp only [h1, decide_false, Bool.false_and, cond_false, Option.bind_some, false_and, ↓reduceIte, ← hkeep, w64_nat (show b.length < 9223372036854775807 by omega)]⟩)
    (fun b _ => by simp only [B67_0, Int.lt_irrefl, decide_false, cond_false, List.drop_length, List.append_nil]) (by omega) rfl
  rw [foldS_push] at h
  have h' : L67_0 (((), (), ((s.length : Nat) : Int), (0:Int), ()), (s, ())) = some (((), ()), (s.map upc, ())) := h
  simp only [F67, h', Option.bind_some]

theorem F59_eq (s : List UInt8) (hs : s.length ≤ 8000000) : F59 ((s, ()), ()) = some (s.map upc, ()) := by
  have hF := FUEL_big
  have h := walk_listI (f := B59_0) (fun (b : List UInt8) i => ((s, b, (i : Int), ()), ())) s (fun a b => .inl (b ++ [upc a])) (fun b => ((b, ()), ())) (fun b i => b.length = i) (b := [])
    (fun b i a hI hi ha => .inl ⟨_, rfl, by rw [List.length_append, hI]; rfl, by
      have hw := w64_nat (show i < 9223372036854775807 by omega)
      have hg := ha 0
      have hf : ∀ x : UInt8, fits (b.length + ([x] : List UInt8).length) = true := fun x => decide_eq_true (by simp; omega)
      have z1 : UInt8.toNat 97 = 97 := rfl
      have z2 : UInt8.toNat 122 = 122 := rfl
      unfold upc
      by_cases h1 : 97 ≤ a.toNat
      · by_cases h2 : a.toNat ≤ 122
        · simp only [B59_0, nat_lt, nat_nn, hi, decide_true, Bool.and_self, cond_true, Int.toNat_natCast, hg, z1, z2, h1, h2, Option.bind_some, hf, hw, and_self, if_true]
        · simp only [B59_0, nat_lt, nat_nn, hi, decide_true, decide_false, Bool.and_self, Bool.and_false, cond_true, cond_false, Int.toNat_natCast, hg, z1, z2, h1, h2, Option.bind_some, hf, hw, and_false, if_false]
      · simp only [B59_0, nat_lt, nat_nn, hi, decide_true, decide_false, Bool.and_self, Bool.false_and, cond_true, cond_false, Int.toNat_natCast, hg, z1, z2, h1, Option.bind_some, hf, hw, false_and, if_false]⟩)
    (fun b _ => by simp only [B59_0, Int.lt_irrefl, decide_false, cond_false]) (by omega) rfl
  rw [foldS_push] at h
  have h' : L59_0 ((s, ([]:List UInt8), (0:Int), ()), ()) = some ((s.map upc, ()), ()) := h
  simp only [F59, h', Option.bind_some]

def nameOK (s : List UInt8) : Bool := rn s && atom s

theorem F70_eq (s : List UInt8) (hs : s.length ≤ 1100000) : F70 ((s, ()), ()) = some (nameOK s, ()) := by
  have h1 := F93_eq s [] (by omega) (by simp)
  have hf : decide ((fold s []).2.1 = 0) = rn s := by
    unfold fold
    have e1 : okv [] = true := rfl
    have e2 : ¬ (1024 < ([] : List UInt8).length ∨ lng [] = true) := by decide
    rw [if_pos e1, if_neg e2]
    cases rn s <;> rfl
  simp only [F70, h1, Option.bind_some, hf, F94_eq s hs]
  unfold nameOK
  cases rn s <;> rfl

theorem L92_iter (l : List (List UInt8)) (hl : l.length ≤ 8000000) (hx : ∀ w ∈ l, w.length ≤ 1100000) : ∀ (t : List (List UInt8)) (i fuel : Nat), l.drop i = t → t.length < fuel →
    (t.all nameOK = true ∧ iter B92c69_0 fuel ((l, (), (l.length : Int), (i : Int), ()), ()) = some (.inl ((), ()))) ∨ (t.all nameOK = false ∧ ∃ j : Nat, iter B92c69_0 fuel ((l, (), (l.length : Int), (i : Int), ()), ()) = some (.inr (((j : Int), ()), ()))) := by
  intro t
  induction t with
  | nil =>
    intro i fuel h hf
    obtain ⟨fuel, rfl⟩ : ∃ f, fuel = f + 1 := ⟨fuel - 1, by simp only [List.length_nil] at hf; omega⟩
    have hk : ¬ i < l.length := by
      have := congrArg List.length h
      simp only [List.length_drop, List.length_nil] at this
      omega
    have e : decide ((i : Int) < ((l.length : Nat) : Int)) = false := decide_eq_false (by omega)
    exact .inl ⟨rfl, by simp only [iter, B92c69_0, e, cond_false]⟩
  | cons a t ihh =>
    intro i fuel h hf
    obtain ⟨fuel, rfl⟩ : ∃ f, fuel = f + 1 := ⟨fuel - 1, by simp only [List.length_cons] at hf; omega⟩
    simp only [List.length_cons] at hf
    obtain ⟨g1, g2, g3⟩ := getD_drop [] h
    have hm : a ∈ l := List.mem_of_mem_drop (by rw [h]; simp)
    have e : decide ((i : Int) < ((l.length : Nat) : Int)) = true := decide_eq_true (by omega)
    have h70 := F70_eq a (hx a hm)
    cases hn : nameOK a with
    | true =>
      rw [hn] at h70
      have e1 : iter B92c69_0 (fuel + 1) ((l, (), (l.length : Int), (i : Int), ()), ()) = iter B92c69_0 fuel ((l, (), (l.length : Int), ((i + 1 : Nat) : Int), ()), ()) := by
        conv => lhs; unfold iter
        simp only [B92c69_0, e, cond_true, nat_nn, Bool.and_self, Int.toNat_natCast, g1, h70, Option.bind_some, Bool.not_true, cond_false, w64_nat (show i < 9223372036854775807 by omega)]
      rw [e1, List.all_cons, hn, Bool.true_and]
      exact ihh (i + 1) fuel g3 (by omega)
    | false =>
      rw [hn] at h70
      refine .inr ⟨by rw [List.all_cons, hn, Bool.false_and], i, ?_⟩
      unfold iter
      simp only [B92c69_0, e, cond_true, nat_nn, Bool.and_self, Int.toNat_natCast, g1, h70, Option.bind_some, Bool.not_false]

theorem F68_names (l : List (List UInt8)) (hl : l.length ≤ 8000000) (hx : ∀ w ∈ l, w.length ≤ 1100000) : F68c69 ((l, (), ()), ()) = some (!l.all nameOK, ()) := by
  have hF := FUEL_big
  rcases L92_iter l hl hx l 0 FUEL rfl (by omega) with ⟨h1, h2⟩ | ⟨h1, j, h2⟩
  · have h2' : L92c69_0 ((l, (), (l.length : Int), (0:Int), ()), ()) = _ := h2
    simp only [F68c69, F92c69, h2', Option.bind_some, h1]
    rfl
  · have h2' : L92c69_0 ((l, (), (l.length : Int), (0:Int), ()), ()) = _ := h2
    have e : decide ((0:Int) ≤ (j : Int)) = true := decide_eq_true (by omega)
    simp only [F68c69, F92c69, h2', Option.bind_some, h1, e]
    rfl

abbrev It := Int × List UInt8 × List (List UInt8) × Bool × Int × Int × Unit

def bnd (n : Int) : Bool := decide (0 ≤ n) && decide (n ≤ 4294967295)

def okItem (x : It) : Bool :=
  if x.1 = 6 then ((okPath x.2.1 && decide (x.2.1.map upc = x.2.1)) && decide (x.2.2.1 = [])) && (cond x.2.2.2.1 ((bnd x.2.2.2.2.1 && bnd x.2.2.2.2.2.1) && decide (0 < x.2.2.2.2.2.1)) (decide (x.2.2.2.2.1 = 0) && decide (x.2.2.2.2.2.1 = 0)))
  else ((decide (x.2.1 = []) && !x.2.2.2.1) && (decide (x.2.2.2.2.1 = 0) && decide (x.2.2.2.2.2.1 = 0))) && (if x.1 = 7 then (decide (0 < x.2.2.1.length) && decide (x.2.2.1.length ≤ 16)) && x.2.2.1.all nameOK else decide (x.2.2.1 = []))

def szItem (x : It) : Prop := x.2.1.length ≤ 1100000 ∧ x.2.2.1.length ≤ 8000000 ∧ ∀ w ∈ x.2.2.1, w.length ≤ 1100000

theorem F32_eq (n : Int) : F32 ((n, ()), ()) = some (bnd n, ()) := rfl

theorem F39_eq (x : It) (hz : szItem x) : F39 ((x, ()), ()) = some (okItem x, ()) := by
  obtain ⟨see, path, names, part, fr, sz, ⟨⟩⟩ := x
  obtain ⟨z1, z2, z3⟩ := hz
  have h66 := F66_eq path (by have : path.length ≤ 1100000 := z1; omega)
  have h67 := F67_eq path (by have : path.length ≤ 1100000 := z1; unfold maxLen; omega)
  have h68 := F68_names names z2 z3
  have en : decide ((0:Int) < ((names.length : Nat) : Int)) = !decide (names = []) := by
    cases names with
    | nil => rfl
    | cons a t => simp only [List.length_cons]; rw [decide_eq_true (by omega)]; rfl
  have el : decide ((0:Int) < ((names.length : Nat) : Int)) = decide (0 < names.length) := by rw [decide_eq_decide]; omega
  have e16 : decide (((names.length : Nat) : Int) ≤ 16) = decide (names.length ≤ 16) := by rw [decide_eq_decide]; omega
  by_cases h6 : see = 6
  · subst h6
    have d6 : decide ((6:Int) = 6) = true := rfl
    have d7 : decide ((6:Int) = 7) = false := rfl
    simp only [F39, d6, d7, Bool.not_true, Bool.false_and, cond_false, Bool.not_false, Bool.true_and, Option.bind_some, cond_true, h66, h67, F32_eq, en, okItem, ↓reduceIte]
    cases decide (names = [])
    · simp [h66, h67]
    cases hp : okPath path
    · simp [h66, hp]
    by_cases hu : path.map upc = path
    · cases part
      · simp [h66, h67, hp, hu]
      cases hb : bnd fr
      · simp [h66, h67, hp, hu, hb]
      · simp [h66, h67, hp, hu, hb]
    · simp [h66, h67, hp, hu]
  · have d6 : decide (see = 6) = false := decide_eq_false h6
    simp only [F39, d6, Bool.not_false, Bool.true_and, h68, F32_eq, en, okItem, h6, if_false]
    cases decide (path = [])
    · simp
    cases part with
    | true => simp
    | false =>
    cases hfr : decide (fr = 0)
    · simp
    cases hsz : decide (sz = 0)
    · simp
    by_cases h7 : see = 7
    · subst h7
      have d7 : decide ((7:Int) = 7) = true := rfl
      simp only [d7, ← en, el, e16, Bool.not_true, Bool.or_self, Bool.false_and, cond_false, Option.bind_some, cond_true, if_true, hfr, hsz, Bool.not_not, Bool.not_false, Bool.and_self, Bool.true_and]
      cases k1 : decide (0 < names.length)
      · simp [k1, h68, hfr, hsz]
      cases k2 : decide (names.length ≤ 16)
      · simp [k1, k2, e16, h68]
      · simp [k1, k2, e16, h68]
    · have d7 : decide (see = 7) = false := decide_eq_false h7
      simp only [d7, h7, if_false]
      cases decide (names = [])
      · simp
      · simp [hfr, hsz]
end Go.Vw

namespace Go.Vw
open Go Go.Ev
set_option maxRecDepth 100000

theorem L31_iter (see : Int) (path : List UInt8) (names : List (List UInt8)) (part : Bool) (fr sz : Int) (hl : names.length ≤ 8000000) (hx : ∀ w ∈ names, w.length ≤ 1100000) : ∀ (t : List (List UInt8)) (i fuel : Nat), names.drop i = t → t.length < fuel →
    iter B31_0 fuel (((), (i : Int), ()), ((see, path, names, part, fr, sz, ()), ())) = some (if t.all nameOK = true then .inl ((), ()) else .inr (((), ()), ())) := by
  intro t
  induction t with
  | nil =>
    intro i fuel h hf
    obtain ⟨fuel, rfl⟩ : ∃ f, fuel = f + 1 := ⟨fuel - 1, by simp only [List.length_nil] at hf; omega⟩
    have hk : ¬ i < names.length := by
      have := congrArg List.length h
      simp only [List.length_drop, List.length_nil] at this
      omega
    have e : decide ((i : Int) < ((names.length : Nat) : Int)) = false := decide_eq_false (by omega)
    simp only [iter, B31_0, e, cond_false, List.all_nil, if_true]
  | cons a t ihh =>
    intro i fuel h hf
    obtain ⟨fuel, rfl⟩ : ∃ f, fuel = f + 1 := ⟨fuel - 1, by simp only [List.length_cons] at hf; omega⟩
    simp only [List.length_cons] at hf
    obtain ⟨g1, g2, g3⟩ := getD_drop [] h
    have hm : a ∈ names := List.mem_of_mem_drop (by rw [h]; simp)
    have ha := hx a hm
    have e : decide ((i : Int) < ((names.length : Nat) : Int)) = true := decide_eq_true (by omega)
    have ih := ihh (i + 1) fuel g3 (by omega)
    have hn : nameOK a = (rn a && atom a) := rfl
    cases h1 : rn a with
    | false =>
      simp only [iter, B31_0, e, cond_true, nat_nn, Bool.and_self, Int.toNat_natCast, g1, F54_eq a (by omega), Option.bind_some, h1, Bool.true_or, Bool.not_false, Bool.not_true, cond_false, List.all_cons, hn, Bool.false_and, Bool.false_eq_true, if_false]
    | true =>
      cases h2 : atom a with
      | false =>
        simp only [iter, B31_0, e, cond_true, nat_nn, Bool.and_self, Int.toNat_natCast, g1, F54_eq a (by omega), F60_eq a ha, Option.bind_some, h1, h2, Bool.true_or, Bool.not_false, Bool.not_true, cond_false, List.all_cons, hn, Bool.false_and, Bool.and_false, Bool.false_eq_true, if_false]
      | true =>
        simp only [iter, B31_0, e, cond_true, nat_nn, Bool.and_self, Int.toNat_natCast, g1, F54_eq a (by omega), F60_eq a ha, Option.bind_some, h1, h2, Bool.true_or, Bool.not_false, Bool.not_true, cond_false, List.all_cons, hn, Bool.true_and, w64_nat (show i < 9223372036854775807 by omega)]
        exact ih

theorem F31_eq (x : It) (hz : szItem x) : F31 ((x, ()), ()) = some (okItem x, ()) := by
  obtain ⟨see, path, names, part, fr, sz, ⟨⟩⟩ := x
  obtain ⟨z1, z2, z3⟩ := hz
  have hF := FUEL_big
  have hp : path.length ≤ 1100000 := z1
  have hnl : names.length ≤ 8000000 := z2
  have h58 := F58_eq path (by omega)
  have h59 := F59_eq path (by omega)
  have hL : L31_0 (((), (0:Int), ()), ((see, path, names, part, fr, sz, ()), ())) = _ := L31_iter see path names part fr sz z2 z3 names 0 FUEL rfl (by omega)
  have en : decide ((0:Int) < ((names.length : Nat) : Int)) = !decide (names = []) := by
    cases names with
    | nil => rfl
    | cons a t => simp only [List.length_cons]; rw [decide_eq_true (by omega)]; rfl
  have ep : decide ((0:Int) < ((path.length : Nat) : Int)) = !decide (path = []) := by
    cases path with
    | nil => rfl
    | cons a t => simp only [List.length_cons]; rw [decide_eq_true (by omega)]; rfl
  have el : decide (((names.length : Nat) : Int) < 1) = !decide (0 < names.length) := by
    by_cases h : 0 < names.length
    · rw [decide_eq_true h, decide_eq_false (by omega)]; rfl
    · rw [decide_eq_false h, decide_eq_true (by omega)]; rfl
  have e16 : decide ((16:Int) < ((names.length : Nat) : Int)) = !decide (names.length ≤ 16) := by
    by_cases h : names.length ≤ 16
    · rw [decide_eq_true h, decide_eq_false (by omega)]; rfl
    · rw [decide_eq_false h, decide_eq_true (by omega)]; rfl
  have eb : ((((decide (fr < 0)) || (decide ((4294967295:Int) < fr))) || (decide (sz < (1:Int)))) || (decide ((4294967295:Int) < sz))) = !((bnd fr && bnd sz) && decide (0 < sz)) := by
    unfold bnd
    by_cases a1 : fr < 0
    · simp [a1, show ¬ 0 ≤ fr by omega]
    by_cases a2 : 4294967295 < fr
    · simp [a2, show ¬ fr ≤ 4294967295 by omega]
    by_cases a3 : sz < 1
    · simp [a3, show ¬ 0 < sz by omega]
    by_cases a4 : 4294967295 < sz
    · simp [a4, show ¬ sz ≤ 4294967295 by omega]
    simp only [a1, a2, a3, a4, show 0 ≤ fr by omega, show fr ≤ 4294967295 by omega, show 0 ≤ sz by omega, show sz ≤ 4294967295 by omega, show 0 < sz by omega, decide_true, decide_false, Bool.or_self, Bool.and_self, Bool.not_true]
  by_cases h6 : see = 6
  · subst h6
    have d6 : decide ((6:Int) = 6) = true := rfl
    have d7 : decide ((6:Int) = 7) = false := rfl
    by_cases hn0 : names = []
    · subst hn0
      have hL' : L31_0 (((), (0:Int), ()), ((6, path, [], part, fr, sz, ()), ())) = some (.inl ((), ())) := hL
      simp only [F31, d6, d7, Bool.not_true, Bool.false_and, Bool.false_or, en, Bool.not_false, Bool.true_and, decide_true, Bool.or_false, cond_true, h58, Option.bind_some, Bool.not_not, h59, eb, hL', okItem, if_true, Bool.and_true]
      cases okPath path
      · cases part <;> cases decide (fr = 0) <;> cases decide (sz = 0) <;> rfl
      by_cases hu : path.map upc = path
      · rw [decide_eq_true hu]
        cases part
        · cases decide (fr = 0) <;> cases decide (sz = 0) <;> rfl
        · cases ((bnd fr && bnd sz) && decide (0 < sz)) <;> rfl
      · rw [decide_eq_false hu]
        cases part <;> cases decide (fr = 0) <;> cases decide (sz = 0) <;> rfl
    · have dn : decide (names = []) = false := decide_eq_false hn0
      simp only [F31, d6, d7, Bool.not_true, Bool.false_and, Bool.false_or, en, dn, Bool.not_false, Bool.true_and, Bool.or_true, cond_true, okItem, if_true, Bool.and_false]
  · have d6 : decide (see = 6) = false := decide_eq_false h6
    simp only [F31, d6, Bool.not_false, Bool.true_and, ep, en, okItem, h6, if_false, cond_false, eb, el, e16, hL]
    cases hpn : decide (path = [])
    · simp
    cases part with
    | true => simp
    | false =>
    cases hfr : decide (fr = 0)
    · simp
    cases hsz : decide (sz = 0)
    · simp
    by_cases h7 : see = 7
    · subst h7
      have d7 : decide ((7:Int) = 7) = true := rfl
      cases k1 : decide (0 < names.length)
      · simp [k1]
      cases k2 : decide (names.length ≤ 16)
      · simp [k1, k2]
      · cases k3 : names.all nameOK
        · simp [k1, k2, k3]
        · simp [k1, k2, k3]
    · have d7 : decide (see = 7) = false := decide_eq_false h7
      by_cases hn0 : names = []
      · subst hn0
        simp [h7]
      · simp [h7, hn0]

def chk1 : List It → Int
  | [] => 0
  | x :: r => if x.1 < 1 ∨ 7 < x.1 then 14 else if okItem x = true then chk1 r else 4

def chk (l : List It) : Int := if l.length = 0 then 2 else if 12 < l.length then 6 else chk1 l

theorem chk1_or : ∀ l, chk1 l = 0 ∨ chk1 l = 14 ∨ chk1 l = 4
  | [] => .inl rfl
  | x :: r => by
    unfold chk1
    by_cases h : x.1 < 1 ∨ 7 < x.1
    · rw [if_pos h]; exact .inr (.inl rfl)
    · rw [if_neg h]
      by_cases h2 : okItem x = true
      · rw [if_pos h2]; exact chk1_or r
      · rw [if_neg h2]; exact .inr (.inr rfl)

theorem L17_iter (l : List It) (hl : l.length ≤ 12) (hx : ∀ x ∈ l, szItem x) : ∀ (t : List It) (i fuel : Nat), l.drop i = t → t.length < fuel →
    iter B17_0 fuel ((l, (l.length : Int), (i : Int), ()), ()) = some (if chk1 t = 0 then .inl ((), ()) else .inr ((chk1 t, ()), ())) := by
  intro t
  induction t with
  | nil =>
    intro i fuel h hf
    obtain ⟨fuel, rfl⟩ : ∃ f, fuel = f + 1 := ⟨fuel - 1, by simp only [List.length_nil] at hf; omega⟩
    have hk : ¬ i < l.length := by
      have := congrArg List.length h
      simp only [List.length_drop, List.length_nil] at this
      omega
    have e : decide ((i : Int) < ((l.length : Nat) : Int)) = false := decide_eq_false (by omega)
    simp only [iter, B17_0, e, cond_false, chk1, if_true]
  | cons a t ihh =>
    intro i fuel h hf
    obtain ⟨fuel, rfl⟩ : ∃ f, fuel = f + 1 := ⟨fuel - 1, by simp only [List.length_cons] at hf; omega⟩
    simp only [List.length_cons] at hf
    obtain ⟨g1, g2, g3⟩ := getD_drop (0, [], [], false, 0, 0, ()) h
    have hm : a ∈ l := List.mem_of_mem_drop (by rw [h]; simp)
    have e : decide ((i : Int) < ((l.length : Nat) : Int)) = true := decide_eq_true (by omega)
    have ih := ihh (i + 1) fuel g3 (by omega)
    have h39 := F39_eq a (hx a hm)
    obtain ⟨see, path, names, part, fr, sz, ⟨⟩⟩ := a
    by_cases hs : see < 1 ∨ 7 < see
    · have hb : (decide (see < 1) || decide (7 < see)) = true := by simpa using hs
      have hc : chk1 ((see, path, names, part, fr, sz, ()) :: t) = 14 := by unfold chk1; exact if_pos hs
      rw [hc]
      simp only [iter, B17_0, e, cond_true, nat_nn, Bool.and_self, Int.toNat_natCast, g1, Option.bind_some, hb]
      rfl
    · have hb : (decide (see < 1) || decide (7 < see)) = false := by simpa using hs
      cases ho : okItem (see, path, names, part, fr, sz, ()) with
      | false =>
        have hc : chk1 ((see, path, names, part, fr, sz, ()) :: t) = 4 := by unfold chk1; rw [if_neg hs, ho]; rfl
        have h39' : F39 (((see, path, names, part, fr, sz, ()), ()), ()) = some (false, ()) := by rw [← ho]; exact h39
        rw [hc]
        simp only [iter, B17_0, e, cond_true, nat_nn, Bool.and_self, Int.toNat_natCast, g1, Option.bind_some, hb, cond_false, h39', Bool.not_false]
        rfl
      | true =>
        have hc : chk1 ((see, path, names, part, fr, sz, ()) :: t) = chk1 t := by conv => lhs; unfold chk1; rw [if_neg hs, ho]
                                                                                  rfl
        have h39' : F39 (((see, path, names, part, fr, sz, ()), ()), ()) = some (true, ()) := by rw [← ho]; exact h39
        rw [hc]
        simp only [iter, B17_0, e, cond_true, nat_nn, Bool.and_self, Int.toNat_natCast, g1, Option.bind_some, hb, cond_false, h39', Bool.not_true, w64_nat (show i < 9223372036854775807 by omega)]
        exact ih

theorem F17_eq (l : List It) (hl : l.length ≤ 8000000) (hx : ∀ x ∈ l, szItem x) : F17 ((l, ()), ()) = some (chk l, ()) := by
  have hF := FUEL_big
  unfold chk
  by_cases h0 : l.length = 0
  · rw [if_pos h0]
    have e : decide (((l.length : Nat) : Int) = 0) = true := decide_eq_true (by omega)
    simp only [F17, e, cond_true]
  rw [if_neg h0]
  have e : decide (((l.length : Nat) : Int) = 0) = false := decide_eq_false (by omega)
  by_cases h12 : 12 < l.length
  · rw [if_pos h12]
    have e2 : decide ((12:Int) < ((l.length : Nat) : Int)) = true := decide_eq_true (by omega)
    simp only [F17, e, e2, cond_true, cond_false]
  rw [if_neg h12]
  have e2 : decide ((12:Int) < ((l.length : Nat) : Int)) = false := decide_eq_false (by omega)
  have hL : L17_0 ((l, (l.length : Int), (0:Int), ()), ()) = _ := L17_iter l (by omega) hx l 0 FUEL rfl (by omega)
  simp only [F17, e, e2, cond_false, hL]
  by_cases hc : chk1 l = 0
  · rw [if_pos hc, hc]; rfl
  · rw [if_neg hc]; rfl

theorem L12_iter (l : List It) (hl : l.length ≤ 12) (hx : ∀ x ∈ l, szItem x) : ∀ (t : List It) (i fuel : Nat), l.drop i = t → t.length < fuel →
    iter B12_0 fuel ((l, (i : Int), ()), ()) = some (if chk1 t = 0 then .inl ((), ()) else .inr ((chk1 t, ()), ())) := by
  intro t
  induction t with
  | nil =>
    intro i fuel h hf
    obtain ⟨fuel, rfl⟩ : ∃ f, fuel = f + 1 := ⟨fuel - 1, by simp only [List.length_nil] at hf; omega⟩
    have hk : ¬ i < l.length := by
      have := congrArg List.length h
      simp only [List.length_drop, List.length_nil] at this
      omega
    have e : decide ((i : Int) < ((l.length : Nat) : Int)) = false := decide_eq_false (by omega)
    simp only [iter, B12_0, e, cond_false, chk1, if_true]
  | cons a t ihh =>
    intro i fuel h hf
    obtain ⟨fuel, rfl⟩ : ∃ f, fuel = f + 1 := ⟨fuel - 1, by simp only [List.length_cons] at hf; omega⟩
    simp only [List.length_cons] at hf
    obtain ⟨g1, g2, g3⟩ := getD_drop (0, [], [], false, 0, 0, ()) h
    have hm : a ∈ l := List.mem_of_mem_drop (by rw [h]; simp)
    have e : decide ((i : Int) < ((l.length : Nat) : Int)) = true := decide_eq_true (by omega)
    have ih := ihh (i + 1) fuel g3 (by omega)
    have h39 := F31_eq a (hx a hm)
    obtain ⟨see, path, names, part, fr, sz, ⟨⟩⟩ := a
    by_cases hs : see < 1 ∨ 7 < see
    · have hb : (decide (see < 1) || decide (7 < see)) = true := by simpa using hs
      have hc : chk1 ((see, path, names, part, fr, sz, ()) :: t) = 14 := by unfold chk1; exact if_pos hs
      rw [hc]
      simp only [iter, B12_0, e, cond_true, nat_nn, Bool.and_self, Bool.true_or, Int.toNat_natCast, g1, Option.bind_some, hb]
      rfl
    · have hb : (decide (see < 1) || decide (7 < see)) = false := by simpa using hs
      cases ho : okItem (see, path, names, part, fr, sz, ()) with
      | false =>
        have hc : chk1 ((see, path, names, part, fr, sz, ()) :: t) = 4 := by unfold chk1; rw [if_neg hs, ho]; rfl
        have h39' : F31 (((see, path, names, part, fr, sz, ()), ()), ()) = some (false, ()) := by rw [← ho]; exact h39
        rw [hc]
        simp only [iter, B12_0, e, cond_true, nat_nn, Bool.and_self, Bool.true_or, Int.toNat_natCast, g1, Option.bind_some, hb, cond_false, h39', Bool.not_false]
        rfl
      | true =>
        have hc : chk1 ((see, path, names, part, fr, sz, ()) :: t) = chk1 t := by conv => lhs; unfold chk1; rw [if_neg hs, ho]
                                                                                  rfl
        have h39' : F31 (((see, path, names, part, fr, sz, ()), ()), ()) = some (true, ()) := by rw [← ho]; exact h39
        rw [hc]
        simp only [iter, B12_0, e, cond_true, nat_nn, Bool.and_self, Bool.true_or, Int.toNat_natCast, g1, Option.bind_some, hb, cond_false, h39', Bool.not_true, w64_nat (show i < 9223372036854775807 by omega)]
        exact ih

theorem F12_eq (l : List It) (hl : l.length ≤ 8000000) (hx : ∀ x ∈ l, szItem x) : F12 ((l, ()), ()) = some (chk l, ()) := by
  have hF := FUEL_big
  unfold chk
  by_cases h0 : l.length = 0
  · rw [if_pos h0]
    have e : decide (((l.length : Nat) : Int) = 0) = true := decide_eq_true (by omega)
    simp only [F12, e, cond_true]
  rw [if_neg h0]
  have e : decide (((l.length : Nat) : Int) = 0) = false := decide_eq_false (by omega)
  by_cases h12 : 12 < l.length
  · rw [if_pos h12]
    have e2 : decide ((12:Int) < ((l.length : Nat) : Int)) = true := decide_eq_true (by omega)
    simp only [F12, e, e2, cond_true, cond_false]
  rw [if_neg h12]
  have e2 : decide ((12:Int) < ((l.length : Nat) : Int)) = false := decide_eq_false (by omega)
  have hL : L12_0 ((l, (0:Int), ()), ()) = _ := L12_iter l (by omega) hx l 0 FUEL rfl (by omega)
  simp only [F12, e, e2, cond_false, hL]
  by_cases hc : chk1 l = 0
  · rw [if_pos hc, hc]; rfl
  · rw [if_neg hc]; rfl
end Go.Vw

namespace Go.Vw
open Go Go.Ev
set_option maxRecDepth 100000

def dig (n : Nat) : UInt8 := u8of ((48 : Int) + (n : Int))

theorem dig_val : ∀ n : Fin 10, (dig n.val).toNat = 48 + n.val := by decide

theorem dig_nat {n : Nat} (h : n < 10) : (dig n).toNat = 48 + n := dig_val ⟨n, h⟩

theorem dig_dg {n : Nat} (h : n < 10) : dg (dig n) = true := by
  unfold dg
  rw [dig_nat h, decide_eq_true (by omega), decide_eq_true (by omega)]
  rfl

def digs : Nat → Nat → List UInt8 → List UInt8
  | 0, _, acc => acc
  | k + 1, n, acc => if n < 10 then dig n :: acc else digs k (n / 10) (dig (n % 10) :: acc)

def num (n : Nat) : List UInt8 := digs 10 n []

theorem digs_all : ∀ (k n : Nat) (acc : List UInt8), (∀ c ∈ acc, dg c = true) → ∀ c ∈ digs k n acc, dg c = true
  | 0, _, _, h => h
  | k + 1, n, acc, h => by
    unfold digs
    by_cases hn : n < 10
    · rw [if_pos hn]
      intro c hc
      rcases List.mem_cons.1 hc with rfl | hc
      · exact dig_dg hn
      · exact h c hc
    · rw [if_neg hn]
      refine digs_all k (n / 10) _ fun c hc => ?_
      rcases List.mem_cons.1 hc with rfl | hc
      · exact dig_dg (Nat.mod_lt _ (by omega))
      · exact h c hc

theorem digs_len : ∀ (k n : Nat) (acc : List UInt8), (digs k n acc).length ≤ k + acc.length
  | 0, _, _ => by unfold digs; omega
  | k + 1, n, acc => by
    unfold digs
    by_cases hn : n < 10
    · rw [if_pos hn]; simp only [List.length_cons]; omega
    · rw [if_neg hn]
      have := digs_len k (n / 10) (dig (n % 10) :: acc)
      simp only [List.length_cons] at this
      omega

theorem digs_nv : ∀ (k n : Nat) (acc : List UInt8), n < 10 ^ k → 0 < k → nv 0 (digs k n acc) = nv n acc
  | k + 1, n, acc, h, _ => by
    unfold digs
    by_cases hn : n < 10
    · rw [if_pos hn]
      have e : nv 0 (dig n :: acc) = nv (0 * 10 + ((dig n).toNat - 48)) acc := rfl
      rw [e, dig_nat hn, show 0 * 10 + (48 + n - 48) = n by omega]
    · rw [if_neg hn]
      have hk : 0 < k := by
        rcases Nat.eq_zero_or_pos k with rfl | h'
        · simp at h; omega
        · exact h'
      rw [digs_nv k (n / 10) _ (by rw [Nat.pow_succ] at h; omega) hk]
      have e : nv (n / 10) (dig (n % 10) :: acc) = nv (n / 10 * 10 + ((dig (n % 10)).toNat - 48)) acc := rfl
      rw [e, dig_nat (Nat.mod_lt _ (by omega)), show n / 10 * 10 + (48 + n % 10 - 48) = n by omega]

theorem digs_head : ∀ (k n : Nat) (acc : List UInt8), 0 < n → 0 < k → n < 10 ^ k → ∃ c r, digs k n acc = c :: r ∧ c ≠ 48
  | k + 1, n, acc, h, _, hb => by
    unfold digs
    by_cases hn : n < 10
    · rw [if_pos hn]
      refine ⟨_, _, rfl, fun e => ?_⟩
      have := congrArg UInt8.toNat e
      rw [dig_nat hn] at this
      have h48 : UInt8.toNat 48 = 48 := rfl
      omega
    · rw [if_neg hn]
      have hk : 0 < k := by
        rcases Nat.eq_zero_or_pos k with rfl | h'
        · simp at hb; omega
        · exact h'
      exact digs_head k (n / 10) _ (by omega) hk (by rw [Nat.pow_succ] at hb; omega)

theorem nb_none (z : Bool) : ∀ (t : List UInt8) (k : Nat), (∀ c ∈ t, dg c = true) → (z = false ∨ (k = 0 ∧ t.length ≤ 1)) → nb z k t = none
  | [], _, _, _ => rfl
  | a :: t, k, h, hz => by
    have ha : dg a = true ∧ (decide (0 < k) && z) = false := by
      refine ⟨h a (by simp), ?_⟩
      rcases hz with rfl | ⟨rfl, _⟩
      · simp
      · rfl
    unfold nb
    rw [if_pos ha]
    rcases hz with hz | ⟨_, h1⟩
    · exact nb_none z t (k + 1) (fun c hc => h c (by simp [hc])) (.inl hz)
    · have : t = [] := List.eq_nil_of_length_eq_zero (by simp only [List.length_cons] at h1; omega)
      subst this
      rfl

theorem num_all (n : Nat) : ∀ c ∈ num n, dg c = true := digs_all 10 n [] (by simp)

theorem num_len (n : Nat) : (num n).length ≤ 10 := digs_len 10 n []

theorem numR_num (n : Nat) (h : n ≤ 4294967295) : numR (num n) = ((n : Int), 0, 0, ()) := by
  have hv : nv 0 (num n) = n := digs_nv 10 n [] (by omega) (by omega)
  have hnb : num n ≠ [] ∧ nb (z48 (num n)) 0 (num n) = none := by
    by_cases h0 : 0 < n
    · obtain ⟨c, r, e, hc⟩ := digs_head 10 n [] h0 (by omega) (by omega)
      have e' : num n = c :: r := e
      refine ⟨by rw [e']; simp, nb_none _ _ 0 (num_all n) (.inl ?_)⟩
      rw [e']
      unfold z48
      simp [hc]
    · obtain rfl : n = 0 := by omega
      exact ⟨by decide, by decide⟩
  unfold numR
  rw [if_neg hnb.1, hnb.2, hv]
  simp only
  rw [if_neg (by omega)]

theorem tdiv_nat (n : Nat) : w64 (Int.tdiv (n : Int) (10 : Int)) = ((n / 10 : Nat) : Int) ∨ 9223372036854775807 < n := by
  by_cases h : 9223372036854775807 < n
  · exact .inr h
  · left
    rw [show Int.tdiv (n : Int) (10 : Int) = ((n / 10 : Nat) : Int) from rfl]
    exact w64_id (by omega) (by omega)

theorem dig_mod (n : Nat) : u8of (w64 ((48:Int) + (Int.tmod (n : Int) (10:Int)))) = dig (n % 10) := by
  rw [show Int.tmod (n : Int) (10 : Int) = ((n % 10 : Nat) : Int) from rfl, w64_id (by omega) (by omega)]
  rfl

theorem L65_iter : ∀ (k n : Nat) (acc : List UInt8) (fuel : Nat), n < 10 ^ k → acc.length + k ≤ 1000 → k < fuel → n ≤ 4294967295 →
    iter B65_0 fuel (((n : Int), (), ()), (acc, ())) = some (((), ()), (if n = 0 then acc else digs k n acc, ())) := by
  intro k
  induction k with
  | zero =>
    intro n acc fuel h ha hf hn
    obtain ⟨fuel, rfl⟩ : ∃ f, fuel = f + 1 := ⟨fuel - 1, by omega⟩
    obtain rfl : n = 0 := by simp at h; omega
    simp only [iter, B65_0, show decide ((0:Int) < ((0 : Nat) : Int)) = false from rfl, cond_false, if_true]
  | succ k ihh =>
    intro n acc fuel h ha hf hn
    obtain ⟨fuel, rfl⟩ : ∃ f, fuel = f + 1 := ⟨fuel - 1, by omega⟩
    by_cases h0 : n = 0
    · subst h0
      simp only [iter, B65_0, show decide ((0:Int) < ((0 : Nat) : Int)) = false from rfl, cond_false, if_true]
    have e1 : decide ((0:Int) < ((n : Nat) : Int)) = true := decide_eq_true (by omega)
    have e2 : bytesOK (([dig (n % 10)] : List UInt8).length + acc.length) 1 = true := by unfold bytesOK; exact decide_eq_true (by simp only [List.length_singleton]; omega)
    have e3 : w64 (Int.tdiv ((n : Nat) : Int) (10 : Int)) = ((n / 10 : Nat) : Int) := (tdiv_nat n).resolve_right (by omega)
    have ih := ihh (n / 10) (dig (n % 10) :: acc) fuel (by rw [Nat.pow_succ] at h; omega) (by simp only [List.length_cons]; omega) (by omega) (by omega)
    rw [if_neg h0]
    simp only [iter, B65_0, e1, cond_true, dig_mod, e2, Option.bind_some, e3, List.singleton_append]
    rw [ih]
    by_cases h10 : n < 10
    · have hd : digs (k + 1) n acc = dig n :: acc := by unfold digs; rw [if_pos h10]
      have hz : n / 10 = 0 := by omega
      rw [hd, if_pos hz, Nat.mod_eq_of_lt h10]
    · have hd : digs (k + 1) n acc = digs k (n / 10) (dig (n % 10) :: acc) := by
        conv => lhs; unfold digs
        rw [if_neg h10]
      have hz : ¬ n / 10 = 0 := by omega
      rw [hd, if_neg hz]

theorem F65_eq (n : Nat) (h : n ≤ 4294967295) : F65 (((n : Int), ()), ()) = some ((num n, 0, ()), ()) := by
  have hF := FUEL_big
  have e1 : (decide ((n : Int) < 0) || decide ((4294967295 : Int) < (n : Int))) = false := by
    rw [decide_eq_false (by omega), decide_eq_false (by omega)]; rfl
  have e3 : w64 (Int.tdiv ((n : Nat) : Int) (10 : Int)) = ((n / 10 : Nat) : Int) := (tdiv_nat n).resolve_right (by omega)
  have hL : L65_0 ((((n / 10 : Nat) : Int), (), ()), ([dig (n % 10)], ())) = _ := L65_iter 9 (n / 10) [dig (n % 10)] FUEL (by omega) (by simp) (by omega) (by omega)
  simp only [F65, e1, cond_false, e3, dig_mod, hL, Option.bind_some]
  have hn : num n = if n < 10 then [dig n] else digs 9 (n / 10) [dig (n % 10)] := rfl
  rw [hn]
  by_cases h10 : n < 10
  · have hz : n / 10 = 0 := by omega
    rw [if_pos h10, if_pos hz, Nat.mod_eq_of_lt h10]
  · have hz : ¬ n / 10 = 0 := by omega
    rw [if_neg h10, if_neg hz]

theorem L14_iter' : ∀ (k n : Nat) (acc : List UInt8) (fuel : Nat), n < 10 ^ k → 0 < k → acc.length + k ≤ 1000 → k < fuel → n ≤ 4294967295 →
    ∃ (m : Nat) (r : List UInt8), iter B14_0 fuel (((n : Int), acc, ()), ()) = some (((m : Int), r, ()), ()) ∧ m < 10 ∧ dig m :: r = digs k n acc ∧ r.length ≤ 1000 := by
  intro k
  induction k with
  | zero => intro n acc fuel _ h; omega
  | succ k ihh =>
    intro n acc fuel h _ ha hf hn
    obtain ⟨fuel, rfl⟩ : ∃ f, fuel = f + 1 := ⟨fuel - 1, by omega⟩
    by_cases h10 : n < 10
    · have hd : digs (k + 1) n acc = dig n :: acc := by unfold digs; rw [if_pos h10]
      refine ⟨n, acc, ?_, h10, hd.symm, by omega⟩
      have e1 : decide ((9:Int) < ((n : Nat) : Int)) = false := decide_eq_false (by omega)
      simp only [iter, B14_0, e1, cond_false]
    · have hd : digs (k + 1) n acc = digs k (n / 10) (dig (n % 10) :: acc) := by
        conv => lhs; unfold digs
        rw [if_neg h10]
      have hk : 0 < k := by
        rcases Nat.eq_zero_or_pos k with rfl | h'
        · simp at h; omega
        · exact h'
      have e1 : decide ((9:Int) < ((n : Nat) : Int)) = true := decide_eq_true (by omega)
      have e2 : fits (([dig (n % 10)] : List UInt8).length + acc.length) = true := by unfold fits; exact decide_eq_true (by simp only [List.length_singleton]; omega)
      have e3 : w64 (Int.tdiv ((n : Nat) : Int) (10 : Int)) = ((n / 10 : Nat) : Int) := (tdiv_nat n).resolve_right (by omega)
      obtain ⟨m, r, g1, g2, g3, g4⟩ := ihh (n / 10) (dig (n % 10) :: acc) fuel (by rw [Nat.pow_succ] at h; omega) hk (by simp only [List.length_cons]; omega) (by omega) (by omega)
      refine ⟨m, r, ?_, g2, by rw [g3, hd], g4⟩
      simp only [iter, B14_0, e1, cond_true, dig_mod, e2, Option.bind_some, e3, List.singleton_append]
      exact g1

theorem F14_eq (n : Nat) (h : n ≤ 4294967295) : F14 (((n : Int), ()), ()) = some ((num n, 0, ()), ()) := by
  have hF := FUEL_big
  have e1 : (decide ((n : Int) < 0) || decide ((4294967295 : Int) < (n : Int))) = false := by
    rw [decide_eq_false (by omega), decide_eq_false (by omega)]; rfl
  obtain ⟨m, r, g1, g2, g3, g4⟩ := L14_iter' 10 n [] FUEL (by omega) (by omega) (by simp) (by omega) h
  have hL : L14_0 (((n : Int), ([]:List UInt8), ()), ()) = _ := g1
  have ed : u8of (w64 ((48:Int) + ((m : Nat) : Int))) = dig m := by rw [w64_id (by omega) (by omega)]; rfl
  have e2 : fits (([dig m] : List UInt8).length + r.length) = true := by unfold fits; exact decide_eq_true (by simp only [List.length_singleton]; omega)
  simp only [F14, e1, cond_false, hL, Option.bind_some, ed, e2, cond_true, List.singleton_append, g3]
  rfl

theorem bnd_nat {n : Int} (h : bnd n = true) : ∃ k : Nat, n = (k : Int) ∧ k ≤ 4294967295 := by
  unfold bnd at h
  simp only [Bool.and_eq_true, decide_eq_true_eq] at h
  exact ⟨n.toNat, by omega, by omega⟩

def numI (n : Int) : List UInt8 := num n.toNat

theorem F34_eq' {n : Int} (h : bnd n = true) : F34 ((n, ()), ()) = some (numI n, ()) := by
  obtain ⟨k, rfl, hk⟩ := bnd_nat h
  simp only [F34, F65_eq k hk, Option.bind_some]
  rfl

theorem F37_eq' {n : Int} (h : bnd n = true) : F37 ((n, ()), ()) = some (numI n, ()) := by
  obtain ⟨k, rfl, hk⟩ := bnd_nat h
  simp only [F37, F14_eq k hk, Option.bind_some]
  rfl
end Go.Vw

/- Numbers: text.Number and the reference's. -/
import Derived.Test.YtgfecebcaepjfaaGreatDoorVqq1
namespace Go.Vw
open Go Go.Ev
set_option maxRecDepth 100000

def dg (c : UInt8) : Bool := decide (48 ≤ c.toNat) && decide (c.toNat ≤ 57)

/-- the first place at which it is no number -/
def nb (z : Bool) : Nat → List UInt8 → Option Nat
  | _, [] => none
  | k, a :: t => if dg a = true ∧ (decide (0 < k) && z) = false then nb z (k + 1) t else some k

def nv : Nat → List UInt8 → Nat
  | n, [] => n
  | n, a :: t => nv (n * 10 + (a.toNat - 48)) t

def z48 (s : List UInt8) : Bool := decide (s.getD 0 0 = 48)

def numR (s : List UInt8) : Int × Int × Int × Unit :=
  if s = [] then (0, 0, 3, ()) else match nb (z48 s) 0 s with
    | some k => (0, (k : Int), 4, ())
    | none => if 4294967295 < nv 0 s then (0, 0, 6, ()) else ((nv 0 s : Int), 0, 0, ())

theorem nv_ge : ∀ (t : List UInt8) (n : Nat), n ≤ nv n t
  | [], _ => Nat.le_refl _
  | a :: t, n => by unfold nv; exact Nat.le_trans (by omega) (nv_ge t _)

theorem nv_sat : ∀ (t : List UInt8) (n m : Nat), min n 4294967296 = min m 4294967296 → min (nv n t) 4294967296 = min (nv m t) 4294967296
  | [], _, _, h => h
  | a :: t, n, m, h => by unfold nv; exact nv_sat t _ _ (by omega)

theorem wrap32 {n : Int} (h1 : 0 ≤ n) (h2 : n ≤ 1000) : IntKind.wrap .i32 n = n := by
  unfold IntKind.wrap
  simp only [IntKind.bits, IntKind.signed]
  by_cases h : n % 2 ^ 32 ≥ 2 ^ 31
  · simp; omega
  · simp; omega

theorem L99_iter (s : List UInt8) (hs : s.length ≤ 8000000) : ∀ (t : List UInt8) (k m fuel : Nat), s.drop k = t → t.length < fuel → m ≤ 4294967296 →
    iter B99_0 fuel ((s, (m : Int), (k : Int), (), ()), ((s, k), ())) = some (match nb (z48 s) k t with
      | some j => .inr (((), (j : Int), (), ()), ())
      | none => .inl ((((min (nv m t) 4294967296 : Nat) : Int), ()), ())) := by
  intro t
  induction t with
  | nil =>
    intro k m fuel h hf hm
    obtain ⟨fuel, rfl⟩ : ∃ f, fuel = f + 1 := ⟨fuel - 1, by simp only [List.length_nil] at hf; omega⟩
    have hk : ¬ k < s.length := by
      have := congrArg List.length h
      simp only [List.length_drop, List.length_nil] at this
      omega
    have e : min (nv m []) 4294967296 = m := Nat.min_eq_left hm
    simp only [iter, B99_0, hk, decide_false, cond_false, nb, e]
  | cons a t ihh =>
    intro k m fuel h hf hm
    obtain ⟨fuel, rfl⟩ : ∃ f, fuel = f + 1 := ⟨fuel - 1, by simp only [List.length_cons] at hf; omega⟩
    have hl := congrArg List.length h
    simp only [List.length_drop, List.length_cons] at hl hf
    have hk : k < s.length := by omega
    have hd : Utf8.decode ⟨s.toArray⟩ k = Lib.decodeL (a :: t) := by rw [dec_at hk, h]
    have ht : s.drop (k + 1) = t := by rw [← List.drop_drop, h]; rfl
    have e0 : decide ((0 : Int) < ((s.length : Nat) : Int)) = true := decide_eq_true (by omega)
    have ek : decide ((0 : Int) < ((k : Nat) : Int)) = decide (0 < k) := by rw [decide_eq_decide]; omega
    obtain ⟨h1, h2⟩ := dec_low (a :: t)
    simp only [List.getD_cons_zero] at h1 h2
    by_cases hg : dg a = true
    · have hg' := hg
      unfold dg at hg'
      simp only [Bool.and_eq_true, decide_eq_true_eq] at hg'
      rw [h1 (by omega)] at hd
      have r1 : decide (((a.toNat : Nat) : Int) < 48) = false := decide_eq_false (by omega)
      have r2 : decide ((57 : Int) < ((a.toNat : Nat) : Int)) = false := decide_eq_false (by omega)
      by_cases hz : (decide (0 < k) && z48 s) = true
      · have hz' : (decide (0 < k) && decide (s.getD 0 0 = 48)) = true := hz
        have hnb : nb (z48 s) k (a :: t) = some k := by unfold nb; rw [if_neg (by rw [hz]; simp)]
        simp only [iter, B99_0, hk, decide_true, cond_true, e0, Bool.true_or, hd, r1, r2, ek, hz', Bool.or_true, hnb]
      · have hz0 : (decide (0 < k) && z48 s) = false := by simpa using hz
        have hz' : (decide (0 < k) && decide (s.getD 0 0 = 48)) = false := hz0
        have hnb : nb (z48 s) k (a :: t) = nb (z48 s) (k + 1) t := by
          conv => lhs; unfold nb
          rw [if_pos ⟨hg, hz0⟩]
        have e1 : w64 ((m : Int) * 10) = (m : Int) * 10 := w64_id (by omega) (by omega)
        have e2 : w64 (IntKind.wrap .i32 (((a.toNat : Nat) : Int) - 48)) = ((a.toNat - 48 : Nat) : Int) := by rw [wrap32 (by omega) (by omega), w64_id (by omega) (by omega)]; omega
        have e3 : w64 ((m : Int) * 10 + ((a.toNat - 48 : Nat) : Int)) = ((m * 10 + (a.toNat - 48) : Nat) : Int) := by rw [w64_id (by omega) (by omega)]; omega
        have e4 : (cond (decide ((4294967296 : Int) < ((m * 10 + (a.toNat - 48) : Nat) : Int))) (4294967296 : Int) ((m * 10 + (a.toNat - 48) : Nat) : Int)) = ((min (m * 10 + (a.toNat - 48)) 4294967296 : Nat) : Int) := by
          by_cases hc : 4294967296 < m * 10 + (a.toNat - 48)
          · rw [decide_eq_true (by omega)]; simp only [cond_true]; omega
          · rw [decide_eq_false (by omega)]; simp only [cond_false]; omega
        have ih := ihh (k + 1) (min (m * 10 + (a.toNat - 48)) 4294967296) fuel ht (by omega) (by omega)
        simp only [iter, B99_0, hk, decide_true, cond_true, e0, Bool.true_or, hd, r1, r2, ek, hz', Bool.or_self, cond_false, e1, e2, e3, e4, w64_nat (show k < 9223372036854775807 by omega), Option.bind_some]
        rw [ih, hnb]
        have := nv_sat t (min (m * 10 + (a.toNat - 48)) 4294967296) (m * 10 + (a.toNat - 48)) (by omega)
        rw [this]
        conv => rhs; unfold nv
    · have hnb : nb (z48 s) k (a :: t) = some k := by unfold nb; rw [if_neg (fun h => hg h.1)]
      have hc : (decide ((((Lib.decodeL (a :: t)).1 : Nat) : Int) < 48) || decide ((57 : Int) < (((Lib.decodeL (a :: t)).1 : Nat) : Int))) = true := by
        have hg' : ¬ (48 ≤ a.toNat ∧ a.toNat ≤ 57) := fun h => hg (by unfold dg; simp [h])
        rw [Bool.or_eq_true, decide_eq_true_eq, decide_eq_true_eq]
        by_cases ha : a.toNat < 128
        · rw [h1 ha]; simp only; omega
        · have := h2 (by omega); omega
      simp only [iter, B99_0, hk, decide_true, cond_true, e0, Bool.true_or, hd, hc, hnb]

theorem F99_eq (s : List UInt8) (hs : s.length ≤ 8000000) : F99 ((s, ()), ()) = some (numR s, ()) := by
  unfold numR
  by_cases h0 : s = []
  · subst h0; rfl
  have hF := FUEL_big
  have hi : L99_0 ((s, (0:Int), (0:Int), (), ()), ((s, 0), ())) = _ := L99_iter s hs s 0 0 FUEL rfl (by omega) (by omega)
  simp only [F99, h0, decide_false, cond_false, hi, if_false]
  cases hn : nb (z48 s) 0 s with
  | some k => simp only [Option.bind_some]
  | none =>
    simp only [Option.bind_some]
    by_cases hv : 4294967295 < nv 0 s
    · rw [decide_eq_true (by omega), if_pos hv]; rfl
    · rw [decide_eq_false (by omega), if_neg hv, Nat.min_eq_left (by omega)]; rfl
end Go.Vw

namespace Go.Vw
open Go Go.Ev
set_option maxRecDepth 100000

theorem dec_dg {a : UInt8} (t : List UInt8) (h : dg a = true) : Lib.decodeL (a :: t) = (a.toNat, 1) := by
  unfold dg at h
  simp only [Bool.and_eq_true, decide_eq_true_eq] at h
  have := (dec_low (a :: t)).1 (by simp only [List.getD_cons_zero]; omega)
  simpa using this

theorem lts_dg {a : UInt8} (t : List UInt8) (h : dg a = true) : lts (a :: t) = [a] :: lts t := by
  rw [lts_step (by simp), dec_dg t h]
  rfl

theorem nb_all (z : Bool) : ∀ (t : List UInt8) (k : Nat), nb z k t = none → ∀ c ∈ t, dg c = true
  | [], _, _, _, h => by cases h
  | a :: t, k, h, c, hc => by
    unfold nb at h
    by_cases hg : dg a = true ∧ (decide (0 < k) && z) = false
    · rw [if_pos hg] at h
      rcases List.mem_cons.1 hc with rfl | hc
      · exact hg.1
      · exact nb_all z t (k + 1) h c hc
    · rw [if_neg hg] at h; cases h

theorem lts_hd {a : UInt8} {t : List UInt8} : ∃ w, lts (a :: t) = (a :: w) :: lts ((a :: t).drop (Lib.decodeL (a :: t)).2) ∧ (dg a = true → w = []) := by
  refine ⟨t.take ((Lib.decodeL (a :: t)).2 - 1), ?_, fun h => by rw [dec_dg t h]; rfl⟩
  have hw := Lib.decodeL_width (a :: t)
  have h1 : 1 ≤ (Lib.decodeL (a :: t)).2 := by omega
  rw [lts_step (by simp)]
  obtain ⟨j, hj⟩ : ∃ j, (Lib.decodeL (a :: t)).2 = j + 1 := ⟨(Lib.decodeL (a :: t)).2 - 1, by omega⟩
  rw [hj]
  rfl

theorem getD_drop {α : Type} {L : List α} {k : Nat} {x : α} {r : List α} (d : α) (h : L.drop k = x :: r) : L.getD k d = x ∧ k < L.length ∧ L.drop (k + 1) = r := by
  have hk : k < L.length := by
    have := congrArg List.length h
    simp only [List.length_drop, List.length_cons] at this
    omega
  refine ⟨?_, hk, by rw [← List.drop_drop, h]; rfl⟩
  rw [List.drop_eq_getElem_cons hk] at h
  rw [List.getD_eq_getElem?_getD, List.getElem?_eq_getElem hk]
  exact (List.cons.inj h).1

theorem L26a_iter (s : List UInt8) (hs : (lts s).length ≤ 8000000) : ∀ (t : List UInt8) (k fuel : Nat), s.drop k = t → (lts s).drop k = lts t → t.length < fuel → (0 < k → decide ((lts s).getD 0 [] = [48]) = z48 s) →
    iter B26_0 fuel (((), (k : Int), ()), (lts s, ())) = some (match nb (z48 s) k t with
      | some j => .inr (((), (j : Int), (), ()), ())
      | none => .inl (((), ()), (lts s, ()))) := by
  intro t
  induction t with
  | nil =>
    intro k fuel _ h hf _
    obtain ⟨fuel, rfl⟩ : ∃ f, fuel = f + 1 := ⟨fuel - 1, by simp only [List.length_nil] at hf; omega⟩
    have hk : ¬ k < (lts s).length := by
      have := congrArg List.length h
      rw [lts_nil] at this
      simp only [List.length_drop, List.length_nil] at this
      omega
    have e : decide ((k : Int) < (((lts s).length : Nat) : Int)) = false := decide_eq_false (by omega)
    simp only [iter, B26_0, e, cond_false, nb]
  | cons a t ihh =>
    intro k fuel hst h hf hz
    obtain ⟨fuel, rfl⟩ : ∃ f, fuel = f + 1 := ⟨fuel - 1, by simp only [List.length_cons] at hf; omega⟩
    simp only [List.length_cons] at hf
    obtain ⟨w, hw, hw0⟩ := @lts_hd a t
    rw [hw] at h
    obtain ⟨g1, g2, g3⟩ := getD_drop [] h
    have e1 : decide ((k : Int) < (((lts s).length : Nat) : Int)) = true := decide_eq_true (by omega)
    have e0 : decide ((0 : Int) < (((lts s).length : Nat) : Int)) = true := decide_eq_true (by omega)
    have e2 : decide ((0 : Int) < (((a :: w).length : Nat) : Int)) = true := decide_eq_true (by simp only [List.length_cons]; omega)
    have ek : decide ((0 : Int) < ((k : Nat) : Int)) = decide (0 < k) := by rw [decide_eq_decide]; omega
    have hL : (lts s).length = (lts s).length := rfl
    by_cases hg : dg a = true
    · obtain rfl := hw0 hg
      have hg' := hg
      unfold dg at hg'
      simp only [Bool.and_eq_true, decide_eq_true_eq] at hg'
      have c1 : decide (a.toNat < UInt8.toNat 48) = false := decide_eq_false (by show ¬ a.toNat < 48; omega)
      have c2 : decide (UInt8.toNat 57 < a.toNat) = false := decide_eq_false (by show ¬ 57 < a.toNat; omega)
      have c3 : decide (((([a] : List UInt8).length : Nat) : Int) = 1) = true := rfl
      have hz' : (decide (0 < k) && decide ((lts s).getD 0 [] = [48])) = (decide (0 < k) && z48 s) := by
        by_cases hk0 : 0 < k
        · rw [hz hk0]
        · rw [decide_eq_false hk0]; rfl
      by_cases hzz : (decide (0 < k) && z48 s) = true
      · have hnb : nb (z48 s) k (a :: t) = some k := by unfold nb; rw [if_neg (by rw [hzz]; simp)]
        simp only [iter, B26_0, nat_nn, e0, e1, e2, ek, Int.toNat_natCast, g1, Bool.and_self, Bool.true_or, cond_true, List.getD_cons_zero, c1, c2, c3, Bool.not_true, Bool.or_self, Bool.false_or, hz', hzz, hnb]
      · have hzz0 : (decide (0 < k) && z48 s) = false := by simpa using hzz
        have hnb : nb (z48 s) k (a :: t) = nb (z48 s) (k + 1) t := by
          conv => lhs; unfold nb
          rw [if_pos ⟨hg, hzz0⟩]
        rw [dec_dg t hg] at g3
        have ih := ihh (k + 1) fuel (by rw [← List.drop_drop, hst]; rfl) g3 (by omega) (fun _ => by
          by_cases hk0 : 0 < k
          · exact hz hk0
          · obtain rfl : k = 0 := by omega
            have hs0 : s = a :: t := hst
            rw [g1]
            unfold z48
            rw [hs0]
            simp)
        simp only [iter, B26_0, nat_nn, e0, e1, e2, ek, Int.toNat_natCast, g1, Bool.and_self, Bool.true_or, cond_true, List.getD_cons_zero, c1, c2, c3, Bool.not_true, Bool.or_self, hz', hzz0, cond_false, w64_nat (show k < 9223372036854775807 by omega)]
        rw [ih, hnb]
    · have hnb : nb (z48 s) k (a :: t) = some k := by unfold nb; rw [if_neg (fun h => hg h.1)]
      have hc : ((!(decide ((((a :: w).length : Nat) : Int) = 1)) || decide (a.toNat < UInt8.toNat 48)) || decide (UInt8.toNat 57 < a.toNat)) = true := by
        have hg' : ¬ (48 ≤ a.toNat ∧ a.toNat ≤ 57) := fun h => hg (by unfold dg; simp [h])
        have : a.toNat < 48 ∨ 57 < a.toNat := by omega
        rcases this with h | h
        · rw [show decide (a.toNat < UInt8.toNat 48) = true from decide_eq_true h]; simp
        · rw [show decide (UInt8.toNat 57 < a.toNat) = true from decide_eq_true h]; simp
      simp only [iter, B26_0, nat_nn, e0, e1, e2, ek, Int.toNat_natCast, g1, Bool.and_self, Bool.true_or, cond_true, List.getD_cons_zero, hc, hnb]

theorem L26b_iter (s : List UInt8) (hs : (lts s).length ≤ 8000000) : ∀ (t : List UInt8) (k n fuel : Nat), (∀ c ∈ t, dg c = true) → (lts s).drop k = lts t → t.length < fuel → n ≤ 4294967295 →
    iter B26_1 fuel (((), (n : Int), (k : Int), ()), (lts s, ())) = some (if 4294967295 < nv n t then .inr (((), (), (), ()), ()) else .inl (((nv n t : Int), ()), ())) := by
  intro t
  induction t with
  | nil =>
    intro k n fuel _ h hf hn
    obtain ⟨fuel, rfl⟩ : ∃ f, fuel = f + 1 := ⟨fuel - 1, by simp only [List.length_nil] at hf; omega⟩
    have hk : ¬ k < (lts s).length := by
      have := congrArg List.length h
      rw [lts_nil] at this
      simp only [List.length_drop, List.length_nil] at this
      omega
    have e : decide ((k : Int) < (((lts s).length : Nat) : Int)) = false := decide_eq_false (by omega)
    have en : nv n [] = n := rfl
    have e2 : ¬ 4294967295 < n := by omega
    rw [en]
    simp only [iter, B26_1, e, cond_false, if_neg e2]
  | cons a t ihh =>
    intro k n fuel hall h hf hn
    obtain ⟨fuel, rfl⟩ : ∃ f, fuel = f + 1 := ⟨fuel - 1, by simp only [List.length_cons] at hf; omega⟩
    simp only [List.length_cons] at hf
    have hg := hall a (by simp)
    rw [lts_dg t hg] at h
    obtain ⟨g1, g2, g3⟩ := getD_drop [] h
    have hg' := hg
    unfold dg at hg'
    simp only [Bool.and_eq_true, decide_eq_true_eq] at hg'
    have e1 : decide ((k : Int) < (((lts s).length : Nat) : Int)) = true := decide_eq_true (by omega)
    have e2 : decide ((0 : Int) < ((([a] : List UInt8).length : Nat) : Int)) = true := rfl
    have e3 : w64 ((10 : Int) * (n : Int)) = (10 : Int) * (n : Int) := w64_id (by omega) (by omega)
    have e4 : w64 ((10 : Int) * (n : Int) + ((a.toNat : Nat) : Int)) = (10 : Int) * (n : Int) + ((a.toNat : Nat) : Int) := w64_id (by omega) (by omega)
    have e5 : w64 ((10 : Int) * (n : Int) + ((a.toNat : Nat) : Int) - 48) = ((n * 10 + (a.toNat - 48) : Nat) : Int) := by rw [w64_id (by omega) (by omega)]; omega
    have en : nv n (a :: t) = nv (n * 10 + (a.toNat - 48)) t := by conv => lhs; unfold nv
    rw [en]
    by_cases hc : 4294967295 < n * 10 + (a.toNat - 48)
    · have hge := nv_ge t (n * 10 + (a.toNat - 48))
      rw [if_pos (by omega)]
      have e6 : decide ((4294967295 : Int) < ((n * 10 + (a.toNat - 48) : Nat) : Int)) = true := decide_eq_true (by omega)
      simp only [iter, B26_1, nat_nn, e1, Int.toNat_natCast, g1, e2, Bool.and_self, cond_true, List.getD_cons_zero, e3, e4, e5, Option.bind_some, e6]
    · have e6 : decide ((4294967295 : Int) < ((n * 10 + (a.toNat - 48) : Nat) : Int)) = false := decide_eq_false (by omega)
      have ih := ihh (k + 1) (n * 10 + (a.toNat - 48)) fuel (fun c hc => hall c (by simp [hc])) g3 (by omega) (by omega)
      simp only [iter, B26_1, nat_nn, e1, Int.toNat_natCast, g1, e2, Bool.and_self, cond_true, List.getD_cons_zero, e3, e4, e5, Option.bind_some, e6, cond_false, w64_nat (show k < 9223372036854775807 by omega)]
      rw [ih]

theorem lts_ne {s : List UInt8} (h : s ≠ []) : lts s ≠ [] := by rw [lts_step h]; simp

theorem F26_eq (s : List UInt8) (hs : s.length ≤ 8000000) : F26 ((s, ()), ()) = some (numR s, ()) := by
  unfold numR
  have hl := lts_len s.length s (Nat.le_refl _)
  by_cases h0 : s = []
  · subst h0; simp only [F26, F50_eq [] (by simp), Option.bind_some, lts_nil]; rfl
  have hF := FUEL_big
  have hpos : 0 < (lts s).length := List.length_pos_iff.2 (lts_ne h0)
  have e0 : decide ((((lts s).length : Nat) : Int) = 0) = false := decide_eq_false (by omega)
  have h1 : L26_0 (((), (0:Int), ()), (lts s, ())) = _ := L26a_iter s (by omega) s 0 FUEL rfl rfl (by omega) (fun h => absurd h (by omega))
  simp only [F26, F50_eq s hs, h0, Option.bind_some, e0, cond_false, h1, if_false]
  cases hn : nb (z48 s) 0 s with
  | some k => rfl
  | none =>
    have h2 : L26_1 (((), (0:Int), (0:Int), ()), (lts s, ())) = _ := L26b_iter s (by omega) s 0 0 FUEL (nb_all _ s 0 hn) rfl (by omega) (by omega)
    simp only [Option.bind_some, h2]
    by_cases hv : 4294967295 < nv 0 s
    · rw [if_pos hv, if_pos hv]; rfl
    · rw [if_neg hv, if_neg hv]; rfl
end Go.Vw

namespace Go.Vw
open Go Go.Ev
set_option maxRecDepth 100000

/-- where a byte is first -/
def fst (c : UInt8) : List UInt8 → Option Nat
  | [] => none
  | b :: t => if b = c then some 0 else (fst c t).map (· + 1)

theorem indexByte_fst (c : UInt8) : ∀ l : List UInt8, Go.Lib.indexByte l c = match fst c l with | none => -1 | some k => (k : Int)
  | [] => rfl
  | b :: t => by
    have ih := indexByte_fst c t
    unfold Go.Lib.indexByte fst
    by_cases h : b = c
    · subst h
      simp
    · have h1 : ¬ (b == c) = true := fun e => h (eq_of_beq e)
      rw [if_neg h1, if_neg h, ih]
      cases fst c t with
      | none => rfl
      | some k =>
        have : ¬ (((k : Int)) == -1) = true := by
          intro e
          have := eq_of_beq e
          omega
        simp only [this, Option.map_some]
        rfl

theorem fst_lt (c : UInt8) : ∀ (l : List UInt8) (k : Nat), fst c l = some k → k < l.length
  | [], _, h => by cases h
  | b :: t, k, h => by
    unfold fst at h
    by_cases hb : b = c
    · rw [if_pos hb] at h
      injection h with h
      subst h
      simp
    · rw [if_neg hb] at h
      cases hf : fst c t with
      | none => rw [hf] at h; cases h
      | some j =>
        rw [hf] at h
        simp only [Option.map_some, Option.some.injEq] at h
        have := fst_lt c t j hf
        simp only [List.length_cons]
        omega

theorem split_at (c : UInt8) : ∀ (u : List UInt8) (k : Nat), fst c u = some k → u = u.take k ++ c :: u.drop (k + 1)
  | [], _, h => by cases h
  | b :: t, k, h => by
    unfold fst at h
    by_cases hb : b = c
    · rw [if_pos hb] at h
      injection h with h
      subst h
      subst hb
      rfl
    · rw [if_neg hb] at h
      cases hf : fst c t with
      | none => rw [hf] at h; cases h
      | some j =>
        rw [hf] at h
        simp only [Option.map_some, Option.some.injEq] at h
        subst h
        have ih := split_at c t j hf
        rw [List.take_succ_cons, List.drop_succ_cons, List.cons_append, ← ih]

theorem cut_eq (u : List UInt8) : Go.Lib.cut u [46] = match fst 46 u with
    | none => (u, [], false)
    | some k => (u.take k, u.drop (k + 1), true) := by
  unfold Go.Lib.cut
  rw [Go.Lib.index_one, indexByte_fst]
  cases fst 46 u with
  | none => rfl
  | some k =>
    have : (0:Int) ≤ (k : Int) := by omega
    simp only [this, ↓reduceIte, Int.toNat_natCast]
    rfl

end Go.Vw

/- Flags in words. -/
import Derived.Test.YtgfecebcaepjfaaGreatDoorVw2
import Derived.Test.YtgfecebcaepjfaaGreatDoorEvV
import Derived.Test.YtgfecebcaepjfaaGreatDoorLoopL
namespace Go.Vw
open Go Go.Ev
set_option maxRecDepth 100000

theorem append_set {α : Type} : ∀ (a t : List α) (x y : α), (a ++ x :: t).set a.length y = a ++ y :: t
  | [], _, _, _ => rfl
  | b :: a, t, x, y => by
    simp only [List.cons_append, List.length_cons, List.set_cons_succ, append_set a t x y]

theorem drop_cons {α : Type} {s : List α} {i : Nat} {a : α} (hi : i < s.length) (ha : ∀ d, s.getD i d = a) : s.drop i = a :: s.drop (i + 1) := by
  rw [List.drop_eq_getElem_cons hi]
  have := ha s[i]
  rw [List.getD_eq_getElem?_getD, List.getElem?_eq_getElem hi] at this
  rw [show s[i] = a from this]

theorem foldS_push {α β τ : Type} (g : α → β) (fin : List β → τ) : ∀ (s : List α) (b : List β), foldS (fun a b => (.inl (b ++ [g a]) : List β ⊕ τ)) fin b s = fin (b ++ s.map g)
  | [], b => by simp [foldS]
  | a :: t, b => by
    simp only [foldS]
    rw [foldS_push g fin t]
    simp

def lowc (c : UInt8) : UInt8 := if 65 ≤ c.toNat ∧ c.toNat ≤ 90 then c + 32 else c

theorem F40_eq (s : List UInt8) (hs : s.length ≤ maxLen) : F40 ((s, ()), ()) = some (s.map lowc, ()) := by
  have hF : maxLen < FUEL := by unfold maxLen FUEL; omega
  have hm : maxLen = 9223372036854775807 := rfl
  have h := walk_listI (f := B40_0) (fun (b : List UInt8) i => (((), (), ((s.length : Nat) : Int), (i : Int), ()), (b ++ s.drop i, ()))) s (fun a b => .inl (b ++ [lowc a])) (fun b => (((), ()), (b, ()))) (fun b i => b.length = i) (b := [])
    (fun b i a hI hi ha => .inl ⟨_, rfl, by rw [List.length_append, hI]; rfl, by
      subst hI
      have hd := drop_cons hi ha
      have hlt : b.length < (b ++ s.drop b.length).length := by rw [hd]; simp
      have hg : (b ++ s.drop b.length).getD b.length 0 = a := by
        rw [hd, List.getD_eq_getElem?_getD, List.getElem?_append_right (Nat.le_refl _)]
        simp
      have hset : (b ++ s.drop b.length).set b.length (a + 32) = b ++ [a + 32] ++ s.drop (b.length + 1) := by
        rw [hd, append_set]; simp
      have hkeep : b ++ s.drop b.length = b ++ [a] ++ s.drop (b.length + 1) := by
        rw [hd]; simp
      simp only [B40_0, nat_lt, nat_nn, hi, hlt, decide_true, Bool.and_true, cond_true, Int.toNat_natCast, hg, hset, show UInt8.toNat 65 = 65 from rfl, show UInt8.toNat 90 = 90 from rfl]
      unfold lowc
      by_cases h1 : 65 ≤ a.toNat
      · by_cases h2 : a.toNat ≤ 90
        · simp only [h1, h2, decide_true, Bool.and_self, cond_true, Option.bind_some, and_self, ↓reduceIte, w64_nat (show b.length < 9223372036854775807 by omega)]
        · simp only [h1, h2, decide_true, decide_false, Bool.and_false, cond_false, Option.bind_some, and_false, ↓reduceIte, ← hkeep, w64_nat (show b.length < 9223372036854775807 by omega)]
      · simp only [h1, decide_false, Bool.false_and, cond_false, Option.bind_some, false_and, ↓reduceIte, ← hkeep, w64_nat (show b.length < 9223372036854775807 by omega)]⟩)
    (fun b _ => by simp only [B40_0, Int.lt_irrefl, decide_false, cond_false, List.drop_length, List.append_nil]) (by omega) rfl
  rw [foldS_push] at h
  have h' : L40_0 (((), (), ((s.length : Nat) : Int), (0:Int), ()), (s, ())) = some (((), ()), (s.map lowc, ())) := h
  simp only [F40, h', Option.bind_some]

theorem F22_eq (s : List UInt8) (hs : s.length ≤ 8000000) : F22 ((s, ()), ()) = some (s.map lowc, ()) := by
  have hF := FUEL_big
  have h := walk_listI (f := B22_0) (fun (b : List UInt8) i => ((s, b, (i : Int), ()), ())) s (fun a b => .inl (b ++ [lowc a])) (fun b => ((b, ()), ())) (fun b i => b.length = i) (b := [])
    (fun b i a hI hi ha => .inl ⟨_, rfl, by rw [List.length_append, hI]; rfl, by
      have hw := w64_nat (show i < 9223372036854775807 by omega)
      have hg := ha 0
      have hf : ∀ x : UInt8, fits (b.length + ([x] : List UInt8).length) = true := fun x => decide_eq_true (by simp; omega)
      have z1 : UInt8.toNat 65 = 65 := rfl
      have z2 : UInt8.toNat 90 = 90 := rfl
      unfold lowc
      by_cases h1 : 65 ≤ a.toNat
      · by_cases h2 : a.toNat ≤ 90
        · simp only [B22_0, nat_lt, nat_nn, hi, decide_true, Bool.and_self, cond_true, Int.toNat_natCast, hg, z1, z2, h1, h2, Option.bind_some, hf, hw, and_self, if_true]
        · simp only [B22_0, nat_lt, nat_nn, hi, decide_true, decide_false, Bool.and_self, Bool.and_false, cond_true, cond_false, Int.toNat_natCast, hg, z1, z2, h1, h2, Option.bind_some, hf, hw, and_false, if_false]
      · simp only [B22_0, nat_lt, nat_nn, hi, decide_true, decide_false, Bool.and_self, Bool.false_and, cond_true, cond_false, Int.toNat_natCast, hg, z1, z2, h1, Option.bind_some, hf, hw, false_and, if_false]⟩)
    (fun b _ => by simp only [B22_0, Int.lt_irrefl, decide_false, cond_false]) (by omega) rfl
  rw [foldS_push] at h
  have h' : L22_0 ((s, ([]:List UInt8), (0:Int), ()), ()) = some ((s.map lowc, ()), ()) := h
  simp only [F22, h', Option.bind_some]


theorem F21_eq (a b : List UInt8) (ha : a.length ≤ maxLen) (hb : b.length ≤ maxLen) : F21 ((a, b, ()), ()) = some (decide (a.map lowc = b.map lowc), ()) := by
  simp only [F21, F40_eq a ha, F40_eq b hb, Option.bind_some]

end Go.Vw

/- Lists of texts that rise, in plain Lean. -/
import Derived.Lib.SlicesCompact
import Derived.Sort.Walk0
namespace Go.Gl
open Go Go.Proofs

abbrev Tx := List UInt8

def Rise (l : List Tx) : Prop := l.Pairwise (· < ·)

theorem lt_irr (a : Tx) : ¬ a < a := List.lt_irrefl a
theorem lt_tr {a b c : Tx} (h1 : a < b) (h2 : b < c) : a < c := List.lt_trans h1 h2
theorem lt_of_le {a b : Tx} (h : a ≤ b) (h2 : a ≠ b) : a < b := by
  rcases Classical.em (a < b) with h1 | h1
  · exact h1
  · exact absurd (List.le_antisymm h h1) h2
theorem lt_tot {a b : Tx} (h1 : ¬ a < b) (h2 : a ≠ b) : b < a := by
  rcases List.le_total a b with h | h
  · exact absurd (lt_of_le h h2) h1
  · exact lt_of_le h (Ne.symm h2)

theorem rise_eq : ∀ {a b : List Tx}, Rise a → Rise b → (∀ x, x ∈ a ↔ x ∈ b) → a = b
  | [], [], _, _, _ => rfl
  | [], y :: b, _, _, h => absurd ((h y).2 (by simp)) (by simp)
  | x :: a, [], _, _, h => absurd ((h x).1 (by simp)) (by simp)
  | x :: a, y :: b, h1, h2, h => by
    rw [Rise, List.pairwise_cons] at h1 h2
    have hxy : x = y := by
      have m1 := (h x).1 (by simp)
      have m2 := (h y).2 (by simp)
      rcases List.mem_cons.1 m1 with e | e
      · exact e
      rcases List.mem_cons.1 m2 with e' | e'
      · exact e'.symm
      · exact absurd (lt_tr (h1.1 y e') (h2.1 x e)) (lt_irr x)
    subst hxy
    have : a = b := rise_eq h1.2 h2.2 fun z => by
      constructor
      · intro hz
        rcases List.mem_cons.1 ((h z).1 (List.mem_cons_of_mem _ hz)) with e | e
        · subst e; exact absurd (h1.1 z hz) (lt_irr z)
        · exact e
      · intro hz
        rcases List.mem_cons.1 ((h z).2 (List.mem_cons_of_mem _ hz)) with e | e
        · subst e; exact absurd (h2.1 z hz) (lt_irr z)
        · exact e
    rw [this]

/-- a text laid into a rising list -/
def ins (s : Tx) : List Tx → List Tx
  | [] => [s]
  | x :: l => if s < x then s :: x :: l else x :: ins s l

theorem mem_ins {s : Tx} : ∀ {l : List Tx} {x : Tx}, x ∈ ins s l ↔ x = s ∨ x ∈ l
  | [], x => by simp [ins]
  | y :: l, x => by
    unfold ins
    split
    · simp
    · rw [List.mem_cons, mem_ins, List.mem_cons]
      constructor
      · rintro (h | h | h) <;> simp [h]
      · rintro (h | h | h) <;> simp [h]

theorem len_ins {s : Tx} : ∀ {l : List Tx}, (ins s l).length = l.length + 1
  | [] => rfl
  | y :: l => by
    unfold ins
    split
    · rfl
    · simp [len_ins]

theorem rise_ins {s : Tx} : ∀ {l : List Tx}, Rise l → s ∉ l → Rise (ins s l)
  | [], _, _ => by simp [ins, Rise]
  | y :: l, h, hs => by
    rw [Rise, List.pairwise_cons] at h
    unfold ins
    split
    · rename_i h1
      refine List.pairwise_cons.2 ⟨fun z hz => ?_, List.pairwise_cons.2 h⟩
      rcases List.mem_cons.1 hz with e | e
      · rw [e]; exact h1
      · exact lt_tr h1 (h.1 z e)
    · rename_i h1
      refine List.pairwise_cons.2 ⟨fun z hz => ?_, rise_ins h.2 fun h => hs (List.mem_cons_of_mem _ h)⟩
      rcases mem_ins.1 hz with e | e
      · rw [e]; exact lt_tot h1 fun e => hs (by simp [e])
      · exact h.1 z e

def layS (l : List Tx) (s : Tx) : List Tx := if s ∈ l then l else ins s l

theorem mem_layS {l : List Tx} {s x : Tx} : x ∈ layS l s ↔ x = s ∨ x ∈ l := by
  unfold layS
  split
  · rename_i h
    constructor
    · exact .inr
    · rintro (e | e)
      · rw [e]; exact h
      · exact e
  · exact mem_ins

theorem rise_layS {l : List Tx} {s : Tx} (h : Rise l) : Rise (layS l s) := by
  unfold layS
  split
  · exact h
  · rename_i h1; exact rise_ins h h1

theorem len_layS {l : List Tx} {s : Tx} : (layS l s).length ≤ l.length + 1 := by
  unfold layS
  split
  · omega
  · rw [len_ins]; omega

/-- what slices.Sort leaves -/
def sortT (l : List Tx) : List Tx := l.mergeSort fun x y => decide (x ≤ y)

theorem sortT_pair (l : List Tx) : (sortT l).Pairwise (· ≤ ·) := by
  have := List.pairwise_mergeSort (le := fun x y : Tx => decide (x ≤ y)) (fun a b c h1 h2 => by
    simp only [decide_eq_true_eq] at *
    exact List.le_trans h1 h2) (fun a b => by
    simp only [Bool.or_eq_true, decide_eq_true_eq]
    exact List.le_total a b) l
  exact this.imp fun h => by simpa using h

theorem mem_sortT {l : List Tx} {x : Tx} : x ∈ sortT l ↔ x ∈ l := (List.mergeSort_perm l _).mem_iff

theorem len_sortT (l : List Tx) : (sortT l).length = l.length := List.length_mergeSort _

def sortW (l : List Tx) (lo n : Nat) : List Tx := l.take lo ++ sortT ((l.drop lo).take n) ++ l.drop (lo + n)
def compN (l : List Tx) (lo n : Nat) : Nat := (Lib.compact ((l.drop lo).take n)).length
def compW (l : List Tx) (lo n : Nat) : List Tx :=
  l.take lo ++ (Lib.compact ((l.drop lo).take n) ++ List.replicate (n - (Lib.compact ((l.drop lo).take n)).length) []) ++ l.drop (lo + n)

theorem keep_lt {l : List Tx} (h : l.Pairwise (· ≤ ·)) {i j : Nat} (hij : i < j) (hj : j < l.length) (hk : Lib.keeps l.toArray j = true) : l.toArray[i]! < l.toArray[j]! := by
  have e : ∀ k, k < l.length → l.toArray[k]! = l.getD k [] := fun k hk => by
    rw [getElem!_pos _ _ (by simpa using hk), List.getD_eq_getElem?_getD, List.getElem?_eq_getElem hk]
    simp
  have h1 : l.getD j [] ≠ l.getD (j - 1) [] := by
    unfold Lib.keeps at hk
    rw [decide_eq_true_eq] at hk
    rcases hk with hk | hk
    · omega
    · rw [e j hj, e (j - 1) (by omega)] at hk; exact hk
  have le : ∀ a b, a ≤ b → b < l.length → l.getD a [] ≤ l.getD b [] := fun a b hab hb => by
    rcases Nat.eq_or_lt_of_le hab with rfl | hlt
    · exact List.le_refl _
    · have := List.pairwise_iff_getElem.1 h a b (by omega) hb hlt
      rw [List.getD_eq_getElem?_getD, List.getD_eq_getElem?_getD, List.getElem?_eq_getElem hb, List.getElem?_eq_getElem (show a < l.length by omega)]
      exact this
  rw [e i (by omega), e j hj]
  have h2 : l.getD (j - 1) [] < l.getD j [] := lt_of_le (le _ _ (by omega) hj) (Ne.symm h1)
  have h3 := le i (j - 1) (by omega) (by omega)
  rcases Classical.em (l.getD i [] = l.getD (j - 1) []) with h4 | h4
  · rw [h4]; exact h2
  · exact lt_tr (lt_of_le h3 h4) h2

theorem rise_compact {l : List Tx} (h : l.Pairwise (· ≤ ·)) : Rise (Lib.compact l) := by
  unfold Lib.compact Lib.compactUpTo
  refine List.pairwise_map.2 ?_
  have h1 : (List.range l.length).Pairwise (· < ·) := List.pairwise_lt_range
  have h2 : ((List.range l.length).filter (Lib.keeps l.toArray)).Pairwise (· < ·) := h1.filter _
  refine h2.imp_of_mem fun {i j} hi hj hij => ?_
  rw [List.mem_filter, List.mem_range] at hi hj
  exact keep_lt h hij hj.1 hj.2

theorem mem_compact {l : List Tx} {x : Tx} : x ∈ Lib.compact l ↔ x ∈ l := by
  have e : ∀ k, (hk : k < l.length) → l.toArray[k]! = l[k] := fun k hk => by
    rw [getElem!_pos _ _ (by simpa using hk)]
    simp
  unfold Lib.compact Lib.compactUpTo
  rw [List.mem_map]
  constructor
  · rintro ⟨i, hi, rfl⟩
    rw [List.mem_filter, List.mem_range] at hi
    rw [e i hi.1]
    exact List.getElem_mem _
  · intro hx
    obtain ⟨k, hk, rfl⟩ := List.getElem_of_mem hx
    have : ∀ n, (hn : n < l.length) → ∃ a, a ∈ (List.range l.length).filter (Lib.keeps l.toArray) ∧ l.toArray[a]! = l[n] := by
      intro n
      induction n with
      | zero => intro hn; exact ⟨0, List.mem_filter.2 ⟨List.mem_range.2 hn, by simp [Lib.keeps]⟩, e 0 hn⟩
      | succ n ih =>
        intro hn
        by_cases hk : Lib.keeps l.toArray (n + 1) = true
        · exact ⟨n + 1, List.mem_filter.2 ⟨List.mem_range.2 hn, hk⟩, e _ hn⟩
        · obtain ⟨a, h1, h2⟩ := ih (by omega)
          refine ⟨a, h1, ?_⟩
          unfold Lib.keeps at hk
          rw [decide_eq_true_eq, not_or] at hk
          have h3 := Classical.not_not.1 hk.2
          rw [show n + 1 - 1 = n from rfl, e _ hn, e n (by omega)] at h3
          rw [h2, h3]
    exact this k hk

end Go.Gl

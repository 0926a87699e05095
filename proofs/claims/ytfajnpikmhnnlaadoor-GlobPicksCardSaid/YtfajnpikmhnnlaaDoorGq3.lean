/- The first names; is a text in a list; a text laid into a rising list. -/
import Derived.Test.YtfajnpikmhnnlaaDoorGq2
import Derived.Test.YtfajnpikmhnnlaaDoorGlP
import Derived.Test.YtfajnpikmhnnlaaDoorLoopL
import Derived.Lib.Join
import Derived.Test.YtfajnpikmhnnlaaDoorGq1
namespace Go.Gl
open Go Go.Ev Go.Proofs
set_option maxRecDepth 100000

theorem foldS_push {α β τ : Type} (g : α → β) (fin : List β → τ) : ∀ (s : List α) (b : List β), foldS (fun a b => (.inl (b ++ [g a]) : List β ⊕ τ)) fin b s = fin (b ++ s.map g)
  | [], b => by simp [foldS]
  | a :: t, b => by
    simp only [foldS]
    rw [foldS_push g fin t]
    simp

theorem foldS_inl {α β τ : Type} (g : α → β → β) (fin : β → τ) : ∀ (s : List α) (b : β), foldS (fun a b => (.inl (g a b) : β ⊕ τ)) fin b s = fin (s.foldl (fun b a => g a b) b)
  | [], b => rfl
  | a :: t, b => by
    simp only [foldS, List.foldl_cons]
    rw [foldS_inl g fin t]

def few (l : List Tx) : List Tx := (l.take 12).map (List.take 60)

theorem F20_eq (l : List Tx) : F20 ((l, ()), ()) = some (few l, ()) := by
  have h := walk_listI (f := B20_0) (fun (b : List Tx) i => ((l, (), (i : Int), ()), (b, ()))) (l.take 12) (fun a b => .inl (b ++ [List.take 60 a])) (fun b => (((), ()), (b, ()))) (fun b i => b.length = i) (b := [])
    (fun b i a hI hi ha => .inl ⟨_, rfl, by simp [hI], by
      have hi1 : i < l.length := by simp at hi; omega
      have hi2 : i < 12 := by simp at hi; omega
      have hg : l.getD i [] = a := by
        have := ha []
        rw [List.getD_eq_getElem?_getD, List.getElem?_take_of_lt hi2] at this
        rw [List.getD_eq_getElem?_getD]; exact this
      have c12 : decide ((i : Int) < 12) = true := by simp; omega
      have hb : bytesOK (b.length + 1) 16 = true := bytes_true (by omega)
      have wi : w64 ((i : Int) + 1) = ((i + 1 : Nat) : Int) := w64_nat (by omega)
      by_cases h : 60 < a.length
      · have c1 : decide ((60 : Int) < ((a.length : Nat) : Int)) = true := by simp; omega
        have c2 : decide ((60 : Int) ≤ ((a.length : Nat) : Int)) = true := by simp; omega
        simp only [B20_0, nat_lt, nat_nn, hi1, c12, decide_true, Bool.and_self, cond_true, Int.toNat_natCast, hg, c1, c2, Option.bind_some, List.length_singleton, hb, wi]
      · have c1 : decide ((60 : Int) < ((a.length : Nat) : Int)) = false := by simp; omega
        have ht : List.take 60 a = a := List.take_of_length_le (by omega)
        simp only [B20_0, nat_lt, nat_nn, hi1, c12, decide_true, Bool.and_self, cond_true, cond_false, Int.toNat_natCast, hg, c1, Option.bind_some, List.length_singleton, hb, wi, ht]⟩)
    (fun b _ => by
      have : (decide ((((l.take 12).length : Nat) : Int) < ((l.length : Nat) : Int)) && decide ((((l.take 12).length : Nat) : Int) < 12)) = false := by
        rw [← Bool.decide_and, decide_eq_false_iff_not]
        simp only [List.length_take]
        omega
      simp only [B20_0, this, cond_false]) (by unfold FUEL; simp; omega) rfl
  rw [foldS_push] at h
  have h' : L20_0 ((l, (), (0:Int), ()), ([], ())) = some (((), ()), (few l, ())) := h
  simp only [F20, h', Option.bind_some]

theorem few_len (l : List Tx) : (few l).length ≤ 12 := by simp [few]; omega
theorem few_mem {l : List Tx} {s : Tx} (h : s ∈ few l) : s.length ≤ 60 := by
  unfold few at h
  obtain ⟨a, _, rfl⟩ := List.mem_map.1 h
  simp; omega

theorem foldS_find {σ : Type} (s : Tx) (r0 : σ) (r1 : σ) : ∀ (l : List Tx), foldS (fun a (_ : Unit) => if a = s then (.inr r1 : Unit ⊕ σ) else .inl ()) (fun _ => r0) () l = if s ∈ l then r1 else r0
  | [] => by simp [foldS]
  | a :: t => by
    simp only [foldS]
    by_cases h : a = s
    · simp [h]
    · have h' : ¬ s = a := fun e => h e.symm
      simp only [if_neg h]
      rw [foldS_find s r0 r1 t]
      simp [h']

theorem F35_eq {l : List Tx} {s : Tx} (hl : l.length ≤ 100000) : F35 ((l, s, ()), ()) = some (decide (s ∈ l), ()) := by
  have h := walk_list (f := B35_0) (fun (_ : Unit) i => ((l, s, (i : Int), ()), ())) l (fun a _ => if a = s then .inr (.inr (((), ()), ())) else .inl ()) (fun _ => .inl ((), ())) (b := ())
    (fun _ i a hi ha => by
      have hg := ha []
      have wi : w64 ((i : Int) + 1) = ((i + 1 : Nat) : Int) := w64_nat (by omega)
      by_cases h : a = s
      · simp only [B35_0, nat_lt, nat_nn, hi, decide_true, Bool.and_self, cond_true, Int.toNat_natCast, hg, h, if_true]
      · simp only [B35_0, nat_lt, nat_nn, hi, decide_true, Bool.and_self, cond_true, cond_false, Int.toNat_natCast, hg, h, decide_false, if_false, wi])
    (fun _ => by simp only [B35_0, Int.lt_irrefl, decide_false, cond_false]) (by unfold FUEL; omega)
  rw [foldS_find] at h
  have h' : L35_0 ((l, s, (0:Int), ()), ()) = some (if s ∈ l then .inr (((), ()), ()) else .inl ((), ())) := h
  simp only [F35, h', Option.bind_some]
  by_cases hs : s ∈ l
  · simp [hs]
  · simp [hs]

theorem F46_eq {l : List Tx} {s : Tx} (hl : l.length ≤ 100000) : ∃ k : Int, F46 ((l, s, ()), ()) = some (k, ()) ∧ (0 ≤ k ↔ s ∈ l) := by
  obtain ⟨r, e1, e2⟩ := loop_ind (f := B46_0) (fun p => ∃ i : Nat, i ≤ l.length ∧ p = ((l, s, ((l.length : Nat) : Int), (i : Int), ()), ()) ∧ s ∉ l.take i) (fun p => ((l.length : Int) - p.1.2.2.2.1).toNat)
    (fun r => (s ∈ l ∧ ∃ i : Nat, r = .inr (((i : Int), ()), ())) ∨ (s ∉ l ∧ r = .inl ((), ())))
    (fun p ⟨i, hi, hp, hs⟩ => by
      subst hp
      by_cases hlt : i < l.length
      · have hg : l.getD i [] = l[i] := by rw [List.getD_eq_getElem?_getD, List.getElem?_eq_getElem hlt]; rfl
        have wi : w64 ((i : Int) + 1) = ((i + 1 : Nat) : Int) := w64_nat (by omega)
        by_cases h : s = l[i]
        · right
          refine ⟨_, by simp only [B46_0, nat_lt, nat_nn, hlt, decide_true, Bool.and_self, cond_true, Int.toNat_natCast, hg, ← h] <;> rfl, .inl ⟨by rw [h]; exact List.getElem_mem _, i, rfl⟩⟩
        · left
          have h' : ¬ l[i] = s := fun e => h e.symm
          refine ⟨((l, s, ((l.length : Nat) : Int), ((i + 1 : Nat) : Int), ()), ()), by simp only [B46_0, nat_lt, nat_nn, hlt, decide_true, Bool.and_self, cond_true, cond_false, Int.toNat_natCast, hg, h, h', decide_false, wi], ⟨i + 1, by omega, rfl, ?_⟩, by simp only; omega⟩
          rw [List.take_add_one, List.getElem?_eq_getElem hlt]
          simp only [Option.toList_some, List.mem_append, List.mem_singleton, not_or]
          exact ⟨hs, h⟩
      · right
        obtain rfl : i = l.length := by omega
        exact ⟨_, by simp only [B46_0, Int.lt_irrefl, decide_false, cond_false] <;> rfl, .inr ⟨by simpa using hs, rfl⟩⟩)
    (p := ((l, s, ((l.length : Nat) : Int), (0:Int), ()), ())) ⟨0, Nat.zero_le _, rfl, by simp⟩ (by unfold FUEL; simp only; omega)
  have e1' : L46_0 ((l, s, ((l.length : Nat) : Int), (0:Int), ()), ()) = some r := e1
  rcases e2 with ⟨h, i, rfl⟩ | ⟨h, rfl⟩
  · exact ⟨i, by simp only [F46, e1', Option.bind_some], fun _ => h, fun _ => by omega⟩
  · exact ⟨-1, by simp only [F46, e1', Option.bind_some], fun h => absurd h (by omega), fun h' => absurd h' h⟩

theorem F32_eq {l : List Tx} {s : Tx} (hl : l.length ≤ 100000) : F32 ((l, s, ()), ()) = some (decide (s ∈ l), ()) := by
  obtain ⟨k, h1, h2⟩ := F46_eq (s := s) hl
  simp only [F32, h1, Option.bind_some]
  congr 2
  exact decide_eq_decide.2 h2

/-- what lay does at a text of the list -/
def layG (s x : Tx) (b : Bool × List Tx) : Bool × List Tx := if b.1 = false ∧ s < x then (true, b.2 ++ [s] ++ [x]) else (b.1, b.2 ++ [x])

theorem lay_fold (s : Tx) : ∀ (l : List Tx) (d : Bool) (o : List Tx), let r := l.foldl (fun b a => layG s a b) (d, o)
    cond r.1 r.2 (r.2 ++ [s]) = o ++ cond d l (ins s l)
  | [], d, o => by cases d <;> simp [ins]
  | x :: l, d, o => by
    simp only [List.foldl_cons]
    cases d with
    | true =>
      have : layG s x (true, o) = (true, o ++ [x]) := by simp [layG]
      rw [this, lay_fold s l]
      simp
    | false =>
      by_cases h : s < x
      · have : layG s x (false, o) = (true, o ++ [s] ++ [x]) := by simp [layG, h]
        rw [this, lay_fold s l]
        simp [ins, h]
      · have : layG s x (false, o) = (false, o ++ [x]) := by simp [layG, h]
        rw [this, lay_fold s l]
        simp [ins, h]

theorem F36_eq {l : List Tx} {s : Tx} (hl : l.length ≤ 50000) : F36 ((l, s, ()), ()) = some (layS l s, ()) := by
  have h := walk_listI (f := B36_0) (fun (b : Bool × List Tx) i => ((l, s, (), b.1, (i : Int), ()), (b.2, ()))) l (fun a b => .inl (layG s a b)) (fun b => ((s, (), b.1, ()), (b.2, ()))) (fun b i => b.2.length ≤ i + (if b.1 then 1 else 0)) (b := (decide (s ∈ l), []))
    (fun b i a hI hi ha => .inl ⟨_, rfl, by
      unfold layG
      split
      · rename_i h; rw [h.1] at hI; simp at hI ⊢; omega
      · simp; omega, by
      have hg := ha []
      have wi : w64 ((i : Int) + 1) = ((i + 1 : Nat) : Int) := w64_nat (by omega)
      obtain ⟨d, o⟩ := b
      have ho : o.length ≤ i + 1 := by
        simp only at hI
        split at hI <;> omega
      have b1 : bytesOK (o.length + 1) 16 = true := bytes_true (by omega)
      have b2 : bytesOK ((o ++ [s]).length + 1) 16 = true := bytes_true (by simp; omega)
      cases d with
      | true =>
        have e : layG s a (true, o) = (true, o ++ [a]) := by simp [layG]
        simp only [B36_0, e, nat_lt, nat_nn, hi, decide_true, Bool.and_self, Bool.true_or, cond_true, cond_false, Bool.not_true, Bool.false_and, Option.bind_some, Int.toNat_natCast, hg, List.length_singleton, b1, wi]
      | false =>
        have hbl : Op.bytesLess s a = decide (s < a) := bytesLess_eq s a
        by_cases h : s < a
        · have e : layG s a (false, o) = (true, o ++ [s] ++ [a]) := by simp [layG, h]
          simp only [B36_0, e, nat_lt, nat_nn, hi, decide_true, Bool.and_self, Bool.true_or, cond_true, cond_false, Bool.not_false, Bool.true_and, Option.bind_some, Int.toNat_natCast, hg, hbl, h, List.length_singleton, b1, b2, wi]
        · have e : layG s a (false, o) = (false, o ++ [a]) := by simp [layG, h]
          simp only [B36_0, e, nat_lt, nat_nn, hi, decide_true, Bool.and_self, Bool.true_or, cond_true, cond_false, Bool.not_false, Bool.true_and, Option.bind_some, Int.toNat_natCast, hg, hbl, h, decide_false, List.length_singleton, b1, wi]⟩)
    (fun b _ => by simp only [B36_0, Int.lt_irrefl, decide_false, cond_false]) (by unfold FUEL; omega) (by simp)
  rw [foldS_inl] at h
  have hf := lay_fold s l (decide (s ∈ l)) []
  generalize hr : l.foldl (fun b a => layG s a b) (decide (s ∈ l), []) = r at h hf
  have h' : L36_0 ((l, s, (), decide (s ∈ l), (0:Int), ()), ([], ())) = some ((s, (), r.1, ()), (r.2, ())) := h
  have hlen : r.2.length ≤ 2 * l.length := by
    have : ∀ (l : List Tx) (b : Bool × List Tx), (l.foldl (fun b a => layG s a b) b).2.length ≤ b.2.length + 2 * l.length := by
      intro l
      induction l with
      | nil => intro b; simp
      | cons x l ih =>
        intro b
        simp only [List.foldl_cons, List.length_cons]
        refine Nat.le_trans (ih _) ?_
        unfold layG
        split <;> simp <;> omega
    rw [← hr]
    simpa using this l (decide (s ∈ l), [])
  have b1 : bytesOK (r.2.length + 1) 16 = true := by
    unfold bytesOK; simp; omega
  simp only [F36, F35_eq (show l.length ≤ 100000 by omega), h', Option.bind_some]
  simp only [List.nil_append] at hf
  unfold layS
  obtain ⟨d, o⟩ := r
  cases d with
  | true =>
    simp only [Bool.not_true, cond_false, Option.bind_some]
    simp only [cond_true] at hf
    rw [hf]
    by_cases hs : s ∈ l <;> simp [hs]
  | false =>
    simp only at b1
    simp only [Bool.not_false, cond_true, Option.bind_some, List.length_singleton, b1]
    simp only [cond_false] at hf
    rw [hf]
    by_cases hs : s ∈ l <;> simp [hs]

end Go.Gl

namespace Go.Gl
open Go Go.Ev Go.Proofs
set_option maxRecDepth 100000

/-- The names that those of a list are under, and that are not in it. -/
def Ah (l : List Tx) (x : Tx) : Prop := x ∉ l ∧ ∃ s ∈ l, ∃ i, 1 ≤ i ∧ i < s.length ∧ s.getD i 0 = 47 ∧ x = s.take i

/-- Those of one name, up to a place. -/
def Up (l : List Tx) (s : Tx) (k : Nat) (x : Tx) : Prop := x ∉ l ∧ ∃ i, 1 ≤ i ∧ i < k ∧ i < s.length ∧ s.getD i 0 = 47 ∧ x = s.take i

theorem up_succ {l : List Tx} {s : Tx} {k : Nat} (h1 : 1 ≤ k) (h2 : k < s.length) (x : Tx) : Up l s (k + 1) x ↔ Up l s k x ∨ (x ∉ l ∧ s.getD k 0 = 47 ∧ x = s.take k) := by
  constructor
  · rintro ⟨hx, i, e1, e2, e3, e4, e5⟩
    rcases Nat.lt_or_ge i k with h | h
    · exact .inl ⟨hx, i, e1, h, e3, e4, e5⟩
    · obtain rfl : i = k := by omega
      exact .inr ⟨hx, e4, e5⟩
  · rintro (⟨hx, i, e1, e2, e3, e4, e5⟩ | ⟨hx, e4, e5⟩)
    · exact ⟨hx, i, e1, by omega, e3, e4, e5⟩
    · exact ⟨hx, k, h1, by omega, h2, e4, e5⟩

theorem inner22 {l : List Tx} (hl : l.length ≤ 12) {i : Nat} (hi : i < l.length) {s : Tx} (hs : l.getD i [] = s) (hsl : s.length ≤ 60) {out : List Tx} (ho : out.length ≤ 10000) (hr : Rise out) :
    ∃ out', L22_1 ((l, out, (i : Int), (1:Int), ()), ()) = some ((l, out', (i : Int), ()), ()) ∧ Rise out' ∧ out'.length ≤ out.length + 60 ∧ ∀ x, x ∈ out' ↔ x ∈ out ∨ Up l s s.length x := by
  obtain ⟨r, e1, e2⟩ := loop_ind (f := B22_1) (fun p => ∃ (k : Nat) (o : List Tx), p = ((l, o, (i : Int), (k : Int), ()), ()) ∧ 1 ≤ k ∧ (k ≤ s.length ∨ k = 1) ∧ Rise o ∧ o.length + 1 ≤ out.length + k ∧ ∀ x, x ∈ o ↔ x ∈ out ∨ Up l s k x)
    (fun p => ((s.length : Int) + 1 - p.1.2.2.2.1).toNat) (fun r => ∃ o, r = ((l, o, (i : Int), ()), ()) ∧ Rise o ∧ o.length ≤ out.length + 60 ∧ ∀ x, x ∈ o ↔ x ∈ out ∨ Up l s s.length x)
    (fun p ⟨k, o, hp, hk1, hk2, hro, hol, hm⟩ => by
      subst hp
      have n1 : decide ((0 : Int) ≤ (k : Int)) = true := by simp
      have n2 : decide ((0 : Int) ≤ (i : Int)) = true := by simp
      by_cases hlt : k < s.length
      · left
        have wi : w64 ((k : Int) + 1) = ((k + 1 : Nat) : Int) := w64_nat (by omega)
        have c2 : decide ((k : Int) ≤ ((s.length : Nat) : Int)) = true := by simp; omega
        have f35 := F35_eq (l := l) (s := s.take k) (by omega)
        have f36 := F36_eq (l := o) (s := s.take k) (by omega)
        by_cases h47 : s.getD k 0 = 47
        · by_cases hin : s.take k ∈ l
          · refine ⟨((l, o, (i : Int), ((k + 1 : Nat) : Int), ()), ()), by simp only [B22_1, nat_lt, n1, n2, hi, hs, hlt, c2, decide_true, Bool.and_self, Bool.true_or, cond_true, cond_false, Int.toNat_natCast, h47, f35, hin, Bool.not_true, Option.bind_some, wi],
              ⟨k + 1, o, rfl, by omega, .inl (by omega), hro, by omega, fun x => ?_⟩, by simp only; omega⟩
            rw [hm, up_succ hk1 hlt]
            constructor
            · rintro (h | h)
              · exact .inl h
              · exact .inr (.inl h)
            · rintro (h | h | ⟨h, _, rfl⟩)
              · exact .inl h
              · exact .inr h
              · exact absurd hin h
          · refine ⟨((l, layS o (s.take k), (i : Int), ((k + 1 : Nat) : Int), ()), ()), by simp only [B22_1, nat_lt, n1, n2, hi, hs, hlt, c2, decide_true, decide_false, Bool.and_self, Bool.true_or, cond_true, cond_false, Int.toNat_natCast, h47, f35, f36, hin, Bool.not_false, Option.bind_some, wi],
              ⟨k + 1, layS o (s.take k), rfl, by omega, .inl (by omega), rise_layS hro, by have := len_layS (l := o) (s := s.take k); omega, fun x => ?_⟩, by simp only; omega⟩
            rw [mem_layS, hm, up_succ hk1 hlt]
            constructor
            · rintro (rfl | h | h)
              · exact .inr (.inr ⟨hin, h47, rfl⟩)
              · exact .inl h
              · exact .inr (.inl h)
            · rintro (h | h | ⟨h, _, rfl⟩)
              · exact .inr (.inl h)
              · exact .inr (.inr h)
              · exact .inl rfl
        · refine ⟨((l, o, (i : Int), ((k + 1 : Nat) : Int), ()), ()), by simp only [B22_1, nat_lt, n1, n2, hi, hs, hlt, decide_true, decide_false, Bool.and_self, Bool.true_or, cond_true, cond_false, Int.toNat_natCast, h47, Bool.not_false, Bool.or_true, Option.bind_some, wi],
            ⟨k + 1, o, rfl, by omega, .inl (by omega), hro, by omega, fun x => ?_⟩, by simp only; omega⟩
          rw [hm, up_succ hk1 hlt]
          constructor
          · rintro (h | h)
            · exact .inl h
            · exact .inr (.inl h)
          · rintro (h | h | ⟨_, h, _⟩)
            · exact .inl h
            · exact .inr h
            · exact absurd h h47
      · right
        refine ⟨_, by simp only [B22_1, nat_lt, n2, hi, hs, hlt, decide_true, decide_false, Bool.and_self, cond_true, cond_false, Int.toNat_natCast] <;> rfl, o, rfl, hro, by omega, fun x => ?_⟩
        rw [hm]
        constructor
        · rintro (h | ⟨hx, j, e1, e2, e3, e4, e5⟩)
          · exact .inl h
          · exact .inr ⟨hx, j, e1, e3, e3, e4, e5⟩
        · rintro (h | ⟨hx, j, e1, e2, e3, e4, e5⟩)
          · exact .inl h
          · exact .inr ⟨hx, j, e1, by omega, e3, e4, e5⟩)
    (p := ((l, out, (i : Int), (1:Int), ()), ())) ⟨1, out, rfl, by omega, .inr rfl, hr, by omega, fun x => by
      constructor
      · exact .inl
      · rintro (h | ⟨_, j, e1, e2, _⟩)
        · exact h
        · omega⟩ (by unfold FUEL; simp only; omega)
  obtain ⟨o, rfl, q1, q2, q3⟩ := e2
  exact ⟨o, e1, q1, q2, q3⟩

theorem F22_eq {l : List Tx} (hl : l.length ≤ 12) (hs : ∀ s ∈ l, s.length ≤ 60) : ∃ R, F22 ((l, ()), ()) = some (R, ()) ∧ Rise R ∧ R.length ≤ 720 ∧ ∀ x, x ∈ R ↔ Ah l x := by
  obtain ⟨r, e1, e2⟩ := loop_ind (f := B22_0) (fun p => ∃ (i : Nat) (o : List Tx), p = ((l, o, (i : Int), ()), ()) ∧ i ≤ l.length ∧ Rise o ∧ o.length ≤ 60 * i ∧ ∀ x, x ∈ o ↔ ∃ s ∈ l.take i, Up l s s.length x)
    (fun p => ((l.length : Int) - p.1.2.2.1).toNat) (fun r => ∃ o, r = ((o, ()), ()) ∧ Rise o ∧ o.length ≤ 720 ∧ ∀ x, x ∈ o ↔ Ah l x)
    (fun p ⟨i, o, hp, hi, hro, hol, hm⟩ => by
      subst hp
      by_cases hlt : i < l.length
      · left
        have wi : w64 ((i : Int) + 1) = ((i + 1 : Nat) : Int) := w64_nat (by omega)
        have hg : l.getD i [] = l[i] := by rw [List.getD_eq_getElem?_getD, List.getElem?_eq_getElem hlt]; rfl
        obtain ⟨o', f1, f2, f3, f4⟩ := inner22 hl hlt hg (hs _ (List.getElem_mem _)) (out := o) (by omega) hro
        refine ⟨((l, o', ((i + 1 : Nat) : Int), ()), ()), by simp only [B22_0, nat_lt, hlt, decide_true, cond_true, f1, Option.bind_some, wi], ⟨i + 1, o', rfl, by omega, f2, by omega, fun x => ?_⟩, by simp only; omega⟩
        rw [f4, hm, List.take_add_one, List.getElem?_eq_getElem hlt]
        simp only [Option.toList_some, List.mem_append, List.mem_singleton]
        constructor
        · rintro (⟨s, h1, h2⟩ | h)
          · exact ⟨s, .inl h1, h2⟩
          · exact ⟨_, .inr rfl, h⟩
        · rintro ⟨s, h1 | rfl, h2⟩
          · exact .inl ⟨s, h1, h2⟩
          · exact .inr h2
      · right
        obtain rfl : i = l.length := by omega
        refine ⟨_, by simp only [B22_0, Int.lt_irrefl, decide_false, cond_false] <;> rfl, o, rfl, hro, by omega, fun x => ?_⟩
        rw [hm, List.take_length]
        constructor
        · rintro ⟨s, h1, hx, j, e1, e2, e3, e4, e5⟩
          exact ⟨hx, s, h1, j, e1, e3, e4, e5⟩
        · rintro ⟨hx, s, h1, j, e1, e3, e4, e5⟩
          exact ⟨s, h1, hx, j, e1, e3, e3, e4, e5⟩)
    (p := ((l, [], (0:Int), ()), ())) ⟨0, [], rfl, by omega, List.Pairwise.nil, by simp, fun x => by simp⟩ (by unfold FUEL; simp only; omega)
  obtain ⟨o, rfl, q1, q2, q3⟩ := e2
  have e1' : L22_0 ((l, [], (0:Int), ()), ()) = some ((o, ()), ()) := e1
  exact ⟨o, by simp only [F22, e1', Option.bind_some], q1, q2, q3⟩

/-! The steps of a name, joined. -/
theorem join_cons2 (x y : Tx) (r : List Tx) : Lib.join (x :: y :: r) [47] = x ++ 47 :: Lib.join (y :: r) [47] := by
  rw [Lib.join_cons, Lib.join_cons]
  simp [Lib.joinTail]

theorem parts_ne : ∀ (s cur : Tx), parts cur s ≠ []
  | [], cur => by simp [parts]
  | b :: r, cur => by
    unfold parts
    split
    · simp
    · exact parts_ne r _

theorem join_take (x : Tx) {P : List Tx} {j : Nat} (hj : 1 ≤ j) (hP : P ≠ []) : Lib.join (x :: P.take j) [47] = x ++ 47 :: Lib.join (P.take j) [47] := by
  cases P with
  | nil => exact absurd rfl hP
  | cons y r =>
    obtain ⟨j', rfl⟩ : ∃ j', j = j' + 1 := ⟨j - 1, by omega⟩
    rw [List.take_succ_cons, join_cons2]

theorem join_up : ∀ (s cur : Tx) (j : Nat), 1 ≤ j → j < (parts cur s).length → ∃ i, i < s.length ∧ s.getD i 0 = 47 ∧ Lib.join ((parts cur s).take j) [47] = cur ++ s.take i
  | [], cur, j, h1, h2 => by simp [parts] at h2; omega
  | b :: r, cur, j, h1, h2 => by
    unfold parts at h2 ⊢
    by_cases hb : b = 47
    · simp only [hb, if_true, List.length_cons] at h2 ⊢
      by_cases hj : j = 1
      · subst hj
        refine ⟨0, by simp, by simp, ?_⟩
        rw [List.take_succ_cons, List.take_zero, Lib.join_one]
        simp
      · obtain ⟨j', rfl⟩ : ∃ j', j = j' + 1 := ⟨j - 1, by omega⟩
        obtain ⟨i, e1, e2, e3⟩ := join_up r [] j' (by omega) (by omega)
        refine ⟨i + 1, by simp; omega, by simpa using e2, ?_⟩
        rw [List.take_succ_cons, join_take _ (by omega) (parts_ne r []), e3]
        simp
    · simp only [hb, if_false] at h2 ⊢
      obtain ⟨i, e1, e2, e3⟩ := join_up r (cur ++ [b]) j h1 h2
      exact ⟨i + 1, by simp; omega, by simpa using e2, by rw [e3]; simp⟩

theorem up_join : ∀ (s cur : Tx) (i : Nat), i < s.length → s.getD i 0 = 47 → ∃ j, 1 ≤ j ∧ j < (parts cur s).length ∧ Lib.join ((parts cur s).take j) [47] = cur ++ s.take i
  | [], cur, i, h1, _ => by simp at h1
  | b :: r, cur, i, h1, h2 => by
    unfold parts
    by_cases hb : b = 47
    · simp only [hb, if_true, List.length_cons]
      have hpos : 0 < (parts [] r).length := List.length_pos_iff.2 (parts_ne r [])
      cases i with
      | zero =>
        refine ⟨1, by omega, by omega, ?_⟩
        rw [List.take_succ_cons, List.take_zero, Lib.join_one]
        simp
      | succ i =>
        obtain ⟨j, e1, e2, e3⟩ := up_join r [] i (by simpa using h1) (by simpa using h2)
        refine ⟨j + 1, by omega, by omega, ?_⟩
        rw [List.take_succ_cons, join_take _ e1 (parts_ne r []), e3]
        simp
    · simp only [hb, if_false]
      cases i with
      | zero => simp at h2; exact absurd h2 hb
      | succ i =>
        obtain ⟨j, e1, e2, e3⟩ := up_join r (cur ++ [b]) i (by simpa using h1) (by simpa using h2)
        exact ⟨j, e1, e2, by rw [e3]; simp⟩

end Go.Gl

namespace Go.Gl
open Go Go.Ev Go.Proofs
set_option maxRecDepth 100000

theorem F14_eq {s : Tx} (hs : s.length ≤ 60) : ∃ P, F14 ((s, ()), ()) = some (P, ()) ∧ P.length ≤ 61 ∧
    (∀ j, 1 ≤ j → j < P.length → ∃ i, i < s.length ∧ s.getD i 0 = 47 ∧ Lib.join (P.take j) [47] = s.take i) ∧
    (∀ i, i < s.length → s.getD i 0 = 47 → ∃ j, 1 ≤ j ∧ j < P.length ∧ Lib.join (P.take j) [47] = s.take i) := by
  by_cases h0 : s = []
  · subst h0
    exact ⟨[], by simp [F14], by simp, fun j h1 h2 => by simp at h2, fun i h1 => by simp at h1⟩
  · refine ⟨parts [] s, ?_, by have := parts_len s []; omega, fun j h1 h2 => ?_, fun i h1 h2 => ?_⟩
    · simp only [F14, h0, decide_false, cond_false, F29, F41_eq (show s.length ≤ 1000 by omega), Option.bind_some]
    · simpa using join_up s [] j h1 h2
    · simpa using up_join s [] i h1 h2

theorem inner21 {l : List Tx} (hl : l.length ≤ 12) {P : List Tx} {s : Tx} (hs : s.length ≤ 60) (hP : P.length ≤ 61)
    (p1 : ∀ j, 1 ≤ j → j < P.length → ∃ i, i < s.length ∧ s.getD i 0 = 47 ∧ Lib.join (P.take j) [47] = s.take i)
    (p2 : ∀ i, i < s.length → s.getD i 0 = 47 → ∃ j, 1 ≤ j ∧ j < P.length ∧ Lib.join (P.take j) [47] = s.take i) (x1 : List Tx) (x2 x3 : Int) {out : List Tx} (ho : out.length ≤ 10000) :
    ∃ out', L21_1 ((l, (), P, w64 (((P.length : Nat) : Int) - 1), x1, x2, x3, ()), (out, ())) = some ((l, (), x1, x2, x3, ()), (out', ())) ∧ out'.length ≤ out.length + 61 ∧ ∀ x, x ∈ out' ↔ x ∈ out ∨ Up l s s.length x := by
  obtain ⟨r, e1, e2⟩ := loop_ind (f := B21_1) (fun p => ∃ (k : Int) (o : List Tx), p = ((l, (), P, k, x1, x2, x3, ()), (o, ())) ∧ -1 ≤ k ∧ k < P.length ∧ (o.length : Int) + k ≤ out.length + 60 ∧ ∀ x, x ∈ o ↔ x ∈ out ∨ (x ∉ l ∧ x ≠ [] ∧ ∃ j : Nat, k < j ∧ 1 ≤ j ∧ j < P.length ∧ x = Lib.join (P.take j) [47]))
    (fun p => (p.1.2.2.2.1 + 1).toNat) (fun r => ∃ o, r = ((l, (), x1, x2, x3, ()), (o, ())) ∧ o.length ≤ out.length + 61 ∧ ∀ x, x ∈ o ↔ x ∈ out ∨ (x ∉ l ∧ x ≠ [] ∧ ∃ j : Nat, 1 ≤ j ∧ j < P.length ∧ x = Lib.join (P.take j) [47]))
    (fun p ⟨k, o, hp, hk1, hk2, hol, hm⟩ => by
      subst hp
      by_cases hlt : 0 < k
      · left
        obtain ⟨n, rfl⟩ : ∃ n : Nat, k = n := ⟨k.toNat, by omega⟩
        have c0 : decide ((0 : Int) < (n : Int)) = true := decide_eq_true hlt
        have c1 : decide ((0 : Int) ≤ (n : Int)) = true := by simp
        have c2 : decide ((n : Int) ≤ ((P.length : Nat) : Int)) = true := by simp; omega
        have wi : w64 ((n : Int) - 1) = (n : Int) - 1 := w64_id (by omega) (by omega)
        obtain ⟨i, i1, i2, i3⟩ := p1 n (by omega) (by omega)
        have hjl : (Lib.join (P.take n) [47]).length ≤ 60 := by rw [i3, List.length_take]; omega
        have c3 : decide ((P.take n).length ≤ 140737488355328) = true := by simp; omega
        have c4 : decide ((Lib.join (P.take n) [47]).length ≤ 140737488355328) = true := by simp; omega
        have f32 := F32_eq (l := l) (s := Lib.join (P.take n) [47]) (by omega)
        have hb : bytesOK (o.length + 1) 16 = true := bytes_true (by omega)
        have step : ∀ x, (∃ j : Nat, (n : Int) - 1 < j ∧ 1 ≤ j ∧ j < P.length ∧ x = Lib.join (P.take j) [47]) ↔ x = Lib.join (P.take n) [47] ∨ ∃ j : Nat, (n : Int) < j ∧ 1 ≤ j ∧ j < P.length ∧ x = Lib.join (P.take j) [47] := fun x => by
          constructor
          · rintro ⟨j, j1, j2, j3, j4⟩
            by_cases hj : j = n
            · subst hj; exact .inl j4
            · exact .inr ⟨j, by omega, j2, j3, j4⟩
          · rintro (h | ⟨j, j1, j2, j3, j4⟩)
            · exact ⟨n, by omega, by omega, by omega, h⟩
            · exact ⟨j, by omega, j2, j3, j4⟩
        by_cases h0 : Lib.join (P.take n) [47] = []
        · refine ⟨((l, (), P, (n : Int) - 1, x1, x2, x3, ()), (o, ())), by simp only [B21_1, c0, c1, c2, c3, c4, h0, decide_true, Bool.and_self, cond_true, Int.toNat_natCast, Option.bind_some, List.length_nil, Nat.zero_le, wi],
            ⟨(n : Int) - 1, o, rfl, by omega, by omega, by omega, fun x => ?_⟩, by simp only; omega⟩
          rw [hm, step]
          constructor
          · rintro (h | ⟨h1, h2, h3⟩)
            · exact .inl h
            · exact .inr ⟨h1, h2, .inr h3⟩
          · rintro (h | ⟨h1, h2, h3 | h3⟩)
            · exact .inl h
            · exact absurd (h3.trans h0) h2
            · exact .inr ⟨h1, h2, h3⟩
        · by_cases hin : Lib.join (P.take n) [47] ∈ l
          · refine ⟨((l, (), P, (n : Int) - 1, x1, x2, x3, ()), (o, ())), by simp only [B21_1, c0, c1, c2, c3, c4, h0, decide_true, decide_false, Bool.and_self, cond_true, cond_false, Int.toNat_natCast, Option.bind_some, f32, hin, Bool.not_true, wi],
              ⟨(n : Int) - 1, o, rfl, by omega, by omega, by omega, fun x => ?_⟩, by simp only; omega⟩
            rw [hm, step]
            constructor
            · rintro (h | ⟨h1, h2, h3⟩)
              · exact .inl h
              · exact .inr ⟨h1, h2, .inr h3⟩
            · rintro (h | ⟨h1, h2, rfl | h3⟩)
              · exact .inl h
              · exact absurd hin h1
              · exact .inr ⟨h1, h2, h3⟩
          · refine ⟨((l, (), P, (n : Int) - 1, x1, x2, x3, ()), (o ++ [Lib.join (P.take n) [47]], ())), by simp only [B21_1, c0, c1, c2, c3, c4, h0, decide_true, decide_false, Bool.and_self, cond_true, cond_false, Int.toNat_natCast, Option.bind_some, f32, hin, Bool.not_false, List.length_singleton, hb, wi],
              ⟨(n : Int) - 1, _, rfl, by omega, by omega, by simp; omega, fun x => ?_⟩, by simp only; omega⟩
            rw [List.mem_append, List.mem_singleton, hm, step]
            constructor
            · rintro ((h | ⟨h1, h2, h3⟩) | rfl)
              · exact .inl h
              · exact .inr ⟨h1, h2, .inr h3⟩
              · exact .inr ⟨hin, h0, .inl rfl⟩
            · rintro (h | ⟨h1, h2, rfl | h3⟩)
              · exact .inl (.inl h)
              · exact .inr rfl
              · exact .inl (.inr ⟨h1, h2, h3⟩)
      · right
        have c0 : decide ((0 : Int) < k) = false := decide_eq_false hlt
        refine ⟨_, by simp only [B21_1, c0, cond_false] <;> rfl, o, rfl, by omega, fun x => ?_⟩
        rw [hm]
        constructor
        · rintro (h | ⟨h1, h2, j, j1, j2, j3, j4⟩)
          · exact .inl h
          · exact .inr ⟨h1, h2, j, j2, j3, j4⟩
        · rintro (h | ⟨h1, h2, j, j2, j3, j4⟩)
          · exact .inl h
          · exact .inr ⟨h1, h2, j, by omega, j2, j3, j4⟩)
    (p := ((l, (), P, w64 (((P.length : Nat) : Int) - 1), x1, x2, x3, ()), (out, ())))
    ⟨((P.length : Nat) : Int) - 1, out, by rw [w64_id (n := ((P.length : Nat) : Int) - 1) (by omega) (by omega)], by omega, by omega, by omega, fun x => by
      constructor
      · exact .inl
      · rintro (h | ⟨_, _, j, j1, _, j3, _⟩)
        · exact h
        · omega⟩ (by unfold FUEL; simp only; rw [w64_id (n := ((P.length : Nat) : Int) - 1) (by omega) (by omega)]; omega)
  obtain ⟨o, rfl, q1, q2⟩ := e2
  refine ⟨o, e1, q1, fun x => ?_⟩
  rw [q2]
  constructor
  · rintro (h | ⟨h1, h2, j, j1, j2, rfl⟩)
    · exact .inl h
    · obtain ⟨i, i1, i2, i3⟩ := p1 j j1 j2
      refine .inr ⟨h1, i, ?_, i1, i1, i2, i3⟩
      rcases Nat.eq_zero_or_pos i with h | h
      · subst h; rw [i3] at h2; simp at h2
      · exact h
  · rintro (h | ⟨h1, i, i1, i2, i3, i4, rfl⟩)
    · exact .inl h
    · obtain ⟨j, j1, j2, j3⟩ := p2 i i3 i4
      refine .inr ⟨h1, fun h => ?_, j, j1, j2, j3.symm⟩
      have := congrArg List.length h
      simp at this
      rcases this with h | h
      · omega
      · rw [h] at i3; simp at i3

/-- A slice of texts, sorted and pruned. -/
theorem comp_sort (l : List Tx) : (compW (sortW l 0 l.length) 0 (sortW l 0 l.length).length).take (compN (sortW l 0 l.length) 0 (sortW l 0 l.length).length) = Lib.compact (sortT l) := by
  have e : sortW l 0 l.length = sortT l := by simp [sortW]
  rw [e]
  simp [compW, compN]

theorem len_sortW (l : List Tx) (h : l.length ≤ 100000) : decide ((sortW l 0 l.length).length < 4611686018427387904) = true := by
  have e : sortW l 0 l.length = sortT l := by simp [sortW]
  rw [e, len_sortT]
  simp; omega

theorem F21_eq {l : List Tx} (hl : l.length ≤ 12) (hs : ∀ s ∈ l, s.length ≤ 60) : ∃ R, F21 ((l, ()), ()) = some (R, ()) ∧ Rise R ∧ R.length ≤ 800 ∧ ∀ x, x ∈ R ↔ Ah l x := by
  obtain ⟨r, e1, e2⟩ := loop_ind (f := B21_0) (fun p => ∃ (i : Nat) (o : List Tx), p = ((l, (), l, ((l.length : Nat) : Int), (i : Int), ()), (o, ())) ∧ i ≤ l.length ∧ o.length ≤ 61 * i ∧ ∀ x, x ∈ o ↔ ∃ s ∈ l.take i, Up l s s.length x)
    (fun p => ((l.length : Int) - p.1.2.2.2.2.1).toNat) (fun r => ∃ o, r = (((), ()), (o, ())) ∧ o.length ≤ 800 ∧ ∀ x, x ∈ o ↔ Ah l x)
    (fun p ⟨i, o, hp, hi, hol, hm⟩ => by
      subst hp
      by_cases hlt : i < l.length
      · left
        have wi : w64 ((i : Int) + 1) = ((i + 1 : Nat) : Int) := w64_nat (by omega)
        have hg : l.getD i [] = l[i] := by rw [List.getD_eq_getElem?_getD, List.getElem?_eq_getElem hlt]; rfl
        obtain ⟨P, f1, f2, f3, f4⟩ := F14_eq (hs _ (List.getElem_mem hlt))
        obtain ⟨o', g1, g2, g3⟩ := inner21 hl (hs _ (List.getElem_mem hlt)) f2 f3 f4 l ((l.length : Nat) : Int) (i : Int) (out := o) (by omega)
        refine ⟨((l, (), l, ((l.length : Nat) : Int), ((i + 1 : Nat) : Int), ()), (o', ())), by simp only [B21_0, nat_lt, nat_nn, hlt, decide_true, Bool.and_self, cond_true, Int.toNat_natCast, hg, f1, g1, Option.bind_some, wi], ⟨i + 1, o', rfl, by omega, by omega, fun x => ?_⟩, by simp only; omega⟩
        rw [g3, hm, List.take_add_one, List.getElem?_eq_getElem hlt]
        simp only [Option.toList_some, List.mem_append, List.mem_singleton]
        constructor
        · rintro (⟨s, h1, h2⟩ | h)
          · exact ⟨s, .inl h1, h2⟩
          · exact ⟨_, .inr rfl, h⟩
        · rintro ⟨s, h1 | rfl, h2⟩
          · exact .inl ⟨s, h1, h2⟩
          · exact .inr h2
      · right
        obtain rfl : i = l.length := by omega
        refine ⟨_, by simp only [B21_0, Int.lt_irrefl, decide_false, cond_false] <;> rfl, o, rfl, by omega, fun x => ?_⟩
        rw [hm, List.take_length]
        constructor
        · rintro ⟨s, h1, hx, j, e1, e2, e3, e4, e5⟩
          exact ⟨hx, s, h1, j, e1, e3, e4, e5⟩
        · rintro ⟨hx, s, h1, j, e1, e3, e4, e5⟩
          exact ⟨s, h1, hx, j, e1, e3, e3, e4, e5⟩)
    (p := ((l, (), l, ((l.length : Nat) : Int), (0:Int), ()), ([], ()))) ⟨0, [], rfl, by omega, by simp, fun x => by simp⟩ (by unfold FUEL; simp only; omega)
  obtain ⟨o, rfl, q1, q3⟩ := e2
  have e1' : L21_0 ((l, (), l, ((l.length : Nat) : Int), (0:Int), ()), ([], ())) = some (((), ()), (o, ())) := e1
  have d1 : decide (o.length < 4611686018427387904) = true := by simp; omega
  refine ⟨Lib.compact (sortT o), by simp only [F21, e1', Option.bind_some, d1, len_sortW o (by omega), comp_sort, cond_true], rise_compact (sortT_pair o), ?_, fun x => by rw [mem_compact, mem_sortT, q3]⟩
  have : (Lib.compact (sortT o)).length ≤ (sortT o).length := by
    unfold Lib.compact Lib.compactUpTo
    rw [List.length_map]
    refine Nat.le_trans (List.length_filter_le _ _) ?_
    simp
  rw [len_sortT] at this
  omega

/-- glob.Ahead is the reference's. -/
theorem ahead_eq {l : List Tx} (hl : l.length ≤ 12) (hs : ∀ s ∈ l, s.length ≤ 60) : ∃ R, F21 ((l, ()), ()) = some (R, ()) ∧ F22 ((l, ()), ()) = some (R, ()) ∧ Rise R ∧ R.length ≤ 720 ∧ ∀ x, x ∈ R ↔ Ah l x := by
  obtain ⟨R, h1, h2, h3, h4⟩ := F21_eq hl hs
  obtain ⟨Q, q1, q2, q3, q4⟩ := F22_eq hl hs
  obtain rfl : R = Q := rise_eq h2 q2 fun x => (h4 x).trans (q4 x).symm
  exact ⟨R, h1, q1, q2, q3, q4⟩

end Go.Gl

namespace Go.Gl
open Go Go.Ev Go.Proofs
set_option maxRecDepth 100000

section
variable {base pat : Tx} {m : Tx → Bool}

/-- What the two matchers say of the texts of a list. -/
structure Says (base pat : Tx) (m : Tx → Bool) (l : List Tx) : Prop where
  fit : fits (base.length + pat.length) = true
  f10 : ∀ s ∈ l, F10 ((base ++ pat, s, ()), ()) = some (m s, ())
  f11 : ∀ s ∈ l, F11 ((base ++ pat, s, ()), ()) = some (m s, ())

theorem F39_eq {l : List Tx} (h : Says base pat m l) {s : Tx} (hs : s ∈ l) : F39 ((s, (), (), ()), ((base, ()), (pat, ()), ())) = some (!m s, ((base, ()), (pat, ()), ())) := by
  simp only [F39, h.fit, h.f10 s hs, cond_true, Option.bind_some]

theorem F49_eq {l : List Tx} (h : Says base pat m l) (hl : l.length ≤ 10000) :
    (∃ i : Nat, i < l.length ∧ F49c39 ((l, ((), (), ()), ()), ((base, ()), (pat, ()), ())) = some ((i : Int), ((base, ()), (pat, ()), ())) ∧ l.take i = (l.take (i + 1)).filter m) ∨
    (F49c39 ((l, ((), (), ()), ()), ((base, ()), (pat, ()), ())) = some (-1, ((base, ()), (pat, ()), ())) ∧ l.filter m = l) := by
  obtain ⟨r, e1, e2⟩ := loop_ind (f := B49c39_0) (fun p => ∃ i : Nat, i ≤ l.length ∧ p = ((l, ((), (), ()), ((l.length : Nat) : Int), (i : Int), ()), ((base, ()), (pat, ()), ())) ∧ (l.take i).filter m = l.take i) (fun p => ((l.length : Int) - p.1.2.2.2.1).toNat)
    (fun r => (∃ i : Nat, i < l.length ∧ r = .inr ((((), (), ()), (i : Int), ()), ((base, ()), (pat, ()), ())) ∧ l.take i = (l.take (i + 1)).filter m) ∨ (r = .inl ((((), (), ()), ()), ((base, ()), (pat, ()), ())) ∧ l.filter m = l))
    (fun p ⟨i, hi, hp, hs⟩ => by
      subst hp
      by_cases hlt : i < l.length
      · have hg : l.getD i [] = l[i] := by rw [List.getD_eq_getElem?_getD, List.getElem?_eq_getElem hlt]; rfl
        have wi : w64 ((i : Int) + 1) = ((i + 1 : Nat) : Int) := w64_nat (by omega)
        have f39 := F39_eq h (List.getElem_mem hlt)
        cases hm : m l[i] with
        | false =>
          right
          rw [hm] at f39
          refine ⟨_, by simp only [B49c39_0, nat_lt, nat_nn, hlt, decide_true, Bool.and_self, cond_true, Int.toNat_natCast, hg, f39, Option.bind_some, Bool.not_false] <;> rfl, .inl ⟨i, hlt, rfl, ?_⟩⟩
          rw [List.take_add_one, List.getElem?_eq_getElem hlt, List.filter_append, hs]
          simp [hm]
        | true =>
          left
          rw [hm] at f39
          refine ⟨((l, ((), (), ()), ((l.length : Nat) : Int), ((i + 1 : Nat) : Int), ()), ((base, ()), (pat, ()), ())), by simp only [B49c39_0, nat_lt, nat_nn, hlt, decide_true, Bool.and_self, cond_true, cond_false, Int.toNat_natCast, hg, f39, Option.bind_some, Bool.not_true, wi], ⟨i + 1, by omega, rfl, ?_⟩, by simp only; omega⟩
          rw [List.take_add_one, List.getElem?_eq_getElem hlt, List.filter_append, hs]
          simp [hm]
      · right
        obtain rfl : i = l.length := by omega
        exact ⟨_, by simp only [B49c39_0, Int.lt_irrefl, decide_false, cond_false] <;> rfl, .inr ⟨rfl, by simpa using hs⟩⟩)
    (p := ((l, ((), (), ()), ((l.length : Nat) : Int), (0:Int), ()), ((base, ()), (pat, ()), ()))) ⟨0, Nat.zero_le _, rfl, by simp⟩ (by unfold FUEL; simp only; omega)
  have e1' : L49c39_0 ((l, ((), (), ()), ((l.length : Nat) : Int), (0:Int), ()), ((base, ()), (pat, ()), ())) = some r := e1
  rcases e2 with ⟨i, hi, rfl, h2⟩ | ⟨rfl, h2⟩
  · exact .inl ⟨i, hi, by simp only [F49c39, e1', Option.bind_some], h2⟩
  · exact .inr ⟨by simp only [F49c39, e1', Option.bind_some], h2⟩

theorem F38_eq {l : List Tx} (h : Says base pat m l) (hl : l.length ≤ 10000) : ∃ B n, F38c39 (((), ((), (), ()), ()), (l, (base, ()), (pat, ()), ())) = some ((0, n), (B, (base, ()), (pat, ()), ())) ∧ n ≤ B.length ∧ B.length = l.length ∧ B.take n = l.filter m := by
  rcases F49_eq h hl with ⟨i0, hi0, f49, hf0⟩ | ⟨f49, hf⟩
  · have c0 : decide ((i0 : Int) = -1) = false := decide_eq_false (by omega)
    have w0 : w64 ((i0 : Int) + 1) = ((i0 + 1 : Nat) : Int) := w64_nat (by omega)
    obtain ⟨r, e1, e2⟩ := loop_ind (f := B38c39_0) (fun p => ∃ (i j : Nat) (B : List Tx), p = (((), ((), (), ()), (i : Int), (j : Int), ()), (B, (base, ()), (pat, ()), ())) ∧ i < j ∧ j ≤ l.length ∧ B.length = l.length ∧ B.take i = (l.take j).filter m ∧ B.drop j = l.drop j)
      (fun p => ((l.length : Int) - p.1.2.2.2.1).toNat) (fun r => ∃ (i : Nat) (B : List Tx), r = (((), ((), (), ()), (i : Int), ()), (B, (base, ()), (pat, ()), ())) ∧ i ≤ l.length ∧ B.length = l.length ∧ B.take i = l.filter m)
      (fun p ⟨i, j, B, hp, hij, hj, hB, ht, hd⟩ => by
        subst hp
        by_cases hlt : j < l.length
        · left
          have hltB : j < B.length := by omega
          have hiB : i < B.length := by omega
          have hg : B.getD j [] = l[j] := by
            have e1 := List.drop_eq_getElem_cons hltB
            have e2 := List.drop_eq_getElem_cons hlt
            rw [hd, e2] at e1
            rw [List.getD_eq_getElem?_getD, List.getElem?_eq_getElem hltB]
            exact (List.cons.inj e1).1.symm
          have wi : w64 ((i : Int) + 1) = ((i + 1 : Nat) : Int) := w64_nat (by omega)
          have wj : w64 ((j : Int) + 1) = ((j + 1 : Nat) : Int) := w64_nat (by omega)
          have f39 := F39_eq h (List.getElem_mem hlt)
          have hdd : B.drop (j + 1) = l.drop (j + 1) := by
            have := congrArg (List.drop 1) hd
            simpa [List.drop_drop, Nat.add_comm] using this
          have htt : (l.take (j + 1)).filter m = (l.take j).filter m ++ if m l[j] then [l[j]] else [] := by
            rw [List.take_add_one, List.getElem?_eq_getElem hlt, List.filter_append]
            cases hm : m l[j] <;> simp [hm]
          cases hm : m l[j] with
          | false =>
            rw [hm] at f39 htt
            refine ⟨(((), ((), (), ()), (i : Int), ((j + 1 : Nat) : Int), ()), (B, (base, ()), (pat, ()), ())), by simp only [B38c39_0, nat_lt, nat_nn, hltB, decide_true, Bool.and_self, cond_true, cond_false, Int.toNat_natCast, hg, f39, Option.bind_some, Bool.not_true, Bool.not_false, wj], ⟨i, j + 1, B, rfl, by omega, by omega, hB, by rw [htt, ht]; simp, hdd⟩, by simp only; omega⟩
          | true =>
            rw [hm] at f39 htt
            refine ⟨(((), ((), (), ()), ((i + 1 : Nat) : Int), ((j + 1 : Nat) : Int), ()), (B.set i l[j], (base, ()), (pat, ()), ())), by simp only [B38c39_0, nat_lt, nat_nn, hltB, hiB, decide_true, Bool.and_self, cond_true, Int.toNat_natCast, hg, f39, Option.bind_some, Bool.not_true, Bool.not_false, wi, wj], ⟨i + 1, j + 1, _, rfl, by omega, by omega, by simpa using hB, ?_, ?_⟩, by simp only; omega⟩
            · rw [set_take hiB, ht, htt]; simp
            · rw [List.drop_set_of_lt (by omega)]; exact hdd
        · right
          obtain rfl : j = l.length := by omega
          have hltB : ¬ l.length < B.length := by omega
          refine ⟨_, by simp only [B38c39_0, nat_lt, hltB, decide_false, cond_false] <;> rfl, i, B, rfl, by omega, hB, by rw [ht, List.take_length]⟩)
      (p := (((), ((), (), ()), (i0 : Int), ((i0 + 1 : Nat) : Int), ()), (l, (base, ()), (pat, ()), ()))) ⟨i0, i0 + 1, l, rfl, by omega, by omega, rfl, hf0, rfl⟩ (by unfold FUEL; simp only; omega)
    obtain ⟨i, B, rfl, hi, hB, ht⟩ := e2
    have e1' : L38c39_0 (((), ((), (), ()), (i0 : Int), ((i0 + 1 : Nat) : Int), ()), (l, (base, ()), (pat, ()), ())) = some (((), ((), (), ()), (i : Int), ()), (B, (base, ()), (pat, ()), ())) := e1
    have c2 : decide ((i : Int) ≤ ((B.length : Nat) : Int)) = true := by simp; omega
    have c3 : decide (((B.length : Nat) : Int) ≤ ((B.length : Nat) : Int)) = true := by simp
    have hlen : (B.take i ++ List.replicate (B.length - i) ([] : Tx) ++ B.drop (i + (B.length - i))).length = B.length := by simp; omega
    have c4 : decide ((i : Int) ≤ (((B.take i ++ List.replicate (B.length - i) ([] : Tx) ++ B.drop (i + (B.length - i))).length : Nat) : Int)) = true := by rw [hlen]; exact c2
    refine ⟨B.take i ++ List.replicate (B.length - i) ([] : Tx) ++ B.drop (i + (B.length - i)), i, by simp only [F38c39, f49, c0, w0, e1', nat_nn, c2, c3, c4, Bool.and_self, cond_true, cond_false, Option.bind_some, Int.toNat_natCast], by rw [hlen]; omega, by rw [hlen, hB], ?_⟩
    rw [List.append_assoc, List.take_append_of_le_length (by simp; omega), List.take_take, Nat.min_self, ht]
  · exact ⟨l, l.length, by simp only [F38c39, f49, decide_true, cond_true, Option.bind_some], Nat.le_refl _, rfl, by rw [List.take_length, hf]⟩

theorem F37_eq {l : List Tx} (hl : l.length ≤ 10000) : F37 ((l, ()), ()) = some ((), (l, ())) := by
  have hb : bytesOK (0 + l.length) 16 = true := bytes_true (by omega)
  cases l with
  | nil => simp [F37, agr_self, bytesOK]
  | cons x l =>
    simp only [F37, List.isEmpty_cons, cond_false, List.length_nil, hb, cond_true, List.nil_append]

theorem pick_comp {B : List Tx} {n : Nat} (hn : n ≤ B.length) : List.take (compN (sortW B 0 n) 0 n) (List.drop 0 (compW (sortW B 0 n) 0 n)) = Lib.compact (sortT (B.take n)) := by
  have e : ((sortW B 0 n).drop 0).take n = sortT (B.take n) := by
    have hl : (sortT (B.take n)).length = n := by rw [len_sortT]; simp; omega
    simp only [sortW, List.drop_zero, List.take_zero, List.nil_append]
    rw [List.take_append_of_le_length (by omega), List.take_of_length_le (by omega)]
  unfold compN compW
  rw [e]
  simp

theorem F23_eq {l R : List Tx} (hl : l.length ≤ 12) (hR : R.length ≤ 720) (h21 : F21 ((l, ()), ()) = some (R, ())) (h : Says base pat m (l ++ R)) :
    ∃ Q, F23 ((l, base, pat, ()), ()) = some (Q, ()) ∧ Rise Q ∧ Q.length ≤ 1000 ∧ ∀ x, x ∈ Q ↔ x ∈ l ++ R ∧ m x = true := by
  obtain ⟨B, n, f38, hn, hB, ht⟩ := F38_eq h (by simp; omega)
  have hb : bytesOK (l.length + R.length) 16 = true := bytes_true (by omega)
  have hBl : B.length ≤ 800 := by rw [hB]; simp; omega
  have d1 : decide (B.length < 4611686018427387904) = true := by simp; omega
  have hsl : (sortW B 0 n).length = B.length := by
    simp [sortW, len_sortT]; omega
  have d2 : decide ((sortW B 0 n).length < 4611686018427387904) = true := by rw [hsl]; exact d1
  refine ⟨Lib.compact (sortT (l.filter m ++ R.filter m)), ?_, rise_compact (sortT_pair _), ?_, fun x => ?_⟩
  · simp only [F23, F37_eq (show l.length ≤ 10000 by omega), h21, hb, f38, d1, d2, cond_true, Option.bind_some, pick_comp hn, ht, List.filter_append]
  · have : (Lib.compact (sortT (l.filter m ++ R.filter m))).length ≤ (sortT (l.filter m ++ R.filter m)).length := by
      unfold Lib.compact Lib.compactUpTo
      rw [List.length_map]
      refine Nat.le_trans (List.length_filter_le _ _) ?_
      simp
    have h1 := List.length_filter_le m l
    have h2 := List.length_filter_le m R
    rw [len_sortT, List.length_append] at this
    omega
  · rw [mem_compact, mem_sortT, ← List.filter_append, List.mem_filter]

theorem F24_eq {l R : List Tx} (hl : l.length ≤ 12) (hR : R.length ≤ 720) (h22 : F22 ((l, ()), ()) = some (R, ())) (h : Says base pat m (l ++ R)) :
    ∃ Q, F24 ((l, base, pat, ()), ()) = some (Q, ()) ∧ Rise Q ∧ ∀ x, x ∈ Q ↔ x ∈ l ++ R ∧ m x = true := by
  have b1 : bytesOK (0 + l.length) 16 = true := bytes_true (by omega)
  have b2 : bytesOK (l.length + R.length) 16 = true := bytes_true (by omega)
  have hal : (l ++ R).length ≤ 1000 := by simp; omega
  generalize hall : l ++ R = all at h hal
  obtain ⟨r, e1, e2⟩ := loop_ind (f := B24_0) (fun p => ∃ (i : Nat) (o : List Tx), p = ((base, pat, o, (), (i : Int), ()), (all, ())) ∧ i ≤ all.length ∧ Rise o ∧ o.length ≤ i ∧ ∀ x, x ∈ o ↔ x ∈ all.take i ∧ m x = true)
    (fun p => ((all.length : Int) - p.1.2.2.2.2.1).toNat) (fun r => ∃ o, r = ((o, ()), ()) ∧ Rise o ∧ ∀ x, x ∈ o ↔ x ∈ all ∧ m x = true)
    (fun p ⟨i, o, hp, hi, hro, hol, hm⟩ => by
      subst hp
      by_cases hlt : i < all.length
      · left
        have wi : w64 ((i : Int) + 1) = ((i + 1 : Nat) : Int) := w64_nat (by omega)
        have hg : all.getD i [] = all[i] := by rw [List.getD_eq_getElem?_getD, List.getElem?_eq_getElem hlt]; rfl
        have f11 := h.f11 _ (List.getElem_mem hlt)
        have f36 := F36_eq (l := o) (s := all[i]) (by omega)
        have htk : ∀ x, x ∈ all.take (i + 1) ↔ x ∈ all.take i ∨ x = all[i] := fun x => by
          rw [List.take_add_one, List.getElem?_eq_getElem hlt]
          simp only [Option.toList_some, List.mem_append, List.mem_singleton]
        cases hmi : m all[i] with
        | false =>
          rw [hmi] at f11
          refine ⟨((base, pat, o, (), ((i + 1 : Nat) : Int), ()), (all, ())), by simp only [B24_0, nat_lt, nat_nn, hlt, h.fit, decide_true, Bool.and_self, cond_true, cond_false, Int.toNat_natCast, hg, f11, Option.bind_some, wi], ⟨i + 1, o, rfl, by omega, hro, by omega, fun x => ?_⟩, by simp only; omega⟩
          rw [hm, htk]
          constructor
          · rintro ⟨h1, h2⟩
            exact ⟨.inl h1, h2⟩
          · rintro ⟨h1 | rfl, h2⟩
            · exact ⟨h1, h2⟩
            · rw [hmi] at h2; cases h2
        | true =>
          rw [hmi] at f11
          refine ⟨((base, pat, layS o all[i], (), ((i + 1 : Nat) : Int), ()), (all, ())), by simp only [B24_0, nat_lt, nat_nn, hlt, h.fit, decide_true, Bool.and_self, cond_true, Int.toNat_natCast, hg, f11, f36, Option.bind_some, wi], ⟨i + 1, _, rfl, by omega, rise_layS hro, by have := len_layS (l := o) (s := all[i]); omega, fun x => ?_⟩, by simp only; omega⟩
          rw [mem_layS, hm, htk]
          constructor
          · rintro (rfl | ⟨h1, h2⟩)
            · exact ⟨.inr rfl, hmi⟩
            · exact ⟨.inl h1, h2⟩
          · rintro ⟨h1 | rfl, h2⟩
            · exact .inr ⟨h1, h2⟩
            · exact .inl rfl
      · right
        obtain rfl : i = all.length := by omega
        refine ⟨_, by simp only [B24_0, Int.lt_irrefl, decide_false, cond_false] <;> rfl, o, rfl, hro, fun x => by rw [hm, List.take_length]⟩)
    (p := ((base, pat, [], (), (0:Int), ()), (all, ()))) ⟨0, [], rfl, by omega, List.Pairwise.nil, by simp, fun x => by simp⟩ (by unfold FUEL; simp only; omega)
  obtain ⟨o, rfl, q1, q2⟩ := e2
  have e1' : L24_0 ((base, pat, [], (), (0:Int), ()), (all, ())) = some ((o, ()), ()) := e1
  exact ⟨o, by simp only [F24, List.length_nil, b1, h22, List.nil_append, b2, hall, e1', cond_true, Option.bind_some], q1, q2⟩

end

open Classical in
/-- GlobPicks is true. -/
theorem law7 (names : List Tx) (base pat : Tx) : F7 ((names, base, pat, ()), ()) = some (true, ()) := by
  obtain ⟨b, h1, hb⟩ := F8_eq base
  obtain ⟨p, h2, hp⟩ := F8_eq pat
  obtain ⟨R, a1, a2, a3, a4, a5⟩ := ahead_eq (few_len names) (fun s hs => few_mem hs)
  have h20 := F20_eq names
  have hl := few_len names
  have hmem : ∀ s ∈ few names ++ R, s.length ≤ 60 := fun s hs => by
    rcases List.mem_append.1 hs with h | h
    · exact few_mem h
    · obtain ⟨_, t, ht, i, _, _, _, rfl⟩ := (a5 s).1 h
      have := few_mem ht
      simp; omega
  have hs : Says b p (fun s => decide (MM (b ++ p) s)) (few names ++ R) := {
    fit := fits_true (by omega)
    f10 := fun s hs => by
      obtain ⟨x, x1, x2⟩ := F10_eq (p := b ++ p) (n := s) (by simp; omega) (by have := hmem s hs; omega)
      have : x = decide (MM (b ++ p) s) := by
        rw [Bool.eq_iff_iff, decide_eq_true_eq]; exact x2
      rw [x1, this]
    f11 := fun s hs => by
      obtain ⟨x, x1, x2⟩ := F11_eq (p := b ++ p) (n := s) (by simp; omega) (by have := hmem s hs; omega)
      have : x = decide (MM (b ++ p) s) := by
        rw [Bool.eq_iff_iff, decide_eq_true_eq]; exact x2
      rw [x1, this] }
  obtain ⟨Q, q1, q2, q3, q4⟩ := F23_eq hl a4 a1 hs
  obtain ⟨Q', r1, r2, r4⟩ := F24_eq hl a4 a2 hs
  obtain rfl : Q = Q' := rise_eq q2 r2 fun x => (q4 x).trans (r4 x).symm
  simp only [F7, h20, h1, h2, a1, a2, F13_eq (show R.length ≤ 100000 by omega), q1, r1, F13_eq (show Q.length ≤ 100000 by omega), F13_eq (show (few names).length ≤ 100000 by omega), live9, Option.bind_some, Bool.not_true, Bool.not_false, cond_true, cond_false]

end Go.Gl

/- Ranges joined, as the code joins them. -/
import Derived.Test.YtbnmcdcpendjjaaDoorBd1
import Derived.Test.YtbnmcdcpendjjaaDoorBd2
import Derived.Test.YtbnmcdcpendjjaaDoorLoopL
namespace Go.Bd
open Go Go.Ev Go.Proofs Go.Sort Go.RowKit
set_option maxRecDepth 100000

theorem bytes_ok {n k : Nat} (h : n * k ≤ 140737488355328) : bytesOK n k = true := decide_eq_true h

theorem sort_mem (l : List Pr) : (sort21 l).length = l.length ∧ (∀ x, x ∈ sort21 l ↔ x ∈ l) ∧ (sort21 l).Pairwise (fun a b => a.1 ≤ b.1) := by
  have h := pdq_sorts (ltOf cf21) swo21 l.toArray 0 l.length (Lib.bitLen l.length) true true (Nat.zero_le _) (by simp) (Or.inl rfl)
  have e : sort21 l = (pdq (ltOf cf21) l.toArray 0 l.length (Lib.bitLen l.length) true true).toList := rfl
  generalize pdq (ltOf cf21) l.toArray 0 l.length (Lib.bitLen l.length) true true = d at *
  obtain ⟨⟨h1, _, h3⟩, h4⟩ := h
  have hs : d.size = l.length := by simpa using h1
  have hp : d.toList.Perm l := by
    have : (d.extract 0 l.length).toList = d.toList := by rw [← hs]; simp
    rw [this] at h3
    simpa using h3
  rw [e]
  refine ⟨by simpa using hs, fun x => hp.mem_iff, ?_⟩
  rw [List.pairwise_iff_getElem]
  intro i j hi hj hij
  have hj' : j < d.size := by simpa using hj
  have hi' : i < d.size := by simpa using hi
  have := h4 i j (Nat.zero_le _) hij (by omega)
  rw [lt21, decide_eq_false_iff_not, getElem!_pos d i hi', getElem!_pos d j hj'] at this
  simp only [Array.getElem_toList]
  omega

def nrm (p : Pr) : Pr := (if p.2.1 < p.1 then p.2.1 else p.1, if p.1 < p.2.1 then p.2.1 else p.1, ())

theorem nrm_full (p : Pr) : (nrm p).1 ≤ (nrm p).2.1 := by
  simp only [nrm]; split <;> split <;> omega

theorem append_set {α : Type} : ∀ (a t : List α) (x y : α), (a ++ x :: t).set a.length y = a ++ y :: t
  | [], _, _, _ => rfl
  | b :: a, t, x, y => by
    simp only [List.cons_append, List.length_cons, List.set_cons_succ, append_set a t x y]

theorem drop_cons {α : Type} {s : List α} {i : Nat} {a : α} (hi : i < s.length) (ha : ∀ d, s.getD i d = a) : s.drop i = a :: s.drop (i + 1) := by
  rw [List.drop_eq_getElem_cons hi]
  have := ha s[i]
  rw [List.getD_eq_getElem?_getD, List.getElem?_eq_getElem hi] at this
  rw [show s[i] = a from this]

theorem foldS_push {α β τ : Type} (g : α → β) (fin : List β → τ) : ∀ (s : List α) (b : List β), foldS (fun a b => (.inl (b ++ [g a]) : List β ⊕ τ)) fin b s = fin (b ++ s.map g)
  | [], b => by simp [foldS]
  | a :: t, b => by
    simp only [foldS]
    rw [foldS_push g fin t]
    simp

theorem foldS_foldl {α β τ : Type} (g : β → α → β) (fin : β → τ) : ∀ (s : List α) (b : β), foldS (fun a b => (.inl (g b a) : β ⊕ τ)) fin b s = fin (s.foldl g b)
  | [], b => rfl
  | a :: t, b => by
    simp only [foldS]
    rw [foldS_foldl g fin t, List.foldl_cons]

theorem L12a_eq (P : List Pr) (hl : P.length ≤ 32) : L12_0 (((), (), ((P.length : Nat) : Int), (0:Int), ()), (P, ())) = some (((), ()), (P.map nrm, ())) := by
  have hF := FUEL_big
  have h := walk_listI (f := B12_0) (fun (b : List Pr) i => (((), (), ((P.length : Nat) : Int), (i : Int), ()), (b ++ P.drop i, ()))) P (fun a b => .inl (b ++ [nrm a])) (fun b => (((), ()), (b, ()))) (fun b i => b.length = i) (b := [])
    (fun b i a hI hi ha => .inl ⟨_, rfl, by rw [List.length_append, hI]; rfl, by
      subst hI
      have hd := drop_cons hi ha
      have hlt : b.length < (b ++ P.drop b.length).length := by rw [hd]; simp
      have hg : ∀ d, (b ++ P.drop b.length).getD b.length d = a := fun d => by
        rw [hd, List.getD_eq_getElem?_getD, List.getElem?_append_right (Nat.le_refl _)]
        simp
      have hset : (b ++ P.drop b.length).set b.length (nrm a) = b ++ [nrm a] ++ P.drop (b.length + 1) := by
        rw [hd, append_set]; simp
      unfold nrm at hset ⊢
      simp only [B12_0, nat_lt, nat_nn, hi, hlt, decide_true, Bool.and_true, cond_true, Int.toNat_natCast, hg, Bool.cond_decide, Option.bind_some, hset, w64_nat (show b.length < 9223372036854775807 by omega)]⟩)
    (fun b _ => by simp only [B12_0, Int.lt_irrefl, decide_false, cond_false, List.drop_length, List.append_nil]) (by omega) rfl
  rw [foldS_push] at h
  exact h

def small (p : Pr) : Prop := 0 ≤ p.1 ∧ p.1 ≤ 4294967295 ∧ 0 ≤ p.2.1 ∧ p.2.1 ≤ 4294967295

theorem nrm_small {p : Pr} (h : small p) : small (nrm p) := by
  unfold small at *
  simp only [nrm]
  split <;> split <;> omega

theorem mstep_small {out : List Pr} {p : Pr} (h : ∀ q ∈ out, small q) (hp : small p) : (∀ q ∈ mstep out p, small q) ∧ (mstep out p).length ≤ out.length + 1 := by
  rcases List.eq_nil_or_concat out with rfl | ⟨a, q, rfl⟩
  · exact ⟨fun x hx => by rw [List.mem_singleton.mp hx]; exact hp, Nat.le_refl _⟩
  · rw [List.concat_eq_append] at *
    have hlen : (a ++ [q]).length - 1 = a.length := by simp
    have hq := h q (by simp)
    unfold mstep
    rw [hlen, last_get, last_set]
    by_cases ht : 0 < (a ++ [q]).length ∧ p.1 ≤ q.2.1 + 1
    · rw [if_pos ht]
      refine ⟨fun x hx => ?_, by simp⟩
      rcases List.mem_append.mp hx with hx | hx
      · exact h x (List.mem_append_left _ hx)
      · rw [List.mem_singleton.mp hx]
        unfold small at *
        simp only
        split <;> omega
    · rw [if_neg ht]
      refine ⟨fun x hx => ?_, by simp⟩
      rcases List.mem_append.mp hx with hx | hx
      · exact h x hx
      · rw [List.mem_singleton.mp hx]; exact hp

theorem L12b_eq (S : List Pr) (hl : S.length ≤ 32) (hS : ∀ p ∈ S, small p) : L12_1 (((), (), (), ((S.length : Nat) : Int), (0:Int), ()), (S, ([]:List Pr), ())) = some (((), (), ()), (S, S.foldl mstep [], ())) := by
  have hF := FUEL_big
  have h := walk_listI (f := B12_1) (fun (b : List Pr) i => (((), (), (), ((S.length : Nat) : Int), (i : Int), ()), (S, b, ()))) S (fun a b => .inl (mstep b a)) (fun b => (((), (), ()), (S, b, ()))) (fun b i => b.length ≤ i ∧ ∀ q ∈ b, small q) (b := [])
    (fun b i a hI hi ha => .inl ⟨_, rfl, by
      have hm : a ∈ S := by
        rw [← ha nop, List.getD_eq_getElem?_getD, List.getElem?_eq_getElem hi]
        exact List.getElem_mem hi
      obtain ⟨q1, q2⟩ := mstep_small hI.2 (hS a hm)
      exact ⟨by have := hI.1; omega, q1⟩, by
      obtain ⟨hb, hq⟩ := hI
      have hby : bytesOK (b.length + 1) 16 = true := bytes_ok (by omega)
      have hk : w64 ((b.length : Int) - 1) = (b.length : Int) - 1 := w64_id (by omega) (by omega)
      simp only [B12_1, nat_lt, nat_nn, hi, decide_true, Bool.and_true, cond_true, Int.toNat_natCast, ha, Option.bind_some, hk, List.length_cons, List.length_nil, Nat.zero_add, hby]
      rcases List.eq_nil_or_concat b with rfl | ⟨c, q, rfl⟩
      · simp only [List.length_nil, show ((0:Nat):Int) - 1 = -1 by omega, show decide ((0:Int) ≤ -1) = false from rfl, Bool.false_and, Bool.not_false, Bool.or_true, cond_true, cond_false, Option.bind_some, show bytesOK (0 + 1) 16 = true from bytes_ok (by omega), w64_nat (show i < 9223372036854775807 by omega)]
        rfl
      · rw [List.concat_eq_append] at *
        have e1 : ((c ++ [q]).length : Int) - 1 = (c.length : Int) := by simp
        have e2 : c.length < (c ++ [q]).length := by simp
        have e3 : (c ++ [q]).length - 1 = c.length := by simp
        have sq := hq q (by simp)
        have e4 : w64 (q.2.1 + 1) = q.2.1 + 1 := by unfold small at sq; exact w64_id (by omega) (by omega)
        simp only [e1, nat_nn, nat_lt, e2, decide_true, Bool.and_true, Bool.true_and, Bool.true_or, cond_true, Option.bind_some, Int.toNat_natCast, last_get, e4]
        unfold mstep
        rw [e3]
        by_cases ht : a.1 ≤ q.2.1 + 1
        · have hp : 0 < (c ++ [q]).length ∧ a.1 ≤ ((c ++ [q]).getD c.length nop).2.1 + 1 := by rw [last_get]; exact ⟨by simp, ht⟩
          rw [if_pos hp]
          simp only [ht, decide_true, cond_true, Option.bind_some, last_get, Bool.cond_decide, w64_nat (show i < 9223372036854775807 by omega)]
        · have hp : ¬ (0 < (c ++ [q]).length ∧ a.1 ≤ ((c ++ [q]).getD c.length nop).2.1 + 1) := by rw [last_get]; exact fun h => ht h.2
          rw [if_neg hp]
          simp only [ht, decide_false, cond_false, hby, cond_true, Option.bind_some, w64_nat (show i < 9223372036854775807 by omega)]⟩)
    (fun b _ => by simp only [B12_1, Int.lt_irrefl, decide_false, cond_false]) (by omega) ⟨Nat.le_refl _, fun q hq => by cases hq⟩
  rw [foldS_foldl] at h
  exact h

/-- ranges, joined -/
def joined (P : List Pr) : List Pr := (P.map nrm).foldl lays []

theorem F12_eq (P : List Pr) (hl : P.length ≤ 32) (h0 : P ≠ []) (hP : ∀ p ∈ P, small p) : F12 (((), ()), (P, ())) = some (joined P, ()) := by
  obtain ⟨s1, s2, s3⟩ := sort_mem (P.map nrm)
  rw [List.length_map] at s1
  have e := L12b_eq (sort21 (P.map nrm)) (by omega) (fun p hp => by
    obtain ⟨q, hq, rfl⟩ := List.mem_map.mp ((s2 p).mp hp)
    exact nrm_small (hP q hq))
  have hj : (sort21 (P.map nrm)).foldl mstep [] = joined P := merge_lays s2 s3 (fun p hp => by
    obtain ⟨q, hq, rfl⟩ := List.mem_map.mp hp
    exact nrm_full q)
  rw [hj] at e
  have c1 : decide ((P.map nrm).length < 4611686018427387904) = true := by rw [List.length_map, decide_eq_true_eq]; omega
  have c2 : (P.map nrm).isEmpty = false := by
    cases P with
    | nil => exact absurd rfl h0
    | cons a t => rfl
  simp only [F12, L12a_eq P hl, Option.bind_some, c1, c2, Bool.not_false, Bool.and_self, cond_true, e]

/-! the reference's joining -/
def sub (most x : Int) : Int := if x < 0 then most else x
def subs (most : Int) (p : Pr) : Pr := (sub most p.1, sub most p.2.1, ())

theorem iter_more {σ τ : Type} {f : σ → Option (σ ⊕ τ)} {p q : σ} {n : Nat} (h : f p = some (.inl q)) : iter f (n + 1) p = iter f n q := by
  simp only [iter, h]

theorem L6b_eq (most : Int) (Q : List Pr) (i : Int) (out : List Pr) (p : Pr) : L6_1 ((most, Q, (), i, (), (0:Int), ()), (out, (p.1, p.2.1, ()), ())) = some ((most, Q, (), i, (), ()), (out, ((subs most p).1, (subs most p).2.1, ()), ())) := by
  have h1 : B6_1 ((most, Q, (), i, (), (0:Int), ()), (out, (p.1, p.2.1, ()), ())) = some (.inl ((most, Q, (), i, (), (1:Int), ()), (out, (sub most p.1, p.2.1, ()), ()))) := by
    simp only [B6_1, sub, show decide ((0:Int) < 2) = true from rfl, cond_true, decide_true, Bool.cond_decide, show w64 ((0:Int) + 1) = 1 from by kernel_rfl]
    split <;> rfl
  have h2 : B6_1 ((most, Q, (), i, (), (1:Int), ()), (out, (sub most p.1, p.2.1, ()), ())) = some (.inl ((most, Q, (), i, (), (2:Int), ()), (out, (sub most p.1, sub most p.2.1, ()), ()))) := by
    generalize sub most p.1 = x
    simp only [B6_1, sub, show decide ((1:Int) < 2) = true from rfl, show decide ((1:Int) = 0) = false from rfl, cond_true, cond_false, decide_true, Bool.cond_decide, show w64 ((1:Int) + 1) = 2 from by kernel_rfl]
    split <;> rfl
  change iter B6_1 (9223372036854775805 + 1 + 1 + 1) _ = _
  rw [iter_more h1, iter_more h2]
  simp only [iter, B6_1, show decide ((2:Int) < 2) = false from rfl, cond_false]
  rfl

theorem L6c_eq (most : Int) (Q : List Pr) (i : Int) (out : List Pr) (p : Pr) (hl : out.length ≤ 32) (ho : ∀ q ∈ out, small q) (hp : small p) :
    L6_2 ((most, Q, (), i, (), (), (0:Int), ()), (out, (p.1, p.2.1, ()), ([]:List Pr), ())) = some ((most, Q, i, (), (), ()), (((out.foldl astep (p, [])).1.1, (out.foldl astep (p, [])).1.2.1, ()), (out.foldl astep (p, [])).2, ())) ∧
      small (out.foldl astep (p, [])).1 ∧ (out.foldl astep (p, [])).2.length ≤ out.length ∧ ∀ q ∈ (out.foldl astep (p, [])).2, small q := by
  have hF := FUEL_big
  have hst : ∀ (st : Pr × List Pr) (a : Pr), small st.1 → small a → small (astep st a).1 := fun st a h1 h2 => by
    unfold astep
    split
    · exact h1
    · unfold small at *
      simp only
      split <;> split <;> omega
  have hrs : ∀ (st : Pr × List Pr) (a : Pr), (∀ q ∈ st.2, small q) → small a → ∀ q ∈ (astep st a).2, small q := fun st a h1 h2 q hq => by
    unfold astep at hq
    split at hq
    · rcases List.mem_append.mp hq with hq | hq
      · exact h1 q hq
      · rw [List.mem_singleton.mp hq]; exact h2
    · exact h1 q hq
  have hln : ∀ (st : Pr × List Pr) (a : Pr), (astep st a).2.length ≤ st.2.length + 1 := fun st a => by
    unfold astep
    split
    · simp
    · simp
  refine ⟨?_, ?_⟩
  · have h := walk_listI (f := B6_2) (fun (b : Pr × List Pr) k => ((most, Q, (), i, (), (), (k : Int), ()), (out, (b.1.1, b.1.2.1, ()), b.2, ()))) out (fun a b => .inl (astep b a)) (fun b => ((most, Q, i, (), (), ()), ((b.1.1, b.1.2.1, ()), b.2, ()))) (fun b k => b.2.length ≤ k ∧ small b.1) (b := (p, []))
      (fun b k a hI hk ha => .inl ⟨_, rfl, by
        have hm : a ∈ out := by
          rw [← ha nop, List.getD_eq_getElem?_getD, List.getElem?_eq_getElem hk]
          exact List.getElem_mem hk
        exact ⟨by have := hln b a; have := hI.1; omega, hst b a hI.2 (ho a hm)⟩, by
        obtain ⟨hb, hsm⟩ := hI
        have hm : a ∈ out := by
          rw [← ha nop, List.getD_eq_getElem?_getD, List.getElem?_eq_getElem hk]
          exact List.getElem_mem hk
        have sa := ho a hm
        have hby : bytesOK (b.2.length + 1) 16 = true := bytes_ok (by omega)
        have e1 : w64 (a.2.1 + 1) = a.2.1 + 1 := by unfold small at sa; exact w64_id (by omega) (by omega)
        have e2 : w64 (b.1.2.1 + 1) = b.1.2.1 + 1 := by unfold small at hsm; exact w64_id (by omega) (by omega)
        simp only [B6_2, nat_lt, nat_nn, hk, decide_true, Bool.and_true, Bool.true_or, cond_true, Int.toNat_natCast, ha, Option.bind_some, e1, e2, List.length_cons, List.length_nil, Nat.zero_add, hby, ← Bool.decide_or, w64_nat (show k < 9223372036854775807 by omega)]
        unfold astep apart
        by_cases h : a.2.1 + 1 < b.1.1 ∨ b.1.2.1 + 1 < a.1
        · simp only [h, decide_true, cond_true, Option.bind_some, ↓reduceIte, w64_nat (show k < 9223372036854775807 by omega)]
        · simp only [h, decide_false, cond_false, ↓reduceIte, Bool.cond_decide]
          by_cases h1 : a.1 < b.1.1 <;> by_cases h2 : b.1.2.1 < a.2.1 <;> simp only [h1, h2, ↓reduceIte, Option.bind_some, w64_nat (show k < 9223372036854775807 by omega), nat_lt, nat_nn, hk, ha, Int.toNat_natCast, decide_true, Bool.and_self, cond_true]⟩)
      (fun b _ => by simp only [B6_2, Int.lt_irrefl, decide_false, cond_false]) (by omega) ⟨Nat.le_refl _, hp⟩
    rw [foldS_foldl] at h
    exact h
  · have : ∀ (l : List Pr) (st : Pr × List Pr), (∀ q ∈ l, small q) → small st.1 → (∀ q ∈ st.2, small q) → small (l.foldl astep st).1 ∧ (l.foldl astep st).2.length ≤ l.length + st.2.length ∧ ∀ q ∈ (l.foldl astep st).2, small q := by
      intro l
      induction l with
      | nil => intro st _ h1 h2; exact ⟨h1, by simp, h2⟩
      | cons a t ih =>
        intro st hl h1 h2
        have ha := hl a (List.mem_cons_self ..)
        obtain ⟨g1, g2, g3⟩ := ih (astep st a) (fun q hq => hl q (List.mem_cons_of_mem _ hq)) (hst st a h1 ha) (hrs st a h2 ha)
        rw [List.foldl_cons]
        refine ⟨g1, ?_, g3⟩
        have := hln st a
        simp only [List.length_cons]
        omega
    have := this out (p, []) ho hp (fun q hq => by cases hq)
    simpa using this

def stepI (p : Pr) (b : Bool × List Pr) (r : Pr) : Bool × List Pr := if !b.1 && decide (p.1 < r.1) then (true, b.2 ++ [(p.1, p.2.1, ())] ++ [r]) else (b.1, b.2 ++ [r])

theorem fold_ins (p : Pr) : ∀ (l : List Pr) (b : Bool × List Pr), (l.foldl (stepI p) b).1 = (b.1 || l.any (fun r => decide (p.1 < r.1))) ∧
    (if (l.foldl (stepI p) b).1 then (l.foldl (stepI p) b).2 else (l.foldl (stepI p) b).2 ++ [p]) = b.2 ++ (if b.1 then l else insR p l)
  | [], b => by
    obtain ⟨b1, b2⟩ := b
    cases b1 <;> simp [insR]
  | r :: t, b => by
    obtain ⟨g1, g2⟩ := fold_ins p t (stepI p b r)
    obtain ⟨b1, b2⟩ := b
    rw [List.foldl_cons]
    refine ⟨?_, ?_⟩
    · rw [g1]
      unfold stepI
      cases b1
      · by_cases h : p.1 < r.1 <;> simp [h]
      · simp
    · rw [g2]
      unfold stepI
      cases b1
      · by_cases h : p.1 < r.1
        · simp [h, insR]
        · simp [h, insR]
      · simp

theorem L6d_eq (most : Int) (Q : List Pr) (i : Int) (rest : List Pr) (p : Pr) (hl : rest.length ≤ 32) :
    L6_3 ((most, Q, (), i, (), (), false, (0:Int), ()), (([]:List Pr), (p.1, p.2.1, ()), rest, ())) = some ((most, Q, (), i, (), (rest.foldl (stepI p) (false, [])).1, ()), ((rest.foldl (stepI p) (false, [])).2, (p.1, p.2.1, ()), ())) := by
  have hF := FUEL_big
  have hln : ∀ (b : Bool × List Pr) (a : Pr), (stepI p b a).2.length ≤ b.2.length + 2 := fun b a => by
    unfold stepI
    split <;> simp
  have h := walk_listI (f := B6_3) (fun (b : Bool × List Pr) k => ((most, Q, (), i, (), (), b.1, (k : Int), ()), (b.2, (p.1, p.2.1, ()), rest, ()))) rest (fun a b => .inl (stepI p b a)) (fun b => ((most, Q, (), i, (), b.1, ()), (b.2, (p.1, p.2.1, ()), ()))) (fun b k => b.2.length ≤ 2 * k) (b := (false, []))
    (fun b k a hI hk ha => .inl ⟨_, rfl, by have := hln b a; omega, by
      have hby1 : bytesOK (b.2.length + 1) 16 = true := bytes_ok (by omega)
      have hby2 : bytesOK (b.2.length + 1 + 1) 16 = true := bytes_ok (by omega)
      simp only [B6_3, nat_lt, nat_nn, hk, decide_true, Bool.and_true, Bool.true_or, cond_true, Int.toNat_natCast, ha, Option.bind_some, List.length_cons, List.length_nil, Nat.zero_add, hby1, w64_nat (show k < 9223372036854775807 by omega)]
      unfold stepI
      obtain ⟨b1, b2⟩ := b
      cases b1
      · by_cases h : p.1 < a.1
        · simp only [h, Bool.not_false, decide_true, Bool.and_self, cond_true, Option.bind_some, List.length_append, List.length_cons, List.length_nil, Nat.zero_add, hby2, ↓reduceIte, nat_lt, nat_nn, hk, Int.toNat_natCast, ha, w64_nat (show k < 9223372036854775807 by omega)]
        · simp only [h, Bool.not_false, decide_false, Bool.and_false, cond_false, cond_true, Option.bind_some, hby1, Bool.false_eq_true, ↓reduceIte, nat_lt, nat_nn, hk, decide_true, Bool.and_self, Int.toNat_natCast, ha, w64_nat (show k < 9223372036854775807 by omega)]
      · simp only [Bool.not_true, Bool.false_and, cond_false, cond_true, Option.bind_some, hby1, Bool.false_eq_true, ↓reduceIte, nat_lt, nat_nn, hk, decide_true, Bool.and_self, Int.toNat_natCast, ha, w64_nat (show k < 9223372036854775807 by omega)]⟩)
    (fun b _ => by simp only [B6_3, Int.lt_irrefl, decide_false, cond_false]) (by omega) (Nat.le_refl _)
  rw [foldS_foldl] at h
  exact h

end Go.Bd

/- The reference's ranges, and a text's letters. -/
import Derived.Test.YtbnmcdcpendjjaaDoorBd3
import Derived.Lib.TrimUEq
import Derived.Lib.MapLaws
import Derived.Lib.TrimAscii
namespace Go.Bd
open Go Go.Ev
set_option maxRecDepth 100000

theorem insR_len (p : Pr) : ∀ l : List Pr, (insR p l).length = l.length + 1
  | [] => rfl
  | r :: t => by
    unfold insR
    split
    · rfl
    · simp [insR_len p t]

theorem insR_mem (p : Pr) : ∀ (l : List Pr) (x : Pr), x ∈ insR p l → x = p ∨ x ∈ l
  | [], x, h => .inl (List.mem_singleton.mp h)
  | r :: t, x, h => by
    unfold insR at h
    split at h
    · exact List.mem_cons.mp h
    · rcases List.mem_cons.mp h with rfl | h
      · exact .inr (List.mem_cons_self ..)
      · exact (insR_mem p t x h).imp id (List.mem_cons_of_mem _)

def neg (p : Pr) : Bool := decide (p.1 < 0) || decide (p.2.1 < 0)

abbrev R6 : Type := ((Unit × Unit) × (List Pr × Unit)) ⊕ ((Unit × Unit × Unit × Unit) × (List Pr × Unit))

def stp6 (most : Int) (a : Pr) (b : List Pr) : List Pr ⊕ R6 :=
  if decide (most = 0) && neg a then .inr (.inr (((), (), (), ()), ([], ()))) else .inl (lays b (nrm (subs most a)))

theorem subs_small {most : Int} {p : Pr} (hm : 0 ≤ most ∧ most ≤ 4294967295) (h1 : p.1 ≤ 4294967295) (h2 : p.2.1 ≤ 4294967295) : small (subs most p) := by
  unfold small subs sub
  simp only
  split <;> split <;> omega

theorem L6a_eq (most : Int) (Q : List Pr) (hl : Q.length ≤ 32) (hm : 0 ≤ most ∧ most ≤ 4294967295) (hQ : ∀ p ∈ Q, p.1 ≤ 4294967295 ∧ p.2.1 ≤ 4294967295) :
    L6_0 ((most, Q, (), (0:Int), ()), (([]:List Pr), ())) = some (foldS (stp6 most) (fun b => .inl (((), ()), (b, ()))) [] Q) := by
  have hF := FUEL_big
  refine walk_listI (f := B6_0) (fun (b : List Pr) i => ((most, Q, (), (i : Int), ()), (b, ()))) Q (stp6 most) _ (fun b i => b.length ≤ i ∧ ∀ q ∈ b, small q) (b := [])
    (fun b i a hI hi ha => ?_) (fun b _ => ?_) (by omega) ⟨Nat.le_refl _, fun q hq => by cases hq⟩
  · obtain ⟨hb, hq⟩ := hI
    have hm' : a ∈ Q := by
      rw [← ha nop, List.getD_eq_getElem?_getD, List.getElem?_eq_getElem hi]
      exact List.getElem_mem hi
    have hs := subs_small hm (hQ a hm').1 (hQ a hm').2
    unfold stp6
    by_cases hc : (decide (most = 0) && neg a) = true
    · rw [if_pos hc]
      refine .inr ⟨_, rfl, ?_⟩
      unfold neg at hc
      simp only [B6_0, nat_lt, nat_nn, hi, decide_true, Bool.and_true, cond_true, Int.toNat_natCast, ha, Option.bind_some, hc]
    · rw [if_neg hc]
      rw [Bool.not_eq_true] at hc
      have e1 := L6b_eq most Q (i : Int) b (a.1, a.2.1, ())
      have hn : (subs most (a.1, a.2.1, ())) = subs most a := rfl
      rw [hn] at e1
      obtain ⟨e2, s2, l2, r2⟩ := L6c_eq most Q (i : Int) b (nrm (subs most a)) (by omega) hq (nrm_small hs)
      have e3 := L6d_eq most Q (i : Int) (b.foldl astep (nrm (subs most a), [])).2 (b.foldl astep (nrm (subs most a), [])).1 (by omega)
      obtain ⟨f1, f2⟩ := fold_ins (b.foldl astep (nrm (subs most a), [])).1 (b.foldl astep (nrm (subs most a), [])).2 (false, [])
      have hla : lays b (nrm (subs most a)) = insR (b.foldl astep (nrm (subs most a), [])).1 (b.foldl astep (nrm (subs most a), [])).2 := rfl
      have hsw : ∀ {σ : Type} (F : Int × Int × Unit → σ), (if (subs most a).2.1 < (subs most a).1 then F ((subs most a).2.1, (subs most a).1, ()) else F ((subs most a).1, (subs most a).2.1, ())) = F ((nrm (subs most a)).1, (nrm (subs most a)).2.1, ()) := fun F => by
        simp only [nrm]
        by_cases h1 : (subs most a).2.1 < (subs most a).1
        · have h2 : ¬ (subs most a).1 < (subs most a).2.1 := by omega
          simp only [h1, h2, ↓reduceIte]
        · by_cases h2 : (subs most a).1 < (subs most a).2.1
          · simp only [h1, h2, ↓reduceIte]
          · have h3 : (subs most a).1 = (subs most a).2.1 := by omega
            simp only [h1, h2, ↓reduceIte]
            rw [h3]
      generalize hst : (b.foldl astep (nrm (subs most a), [])) = st at *
      generalize hfd : (st.2.foldl (stepI st.1) (false, [])) = fd at *
      simp only [List.nil_append, Bool.false_or, Bool.false_eq_true, ↓reduceIte] at f1 f2
      rw [← hla] at f2
      have hlen := insR_len st.1 st.2
      rw [← hla] at hlen
      refine .inl ⟨lays b (nrm (subs most a)), rfl, ⟨by omega, fun q hq' => ?_⟩, ?_⟩
      · rw [hla] at hq'
        rcases insR_mem _ _ _ hq' with rfl | hq'
        · exact s2
        · exact r2 q hq'
      · have hc' := hc
        unfold neg at hc'
        simp only [B6_0, nat_lt, nat_nn, hi, decide_true, Bool.and_true, cond_true, cond_false, Int.toNat_natCast, ha, Option.bind_some, hc', e1, Bool.cond_decide]
        rw [show ((if (subs most a).2.1 < (subs most a).1 then some ((most, Q, (), (i : Int), (), ()), (b, ((subs most a).2.1, (subs most a).1, ()), ())) else some ((most, Q, (), (i : Int), (), ()), (b, ((subs most a).1, (subs most a).2.1, ()), ()))) : Option ((Int × List Pr × Unit × Int × Unit × Unit) × (List Pr × (Int × Int × Unit) × Unit))) = some ((most, Q, (), (i : Int), (), ()), (b, ((nrm (subs most a)).1, (nrm (subs most a)).2.1, ()), ())) from hsw (fun x => some ((most, Q, (), (i : Int), (), ()), (b, x, ())))]
        simp only [Option.bind_some]
        rw [e2]
        simp only [Option.bind_some]
        rw [e3]
        simp only [Option.bind_some]
        cases hb1 : fd.1
        · rw [hb1] at f2
          simp only [Bool.false_eq_true, ↓reduceIte] at f2
          have hby : bytesOK (fd.2.length + 1) 16 = true := bytes_ok (by
            have := congrArg List.length f2
            simp only [List.length_append, List.length_cons, List.length_nil] at this
            omega)
          simp only [Bool.not_false, cond_true, List.length_cons, List.length_nil, Nat.zero_add, hby, Option.bind_some, w64_nat (show i < 9223372036854775807 by omega)]
          rw [← f2]
        · rw [hb1] at f2
          simp only [↓reduceIte] at f2
          simp only [Bool.not_true, cond_false, Option.bind_some, w64_nat (show i < 9223372036854775807 by omega)]
          rw [← f2]
  · simp only [B6_0, Int.lt_irrefl, decide_false, cond_false]

theorem fold6 (most : Int) : ∀ (Q : List Pr) (b : List Pr), foldS (stp6 most) (fun b => (.inl (((), ()), (b, ())) : R6)) b Q =
    if (decide (most = 0) && Q.any neg) = true then .inr (((), (), (), ()), ([], ())) else .inl (((), ()), ((Q.map fun p => nrm (subs most p)).foldl lays b, ()))
  | [], b => by simp [foldS]
  | a :: t, b => by
    simp only [foldS, stp6]
    by_cases h : (decide (most = 0) && neg a) = true
    · have h2 : (decide (most = 0) && (a :: t).any neg) = true := by
        rw [Bool.and_eq_true] at h ⊢
        exact ⟨h.1, by rw [List.any_cons, h.2, Bool.true_or]⟩
      simp only [h, h2, ↓reduceIte]
    · have h2 : (decide (most = 0) && (a :: t).any neg) = (decide (most = 0) && t.any neg) := by
        rw [Bool.not_eq_true] at h
        rw [List.any_cons, Bool.and_or_distrib_left, h, Bool.false_or]
      simp only [h, Bool.false_eq_true, ↓reduceIte]
      rw [fold6 most t, h2]
      rfl

/-! letters -/
abbrev Ls : Type := List (List UInt8)

def wid (s : List UInt8) : Nat := (Go.Lib.decodeGo ⟨s.toArray⟩).2

def lets : Nat → List UInt8 → Ls
  | 0, _ => []
  | n + 1, s => if s = [] then [] else s.take (wid s) :: lets n (s.drop (wid s))

/-- the runes of a text -/
def runes : Nat → List UInt8 → List Int
  | 0, _ => []
  | n + 1, s => if s = [] then [] else ((Go.Lib.decodeL s).1 : Int) :: runes n (s.drop (wid s))

theorem wid_eq {s : List UInt8} (h : s ≠ []) : wid s = (Lib.decodeL s).2 := by
  unfold wid Lib.decodeGo
  have : ¬ (⟨s.toArray⟩ : ByteArray).size = 0 := by
    show ¬ s.toArray.size = 0
    simpa using h
  rw [if_neg this]
  rfl

theorem decodeN_4 (n b0 b1 b2 b3 : Nat) : (Lib.decodeN n b0 b1 b2 b3).2 ≤ 4 := by
  unfold Lib.decodeN
  repeat' split
  all_goals simp

theorem decodeN_big (n b0 b1 b2 b3 : Nat) (h : 128 ≤ b0) : 128 ≤ (Lib.decodeN n b0 b1 b2 b3).1 := by
  unfold Lib.decodeN
  repeat' split
  all_goals simp only
  all_goals omega

theorem wid_pos {s : List UInt8} (h : s ≠ []) : 1 ≤ wid s ∧ wid s ≤ s.length ∧ wid s ≤ 4 := by
  rw [wid_eq h]
  exact ⟨Lib.decodeL_width s, Lib.decodeL_le s h, by rw [Lib.decodeL_N]; exact decodeN_4 _ _ _ _ _⟩

theorem dec_at {s : List UInt8} {i : Nat} (h : i < s.length) : Utf8.decode ⟨s.toArray⟩ i = Lib.decodeL (s.drop i) := by
  rw [← Lib.decodeL_drop]

theorem wid_at {s : List UInt8} {i : Nat} (h : i < s.length) : (Utf8.decode ⟨s.toArray⟩ i).2 = wid (s.drop i) := by
  have hne : s.drop i ≠ [] := by
    intro he
    have := congrArg List.length he
    rw [List.length_drop, List.length_nil] at this
    omega
  rw [wid_eq hne, ← Lib.decodeL_drop]

/-- a letter and its rune -/
def Is (c : List UInt8) (v : Int) : Prop := (∃ b : UInt8, c = [b] ∧ b.toNat < 128 ∧ v = (b.toNat : Int)) ∨ ((∀ b : UInt8, c = [b] → 128 ≤ b.toNat) ∧ 128 ≤ v)

inductive All2 : Ls → List Int → Prop
  | nil : All2 [] []
  | cons {c v t u} : Is c v → All2 t u → All2 (c :: t) (v :: u)

theorem lets_runes : ∀ (n : Nat) (s : List UInt8), All2 (lets n s) (runes n s)
  | 0, _ => .nil
  | n + 1, s => by
    unfold lets runes
    by_cases h : s = []
    · rw [if_pos h, if_pos h]; exact .nil
    · rw [if_neg h, if_neg h]
      refine .cons ?_ (lets_runes n _)
      cases s with
      | nil => exact absurd rfl h
      | cons b t =>
        rcases Nat.lt_or_ge b.toNat 128 with hb | hb
        · have e := Lib.decodeL_ascii b t hb
          refine .inl ⟨b, ?_, hb, ?_⟩
          · rw [wid_eq h, e]; rfl
          · rw [e]
        · refine .inr ⟨fun x hx => ?_, ?_⟩
          · obtain ⟨m, hm⟩ : ∃ m, wid (b :: t) = m + 1 := ⟨wid (b :: t) - 1, by have := (wid_pos h).1; omega⟩
            rw [hm, List.take_succ_cons] at hx
            injection hx with hx _
            rw [← hx]; exact hb
          · have := decodeN_big (b :: t).length ((b :: t).getD 0 0).toNat ((b :: t).getD 1 0).toNat ((b :: t).getD 2 0).toNat ((b :: t).getD 3 0).toNat hb
            rw [← Lib.decodeL_N] at this
            omega

theorem lets_len : ∀ (n : Nat) (s : List UInt8), (lets n s).length ≤ n
  | 0, s => by simp [lets]
  | n + 1, s => by
    unfold lets
    split
    · simp
    · simp only [List.length_cons]
      have := lets_len n (s.drop (wid s)); omega

theorem lets_nil (n : Nat) : lets n [] = [] := by cases n <;> simp [lets]

theorem bytes16 {n : Nat} (h : n ≤ 2000000) : bytesOK n 16 = true := by
  unfold bytesOK
  simp
  omega

/-- The reference's letters. -/
theorem F14_eq {s : List UInt8} (hs : s.length ≤ 1100000) : F14 ((s, ()), ()) = some ((), (lets s.length s, ())) := by
  obtain ⟨r, h1, h2⟩ := loop_ind (f := B14_0) (fun p => ∃ (t : List UInt8) (out : Ls) (n : Nat), p = ((t, (), ()), (out, ())) ∧ t.length ≤ n ∧ out.length + n ≤ s.length ∧ out ++ lets n t = lets s.length s) (fun p => p.1.1.length)
    (fun r => r = (((), ()), (lets s.length s, ())))
    (fun p ⟨t, out, n, hp, ht, ho, hl⟩ => by
      subst hp
      by_cases h0 : t = []
      · right
        subst h0
        rw [lets_nil, List.append_nil] at hl
        exact ⟨_, by rw [← hl]; rfl, rfl⟩
      · left
        obtain ⟨w1, w2, w3⟩ := wid_pos h0
        have hwd : (Go.Lib.decodeGo ⟨List.toArray t⟩).2 = wid t := rfl
        have hpos : 0 < t.length := List.length_pos_iff.2 h0
        obtain ⟨n, rfl⟩ : ∃ m, n = m + 1 := ⟨n - 1, by omega⟩
        have c1 : decide ((0 : Int) < ((t.length : Nat) : Int)) = true := decide_eq_true (by omega)
        have c2 : decide ((0 : Int) ≤ ((wid t : Nat) : Int)) = true := decide_eq_true (by omega)
        have c3 : decide (((wid t : Nat) : Int) ≤ ((t.length : Nat) : Int)) = true := decide_eq_true (by omega)
        have c4 : bytesOK (out.length + [List.take (wid t) t].length) 16 = true := bytes16 (by simp; omega)
        refine ⟨((t.drop (wid t), (), ()), (out ++ [t.take (wid t)], ())), ?_, ⟨t.drop (wid t), out ++ [t.take (wid t)], n, rfl, by rw [List.length_drop]; omega, by simp; omega, ?_⟩, ?_⟩
        · simp only [B14_0, hwd, c1, cond_true, c2, c3, Int.toNat_natCast, c4, Bool.and_self, Option.bind_some, Int.le_refl, decide_true]
          rw [List.take_of_length_le (by simp)]
        · rw [← hl]
          simp only [lets]
          rw [if_neg h0]
          simp
        · simp only [List.length_drop]; omega)
    (p := ((s, (), ()), ([], ()))) ⟨s, [], s.length, rfl, Nat.le_refl _, by simp, rfl⟩ (by unfold FUEL; simp only; omega)
  subst h2
  have h1' : L14_0 ((s, (), ()), ([], ())) = some (((), ()), (lets s.length s, ())) := h1
  simp only [F14, h1', Option.bind_some]

end Go.Bd

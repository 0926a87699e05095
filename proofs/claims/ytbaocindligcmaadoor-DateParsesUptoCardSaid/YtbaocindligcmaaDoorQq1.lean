/- A text's letters. -/
import Derived.Test.YtbaocindligcmaaDoorNq5
import Derived.Test.YtbaocindligcmaaDoorNq3
import Derived.Lib.TrimUEq
import Derived.Lib.MapLaws
import Derived.Lib.TrimAscii
namespace Go.Dt
open Go Go.Ev
set_option maxRecDepth 100000

/-- how many bytes the first letter has -/
def wid (s : List UInt8) : Nat := (Go.Lib.decodeGo ⟨s.toArray⟩).2

def lets : Nat → List UInt8 → Ls
  | 0, _ => []
  | n + 1, s => if s = [] then [] else s.take (wid s) :: lets n (s.drop (wid s))

theorem wid_eq {s : List UInt8} (h : s ≠ []) : wid s = (Lib.decodeL s).2 := by
  unfold wid Lib.decodeGo
  have : ¬ (⟨s.toArray⟩ : ByteArray).size = 0 := by
    show ¬ s.toArray.size = 0
    simpa using h
  rw [if_neg this]
  rfl

theorem decodeN_4 (n b0 b1 b2 b3 : Nat) : (Lib.decodeN n b0 b1 b2 b3).2 ≤ 4 := by
  unfold Lib.decodeN
  repeat' split
  all_goals simp

theorem wid_pos {s : List UInt8} (h : s ≠ []) : 1 ≤ wid s ∧ wid s ≤ s.length ∧ wid s ≤ 4 := by
  rw [wid_eq h]
  exact ⟨Lib.decodeL_width s, Lib.decodeL_le s h, by rw [Lib.decodeL_N]; exact decodeN_4 _ _ _ _ _⟩

theorem wid_big {s : List UInt8} (h : s ≠ []) (h2 : 2 ≤ wid s) : 128 ≤ (s.getD 0 0).toNat := by
  cases s with
  | nil => exact absurd rfl h
  | cons b t =>
    rcases Nat.lt_or_ge b.toNat 128 with hb | hb
    · rw [wid_eq h, Lib.decodeL_ascii b t hb] at h2
      exact absurd h2 (by simp)
    · exact hb

theorem wid_at {s : List UInt8} {i : Nat} (h : i < s.length) : (Utf8.decode ⟨s.toArray⟩ i).2 = wid (s.drop i) := by
  have hne : s.drop i ≠ [] := by
    intro he
    have := congrArg List.length he
    rw [List.length_drop, List.length_nil] at this
    omega
  rw [wid_eq hne, ← Lib.decodeL_drop]

/-- What letters are like. -/
structure Good (l : Ls) : Prop where
  ne : ∀ c ∈ l, c ≠ []
  le : ∀ c ∈ l, c.length ≤ 4
  big : ∀ c ∈ l, 2 ≤ c.length → 128 ≤ (c.getD 0 0).toNat

theorem lets_good : ∀ (n : Nat) (s : List UInt8), Good (lets n s)
  | 0, s => ⟨fun c h => (by cases h), fun c h => (by cases h), fun c h => (by cases h)⟩
  | n + 1, s => by
    unfold lets
    by_cases h : s = []
    · rw [if_pos h]; exact ⟨fun c h => (by cases h), fun c h => (by cases h), fun c h => (by cases h)⟩
    · rw [if_neg h]
      have ih := lets_good n (s.drop (wid s))
      obtain ⟨h1, h2, h3⟩ := wid_pos h
      have hl : (s.take (wid s)).length = wid s := by rw [List.length_take]; omega
      refine ⟨fun c hc => ?_, fun c hc => ?_, fun c hc hb => ?_⟩
      · rcases List.mem_cons.1 hc with rfl | hc
        · intro he; rw [he] at hl; simp at hl; omega
        · exact ih.ne c hc
      · rcases List.mem_cons.1 hc with rfl | hc
        · rw [hl]; exact h3
        · exact ih.le c hc
      · rcases List.mem_cons.1 hc with rfl | hc
        · rw [hl] at hb
          have := wid_big h hb
          cases s with
          | nil => exact absurd rfl h
          | cons b t =>
            have : (List.take (wid (b :: t)) (b :: t)).getD 0 0 = b := by
              obtain ⟨m, hm⟩ : ∃ m, wid (b :: t) = m + 1 := ⟨wid (b :: t) - 1, by omega⟩
              rw [hm]; rfl
            rw [this]; assumption
        · exact ih.big c hc hb

theorem lets_len : ∀ (n : Nat) (s : List UInt8), (lets n s).length ≤ n
  | 0, s => by simp [lets]
  | n + 1, s => by
    unfold lets
    split
    · simp
    · simp only [List.length_cons]
      have := lets_len n (s.drop (wid s)); omega

theorem lets_nil (n : Nat) : lets n [] = [] := by cases n <;> simp [lets]

theorem bytes16 {n : Nat} (h : n ≤ 2000000) : bytesOK n 16 = true := by
  unfold bytesOK
  simp
  omega

/-- The reference's letters. -/
theorem F23_eq {s : List UInt8} (hs : s.length ≤ 1100000) : F23 ((s, ()), ()) = some ((), (lets s.length s, ())) := by
  obtain ⟨r, h1, h2⟩ := loop_ind (f := B23_0) (fun p => ∃ (t : List UInt8) (out : Ls) (n : Nat), p = ((t, (), ()), (out, ())) ∧ t.length ≤ n ∧ out.length + n ≤ s.length ∧ out ++ lets n t = lets s.length s) (fun p => p.1.1.length)
    (fun r => r = (((), ()), (lets s.length s, ())))
    (fun p ⟨t, out, n, hp, ht, ho, hl⟩ => by
      subst hp
      by_cases h0 : t = []
      · right
        subst h0
        rw [lets_nil, List.append_nil] at hl
        exact ⟨_, by rw [← hl]; rfl, rfl⟩
      · left
        obtain ⟨w1, w2, w3⟩ := wid_pos h0
        have hwd : (Go.Lib.decodeGo ⟨List.toArray t⟩).2 = wid t := rfl
        have hpos : 0 < t.length := List.length_pos_iff.2 h0
        obtain ⟨n, rfl⟩ : ∃ m, n = m + 1 := ⟨n - 1, by omega⟩
        have c1 : decide ((0 : Int) < ((t.length : Nat) : Int)) = true := decide_eq_true (by omega)
        have c2 : decide ((0 : Int) ≤ ((wid t : Nat) : Int)) = true := decide_eq_true (by omega)
        have c3 : decide (((wid t : Nat) : Int) ≤ ((t.length : Nat) : Int)) = true := decide_eq_true (by omega)
        have c4 : bytesOK (out.length + [List.take (wid t) t].length) 16 = true := bytes16 (by simp; omega)
        refine ⟨((t.drop (wid t), (), ()), (out ++ [t.take (wid t)], ())), ?_, ⟨t.drop (wid t), out ++ [t.take (wid t)], n, rfl, by rw [List.length_drop]; omega, by simp; omega, ?_⟩, ?_⟩
        · simp only [B23_0, hwd, c1, cond_true, c2, c3, Int.toNat_natCast, c4, Bool.and_self, Option.bind_some, Int.le_refl, decide_true]
          rw [List.take_of_length_le (by simp)]
        · rw [← hl]
          simp only [lets]
          rw [if_neg h0]
          simp
        · simp only [List.length_drop]; omega)
    (p := ((s, (), ()), ([], ()))) ⟨s, [], s.length, rfl, Nat.le_refl _, by simp, rfl⟩ (by unfold FUEL; simp only; omega)
  subst h2
  have h1' : L23_0 ((s, (), ()), ([], ())) = some (((), ()), (lets s.length s, ())) := h1
  simp only [F23, h1', Option.bind_some]

/-- The reader's letters. -/
theorem F39_eq {s : List UInt8} (hs : s.length ≤ 1100000) : F39 ((s, ()), ()) = some ((), (lets s.length s, ())) := by
  by_cases hse : s = []
  · subst hse
    rfl
  obtain ⟨r, h1, fr, out, n, h2, h3, h4, h5⟩ := loop_ind (f := B39_0) (fun p => ∃ (fr i : Nat) (out : Ls) (n : Nat), p = ((s, (), (fr : Int), (), ()), (out, (s, i), ())) ∧ i ≤ s.length ∧ ((i = 0 ∧ fr = 0 ∧ out = [] ∧ n = s.length) ∨ (fr < i ∧ i = fr + wid (s.drop fr) ∧ fr < s.length)) ∧ out.length + n ≤ s.length ∧ s.length - fr ≤ n ∧ out ++ lets n (s.drop fr) = lets s.length s)
    (fun p => s.length - p.2.2.1.2)
    (fun r => ∃ (fr : Nat) (out : Ls) (n : Nat), r = ((s, (), (fr : Int), ()), (out, ())) ∧ fr < s.length ∧ (out.length + 1 ≤ s.length) ∧ out ++ [s.drop fr] = lets s.length s)
    (fun p ⟨fr, i, out, n, hp, hi, hc, ho, hn, hl⟩ => by
      subst hp
      by_cases hlt : i < s.length
      · left
        have c1 : decide (i < s.length) = true := decide_eq_true hlt
        have hw := wid_at hlt
        have hne : s.drop i ≠ [] := by
          intro he
          have := congrArg List.length he
          rw [List.length_drop, List.length_nil] at this
          omega
        obtain ⟨w1, w2, w3⟩ := wid_pos hne
        rw [List.length_drop] at w2
        rcases hc with ⟨rfl, rfl, rfl, rfl⟩ | ⟨hfi, hie, hfl⟩
        · have c2 : decide ((0 : Int) < ((0 : Nat) : Int)) = false := by simp
          refine ⟨((s, (), ((0 : Nat) : Int), (), ()), ([], (s, 0 + wid (s.drop 0)), ())), ?_, ⟨0, 0 + wid (s.drop 0), [], s.length, rfl, by omega, .inr ⟨by omega, rfl, hlt⟩, ho, hn, hl⟩, by simp only; omega⟩
          simp only [B39_0, c1, cond_true, c2, cond_false, hw]
        · have c2 : decide ((0 : Int) < ((i : Nat) : Int)) = true := decide_eq_true (by omega)
          have c3 : decide ((0 : Int) ≤ (fr : Int)) = true := decide_eq_true (by omega)
          have c4 : decide ((fr : Int) ≤ ((i : Nat) : Int)) = true := decide_eq_true (by omega)
          have c5 : decide (((i : Nat) : Int) ≤ ((s.length : Nat) : Int)) = true := decide_eq_true (by omega)
          obtain ⟨n, rfl⟩ : ∃ m, n = m + 1 := ⟨n - 1, by omega⟩
          have c6 : bytesOK (out.length + [List.take (i - fr) (List.drop fr s)].length) 16 = true := bytes16 (by simp; omega)
          refine ⟨((s, (), (i : Int), (), ()), (out ++ [List.take (i - fr) (List.drop fr s)], (s, i + wid (s.drop i)), ())), ?_, ⟨i, i + wid (s.drop i), _, n, rfl, by omega, .inr ⟨by omega, rfl, hlt⟩, by simp; omega, by omega, ?_⟩, by simp only; omega⟩
          · simp only [B39_0, c1, cond_true, c2, c3, c4, c5, Int.toNat_natCast, c6, Bool.and_self, Option.bind_some, hw]
          · rw [← hl]
            have hfne : s.drop fr ≠ [] := by
              intro he
              have := congrArg List.length he
              rw [List.length_drop, List.length_nil] at this
              omega
            simp only [lets]
            rw [if_neg hfne, List.drop_drop, ← hie, show i - fr = wid (s.drop fr) by omega]
            simp
      · right
        have c1 : decide (i < s.length) = false := decide_eq_false hlt
        have hie : i = s.length := by omega
        have hpos : 0 < s.length := List.length_pos_iff.2 hse
        rcases hc with ⟨h0, _⟩ | ⟨hfi, hiw, hfl⟩
        · omega
        · obtain ⟨n, rfl⟩ : ∃ m, n = m + 1 := ⟨n - 1, by omega⟩
          refine ⟨_, by simp only [B39_0, c1, cond_false] <;> rfl, fr, out, n, rfl, hfl, by omega, ?_⟩
          rw [← hl]
          have hfne : s.drop fr ≠ [] := by
            intro he
            have := congrArg List.length he
            rw [List.length_drop, List.length_nil] at this
            omega
          simp only [lets]
          rw [if_neg hfne, List.drop_drop, ← hiw, hie, List.drop_length, lets_nil, List.take_of_length_le (by rw [List.length_drop]; omega)])
    (p := ((s, (), 0, (), ()), ([], (s, 0), ()))) ⟨0, 0, [], s.length, rfl, Nat.zero_le _, .inl ⟨rfl, rfl, rfl, rfl⟩, by simp, by omega, by simp⟩ (by unfold FUEL; simp only; omega)
  subst h2
  have h1' : L39_0 ((s, (), 0, (), ()), ([], (s, 0), ())) = some ((s, (), (fr : Int), ()), (out, ())) := h1
  have c0 := decide_eq_false hse
  have c3 : decide ((0 : Int) ≤ (fr : Int)) = true := decide_eq_true (by omega)
  have c4 : decide ((fr : Int) ≤ ((s.length : Nat) : Int)) = true := decide_eq_true (by omega)
  have e1 : List.take (s.length - fr) (List.drop fr s) = s.drop fr := List.take_of_length_le (by rw [List.length_drop]; omega)
  have c6 : bytesOK (out.length + [s.drop fr].length) 16 = true := bytes16 (by simp; omega)
  simp only [F39, h1', Option.bind_some, c0, Bool.not_false, cond_true, c3, c4, Int.le_refl, decide_true, Bool.and_self, Int.toNat_natCast, e1, c6, h5]

end Go.Dt

namespace Go.Dt
open Go Go.Ev
set_option maxRecDepth 100000

theorem F50_eq {s : List UInt8} (hs : s.length ≤ 500) : F50 ((s, ()), ()) = some (low s, ()) := by
  obtain ⟨r, h1, h2⟩ := loop_ind (f := B50_0) (fun p => ∃ (i : Nat), p = ((s, low (s.take i), (i : Int), ()), ()) ∧ i ≤ s.length) (fun p => ((s.length : Int) - p.1.2.2.1).toNat) (fun r => r = ((low s, ()), ()))
    (fun p ⟨i, hp, hi⟩ => by
      subst hp
      by_cases hlt : i < s.length
      · left
        have c1 : decide ((i : Int) < ((s.length : Nat) : Int)) = true := by simp; omega
        have c2 : decide ((0 : Int) ≤ (i : Int)) = true := by simp
        have wi : w64 ((i : Int) + 1) = ((i + 1 : Nat) : Int) := by rw [w64_id (by omega) (by omega)]; rfl
        have hl : (low (s.take i)).length = i := by simp [low]; omega
        refine ⟨((s, low (s.take (i + 1)), ((i + 1 : Nat) : Int), ()), ()), ?_, ⟨i + 1, rfl, by omega⟩, by simp only; omega⟩
        have hls : low (s.take (i + 1)) = low (s.take i) ++ [low1 (s.getD i 0)] := by
          rw [take_snoc hlt 0]; simp [low]
        have g1 : ∀ x : UInt8, fits ((low (s.take i)).length + [x].length) = true := fun x => fits_true (by rw [hl]; simp; omega)
        rw [hls]
        unfold low1
        by_cases hc : 65 ≤ (s.getD i 0).toNat ∧ (s.getD i 0).toNat ≤ 90
        · have c3 : (decide (UInt8.toNat (65 : UInt8) ≤ (s.getD i 0).toNat) && decide ((s.getD i 0).toNat ≤ UInt8.toNat (90 : UInt8))) = true := by
            simpa using hc
          simp only [B50_0, c1, c2, Bool.and_self, cond_true, Option.bind_some, Int.toNat_natCast, c3, g1, wi, if_pos hc]
        · have c3 : (decide (UInt8.toNat (65 : UInt8) ≤ (s.getD i 0).toNat) && decide ((s.getD i 0).toNat ≤ UInt8.toNat (90 : UInt8))) = false := by
            rw [← Bool.decide_and, decide_eq_false_iff_not]; exact hc
          simp only [B50_0, c1, c2, Bool.and_self, cond_true, cond_false, Option.bind_some, Int.toNat_natCast, c3, g1, wi, if_neg hc]
      · right
        have c1 : decide ((i : Int) < ((s.length : Nat) : Int)) = false := by simp; omega
        exact ⟨_, by simp only [B50_0, c1, cond_false] <;> rfl, by rw [List.take_of_length_le (by omega)]⟩)
    (p := ((s, [], 0, ()), ())) ⟨0, rfl, Nat.zero_le _⟩ (by unfold FUEL; simp only; omega)
  subst h2
  have h1' : L50_0 ((s, [], 0, ()), ()) = some ((low s, ()), ()) := h1
  simp only [F50, h1', Option.bind_some]

def weeks : Ls := [[77, 111, 110], [84, 117, 101], [87, 101, 100], [84, 104, 117], [70, 114, 105], [83, 97, 116], [83, 117, 110]]
def months : Ls := [[74, 97, 110], [70, 101, 98], [77, 97, 114], [65, 112, 114], [77, 97, 121], [74, 117, 110], [74, 117, 108], [65, 117, 103], [83, 101, 112], [79, 99, 116], [78, 111, 118], [68, 101, 99]]

theorem weeks_nms : Nms weeks := ⟨by decide, by decide⟩
theorem months_nms : Nms months := ⟨by decide, by decide⟩

/-- A letter of the alphabet. -/
def alpha (c : List UInt8) : Bool :=
  decide (c.length = 1) && ((decide (65 ≤ (c.getD 0 0).toNat) && decide ((c.getD 0 0).toNat ≤ 90)) || (decide (97 ≤ (c.getD 0 0).toNat) && decide ((c.getD 0 0).toNat ≤ 122)))

/-- Where a name's letters begin. -/
def bk (l : Ls) : Nat → Nat → Nat
  | 0, f => f
  | n + 1, f => if 0 < f ∧ alpha (l.getD (f - 1) []) = true then bk l n (f - 1) else f

theorem bk_le (l : Ls) : ∀ (n f : Nat), bk l n f ≤ f ∧ f ≤ bk l n f + n
  | 0, f => ⟨Nat.le_refl _, Nat.le_refl _⟩
  | n + 1, f => by
    unfold bk
    split
    · have := bk_le l n (f - 1); omega
    · omega

theorem L68_0_eq {l : Ls} (hg : Good l) (hl : l.length ≤ 2000000) (names : Ls) {i : Nat} (hi : i < l.length) : L68_0 ((l, (i : Int), (), (i : Int), ()), (names, ())) = some ((l, (i : Int), (), ((bk l 2 i : Nat) : Int), ()), (names, ())) := by
  generalize hT : bk l 2 i = T
  obtain ⟨r, h1, h2⟩ := loop_ind (f := B68_0) (fun p => ∃ (f n : Nat), p = ((l, (i : Int), (), (f : Int), ()), (names, ())) ∧ f ≤ i ∧ i = f + (2 - n) ∧ n ≤ 2 ∧ bk l n f = T) (fun p => p.1.2.2.2.1.toNat) (fun r => r = ((l, (i : Int), (), (T : Int), ()), (names, ())))
    (fun p ⟨f, n, hp, hf, hn, hn2, hb⟩ => by
      subst hp
      cases f with
      | zero =>
        right
        have c0 : decide ((0 : Int) < ((0 : Nat) : Int)) = false := by simp
        have hx : bk l n 0 = 0 := by cases n <;> simp [bk]
        refine ⟨_, ?_, by rw [← hb, hx]⟩
        simp only [B68_0, c0, Bool.false_and, Bool.and_false, Bool.not_false, Bool.or_true, cond_true, cond_false]
      | succ k =>
        have wk : w64 (((k + 1 : Nat) : Int) - 1) = (k : Int) := (w64_id (by omega) (by omega)).trans (by omega)
        have wd : w64 ((i : Int) - ((k + 1 : Nat) : Int)) = (((2 - n) : Nat) : Int) := (w64_id (by omega) (by omega)).trans (by omega)
        have c0 : decide ((0 : Int) < ((k + 1 : Nat) : Int)) = true := decide_eq_true (by omega)
        have c1 : decide ((0 : Int) ≤ (k : Int)) = true := decide_eq_true (by omega)
        have c2 : decide ((k : Int) < ((l.length : Nat) : Int)) = true := decide_eq_true (by omega)
        have hne : l.getD k [] ≠ [] := by
          rw [getD_ltL (by omega)]; exact hg.ne _ (List.getElem_mem _)
        have hlp : 0 < (l.getD k []).length := List.length_pos_iff.2 hne
        have c3 : decide ((0 : Int) < (((l.getD k []).length : Nat) : Int)) = true := decide_eq_true (by omega)
        have c4 : decide ((((l.getD k []).length : Nat) : Int) = 1) = decide ((l.getD k []).length = 1) := by
          rw [decide_eq_decide]; omega
        have hal : (decide ((l.getD k []).length = 1) && ((decide (UInt8.toNat (65 : UInt8) ≤ ((l.getD k []).getD 0 0).toNat) && decide (((l.getD k []).getD 0 0).toNat ≤ UInt8.toNat (90 : UInt8))) || (decide (UInt8.toNat (97 : UInt8) ≤ ((l.getD k []).getD 0 0).toNat) && decide (((l.getD k []).getD 0 0).toNat ≤ UInt8.toNat (122 : UInt8))))) = alpha (l.getD k []) := rfl
        cases n with
        | zero =>
          right
          have c5 : decide ((((2 - 0) : Nat) : Int) < 2) = false := by decide
          refine ⟨_, ?_, by rw [← hb]⟩
          simp only [B68_0, wk, wd, Int.toNat_natCast, c0, c1, c2, c3, c5, Bool.and_false, Bool.false_and, Bool.and_self, Bool.true_or, cond_true, cond_false]
          rfl
        | succ n =>
          have c5 : decide ((((2 - (n + 1)) : Nat) : Int) < 2) = true := decide_eq_true (by omega)
          simp only [bk, Nat.add_sub_cancel] at hb
          cases ha : alpha (l.getD k []) with
          | true =>
            left
            rw [ha] at hal
            rw [if_pos ⟨by omega, ha⟩] at hb
            refine ⟨((l, (i : Int), (), (k : Int), ()), (names, ())), ?_, ⟨k, n, rfl, by omega, by omega, by omega, hb⟩, by simp only; omega⟩
            simp only [B68_0, wk, wd, Int.toNat_natCast, c0, c1, c2, c3, c4, c5, hal, Bool.and_self, Bool.true_and, Bool.true_or, cond_true]
          | false =>
            right
            rw [ha] at hal
            rw [if_neg (by rw [ha]; simp)] at hb
            refine ⟨_, ?_, by rw [← hb]⟩
            simp only [B68_0, wk, wd, Int.toNat_natCast, c0, c1, c2, c3, c4, c5, hal, Bool.and_self, Bool.true_and, Bool.true_or, cond_true, cond_false])
    (p := ((l, (i : Int), (), (i : Int), ()), (names, ()))) ⟨i, 2, rfl, Nat.le_refl _, by omega, Nat.le_refl _, hT⟩ (by unfold FUEL; simp only; omega)
  subst h2
  exact h1

/-- Some letters, small, as one text. -/
def cat (l : Ls) (f n : Nat) : List UInt8 := low ((l.drop f).take n).flatten

theorem cat_len {l : Ls} (hg : Good l) (f : Nat) : ∀ n, (cat l f n).length ≤ 4 * n := fun n => by
  unfold cat low
  rw [List.length_map]
  have key : ∀ (m : Ls) (n : Nat), (∀ c ∈ m, c.length ≤ 4) → (m.take n).flatten.length ≤ 4 * n := by
    intro m
    induction m with
    | nil => intro n _; simp
    | cons c m ih =>
      intro n h
      cases n with
      | zero => simp
      | succ n =>
        have h1 := h c (by simp)
        have h2 := ih n fun c hc => h c (List.mem_cons_of_mem _ hc)
        simp only [List.take_succ_cons, List.flatten_cons, List.length_append]
        omega
  exact key _ n fun c hc => hg.le c (List.mem_of_mem_drop hc)

theorem cat_snoc {l : Ls} {f n : Nat} (h : f + n < l.length) : cat l f (n + 1) = cat l f n ++ low (l.getD (f + n) []) := by
  unfold cat
  rw [take_snoc (l := l.drop f) (by rw [List.length_drop]; omega) []]
  have : (l.drop f).getD n [] = l.getD (f + n) [] := by
    rw [List.getD_eq_getElem?_getD, List.getElem?_drop, ← List.getD_eq_getElem?_getD]
  rw [this, List.flatten_append, low, List.map_append]
  simp [low]

theorem L68_1_eq {l : Ls} (hg : Good l) (hl : l.length ≤ 2000000) (names : Ls) {i f : Nat} (hi : i < l.length) (hf : f ≤ i) (hf2 : i ≤ f + 2) :
    L68_1 ((l, (i : Int), (), [], (f : Int), ()), (names, ())) = some (((), cat l f (i + 1 - f), ()), (names, ())) := by
  obtain ⟨r, h1, h2⟩ := loop_ind (f := B68_1) (fun p => ∃ (n : Nat), p = ((l, (i : Int), (), cat l f n, ((f + n : Nat) : Int), ()), (names, ())) ∧ n ≤ i + 1 - f) (fun p => ((i : Int) + 1 - p.1.2.2.2.2.1).toNat) (fun r => r = (((), cat l f (i + 1 - f), ()), (names, ())))
    (fun p ⟨n, hp, hn⟩ => by
      subst hp
      by_cases hlt : f + n ≤ i
      · left
        have c1 : decide (((f + n : Nat) : Int) ≤ (i : Int)) = true := decide_eq_true (by omega)
        have c2 : decide ((0 : Int) ≤ ((f + n : Nat) : Int)) = true := decide_eq_true (by omega)
        have c3 : decide (((f + n : Nat) : Int) < ((l.length : Nat) : Int)) = true := decide_eq_true (by omega)
        have wn : w64 (((f + n : Nat) : Int) + 1) = ((f + (n + 1) : Nat) : Int) := by rw [w64_id (by omega) (by omega)]; omega
        have hcl : (l.getD (f + n) []).length ≤ 4 := by rw [getD_ltL (by omega)]; exact hg.le _ (List.getElem_mem _)
        have e1 := F50_eq (s := l.getD (f + n) []) (by omega)
        have hgl := cat_len hg f n
        have c4 : fits ((cat l f n).length + (low (l.getD (f + n) [])).length) = true := fits_true (by rw [low, List.length_map]; omega)
        refine ⟨((l, (i : Int), (), cat l f (n + 1), ((f + (n + 1) : Nat) : Int), ()), (names, ())), ?_, ⟨n + 1, rfl, by omega⟩, by simp only; omega⟩
        rw [cat_snoc (by omega)]
        simp only [B68_1, c1, c2, c3, Bool.and_self, cond_true, Int.toNat_natCast, e1, Option.bind_some, c4, wn]
      · right
        have c1 : decide (((f + n : Nat) : Int) ≤ (i : Int)) = false := decide_eq_false (by omega)
        have hne : n = i + 1 - f := by omega
        subst hne
        exact ⟨_, by simp only [B68_1, c1, cond_false] <;> rfl, rfl⟩)
    (p := ((l, (i : Int), (), [], (f : Int), ()), (names, ()))) ⟨0, by rw [Nat.add_zero]; rfl, Nat.zero_le _⟩ (by unfold FUEL; simp only; omega)
  subst h2
  exact h1

/-- Does a name begin so? -/
def begins (names : Ls) (got : List UInt8) : Bool := decide (got.length ≤ 3) && names.any fun x => decide ((low x).take got.length = got)

theorem L68_2_eq {names : Ls} (hN : names.length ≤ 100) (h3 : ∀ x ∈ names, x.length = 3) {got : List UInt8} (hg : got.length ≤ 100) :
    L68_2 (((), got, 0, ()), (names, ())) = some (if begins names got then Sum.inr (((), ()), ()) else Sum.inl ((), ())) := by
  obtain ⟨r, h1, h2⟩ := loop_ind (f := B68_2) (fun p => ∃ (i : Nat), p = (((), got, (i : Int), ()), (names, ())) ∧ i ≤ names.length ∧ begins (names.drop i) got = begins names got) (fun p => ((names.length : Int) - p.1.2.2.1).toNat) (fun r => r = if begins names got then Sum.inr (((), ()), ()) else Sum.inl ((), ()))
    (fun p ⟨i, hp, hi, hb⟩ => by
      subst hp
      by_cases hlt : i < names.length
      · have c1 : decide ((i : Int) < ((names.length : Nat) : Int)) = true := decide_eq_true (by omega)
        have c2 : decide ((0 : Int) ≤ (i : Int)) = true := decide_eq_true (by omega)
        have wi : w64 ((i : Int) + 1) = ((i + 1 : Nat) : Int) := by rw [w64_id (by omega) (by omega)]; rfl
        have hxl : (names.getD i []).length = 3 := by rw [getD_ltL hlt]; exact h3 _ (List.getElem_mem hlt)
        have hd : names.drop i = names.getD i [] :: names.drop (i + 1) := by rw [List.drop_eq_getElem_cons hlt, getD_ltL hlt]
        rw [hd] at hb
        by_cases h3 : got.length ≤ 3
        · have c3 : decide (((got.length : Nat) : Int) ≤ 3) = true := decide_eq_true (by omega)
          have d3 : decide (got.length ≤ 3) = true := decide_eq_true h3
          have e1 := F50_eq (s := names.getD i []) (by omega)
          have c4 : decide ((0 : Int) ≤ ((got.length : Nat) : Int)) = true := decide_eq_true (by omega)
          have c5 : decide (((got.length : Nat) : Int) ≤ (((low (names.getD i [])).length : Nat) : Int)) = true := decide_eq_true (by rw [low, List.length_map]; omega)
          simp only [begins, d3, Bool.true_and, List.any_cons] at hb
          cases hm : decide ((low (names.getD i [])).take got.length = got) with
          | true =>
            right
            rw [hm, Bool.true_or] at hb
            have hbt : begins names got = true := by simp only [begins, d3, Bool.true_and]; exact hb.symm
            rw [hbt]
            exact ⟨_, by simp only [B68_2, c1, c2, c3, c4, c5, Bool.and_self, Bool.true_or, cond_true, Int.toNat_natCast, e1, Option.bind_some, hm] <;> rfl, rfl⟩
          | false =>
            left
            rw [hm, Bool.false_or] at hb
            refine ⟨(((), got, ((i + 1 : Nat) : Int), ()), (names, ())), ?_, ⟨i + 1, rfl, by omega, by simp only [begins, d3, Bool.true_and]; exact hb⟩, by simp only; omega⟩
            simp only [B68_2, c1, c2, c3, c4, c5, Bool.and_self, Bool.true_or, cond_true, cond_false, Int.toNat_natCast, e1, Option.bind_some, hm, wi]
        · left
          have c3 : decide (((got.length : Nat) : Int) ≤ 3) = false := decide_eq_false (by omega)
          have d3 : decide (got.length ≤ 3) = false := decide_eq_false h3
          refine ⟨(((), got, ((i + 1 : Nat) : Int), ()), (names, ())), ?_, ⟨i + 1, rfl, by omega, by simp only [begins, d3, Bool.false_and]⟩, by simp only; omega⟩
          simp only [B68_2, c1, c2, c3, Bool.and_self, Bool.true_or, cond_true, cond_false, wi]
      · right
        have c1 : decide ((i : Int) < ((names.length : Nat) : Int)) = false := decide_eq_false (by omega)
        have hf : begins names got = false := by
          rw [← hb, List.drop_of_length_le (by omega)]; simp [begins]
        rw [hf]
        exact ⟨_, by simp only [B68_2, c1, cond_false] <;> rfl, rfl⟩)
    (p := (((), got, 0, ()), (names, ()))) ⟨0, rfl, Nat.zero_le _, rfl⟩ (by unfold FUEL; simp only; omega)
  subst h2
  exact h1

/-- The letter of a name. -/
def letS (l : Ls) (i : Nat) (b : UInt8) : Bool := begins (if b = 87 then weeks else months) (cat l (bk l 2 i) (i + 1 - bk l 2 i))

theorem F68_eq {l : Ls} (hg : Good l) (hl : l.length ≤ 2000000) {i : Nat} (hi : i < l.length) (b : UInt8) : F68 ((l, (i : Int), b, ()), ()) = some (letS l i b, ()) := by
  have f30 : F30 ((), ()) = some ((), (months, ())) := rfl
  have f28 : F28 ((), ()) = some ((), (weeks, ())) := rfl
  obtain ⟨k1, k2⟩ := bk_le l 2 i
  have hcl : (cat l (bk l 2 i) (i + 1 - bk l 2 i)).length ≤ 100 := by have := cat_len hg (bk l 2 i) (i + 1 - bk l 2 i); omega
  unfold letS
  by_cases hb : b = 87
  · have c1 := decide_eq_true hb
    simp only [F68, f30, f28, Option.bind_some, c1, cond_true, L68_0_eq hg hl weeks hi, L68_1_eq hg hl weeks hi k1 k2, L68_2_eq (names := weeks) (by decide) (by decide) hcl, if_pos hb]
    cases begins weeks (cat l (bk l 2 i) (i + 1 - bk l 2 i)) <;> rfl
  · have c1 := decide_eq_false hb
    simp only [F68, f30, Option.bind_some, c1, cond_false, L68_0_eq hg hl months hi, L68_1_eq hg hl months hi k1 k2, L68_2_eq (names := months) (by decide) (by decide) hcl, if_neg hb]
    cases begins months (cat l (bk l 2 i) (i + 1 - bk l 2 i)) <;> rfl

end Go.Dt

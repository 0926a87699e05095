/- cut: where the pieces of a body begin and end. -/
import Derived.Test.YtnhjmcedpcpdoaaDoorMiq6
import Derived.Test.YtnhjmcedpcpdoaaDoorEvV
import Derived.Test.YtnhjmcedpcpdoaaDoorLoopL
import Derived.Test.YtnhjmcedpcpdoaaDoorEvWb
import Derived.Lib.IndexBytes
import Derived.Lib.TrimUEq
import Derived.Lib.MapLaws
import Derived.Laws.Cover4
namespace Go.Mi
open Go Go.Ev
set_option maxRecDepth 100000

abbrev LP := List (Int × (Int × Unit))

theorem index_le {c d : UInt8} : ∀ s : List UInt8, 0 ≤ Lib.index s [c, d] → Lib.index s [c, d] + 2 ≤ s.length
  | [], h => by simp [Lib.index] at h
  | b :: l, h => by
    unfold Lib.index at h ⊢
    split at h
    · rename_i hp
      rw [if_pos hp]
      cases l with
      | nil => simp [List.isPrefixOf] at hp
      | cons x r => simp; omega
    · rename_i hp
      rw [if_neg hp]
      split at h
      · omega
      · rename_i h1
        rw [if_neg h1]
        have := index_le (c := c) (d := d) l (by
          have := Lib.index_ge l [c, d]
          have h2 : Lib.index l [c, d] ≠ -1 := by simpa using h1
          omega)
        simp only [List.length_cons]
        omega

theorem trimR_le (l cs : List UInt8) : (Lib.trimRightS l cs).length ≤ l.length := by
  unfold Lib.trimRightS
  rw [List.length_reverse]
  exact Nat.le_trans ((List.dropWhile_suffix _).length_le) (by simp)

/-- the state of the loop -/
def mk32 (l b : List UInt8) (at_ fr : Int) (out : LP) : (((List UInt8) × (List UInt8) × Unit × Unit × Int × (Unit × Unit × Unit) × Unit) × ((Unit × Unit) × (Int × Unit) × (List (Int × (Int × Unit))) × Unit)) :=
  ((l, b, (), (), at_, ((), (), ()), ()), (((), ()), (fr, ()), out, ()))

def close (fr upto : Int) (out : LP) : LP := if 0 ≤ fr then out ++ [(fr, if fr < upto then upto else fr, ())] else out

def rest (l : List UInt8) (at_ : Int) : List UInt8 := l.drop at_.toNat
def ix (l : List UInt8) (at_ : Int) : Int := Lib.index (rest l at_) [13, 10]
def end32 (l : List UInt8) (at_ : Int) : Int := if 0 ≤ ix l at_ then at_ + ix l at_ else l.length
def next32 (l : List UInt8) (at_ : Int) : Int := if 0 ≤ ix l at_ then at_ + ix l at_ + 2 else l.length
def line32 (l : List UInt8) (at_ : Int) : List UInt8 := Lib.trimRightS ((rest l at_).take ((end32 l at_).toNat - at_.toNat)) [32, 9]

theorem next_le (l : List UInt8) (at_ : Int) (h0 : 0 ≤ at_) (h1 : at_ < l.length) : at_ < next32 l at_ ∧ next32 l at_ ≤ l.length ∧ at_ ≤ end32 l at_ ∧ end32 l at_ ≤ l.length := by
  have h2 : 0 ≤ ix l at_ → ix l at_ + 2 ≤ (rest l at_).length := fun h => index_le _ h
  have h3 : (rest l at_).length = l.length - at_.toNat := by simp [rest]
  unfold next32 end32
  split <;> omega

theorem step32 (l b : List UInt8) (at_ fr : Int) (out : LP) (h0 : 0 ≤ at_) (h1 : at_ < l.length) (hl : l.length ≤ 2000000) (hb : b.length ≤ 2000000) (ho : out.length ≤ 2000000) :
    B32_0 (mk32 l b at_ fr out) = some (if line32 l at_ = [45, 45] ++ b then .inl (mk32 l b (next32 l at_) (next32 l at_) (close fr (at_ - 2) out))
      else if line32 l at_ = [45, 45] ++ b ++ [45, 45] then .inr (.inr (((), ()), (close fr (at_ - 2) out, ())))
      else .inl (mk32 l b (next32 l at_) fr out)) := by
  obtain ⟨n1, n2, n3, n4⟩ := next_le l at_ h0 h1
  have e1 : decide (at_ < (l.length : Int)) = true := decide_eq_true h1
  have e2 : decide ((0 : Int) ≤ at_) = true := decide_eq_true h0
  have e3 : decide (at_ ≤ (l.length : Int)) = true := decide_eq_true (by omega)
  have e4 : decide ((l.length : Int) ≤ (l.length : Int)) = true := decide_eq_true (by omega)
  have e5 : (l.drop at_.toNat).take ((l.length : Int).toNat - at_.toNat) = rest l at_ := by
    rw [List.take_of_length_le (by simp)]; rfl
  have e6 : (rest l at_).isEmpty = false := by
    rw [List.isEmpty_eq_false_iff]
    intro h
    have := congrArg List.length h
    simp [rest] at this
    omega
  have e7 : decide ((rest l at_).length < 4294967281) = true := decide_eq_true (by simp [rest]; omega)
  have e8 : w64 (at_ - 2) = at_ - 2 := w64_id (by omega) (by omega)
  have e9 : ∀ k n : Nat, k ≤ 2000000 → n ≤ 2000000 → bytesOK (k + n) 16 = true := fun k n h h' => decide_eq_true (by omega)
  unfold B32_0 mk32
  simp only [e1, e2, e3, e4, e5, e6, e7, Bool.and_true, cond_true, List.isEmpty_cons, Bool.not_false, List.length_cons, List.length_nil, Option.bind_some]
  have e10 : Lib.index (rest l at_) [13, 10] = ix l at_ := rfl
  simp only [e10]
  have e11 : ∀ n : Nat, n ≤ 5000000 → fits n = true := fun n h => decide_eq_true (by omega)
  have e12 : decide (0 + 1 + 1 ≤ 9223372036854775807) = true := rfl
  simp only [e12, Bool.and_true, cond_true, Option.bind_some]
  have tail : ∀ E N : Int, at_ ≤ E → E ≤ l.length → decide (at_ ≤ E) = true ∧ decide (E ≤ (l.length : Int)) = true ∧ decide ((List.take (E.toNat - at_.toNat) (List.drop at_.toNat l)).length ≤ 9223372036854775807) = true := fun E N h h' => ⟨decide_eq_true h, decide_eq_true h', decide_eq_true (by
    have : (List.take (E.toNat - at_.toNat) (List.drop at_.toNat l)).length ≤ l.length := by simp; omega
    omega)⟩
  have b1 : fits (0 + 1 + 1 + b.length) = true := e11 _ (by omega)
  have b2 : fits (([45, 45] ++ b).length + (0 + 1 + 1)) = true := e11 _ (by simp; omega)
  have b3 : bytesOK (List.length out + (0 + 1)) 16 = true := e9 _ _ ho (by omega)
  by_cases hk : 0 ≤ ix l at_
  · have k1 : decide (0 ≤ ix l at_) = true := decide_eq_true hk
    have k2 : end32 l at_ = at_ + ix l at_ := if_pos hk
    have k3 : next32 l at_ = at_ + ix l at_ + 2 := if_pos hk
    rw [k2] at n3 n4
    rw [k3] at n2
    have k4 : w64 (at_ + ix l at_) = at_ + ix l at_ := w64_id (by omega) (by omega)
    have k5 : w64 (at_ + ix l at_ + 2) = at_ + ix l at_ + 2 := w64_id (by omega) (by omega)
    obtain ⟨t1, t2, t3⟩ := tail _ 0 n3 n4
    simp only [k1, k4, k5, cond_true, Option.bind_some, e2, t1, t2, t3, Bool.and_true, b1, b2, b3, line32, k2, k3, rest, e8]
    generalize hT : Lib.trimRightS (List.take ((at_ + ix l at_).toNat - at_.toNat) (List.drop at_.toNat l)) [32, 9] = T
    by_cases hA : T = [45, 45] ++ b
    · by_cases hF : 0 ≤ fr
      · simp only [hA, hF, decide_true, cond_true, if_true, Option.bind_some, close, Bool.cond_decide]
      · simp only [hA, hF, decide_true, decide_false, cond_true, cond_false, if_true, if_false, Option.bind_some, close]
    · by_cases hB : T = [45, 45] ++ b ++ [45, 45]
      · by_cases hF : 0 ≤ fr
        · simp only [decide_eq_false hA, decide_eq_true hB, decide_eq_true hF, if_neg hA, if_pos hB, if_pos hF, cond_true, cond_false, Option.bind_some, close, Bool.cond_decide]
        · simp only [decide_eq_false hA, decide_eq_true hB, decide_eq_false hF, if_neg hA, if_pos hB, if_neg hF, cond_true, cond_false, Option.bind_some, close]
      · simp only [hA, hB, decide_false, cond_false, if_false, Option.bind_some]
  · have k1 : decide (0 ≤ ix l at_) = false := decide_eq_false hk
    have k2 : end32 l at_ = l.length := if_neg hk
    have k3 : next32 l at_ = l.length := if_neg hk
    rw [k2] at n3 n4
    obtain ⟨t1, t2, t3⟩ := tail _ 0 n3 n4
    simp only [k1, cond_false, cond_true, Option.bind_some, e2, t1, t2, t3, Bool.and_true, b1, b2, b3, line32, k2, k3, rest, e8]
    generalize hT : Lib.trimRightS (List.take ((l.length : Int).toNat - at_.toNat) (List.drop at_.toNat l)) [32, 9] = T
    by_cases hA : T = [45, 45] ++ b
    · by_cases hF : 0 ≤ fr
      · simp only [hA, hF, decide_true, cond_true, if_true, Option.bind_some, close, Bool.cond_decide]
      · simp only [hA, hF, decide_true, decide_false, cond_true, cond_false, if_true, if_false, Option.bind_some, close]
    · by_cases hB : T = [45, 45] ++ b ++ [45, 45]
      · by_cases hF : 0 ≤ fr
        · simp only [decide_eq_false hA, decide_eq_true hB, decide_eq_true hF, if_neg hA, if_pos hB, if_pos hF, cond_true, cond_false, Option.bind_some, close, Bool.cond_decide]
        · simp only [decide_eq_false hA, decide_eq_true hB, decide_eq_false hF, if_neg hA, if_pos hB, if_neg hF, cond_true, cond_false, Option.bind_some, close]
      · simp only [hA, hB, decide_false, cond_false, if_false, Option.bind_some]

/-- pairs that lie within n, one behind the other -/
def Chain (n : Int) (cs : LP) : Prop := (∀ x ∈ cs, 0 ≤ x.1 ∧ x.1 ≤ x.2.1 ∧ x.2.1 ≤ n) ∧ cs.Pairwise fun x y => x.2.1 ≤ y.1

theorem Chain.mono {n m : Int} {cs : LP} (h : Chain n cs) (hm : n ≤ m) : Chain m cs := ⟨fun x hx => ⟨(h.1 x hx).1, (h.1 x hx).2.1, Int.le_trans (h.1 x hx).2.2 hm⟩, h.2⟩

theorem Chain.close {fr upto n : Int} {out : LP} (h : Chain fr out) (hf : fr ≤ n) (hu : upto ≤ n) : Chain n (Go.Mi.close fr upto out) := by
  unfold Go.Mi.close
  split
  · rename_i h0
    refine ⟨fun x hx => ?_, ?_⟩
    · rcases List.mem_append.1 hx with hx | hx
      · have := h.1 x hx
        omega
      · rw [List.mem_singleton] at hx
        subst hx
        simp only
        split <;> omega
    · rw [List.pairwise_append]
      refine ⟨h.2, by simp, fun x hx y hy => ?_⟩
      rw [List.mem_singleton] at hy
      subst hy
      exact (h.1 x hx).2.2
  · exact h.mono hf

theorem close_len (fr upto : Int) (out : LP) : (close fr upto out).length ≤ out.length + 1 := by
  unfold close
  split <;> simp

theorem cut_ok (l b : List UInt8) (hl : l.length ≤ 1900000) (hb : b.length ≤ 1900000) : ∃ cs, F32 ((l, b, ()), ()) = some ((), (cs, ())) ∧ Chain l.length cs ∧ cs.length ≤ l.length + 1 := by
  obtain ⟨r, h1, h2⟩ := loop_ind (f := B32_0)
    (I := fun p => ∃ at_ fr out, p = mk32 l b at_ fr out ∧ 0 ≤ at_ ∧ at_ ≤ l.length ∧ fr ≤ at_ ∧ Chain fr out ∧ (out.length : Int) ≤ at_)
    (μ := fun p => l.length - p.1.2.2.2.2.1.toNat)
    (Q := fun r => (∃ fr out, r = .inl ((l, (), ((), (), ()), ()), (((), ()), (fr, ()), out, ())) ∧ fr ≤ l.length ∧ Chain fr out ∧ out.length ≤ l.length) ∨ ∃ out, r = .inr (((), ()), (out, ())) ∧ Chain l.length out ∧ out.length ≤ l.length + 1)
    (step := fun p hp => by
      obtain ⟨at_, fr, out, rfl, h0, h1, h2, h3, h4⟩ := hp
      by_cases hlt : at_ < l.length
      · obtain ⟨n1, n2, n3, n4⟩ := next_le l at_ h0 hlt
        have hc : Chain (next32 l at_) (close fr (at_ - 2) out) := h3.close (by omega) (by omega)
        have hn := close_len fr (at_ - 2) out
        rw [step32 l b at_ fr out h0 hlt (by omega) (by omega) (by omega)]
        split
        · refine .inl ⟨_, rfl, ⟨next32 l at_, next32 l at_, _, rfl, by omega, by omega, by omega, hc, by omega⟩, ?_⟩
          show l.length - (next32 l at_).toNat < l.length - at_.toNat
          omega
        · split
          · exact .inr ⟨_, rfl, .inr ⟨_, rfl, hc.mono n2, by omega⟩⟩
          · refine .inl ⟨_, rfl, ⟨next32 l at_, fr, out, rfl, by omega, by omega, by omega, h3, by omega⟩, ?_⟩
            show l.length - (next32 l at_).toNat < l.length - at_.toNat
            omega
      · refine .inr ⟨.inl ((l, (), ((), (), ()), ()), (((), ()), (fr, ()), out, ())), ?_, .inl ⟨fr, out, rfl, by omega, h3, by omega⟩⟩
        unfold B32_0 mk32
        simp only [decide_eq_false hlt, cond_false])
    (p := mk32 l b 0 (-1) []) ⟨0, -1, [], rfl, by omega, by omega, by omega, ⟨by simp, by simp⟩, by simp⟩ (by have := FUEL_big; show l.length - 0 < FUEL; omega)
  unfold F32 L32_0
  have h1' : loopOf B32_0 ((l, b, (), (), (0:Int), ((), (), ()), ()), (((), ()), ((-1:Int), ()), ([]:LP), ())) = some r := h1
  simp only [h1', Option.bind_some]
  rcases h2 with ⟨fr, out, rfl, g1, g2, g3⟩ | ⟨out, rfl, g1, g2⟩
  · refine ⟨close fr l.length out, ?_, g2.close g1 (Int.le_refl _), Nat.le_trans (close_len _ _ _) (by omega)⟩
    have b3 : bytesOK (List.length out + (List.length [(fr, (bif decide (fr < (l.length : Int)) then (l.length : Int) else fr), ())])) 16 = true := decide_eq_true (by simp; omega)
    by_cases hF : 0 ≤ fr
    · simp only [Option.bind_some, decide_eq_true hF, cond_true, b3, close, if_pos hF, Bool.cond_decide]
      simp only [Bool.cond_decide] at b3
      simp only [b3, cond_true, Option.bind_some]
    · simp only [Option.bind_some, decide_eq_false hF, cond_false, close, if_neg hF]
  · exact ⟨out, rfl, g1, g2⟩

end Go.Mi

namespace Go.Mi
open Go Go.Ev
set_option maxRecDepth 100000

def bl (c : UInt8) : Bool := decide (c = 32) || decide (c = 9)

theorem bl_contains (c : UInt8) : ([32, 9] : List UInt8).contains c = bl c := by
  by_cases h1 : c = 32
  · subst h1; rfl
  · by_cases h2 : c = 9
    · subst h2; rfl
    · simp [bl, h1, h2]

/-- without blanks at the end -/
def rtr : List UInt8 → List UInt8
  | [] => []
  | a :: t => if rtr t = [] ∧ bl a = true then [] else a :: rtr t

theorem rtr_snoc : ∀ (l : List UInt8) (a : UInt8), rtr (l ++ [a]) = if bl a = true then rtr l else l ++ [a]
  | [], a => by
    by_cases h : bl a = true <;> simp [rtr, h]
  | b :: l, a => by
    simp only [List.cons_append, rtr, rtr_snoc l a]
    by_cases h : bl a = true
    · simp [h]
    · simp [h]

theorem rtr_eq (l : List UInt8) : Go.Lib.trimRightS l [32, 9] = rtr l := by
  unfold Go.Lib.trimRightS
  have : ∀ r : List UInt8, (r.dropWhile (fun x => ([32, 9] : List UInt8).contains x)).reverse = rtr r.reverse := by
    intro r
    induction r with
    | nil => rfl
    | cons a t ih =>
      rw [List.reverse_cons, rtr_snoc, List.dropWhile_cons]
      simp only [bl_contains] at *
      by_cases h : bl a = true
      · rw [if_pos h, if_pos h]; exact ih
      · rw [if_neg h, if_neg h]; simp
  have := this l.reverse
  rw [List.reverse_reverse] at this
  exact this

def ltr (l : List UInt8) : List UInt8 := l.dropWhile bl

theorem ltr_eq (l : List UInt8) : Go.Lib.trimLeftS l [32, 9] = ltr l := by
  unfold Go.Lib.trimLeftS ltr
  congr 1
  funext x
  exact bl_contains x

theorem trims_swap : ∀ l : List UInt8, ltr (rtr l) = rtr (ltr l)
  | [] => rfl
  | a :: t => by
    have ih := trims_swap t
    by_cases h : bl a = true
    · have e : ltr (a :: t) = ltr t := by simp [ltr, h]
      rw [e]
      by_cases h0 : rtr t = []
      · rw [← ih, h0]
        simp [rtr, h0, h]
      · have : rtr (a :: t) = a :: rtr t := by simp [rtr, h0]
        rw [this, ← ih]
        simp [ltr, h]
    · have e : ltr (a :: t) = a :: t := by simp [ltr, h]
      have : rtr (a :: t) = a :: rtr t := by simp [rtr, h]
      rw [e, this]
      simp [ltr, h]

def trm (l : List UInt8) : List UInt8 := rtr (ltr l)

theorem trimS_eq (l : List UInt8) : Go.Lib.trimS l [32, 9] = trm l := by
  unfold Go.Lib.trimS
  rw [rtr_eq, ltr_eq, trims_swap]
  rfl

theorem F66_eq (s : List UInt8) (hs : s.length ≤ 9223372036854775807) : F66 ((s, ()), ()) = some (trm s, ()) := by
  simp only [F66, hs, decide_true, Bool.and_self, cond_true, trimS_eq]

theorem F44_eq (c : UInt8) : F44 ((c, ()), ()) = some (bl c, ()) := by
  simp only [F44, bl]

theorem foldS_all {α τ : Type} (g : α → Bool) (y : τ) (n : τ) : ∀ (s : List α), foldS (fun a (_ : Unit) => if g a = true then (.inl () : Unit ⊕ τ) else .inr n) (fun _ => y) () s = if s.all g then y else n
  | [] => rfl
  | a :: t => by
    simp only [foldS, List.all_cons]
    by_cases h : g a = true
    · simp only [h, ↓reduceIte, Bool.true_and]
      exact foldS_all g y n t
    · simp only [h, ↓reduceIte, Bool.false_and, Bool.false_eq_true]

/-- where a byte is first -/
def fst (c : UInt8) : List UInt8 → Option Nat
  | [] => none
  | b :: t => if b = c then some 0 else (fst c t).map (· + 1)

theorem indexByte_fst (c : UInt8) : ∀ l : List UInt8, Go.Lib.indexByte l c = match fst c l with | none => -1 | some k => (k : Int)
  | [] => rfl
  | b :: t => by
    have ih := indexByte_fst c t
    unfold Go.Lib.indexByte fst
    by_cases h : b = c
    · subst h
      simp
    · have h1 : ¬ (b == c) = true := fun e => h (eq_of_beq e)
      rw [if_neg h1, if_neg h, ih]
      cases fst c t with
      | none => rfl
      | some k =>
        have : ¬ (((k : Int)) == -1) = true := by
          intro e
          have := eq_of_beq e
          omega
        simp only [this, Option.map_some]
        rfl

theorem fst_lt (c : UInt8) : ∀ (l : List UInt8) (k : Nat), fst c l = some k → k < l.length
  | [], _, h => by cases h
  | b :: t, k, h => by
    unfold fst at h
    by_cases hb : b = c
    · rw [if_pos hb] at h
      injection h with h
      subst h
      simp
    · rw [if_neg hb] at h
      cases hf : fst c t with
      | none => rw [hf] at h; cases h
      | some j =>
        rw [hf] at h
        simp only [Option.map_some, Option.some.injEq] at h
        have := fst_lt c t j hf
        simp only [List.length_cons]
        omega

def nmc (c : UInt8) : Bool := !((decide (c.toNat < 33) || decide (126 < c.toNat)) || decide (c = 58))

def rn (s : List UInt8) : Bool := s.all nmc && (decide (1 ≤ s.length) && decide (s.length ≤ 24))

theorem F46_eq (s : List UInt8) (hs : s.length ≤ 9223372036854775807) : F46 ((s, ()), ()) = some (rn s, ()) := by
  have hF : (9223372036854775807 : Nat) < FUEL := by unfold FUEL; omega
  have h := walk_list (f := B46_0) (fun (_ : Unit) i => ((s, (s.length : Int), (i : Int), ()), ())) s (fun a _ => if nmc a = true then .inl () else .inr (.inr (((), ()), ()))) (fun _ => .inl ((s, ()), ())) (b := ())
    (fun b i a hi ha => by
      simp only [B46_0, nat_nn, nat_lt, hi, decide_true, Bool.and_self, Bool.true_or, cond_true, Int.toNat_natCast, ha, show UInt8.toNat 33 = 33 from rfl, show UInt8.toNat 126 = 126 from rfl]
      unfold nmc
      cases ((decide (a.toNat < 33) || decide (126 < a.toNat)) || decide (a = 58))
      · simp only [cond_false, Bool.not_false, ↓reduceIte, w64_nat (show i < 9223372036854775807 by omega)]
      · simp only [cond_true, Bool.not_true, Bool.false_eq_true, ↓reduceIte])
    (fun b => by simp only [B46_0, Int.lt_irrefl, decide_false, cond_false]) (by omega)
  rw [foldS_all] at h
  have h' : L46_0 ((s, (s.length : Int), (0:Int), ()), ()) = _ := h
  simp only [F46, h', rn]
  cases s.all nmc
  · simp only [Bool.false_eq_true, ↓reduceIte, Option.bind_some, Bool.false_and]
  · have e2 : decide (((s.length : Nat) : Int) ≤ 24) = decide (s.length ≤ 24) := by rw [decide_eq_decide]; omega
    have e1 : (!decide (s = [])) = decide (1 ≤ s.length) := by cases s <;> simp
    simp only [↓reduceIte, Option.bind_some, Bool.true_and, e1, e2]

abbrev Fld : Type := List UInt8 × (List UInt8 × (Int × Unit))

/-- the line at a text's beginning, and where the next one begins -/
def ln : List UInt8 → List UInt8 × Nat
  | [] => ([], 0)
  | a :: t => if a = 13 ∧ t.head? = some 10 then ([], 2) else (a :: (ln t).1, (ln t).2 + 1)

theorem ln_le : ∀ l : List UInt8, (ln l).2 ≤ l.length ∧ (ln l).1.length ≤ (ln l).2
  | [] => ⟨Nat.le_refl _, Nat.le_refl _⟩
  | a :: t => by
    have ih := ln_le t
    unfold ln
    split
    · next h =>
      have : t ≠ [] := by rintro rfl; cases h.2
      have := List.length_pos_iff.mpr this
      simp only [List.length_cons, List.length_nil]
      omega
    · simp only [List.length_cons]; omega

theorem ln_pos (a : UInt8) (t : List UInt8) : 1 ≤ (ln (a :: t)).2 := by
  unfold ln
  split
  · decide
  · simp

theorem pre1310 (a : UInt8) (t : List UInt8) : ([13, 10] : List UInt8).isPrefixOf (a :: t) = decide (a = 13 ∧ t.head? = some 10) := by
  rw [Bool.eq_iff_iff, decide_eq_true_eq]
  cases t with
  | nil => simp [List.isPrefixOf]
  | cons b t =>
    simp only [List.isPrefixOf, Bool.and_eq_true, beq_iff_eq, Bool.and_true, List.head?_cons, Option.some.injEq]
    exact ⟨fun h => ⟨h.1.symm, h.2.symm⟩, fun h => ⟨h.1.symm, h.2.symm⟩⟩

theorem ln_index : ∀ l : List UInt8, (Lib.index l [13, 10] = -1 ∧ ln l = (l, l.length)) ∨ (∃ i : Nat, Lib.index l [13, 10] = (i : Int) ∧ ln l = (l.take i, i + 2) ∧ i + 2 ≤ l.length)
  | [] => .inl ⟨rfl, rfl⟩
  | a :: t => by
    unfold Lib.index ln
    rw [pre1310]
    by_cases h : a = 13 ∧ t.head? = some 10
    · right
      have : t ≠ [] := by rintro rfl; cases h.2
      have := List.length_pos_iff.mpr this
      exact ⟨0, by simp [h], by simp [h], by simp only [List.length_cons]; omega⟩
    · rcases ln_index t with ⟨h1, h2⟩ | ⟨i, h1, h2, h3⟩
      · left
        rw [h1, h2]
        simp [h]
      · right
        rw [h1, h2]
        refine ⟨i + 1, ?_, ?_, by simp only [List.length_cons]; omega⟩
        · have : ¬ ((i : Int) == -1) = true := by
            intro e
            have := eq_of_beq e
            omega
          simp [h, this]
        · simp [h]

theorem F42_eq (l : List UInt8) (h0 : l ≠ []) (hl : l.length ≤ 1100000) : F42 ((l, ()), ()) = some (((ln l).1, (((ln l).2 : Nat) : Int), ()), ()) := by
  have c0 : ((((!(List.isEmpty l)) && (decide (l.length < 4294967281))) && true) && true) = true := by
    cases l with
    | nil => exact absurd rfl h0
    | cons a t => simp only [List.isEmpty_cons, Bool.not_false, Bool.true_and, Bool.and_true]; rw [decide_eq_true_eq]; omega
  simp only [F42, c0, cond_true]
  rcases ln_index l with ⟨h1, h2⟩ | ⟨i, h1, h2, h3⟩
  · rw [h1, h2]; rfl
  · have c1 : decide ((i : Int) < 0) = false := by rw [decide_eq_false_iff_not]; omega
    have c2 : decide ((i : Int) ≤ ((l.length : Nat) : Int)) = true := by rw [decide_eq_true_eq]; omega
    have c3 : w64 ((i : Int) + 2) = ((i + 2 : Nat) : Int) := by rw [w64_id (by omega) (by omega)]; omega
    rw [h1, h2]
    simp only [c1, c2, c3, nat_nn, Bool.and_self, cond_true, cond_false, Int.toNat_natCast]

def trf (f : Fld) : Fld := (f.1, (trm f.2.1, (f.2.2.1, ())))

theorem append_set {α : Type} : ∀ (a t : List α) (x y : α), (a ++ x :: t).set a.length y = a ++ y :: t
  | [], _, _, _ => rfl
  | b :: a, t, x, y => by
    simp only [List.cons_append, List.length_cons, List.set_cons_succ, append_set a t x y]

theorem drop_cons {α : Type} {s : List α} {i : Nat} {a : α} (hi : i < s.length) (ha : ∀ d, s.getD i d = a) : s.drop i = a :: s.drop (i + 1) := by
  rw [List.drop_eq_getElem_cons hi]
  have := ha s[i]
  rw [List.getD_eq_getElem?_getD, List.getElem?_eq_getElem hi] at this
  rw [show s[i] = a from this]

theorem foldS_push {α β τ : Type} (g : α → β) (fin : List β → τ) : ∀ (s : List α) (b : List β), foldS (fun a b => (.inl (b ++ [g a]) : List β ⊕ τ)) fin b s = fin (b ++ s.map g)
  | [], b => by simp [foldS]
  | a :: t, b => by
    simp only [foldS]
    rw [foldS_push g fin t]
    simp

theorem F43_eq (o : List Fld) (hlen : o.length ≤ 1000) (ho : ∀ f ∈ o, f.2.1.length ≤ 1100000) : F43 (((), ()), (o, ())) = some ((), (o.map trf, ())) := by
  have hF := FUEL_big
  have h := walk_listI (f := B43_0) (fun (b : List Fld) i => (((), (o.length : Int), (i : Int), ()), (b ++ o.drop i, ()))) o (fun a b => .inl (b ++ [trf a])) (fun b => (((), ()), (b, ()))) (fun b i => b.length = i) (b := [])
    (fun b i a hI hi ha => .inl ⟨_, rfl, by rw [List.length_append, hI]; rfl, by
      subst hI
      have hd := drop_cons hi ha
      have hm : a ∈ o := by
        have := ha a
        rw [List.getD_eq_getElem?_getD, List.getElem?_eq_getElem hi] at this
        rw [← show o[b.length] = a from this]
        exact List.getElem_mem hi
      have hlt : b.length < (b ++ o.drop b.length).length := by rw [hd]; simp
      have hg : (b ++ o.drop b.length).getD b.length (([]:List UInt8), (([]:List UInt8), ((0:Int), ()))) = a := by
        rw [hd, List.getD_eq_getElem?_getD, List.getElem?_append_right (Nat.le_refl _)]
        simp
      have hset : (b ++ o.drop b.length).set b.length (trf a) = b ++ [trf a] ++ o.drop (b.length + 1) := by
        rw [hd, append_set]; simp
      have e := F66_eq a.2.1 (by have := ho a hm; omega)
      have hset' : (b ++ o.drop b.length).set b.length (a.1, (trm a.2.1, (a.2.2.1, ()))) = b ++ [trf a] ++ o.drop (b.length + 1) := hset
      simp only [B43_0, nat_lt, nat_nn, hi, hlt, decide_true, Bool.and_self, cond_true, Int.toNat_natCast, hg, e, Option.bind_some, hset', w64_nat (show b.length < 9223372036854775807 by omega)]⟩)
    (fun b _ => by simp only [B43_0, Int.lt_irrefl, decide_false, cond_false, List.drop_length, List.append_nil]) (by omega) rfl
  rw [foldS_push, List.nil_append] at h
  have h' : L43_0 (((), (o.length : Int), (0:Int), ()), (o, ())) = _ := h
  simp only [F43, h', Option.bind_some, List.nil_append]

def nof : Fld := ([], ([], ((0:Int), ())))

/-- a line more for the last field -/
def addl (out : List Fld) (l : List UInt8) : List Fld :=
  out.set (out.length - 1) ((out.getD (out.length - 1) nof).1, ((out.getD (out.length - 1) nof).2.1 ++ l, ((out.getD (out.length - 1) nof).2.2.1, ())))

/-- the fields of what is left of a letter -/
def spl : Nat → List UInt8 → Nat → List Fld → (List Fld × Nat) ⊕ (Nat × Int)
  | 0, _, at', out => .inl (out, at')
  | k + 1, rest, at', out =>
    if rest = [] then .inl (out, at')
    else if (ln rest).1 = [] then .inl (out, at' + (ln rest).2)
    else if 1024 < (ln rest).1.length then .inr (at', 6)
    else if (bl ((ln rest).1.getD 0 0) && decide (0 < out.length)) = true then spl k (rest.drop (ln rest).2) (at' + (ln rest).2) (addl out (ln rest).1)
    else match fst 58 (ln rest).1 with
      | none => .inr (at', 4)
      | some j =>
        if rn ((ln rest).1.take j) = true then
          if 40 ≤ out.length then .inr (at', 6)
          else spl k (rest.drop (ln rest).2) (at' + (ln rest).2) (out ++ [((ln rest).1.take j, ((ln rest).1.drop (j + 1), (((at' : Nat) : Int), ())))])
        else .inr (at', 4)

def fin : (List Fld × Nat) ⊕ (Nat × Int) → List Fld × Int × Int × Unit
  | .inl o => (o.1.map trf, ((o.2 : Nat) : Int), 0, ())
  | .inr e => ([], ((e.1 : Nat) : Int), e.2, ())

def split (b : List UInt8) : List Fld × Int × Int × Unit := fin (spl (b.length + 1) b 0 [])

/-- what is kept while a letter is split -/
def keeps (n : Nat) (rest : List UInt8) (out : List Fld) : Prop := out.length ≤ 40 ∧ ∀ f ∈ out, f.2.1.length + rest.length ≤ n

theorem keeps_add {n : Nat} {rest : List UInt8} {out : List Fld} (h : keeps n rest out) (h0 : 0 < out.length) : keeps n (rest.drop (ln rest).2) (addl out (ln rest).1) := by
  have hl := ln_le rest
  refine ⟨by unfold addl; rw [List.length_set]; exact h.1, fun f hf => ?_⟩
  rw [List.length_drop]
  rcases List.mem_or_eq_of_mem_set hf with hm | rfl
  · have := h.2 f hm; omega
  · have hmem : out.getD (out.length - 1) nof ∈ out := by
      rw [List.getD_eq_getElem?_getD, List.getElem?_eq_getElem (by omega)]
      exact List.getElem_mem _
    have := h.2 _ hmem
    simp only [List.length_append]
    omega

theorem keeps_new {n : Nat} {rest : List UInt8} {out : List Fld} (h : keeps n rest out) (h40 : out.length < 40) (hn : rest.length ≤ n) (a : List UInt8) (j : Nat) (i : Int) :
    keeps n (rest.drop (ln rest).2) (out ++ [(a, ((ln rest).1.drop (j + 1), (i, ())))]) := by
  have hl := ln_le rest
  refine ⟨by rw [List.length_append, List.length_singleton]; omega, fun f hf => ?_⟩
  rw [List.length_drop]
  rcases List.mem_append.mp hf with hm | hm
  · have := h.2 f hm; omega
  · rw [List.mem_singleton] at hm
    subst hm
    simp only [List.length_drop]
    omega

abbrev R10 : Type := (((List UInt8 × Unit × Unit) × (List Fld × Unit)) ⊕ ((Unit × Int × Int × Unit) × (List Fld × Unit)))

def post10 (n : Nat) : R10 → List Fld × Int × Int × Unit
  | .inl q => (q.2.1.map trf, (n : Int), 0, ())
  | .inr q => (q.2.1, q.1.2.1, q.1.2.2.1, ())

theorem lastD {out : List Fld} (h0 : 0 < out.length) (h40 : out.length ≤ 40) : w64 (((out.length : Nat) : Int) - 1) = ((out.length - 1 : Nat) : Int) := by
  rw [w64_id (by omega) (by omega)]; omega

theorem L29_iter (b : List UInt8) (hb : b.length ≤ 1100000) : ∀ (k K at' : Nat) (rest : List UInt8) (out : List Fld), at' ≤ b.length → b.drop at' = rest → keeps b.length rest out → rest.length < k → k ≤ K →
    ∃ r : R10, iter B29_0 K ((b, (), (at' : Int), ()), (out, ())) = some r ∧ post10 b.length r = fin (spl k rest at' out) ∧ (∀ q, r = .inl q → q.1.1 = b ∧ keeps b.length [] q.2.1)
  | 0, _, _, _, _, _, _, _, h, _ => absurd h (Nat.not_lt_zero _)
  | k + 1, 0, _, _, _, _, _, _, _, h => absurd h (by omega)
  | k + 1, K + 1, at', rest, out, hi, hd, hkeep, hk, hK => by
    by_cases hr : rest = []
    · subst hr
      have hl : b.length ≤ at' := List.drop_eq_nil_iff.mp hd
      obtain rfl : at' = b.length := by omega
      refine ⟨.inl ((b, (), ()), (out, ())), ?_, ?_, fun q h => by cases h; exact ⟨rfl, hkeep⟩⟩
      · simp only [iter, B29_0, Int.lt_irrefl, decide_false, cond_false]
      · simp only [post10, spl, ↓reduceIte, fin]
    · have hlt : at' < b.length := by
        rcases Nat.lt_or_ge at' b.length with h | h
        · exact h
        · rw [List.drop_eq_nil_iff.mpr h] at hd; exact absurd hd.symm hr
      have hlen := congrArg List.length hd
      rw [List.length_drop] at hlen
      have hle : decide (((at' : Nat) : Int) ≤ ((b.length : Nat) : Int)) = true := by rw [decide_eq_true_eq]; omega
      have htk : List.take (b.length - at') (List.drop at' b) = rest := by rw [hd]; exact List.take_of_length_le (by omega)
      have e23 := F42_eq rest hr (by omega)
      obtain ⟨n1, n2⟩ := ln_le rest
      have n3 : 1 ≤ (ln rest).2 := by
        cases rest with
        | nil => exact absurd rfl hr
        | cons a t => exact ln_pos a t
      have hw : w64 (((at' : Nat) : Int) + (((ln rest).2 : Nat) : Int)) = ((at' + (ln rest).2 : Nat) : Int) := by
        rw [w64_id (by omega) (by omega)]; omega
      have hdrop : b.drop (at' + (ln rest).2) = rest.drop (ln rest).2 := by rw [← List.drop_drop, hd]
      have hrest : (rest.drop (ln rest).2).length < k := by rw [List.length_drop]; omega
      unfold spl
      rw [if_neg hr]
      have hka : 0 < out.length → keeps b.length (rest.drop (ln rest).2) (addl out (ln rest).1) := fun h0 => keeps_add hkeep h0
      have hkn : out.length < 40 → ∀ j, keeps b.length (rest.drop (ln rest).2) (out ++ [((ln rest).1.take j, ((ln rest).1.drop (j + 1), (((at' : Nat) : Int), ())))]) := fun h j => keeps_new hkeep h (by omega) _ _ _
      have hval : ∀ f ∈ out, f.2.1.length ≤ 1100000 := fun f hf => by have := hkeep.2 f hf; omega
      have h40 := hkeep.1
      simp only [iter, B29_0, nat_lt, nat_nn, hlt, hle, Int.le_refl, decide_true, Bool.and_self, cond_true, Int.toNat_natCast, htk, e23, Option.bind_some]
      clear htk e23
      generalize ln rest = L at *
      obtain ⟨l, n⟩ := L
      simp only at *
      cases l with
      | nil =>
        have e24 := F43_eq out (by omega) hval
        simp only [List.length_nil, show decide (((0 : Nat) : Int) = 0) = true from rfl, cond_true, e24, Option.bind_some, hw, ↓reduceIte]
        exact ⟨_, rfl, rfl, fun q h => by cases h⟩
      | cons c t =>
        have d1 : decide ((((c :: t).length : Nat) : Int) = 0) = false := by rw [decide_eq_false_iff_not, List.length_cons]; omega
        have d2 : decide ((1024:Int) < (((c :: t).length : Nat) : Int)) = decide (1024 < (c :: t).length) := by rw [decide_eq_decide]; omega
        have d3 : decide ((0:Int) < (((c :: t).length : Nat) : Int)) = true := by rw [decide_eq_true_eq, List.length_cons]; omega
        have d4 : decide ((0:Int) < ((out.length : Nat) : Int)) = decide (0 < out.length) := by rw [decide_eq_decide]; omega
        have hne : ¬ ((c :: t) = ([] : List UInt8)) := by simp
        rw [if_neg hne]
        simp only [d1, d2, d3, d4, cond_false, cond_true, F44_eq, Option.bind_some]
        by_cases hlong : 1024 < (c :: t).length
        · simp only [hlong, decide_true, cond_true, ↓reduceIte]
          exact ⟨_, rfl, rfl, fun q h => by cases h⟩
        · simp only [hlong, decide_false, cond_false, ↓reduceIte]
          cases hbo : bl ((c :: t).getD 0 0) && decide (0 < out.length)
          case true =>
            have h0 : 0 < out.length := by
              rw [Bool.and_eq_true, decide_eq_true_eq] at hbo
              exact hbo.2
            have hwl := lastD h0 h40
            have hlt2 : out.length - 1 < out.length := by omega
            have hmem : out.getD (out.length - 1) nof ∈ out := by
              rw [List.getD_eq_getElem?_getD, List.getElem?_eq_getElem (by omega)]
              exact List.getElem_mem _
            have hfit : fits ((out.getD (out.length - 1) nof).2.1.length + (c :: t).length) = true := by
              have := hval _ hmem
              unfold fits; rw [decide_eq_true_eq]; omega
            have hfit' : fits ((out.getD (out.length - 1) (([]:List UInt8), (([]:List UInt8), ((0:Int), ())))).2.1.length + (c :: t).length) = true := hfit
            simp only [cond_true, hwl, nat_nn, nat_lt, hlt2, decide_true, Bool.and_self, Int.toNat_natCast, hfit', Option.bind_some, hw, ↓reduceIte]
            exact L29_iter b hb k K (at' + n) (rest.drop n) (addl out (c :: t)) (by omega) hdrop (hka h0) hrest (by omega)
          case false =>
            have hif := indexByte_fst 58 (c :: t)
            simp only [cond_false, List.isEmpty_cons, Bool.not_false, cond_true, Bool.false_eq_true, ↓reduceIte]
            rw [hif]
            cases hf : fst 58 (c :: t) with
            | none =>
              simp only [show decide ((-1:Int) < 0) = true from rfl, Bool.or_true, Bool.not_true, cond_true, cond_false]
              exact ⟨_, rfl, rfl, fun q h => by cases h⟩
            | some j =>
              have hj := fst_lt 58 _ j hf
              have c1 : decide ((j : Int) < 0) = false := by rw [decide_eq_false_iff_not]; omega
              have c2 : decide ((j : Int) ≤ (((c :: t).length : Nat) : Int)) = true := by rw [decide_eq_true_eq]; omega
              have c3 : decide (((j + 1 : Nat) : Int) ≤ (((c :: t).length : Nat) : Int)) = true := by rw [decide_eq_true_eq]; omega
              have e27 := F46_eq ((c :: t).take j) (by rw [List.length_take]; omega)
              simp only [nat_nn, c1, c2, Bool.and_self, Bool.true_or, Bool.not_false, cond_true, Int.toNat_natCast, e27, Option.bind_some]
              by_cases hrn : rn ((c :: t).take j) = true
              · by_cases h4 : 40 ≤ out.length
                · have : decide (((out.length : Nat) : Int) = 40) = true := by rw [decide_eq_true_eq]; omega
                  simp only [hrn, Bool.not_true, cond_false, this, cond_true, h4, ↓reduceIte]
                  exact ⟨_, rfl, rfl, fun q h => by cases h⟩
                · have d40 : decide (((out.length : Nat) : Int) = 40) = false := by rw [decide_eq_false_iff_not]; omega
                  have hby : ∀ x : Fld, bytesOK (out.length + ([x] : List Fld).length) 40 = true := fun x => by
                    unfold bytesOK; rw [decide_eq_true_eq, List.length_singleton]; omega
                  have htl : List.take ((c :: t).length - (j + 1)) (List.drop (j + 1) (c :: t)) = List.drop (j + 1) (c :: t) := List.take_of_length_le (by rw [List.length_drop]; omega)
                  simp only [hrn, Bool.not_true, cond_false, cond_true, d40, h4, ↓reduceIte, w64_nat (show j < 9223372036854775807 by omega), nat_nn, c3, Int.le_refl, decide_true, Bool.and_self, Int.toNat_natCast, htl, hby, Option.bind_some, hw]
                  exact L29_iter b hb k K (at' + n) (rest.drop n) _ (by omega) hdrop (hkn (by omega) j) hrest (by omega)
              · have hrn' := hrn
                rw [Bool.not_eq_true] at hrn'
                simp only [hrn', Bool.not_false, cond_true, Bool.false_eq_true, ↓reduceIte]
                exact ⟨_, rfl, rfl, fun q h => by cases h⟩

theorem F29_eq (b : List UInt8) (hb : b.length ≤ 1100000) : F29 ((b, ()), ()) = some (((), (split b).2.1, (split b).2.2.1, ()), ((split b).1, ())) := by
  obtain ⟨r, h1, h2, h3⟩ := L29_iter b hb (b.length + 1) FUEL 0 b [] (Nat.zero_le _) rfl ⟨Nat.zero_le _, fun f hf => by cases hf⟩ (by omega) (by unfold FUEL; omega)
  have h1' : L29_0 ((b, (), (0:Int), ()), (([]:List Fld), ())) = some r := h1
  unfold split
  rw [← h2]
  simp only [F29, h1', Option.bind_some]
  cases r with
  | inl q =>
    obtain ⟨e1, e2⟩ := h3 q rfl
    obtain ⟨⟨q1, q2, q3⟩, q4, q5⟩ := q
    simp only at e1 e2
    subst e1
    have e24 := F43_eq q4 (Nat.le_trans e2.1 (by omega)) (fun f hf => by have := e2.2 f hf; omega)
    simp only [Option.bind_some, e24, post10]
  | inr q => simp only [Option.bind_some, post10]

def lowc (c : UInt8) : UInt8 := if 65 ≤ c.toNat ∧ c.toNat ≤ 90 then c + 32 else c

theorem F22_eq (s : List UInt8) (hs : s.length ≤ maxLen) : F22 ((s, ()), ()) = some (s.map lowc, ()) := by
  have hF : maxLen < FUEL := by unfold maxLen FUEL; omega
  have hm : maxLen = 9223372036854775807 := rfl
  have h := walk_listI (f := B22_0) (fun (b : List UInt8) i => (((), (), ((s.length : Nat) : Int), (i : Int), ()), (b ++ s.drop i, ()))) s (fun a b => .inl (b ++ [lowc a])) (fun b => (((), ()), (b, ()))) (fun b i => b.length = i) (b := [])
    (fun b i a hI hi ha => .inl ⟨_, rfl, by rw [List.length_append, hI]; rfl, by
      subst hI
      have hd := drop_cons hi ha
      have hlt : b.length < (b ++ s.drop b.length).length := by rw [hd]; simp
      have hg : (b ++ s.drop b.length).getD b.length 0 = a := by
        rw [hd, List.getD_eq_getElem?_getD, List.getElem?_append_right (Nat.le_refl _)]
        simp
      have hset : (b ++ s.drop b.length).set b.length (a + 32) = b ++ [a + 32] ++ s.drop (b.length + 1) := by
        rw [hd, append_set]; simp
      have hkeep : b ++ s.drop b.length = b ++ [a] ++ s.drop (b.length + 1) := by
        rw [hd]; simp
      simp only [B22_0, nat_lt, nat_nn, hi, hlt, decide_true, Bool.and_true, cond_true, Int.toNat_natCast, hg, hset, w64_nat (show b.length < 9223372036854775807 by omega), show UInt8.toNat 65 = 65 from rfl, show UInt8.toNat 90 = 90 from rfl]
      unfold lowc
      by_cases h1 : 65 ≤ a.toNat
      · by_cases h2 : a.toNat ≤ 90
        · simp only [h1, h2, decide_true, Bool.and_self, cond_true, Option.bind_some, and_self, ↓reduceIte, w64_nat (show b.length < 9223372036854775807 by omega)]
        · simp only [h1, h2, decide_true, decide_false, Bool.and_false, cond_false, Option.bind_some, and_false, ↓reduceIte, ← hkeep, w64_nat (show b.length < 9223372036854775807 by omega)]
      · simp only [h1, decide_false, Bool.false_and, cond_false, Option.bind_some, false_and, ↓reduceIte, ← hkeep, w64_nat (show b.length < 9223372036854775807 by omega)]⟩)
    (fun b _ => by simp only [B22_0, Int.lt_irrefl, decide_false, cond_false, List.drop_length, List.append_nil]) (by omega) rfl
  rw [foldS_push] at h
  have h' : L22_0 (((), (), ((s.length : Nat) : Int), (0:Int), ()), (s, ())) = some (((), ()), (s.map lowc, ())) := h
  simp only [F22, h', Option.bind_some]

end Go.Mi

namespace Go.Mi
open Go Go.Ev
set_option maxRecDepth 100000

def hit (name : List UInt8) (f : Fld) : Bool := decide (f.1.map lowc = name.map lowc)

def alls (l : List Fld) (name : List UInt8) : List (List UInt8) := (l.filter (hit name)).map fun f => f.2.1

theorem F68_eq (a b : List UInt8) (ha : a.length ≤ maxLen) (hb : b.length ≤ maxLen) : F68 ((a, b, ()), ()) = some (decide (a.map lowc = b.map lowc), ()) := by
  simp only [F68, F22_eq a ha, F22_eq b hb, Option.bind_some]

theorem foldS_filter {τ : Type} (name : List UInt8) (fin : List (List UInt8) → τ) : ∀ (s : List Fld) (b : List (List UInt8)), foldS (fun a b => (.inl (if hit name a = true then b ++ [a.2.1] else b) : List (List UInt8) ⊕ τ)) fin b s = fin (b ++ alls s name)
  | [], b => by simp [foldS, alls]
  | a :: t, b => by
    simp only [foldS]
    rw [foldS_filter name fin t]
    unfold alls
    rw [List.filter_cons]
    split <;> simp

theorem F47_eq (l : List Fld) (name : List UInt8) (hl : l.length ≤ 1100000) (hn : name.length ≤ maxLen) (hf : ∀ f ∈ l, f.1.length ≤ maxLen) : F47 ((l, name, ()), ()) = some ((), (alls l name, ())) := by
  have hF := FUEL_big
  have h := walk_listI (f := B47_0) (fun (b : List (List UInt8)) i => ((name, (), l, (l.length : Int), (i : Int), ()), (b, ()))) l (fun a b => .inl (if hit name a = true then b ++ [a.2.1] else b)) (fun b => (((), ()), (b, ())))
    (fun b i => b.length ≤ i) (b := [])
    (fun b i a hI hi ha => .inl ⟨_, rfl, by
      have hI : b.length ≤ i := hI
      show (if hit name a = true then b ++ [a.2.1] else b).length ≤ i + 1
      split
      · rw [List.length_append, List.length_singleton]; omega
      · omega, by
      have hI : b.length ≤ i := hI
      have hm : a ∈ l := by
        have := ha a
        rw [List.getD_eq_getElem?_getD, List.getElem?_eq_getElem hi] at this
        rw [← show l[i] = a from this]
        exact List.getElem_mem hi
      have e := F68_eq a.1 name (hf a hm) hn
      have hby : bytesOK (b.length + (List.length ([a.2.1]:List (List UInt8)))) 16 = true := by
        unfold bytesOK; rw [decide_eq_true_eq, List.length_singleton]; omega
      simp only [B47_0, nat_lt, nat_nn, hi, decide_true, Bool.and_self, cond_true, Int.toNat_natCast, ha, Option.bind_some, e]
      unfold hit
      cases decide (a.1.map lowc = name.map lowc)
      · simp only [cond_false, Option.bind_some, Bool.false_eq_true, ↓reduceIte, w64_nat (show i < 9223372036854775807 by omega)]
      · simp only [cond_true, Option.bind_some, ↓reduceIte, hby, w64_nat (show i < 9223372036854775807 by omega)]⟩)
    (fun b _ => by simp only [B47_0, Int.lt_irrefl, decide_false, cond_false]) (by omega) (Nat.le_refl _)
  rw [foldS_filter, List.nil_append] at h
  have h' : L47_0 ((name, (), l, (l.length : Int), (0:Int), ()), (([]:List (List UInt8)), ())) = _ := h
  simp only [F47, h', Option.bind_some]


/-- what a split leaves -/
def GoodS (n : Nat) : (List Fld × Nat) ⊕ (Nat × Int) → Prop
  | .inl o => o.2 ≤ n ∧ o.1.length ≤ 40 ∧ ∀ f ∈ o.1, f.1.length ≤ n ∧ f.2.1.length ≤ n
  | .inr e => e.2 ≠ 0

theorem spl_ok {n : Nat} : ∀ (k : Nat) (rest : List UInt8) (at' : Nat) (out : List Fld), at' + rest.length ≤ n → out.length ≤ 40 → (∀ f ∈ out, f.1.length ≤ n ∧ f.2.1.length + rest.length ≤ n) → GoodS n (spl k rest at' out)
  | 0, rest, at', out, h, h1, h2 => ⟨by show at' ≤ n; omega, h1, fun f hf => ⟨(h2 f hf).1, by have := (h2 f hf).2; omega⟩⟩
  | k + 1, rest, at', out, h, h1, h2 => by
    have hl := ln_le rest
    have hd : (rest.drop (ln rest).2).length = rest.length - (ln rest).2 := List.length_drop
    unfold spl
    split
    · exact ⟨by show at' ≤ n; omega, h1, fun f hf => ⟨(h2 f hf).1, by have := (h2 f hf).2; omega⟩⟩
    · split
      · exact ⟨by show at' + (ln rest).2 ≤ n; omega, h1, fun f hf => ⟨(h2 f hf).1, by have := (h2 f hf).2; omega⟩⟩
      · split
        · show (6 : Int) ≠ 0; decide
        · split
          · rename_i hb
            simp only [Bool.and_eq_true, decide_eq_true_eq] at hb
            refine spl_ok k _ _ _ (by rw [hd]; omega) (by unfold addl; rw [List.length_set]; exact h1) fun f hf => ?_
            rw [hd]
            unfold addl at hf
            rcases List.mem_or_eq_of_mem_set hf with hm | rfl
            · have := h2 f hm
              exact ⟨this.1, by omega⟩
            · have hm : out.getD (out.length - 1) nof ∈ out := by
                rw [List.getD_eq_getElem?_getD, List.getElem?_eq_getElem (by omega)]
                exact List.getElem_mem _
              have := h2 _ hm
              refine ⟨this.1, ?_⟩
              show ((out.getD (out.length - 1) nof).2.1 ++ (ln rest).1).length + _ ≤ n
              rw [List.length_append]
              omega
          · split
            · show (4 : Int) ≠ 0; decide
            · split
              · split
                · show (6 : Int) ≠ 0; decide
                · rename_i j _ _ _
                  refine spl_ok k _ _ _ (by rw [hd]; omega) (by rw [List.length_append, List.length_singleton]; omega) fun f hf => ?_
                  rw [hd]
                  rcases List.mem_append.1 hf with hm | hm
                  · have := h2 f hm
                    exact ⟨this.1, by omega⟩
                  · rw [List.mem_singleton] at hm
                    subst hm
                    refine ⟨?_, ?_⟩
                    · show ((ln rest).1.take j).length ≤ n
                      rw [List.length_take]; omega
                    · show ((ln rest).1.drop (j + 1)).length + _ ≤ n
                      rw [List.length_drop]; omega
              · show (4 : Int) ≠ 0; decide

theorem trm_le (l : List UInt8) : (trm l).length ≤ l.length := by
  rw [← trimS_eq]
  unfold Lib.trimS Lib.trimLeftS
  exact Nat.le_trans ((List.dropWhile_suffix _).length_le) (trimR_le _ _)

theorem split_ok (b : List UInt8) : ((split b).2.2.1 = 0 → 0 ≤ (split b).2.1 ∧ (split b).2.1 ≤ b.length) ∧ (split b).1.length ≤ 40 ∧ ∀ f ∈ (split b).1, f.1.length ≤ b.length ∧ f.2.1.length ≤ b.length := by
  have h := spl_ok (n := b.length) (b.length + 1) b 0 [] (by omega) (by simp) (by simp)
  unfold split
  cases hs : spl (b.length + 1) b 0 [] with
  | inl o =>
    rw [hs] at h
    obtain ⟨h1, h2, h3⟩ := h
    refine ⟨fun _ => ⟨by simp [fin], by simp only [fin]; omega⟩, by simp [fin, h2], fun f hf => ?_⟩
    simp only [fin, List.mem_map] at hf
    obtain ⟨g, hg, rfl⟩ := hf
    have := h3 g hg
    exact ⟨this.1, Nat.le_trans (trm_le _) this.2⟩
  | inr e =>
    rw [hs] at h
    refine ⟨fun h0 => absurd h0 h, by simp [fin], by simp [fin]⟩

theorem alls_mem {l : List Fld} {name x : List UInt8} (h : x ∈ alls l name) : ∃ f ∈ l, x = f.2.1 := by
  unfold alls at h
  simp only [List.mem_map, List.mem_filter] at h
  obtain ⟨f, hf, rfl⟩ := h
  exact ⟨f, hf.1, rfl⟩

theorem get_ok (l : List Fld) (name : List UInt8) (n : Nat) (hl : l.length ≤ 1100000) (hn : name.length ≤ maxLen) (hm : n ≤ maxLen) (hf : ∀ f ∈ l, f.1.length ≤ n ∧ f.2.1.length ≤ n) :
    ∃ v is, F30 ((l, name, ()), ()) = some ((v, is, ()), ()) ∧ v.length ≤ n := by
  simp only [F30, F47_eq l name hl hn (fun f h => Nat.le_trans (hf f h).1 hm), Option.bind_some]
  cases ha : alls l name with
  | nil => exact ⟨[], false, rfl, Nat.zero_le _⟩
  | cons x r =>
    obtain ⟨f, h1, h2⟩ := alls_mem (l := l) (name := name) (x := x) (by rw [ha]; simp)
    refine ⟨x, true, ?_, by rw [h2]; exact (hf f h1).2⟩
    have e1 : decide (((List.length (x :: r) : Nat) : Int) = 0) = false := by simp; omega
    have e2 : decide ((0 : Int) < ((List.length (x :: r) : Nat) : Int)) = true := by simp
    simp only [e1, e2, cond_false, cond_true, List.getD_cons_zero]

end Go.Mi

namespace Go.Mi
open Go Go.Ev
set_option maxRecDepth 100000

theorem dec_ok (s : List UInt8) (pos : Nat) (h : pos < s.length) : 1 ≤ (Utf8.decode ⟨s.toArray⟩ pos).2 ∧ pos + (Utf8.decode ⟨s.toArray⟩ pos).2 ≤ s.length := by
  have e : Utf8.decode ⟨s.toArray⟩ pos = Lib.decodeL (s.drop pos) := by rw [← Lib.decodeL_drop]
  have h1 := Lib.decodeL_width (s.drop pos)
  have h2 := Lib.decodeL_le (s.drop pos) (fun h0 => by
    have := congrArg List.length h0
    rw [List.length_drop] at this
    simp at this
    omega)
  rw [List.length_drop] at h2
  rw [e]
  omega

theorem F63_ok (s : List UInt8) (a : Nat) (hs : s.length ≤ 1100000) (ha : a ≤ s.length) : ∃ n, F63 ((s, (a : Int), ()), ()) = some (n, ()) := by
  have e1 : (decide ((0 : Int) ≤ (a : Int)) && decide ((a : Int) ≤ (s.length : Int)) && decide ((s.length : Int) ≤ (s.length : Int))) = true := by
    simp; omega
  obtain ⟨r, h1, h2⟩ := loop_ind (f := B63_0) (I := fun p => ∃ (t : List UInt8) (pos : Nat), p = ((s, (a : Int), (), ()), ((t, pos), ())) ∧ pos ≤ t.length) (μ := fun p => p.2.1.1.length - p.2.1.2) (Q := fun r => (r = .inl ((s, (a : Int), ()), ())) ∨ ∃ n, r = .inr ((n, ()), ()))
    (step := fun p hp => by
      obtain ⟨t, pos, rfl, h⟩ := hp
      by_cases hlt : pos < t.length
      · by_cases h0 : 0 < pos
        · refine .inr ⟨.inr (((pos : Int), ()), ()), ?_, .inr ⟨_, rfl⟩⟩
          have : decide ((0 : Int) < (pos : Int)) = true := by simpa using h0
          simp only [B63_0, decide_eq_true hlt, cond_true, this]
        · obtain ⟨d1, d2⟩ := dec_ok t pos hlt
          refine .inl ⟨((s, (a : Int), (), ()), ((t, pos + (Utf8.decode ⟨t.toArray⟩ pos).2), ())), ?_, ⟨t, _, rfl, d2⟩, ?_⟩
          · have : decide ((0 : Int) < (pos : Int)) = false := by simpa using h0
            simp only [B63_0, decide_eq_true hlt, cond_true, cond_false, this]
          · show t.length - (pos + (Utf8.decode ⟨t.toArray⟩ pos).2) < t.length - pos
            omega
      · refine .inr ⟨.inl ((s, (a : Int), ()), ()), ?_, .inl rfl⟩
        simp only [B63_0, decide_eq_false hlt, cond_false])
    (p := ((s, (a : Int), (), ()), (((List.take ((Int.toNat ((List.length s : Nat) : Int)) - (Int.toNat (a : Int))) (List.drop (Int.toNat (a : Int)) s)), 0), ()))) ⟨_, 0, rfl, Nat.zero_le _⟩ (by
      have := FUEL_big
      show (List.take _ _).length - 0 < FUEL
      have : (List.take ((Int.toNat ((List.length s : Nat) : Int)) - (Int.toNat (a : Int))) (List.drop (Int.toNat (a : Int)) s)).length ≤ s.length := by simp
      omega)
  have h1' : L63_0 ((s, (a : Int), (), ()), (((List.take ((Int.toNat ((List.length s : Nat) : Int)) - (Int.toNat (a : Int))) (List.drop (Int.toNat (a : Int)) s)), 0), ())) = some r := h1
  simp only [F63, e1, cond_true, h1', Option.bind_some]
  rcases h2 with rfl | ⟨n, rfl⟩
  · exact ⟨_, rfl⟩
  · exact ⟨_, rfl⟩

/-- one letter of a text between signs -/
theorem step38 (s : List UInt8) (place : Int) (sign : Bool) (out : List UInt8) (pos : Nat) (hs : s.length ≤ 1100000) (hpos : pos < s.length) (hp : 0 ≤ place) (hp2 : place ≤ pos) (ho : out.length ≤ 4 * pos) :
    ∃ r, B38_0 ((s, (), place, sign, (), ()), (out, (s, pos), ())) = some r ∧
      ((∃ place' sign' out', r = .inl ((s, (), place', sign', (), ()), (out', (s, pos + (Utf8.decode ⟨s.toArray⟩ pos).2), ())) ∧ 0 ≤ place' ∧ place' ≤ place + 1 ∧ out'.length ≤ out.length + 4) ∨
        ∃ v k e, r = .inr (.inr ((v, k, e, ()), ())) ∧ v.length ≤ out.length ∧ (e = 0 → k = (pos : Int) + 1)) := by
  obtain ⟨n, hn⟩ := F63_ok s pos hs (Nat.le_of_lt hpos)
  have hw : w64 (place + 1) = place + 1 := w64_id (by omega) (by omega)
  have hw2 : w64 ((pos : Int) + 1) = (pos : Int) + 1 := w64_id (by omega) (by omega)
  generalize hd : Utf8.decode ⟨s.toArray⟩ pos = d
  have hB : ∀ b : ByteArray, b.size ≤ 4 → (ByteArray.data b).toList.length ≤ 4 := fun b h => by
    rw [Array.length_toList]
    exact h
  have hel := hB _ (encode_size_le (d.1 : Int))
  have hby : bytesOK (out.length + (ByteArray.data (Utf8.encode (d.1 : Int))).toList.length) 1 = true := decide_eq_true (by omega)
  unfold B38_0
  simp only [decide_eq_true hpos, cond_true, hd, hn, Option.bind_some, F62]
  generalize (decide ((32 : Int) ≤ (d.1 : Int)) && !decide ((d.1 : Int) = 127) && (!decide ((d.1 : Int) = 65533) || decide (n = 3))) = pl
  cases b0 : decide (place = 0) <;> cases b1 : decide ((d.1 : Int) = 34) <;> cases b2 : decide ((d.1 : Int) = 92) <;> cases sign <;> cases pl <;> cases b5 : decide ((1024 : Int) < (out.length : Int))
  all_goals
    simp only [Bool.and_true, Bool.and_false, Bool.true_and, Bool.false_and, Bool.not_true, Bool.not_false, cond_true, cond_false, Option.bind_some, hby, Bool.and_self, b0, b1, b2, b5, hw, hw2]
  all_goals
    first
    | (refine ⟨_, by with_reducible rfl, .inl ⟨_, _, _, by with_reducible rfl, ?_, ?_, ?_⟩⟩ <;> first | omega | (rw [List.length_append]; omega))
    | (refine ⟨_, by with_reducible rfl, .inr ⟨_, _, _, by with_reducible rfl, ?_, fun h => ?_⟩⟩ <;> first | exact Nat.le_refl _ | exact Nat.zero_le _ | with_reducible rfl | exact absurd h (by decide))

/-- text.Unquote -/
theorem F38_ok (s : List UInt8) (hs : s.length ≤ 1100000) : ∃ v k e, F38 ((s, ()), ()) = some ((v, k, e, ()), ()) ∧ v.length ≤ 4 * s.length ∧ (e = 0 → 0 ≤ k ∧ k ≤ s.length) := by
  obtain ⟨r, h1, h2⟩ := loop_ind (f := B38_0)
    (I := fun p => ∃ place sign out pos, p = ((s, (), place, sign, (), ()), (out, (s, pos), ())) ∧ pos ≤ s.length ∧ 0 ≤ place ∧ place ≤ (pos : Int) ∧ out.length ≤ 4 * pos)
    (μ := fun p => s.length - p.2.2.1.2)
    (Q := fun r => (∃ k, r = .inl ((k, ()), ())) ∨ ∃ v k e, r = .inr ((v, k, e, ()), ()) ∧ v.length ≤ 4 * s.length ∧ (e = 0 → 0 ≤ k ∧ k ≤ s.length))
    (step := fun p hp => by
      obtain ⟨place, sign, out, pos, rfl, g1, g2, g3, g4⟩ := hp
      by_cases hlt : pos < s.length
      · obtain ⟨d1, d2⟩ := dec_ok s pos hlt
        obtain ⟨r, q1, q2⟩ := step38 s place sign out pos hs hlt g2 g3 g4
        rcases q2 with ⟨place', sign', out', rfl, q3, q4, q5⟩ | ⟨v, k, e, rfl, q3, q4⟩
        · refine .inl ⟨_, q1, ⟨place', sign', out', _, rfl, d2, q3, by omega, by omega⟩, ?_⟩
          show s.length - (pos + (Utf8.decode ⟨s.toArray⟩ pos).2) < s.length - pos
          omega
        · exact .inr ⟨_, q1, .inr ⟨v, k, e, rfl, by omega, fun h => by have := q4 h; omega⟩⟩
      · refine .inr ⟨.inl ((place, ()), ()), ?_, .inl ⟨_, rfl⟩⟩
        simp only [B38_0, decide_eq_false hlt, cond_false])
    (p := ((s, (), (0:Int), false, (), ()), (([]:List UInt8), (s, 0), ()))) ⟨0, false, [], 0, rfl, Nat.zero_le _, by omega, by omega, by simp⟩ (by
      have := FUEL_big
      show s.length - 0 < FUEL
      omega)
  have h1' : L38_0 ((s, (), (0:Int), false, (), ()), (([]:List UInt8), (s, 0), ())) = some r := h1
  simp only [F38, h1', Option.bind_some]
  rcases h2 with ⟨k, rfl⟩ | ⟨v, k, e, rfl, g1, g2⟩
  · exact ⟨[], k, 3, rfl, Nat.zero_le _, fun h => absurd h (by decide)⟩
  · exact ⟨v, k, e, rfl, g1, g2⟩

/-- mime.token -/
theorem F20_ok (s : List UInt8) (hs : s.length ≤ 8000000) : ∃ n : Nat, F20 ((s, ()), ()) = some ((n : Int), ()) ∧ n ≤ s.length := by
  obtain ⟨r, h1, h2⟩ := loop_ind (f := B20_0)
    (I := fun p => ∃ i : Nat, p = ((s, (s.length : Int), (i : Int), ()), ()) ∧ i ≤ s.length)
    (μ := fun p => s.length - p.1.2.2.1.toNat)
    (Q := fun r => (r = .inl ((s, ()), ())) ∨ ∃ i : Nat, r = .inr (((i : Int), ()), ()) ∧ i ≤ s.length)
    (step := fun p hp => by
      obtain ⟨i, rfl, g⟩ := hp
      by_cases hlt : i < s.length
      · have hw := w64_nat (show i < 9223372036854775807 by omega)
        have e : ∃ b : Bool, B20_0 ((s, (s.length : Int), (i : Int), ()), ()) = some (cond b (.inr (.inr (((i : Int), ()), ()))) (.inl ((s, (s.length : Int), ((i + 1 : Nat) : Int), ()), ()))) := by
          unfold B20_0
          simp only [nat_lt, nat_nn, hlt, decide_true, Bool.and_self, cond_true, Bool.true_or, hw, Int.toNat_natCast]
          generalize (decide (UInt8.toNat (List.getD s i 0) < UInt8.toNat 33) || decide (UInt8.toNat 126 < UInt8.toNat (List.getD s i 0))) = b1
          generalize decide ((0:Int) ≤ Lib.indexByte ([40, 41, 60, 62, 64, 44, 59, 58, 92, 34, 47, 91, 93, 63, 61]:List UInt8) (List.getD s i 0)) = b2
          cases b1 <;> cases b2
          · exact ⟨false, rfl⟩
          · exact ⟨true, rfl⟩
          · exact ⟨true, rfl⟩
          · exact ⟨true, rfl⟩
        obtain ⟨b, e⟩ := e
        cases b
        · refine .inl ⟨_, e, ⟨i + 1, rfl, hlt⟩, ?_⟩
          show s.length - ((i + 1 : Nat) : Int).toNat < s.length - (i : Int).toNat
          omega
        · exact .inr ⟨_, e, .inr ⟨i, rfl, g⟩⟩
      · refine .inr ⟨.inl ((s, ()), ()), ?_, .inl rfl⟩
        simp only [B20_0, nat_lt, hlt, decide_false, cond_false])
    (p := ((s, (s.length : Int), (0 : Int), ()), ())) ⟨0, rfl, Nat.zero_le _⟩ (by
      have := FUEL_big
      show s.length - (0 : Int).toNat < FUEL
      omega)
  have h1' : L20_0 ((s, (s.length : Int), (0:Int), ()), ()) = some r := h1
  simp only [F20, h1', Option.bind_some]
  rcases h2 with rfl | ⟨i, rfl, g⟩
  · exact ⟨s.length, rfl, Nat.le_refl _⟩
  · exact ⟨i, rfl, g⟩

end Go.Mi

namespace Go.Mi
open Go Go.Ev
set_option maxRecDepth 100000

theorem drop_one (s : List UInt8) : List.take ((s.length : Int).toNat - 1) (List.drop 1 s) = s.drop 1 := by
  rw [List.take_of_length_le (by simp)]

theorem pre_pos {s : List UInt8} {c : UInt8} (h : Lib.hasPrefix s [c] = true) : 1 ≤ s.length := by
  cases s with
  | nil => simp [Lib.hasPrefix] at h
  | cons a t => simp

theorem nn (n : Nat) : decide ((0 : Int) ≤ (n : Int)) = true := decide_eq_true (by omega)
theorem le_len {n : Nat} {s : List UInt8} (h : n ≤ s.length) : decide ((n : Int) ≤ (s.length : Int)) = true := decide_eq_true (by omega)

/-- mime.param -/
theorem F23_ok (s : List UInt8) (hs : s.length ≤ 1100000) : ∃ a b r is, F23 ((s, ()), ()) = some (((a, b, ()), r, is, ()), ()) ∧ r.length ≤ s.length ∧ a.length ≤ s.length ∧ b.length ≤ 4 * s.length := by
  have hm : maxLen = 9223372036854775807 := rfl
  obtain ⟨n, h1, h2⟩ := F20_ok s (by omega)
  have h3 := F22_eq (s.take n) (by rw [List.length_take]; omega)
  have ha : ((s.take n).map lowc).length ≤ s.length := by rw [List.length_map, List.length_take]; omega
  unfold F23
  simp only [h1, Option.bind_some, nn, le_len h2, le_len (Nat.le_refl _), Bool.and_true, cond_true, Int.toNat_natCast, h3]
  have e0 : List.take (s.length - n) (List.drop n s) = s.drop n := List.take_of_length_le (by simp)
  simp only [e0]
  have ht : (s.drop n).length ≤ s.length := by simp
  generalize s.drop n = t at ht ⊢
  generalize (s.take n).map lowc = a at ha ⊢
  cases hn : decide ((n : Int) = 0)
  · cases hp : Lib.hasPrefix t [61]
    · simp only [Bool.not_false, Bool.not_true, cond_true, cond_false, Option.bind_some, hp]
      exact ⟨_, _, _, _, rfl, ht, Nat.zero_le _, Nat.zero_le _⟩
    · have hl := pre_pos hp
      have e1 : decide ((1 : Int) ≤ (t.length : Int)) = true := decide_eq_true (by omega)
      have e2 : List.take (t.length - 1) (List.drop 1 t) = t.drop 1 := List.take_of_length_le (by simp)
      simp only [Bool.not_false, Bool.not_true, cond_true, cond_false, Option.bind_some, hp, e1, le_len (Nat.le_refl _), Bool.and_true, Int.toNat_natCast, e2]
      have hu : (t.drop 1).length ≤ s.length := by simp; omega
      generalize t.drop 1 = u at hu ⊢
      cases hq : Lib.hasPrefix u [34]
      · obtain ⟨m, k1, k2⟩ := F20_ok u (by omega)
        have e3 : List.take (u.length - m) (List.drop m u) = u.drop m := List.take_of_length_le (by simp)
        simp only [cond_false, cond_true, Option.bind_some, k1, nn, le_len k2, le_len (Nat.le_refl _), Bool.and_true, Int.toNat_natCast, e3]
        exact ⟨_, _, _, _, rfl, by simp; omega, ha, by rw [List.length_take]; omega⟩
      · obtain ⟨v, k, e, k1, k2, k3⟩ := F38_ok u (by omega)
        simp only [cond_false, cond_true, Option.bind_some, k1]
        cases he : decide (e = 0)
        · simp only [Bool.not_false, cond_true]
          exact ⟨_, _, _, _, rfl, hu, Nat.zero_le _, Nat.zero_le _⟩
        · obtain ⟨k4, k5⟩ := k3 (of_decide_eq_true he)
          simp only [Bool.not_true, cond_false, decide_eq_true k4, decide_eq_true k5, le_len (Nat.le_refl _), Bool.and_true, cond_true]
          exact ⟨_, _, _, _, rfl, by simp; omega, ha, by omega⟩
  · simp only [Bool.not_true, cond_true, cond_false, Option.bind_some]
    exact ⟨_, _, _, _, rfl, ht, Nat.zero_le _, Nat.zero_le _⟩

theorem F19_eq (s : List UInt8) (hs : s.length ≤ 9000000) : F19 ((s, ()), ()) = some (trm s, ()) := by
  have e : decide (s.length ≤ 9223372036854775807) = true := decide_eq_true (by omega)
  simp only [F19, e, Bool.and_true, cond_true, trimS_eq]

/-- the parameters of a kind -/
theorem L10_ok (kind : List UInt8) (N : Nat) (hN : N ≤ 1100000) (s : List UInt8) (hs : s.length ≤ N) : ∃ r, L10_0 ((s, kind, (), ()), ([], ())) = some r ∧
    ((∃ P, r = .inl ((kind, (), ()), (P, ())) ∧ P.length ≤ N ∧ ∀ x ∈ P, x.2.1.length ≤ 4 * N) ∨ r = .inr (((), (), (), ()), ([], ()))) := by
  have h := loop_ind (f := B10_0)
    (I := fun p => ∃ (s : List UInt8) (P : List (List UInt8 × (List UInt8 × Unit))), p = ((s, kind, (), ()), (P, ())) ∧ P.length + s.length ≤ N ∧ ∀ x ∈ P, x.2.1.length ≤ 4 * N)
    (μ := fun p => p.1.1.length)
    (Q := fun r => (∃ P, r = .inl ((kind, (), ()), (P, ())) ∧ P.length ≤ N ∧ ∀ x ∈ P, x.2.1.length ≤ 4 * N) ∨ r = .inr (((), (), (), ()), ([], ())))
    (step := fun p hp => by
      obtain ⟨s, P, rfl, g1, g2⟩ := hp
      cases s with
      | nil => exact .inr ⟨.inl ((kind, (), ()), (P, ())), rfl, .inl ⟨P, rfl, by simpa using g1, g2⟩⟩
      | cons c t =>
        simp only [List.length_cons] at g1
        have e0 : decide ((c :: t) = ([] : List UInt8)) = false := decide_eq_false (by simp)
        have e1 : decide ((0 : Int) < ((c :: t).length : Int)) = true := decide_eq_true (by simp)
        have e2 : decide ((1 : Int) ≤ ((c :: t).length : Int)) = true := decide_eq_true (by simp only [List.length_cons]; omega)
        have e3 : List.take ((c :: t).length - 1) (List.drop 1 (c :: t)) = t := by simp
        cases hc : decide (c = 59)
        · refine .inr ⟨.inr (((), (), (), ()), ([], ())), ?_, .inr rfl⟩
          simp only [B10_0, e0, e1, Bool.not_false, cond_true, List.getD_cons_zero, hc]
        · have hl := trm_le t
          obtain ⟨a, b, r, is, k1, k2, k3, k4⟩ := F23_ok (trm t) (by omega)
          have hF : F19 ((t, ()), ()) = some (trm t, ()) := F19_eq t (by omega)
          have hF2 : F19 ((r, ()), ()) = some (trm r, ()) := F19_eq r (by omega)
          have hr := trm_le r
          cases is
          · refine .inr ⟨.inr (((), (), (), ()), ([], ())), ?_, .inr rfl⟩
            simp only [B10_0, e0, e1, e2, e3, Bool.not_false, Bool.not_true, cond_true, cond_false, List.getD_cons_zero, hc, le_len (Nat.le_refl _), Bool.and_true, Int.toNat_natCast, hF, Option.bind_some, k1]
          · have hby : bytesOK (P.length + (List.length ([(a, (b, ()))] : List (List UInt8 × (List UInt8 × Unit))))) 32 = true := decide_eq_true (by simp; omega)
            refine .inl ⟨((trm r, kind, (), ()), (P ++ [(a, (b, ()))], ())), ?_, ⟨trm r, _, rfl, by rw [List.length_append, List.length_singleton]; omega, fun x hx => ?_⟩, ?_⟩
            · simp only [B10_0, e0, e1, e2, e3, Bool.not_false, Bool.not_true, cond_true, cond_false, List.getD_cons_zero, hc, le_len (Nat.le_refl _), Bool.and_true, Int.toNat_natCast, hF, Option.bind_some, k1, hby, hF2]
            · rcases List.mem_append.1 hx with hx | hx
              · exact g2 x hx
              · rw [List.mem_singleton] at hx
                subst hx
                show b.length ≤ 4 * N
                omega
            · show (trm r).length < (c :: t).length
              simp only [List.length_cons]
              omega)
    (p := ((s, kind, (), ()), ([], ()))) ⟨s, [], rfl, by simpa using hs, by simp⟩ (by
      have := FUEL_big
      show s.length < FUEL
      omega)
  exact h

/-- mime.Kind -/
theorem F10_ok (v : List UInt8) (N : Nat) (hN : N ≤ 1100000) (hv : v.length ≤ N) : ∃ k e P, F10 ((v, ()), ()) = some ((k, (), e, ()), (P, ())) ∧ P.length ≤ N ∧ ∀ x ∈ P, x.2.1.length ≤ 4 * N := by
  have hm : maxLen = 9223372036854775807 := rfl
  have hl := trm_le v
  have hF : F19 ((v, ()), ()) = some (trm v, ()) := F19_eq v (by omega)
  unfold F10
  simp only [hF, Option.bind_some]
  generalize trm v = s at hl ⊢
  obtain ⟨n, h1, h2⟩ := F20_ok s (by omega)
  have e0 : List.take (s.length - n) (List.drop n s) = s.drop n := List.take_of_length_le (by simp)
  simp only [h1, Option.bind_some, nn, le_len h2, le_len (Nat.le_refl _), Bool.and_true, cond_true, Int.toNat_natCast, e0]
  have ht : (s.drop n).length = s.length - n := by simp
  generalize s.drop n = t at ht ⊢
  cases hn : decide ((n : Int) = 0)
  · cases hp : Lib.hasPrefix t [47]
    · simp only [Bool.not_false, Bool.not_true, cond_true, cond_false, Option.bind_some, hp]
      exact ⟨_, _, _, rfl, Nat.zero_le _, by simp⟩
    · have hl1 := pre_pos hp
      have e1 : decide ((1 : Int) ≤ (t.length : Int)) = true := decide_eq_true (by omega)
      have e2 : List.take (t.length - 1) (List.drop 1 t) = t.drop 1 := List.take_of_length_le (by simp)
      have hd : (t.drop 1).length = t.length - 1 := by simp
      obtain ⟨m, k1, k2⟩ := F20_ok (t.drop 1) (by omega)
      simp only [Bool.not_false, Bool.not_true, cond_true, cond_false, Option.bind_some, hp, e1, le_len (Nat.le_refl _), Bool.and_true, Int.toNat_natCast, e2, k1]
      cases hz : decide ((m : Int) = 0)
      · have w1 : w64 (w64 ((n : Int) + 1) + (m : Int)) = ((n + 1 + m : Nat) : Int) := by
          rw [w64_nat (by omega), w64_id (by omega) (by omega)]; omega
        have w2 : w64 (1 + (m : Int)) = ((1 + m : Nat) : Int) := by
          rw [w64_id (by omega) (by omega)]; omega
        have h3 := F22_eq (s.take (n + 1 + m)) (by rw [List.length_take]; omega)
        have e5 : List.take (t.length - (1 + m)) (List.drop (1 + m) t) = t.drop (1 + m) := List.take_of_length_le (by simp)
        have hF3 : F19 ((t.drop (1 + m), ()), ()) = some (trm (t.drop (1 + m)), ()) := F19_eq _ (by simp; omega)
        have hl3 := trm_le (t.drop (1 + m))
        rw [List.length_drop] at hl3
        obtain ⟨r, q1, q2⟩ := L10_ok ((s.take (n + 1 + m)).map lowc) N (by omega) (trm (t.drop (1 + m))) (by omega)
        simp only [cond_false, cond_true, w1, w2, nn, le_len (show n + 1 + m ≤ s.length by omega), le_len (show 1 + m ≤ t.length by omega), le_len (Nat.le_refl _), Bool.and_true, Int.toNat_natCast, h3, Option.bind_some, e5, hF3, q1]
        rcases q2 with ⟨P, rfl, p1, p2⟩ | rfl
        · cases h8 : decide ((8 : Int) < (P.length : Int))
          · simp only [Option.bind_some, h8, cond_false]
            exact ⟨_, _, _, rfl, p1, p2⟩
          · simp only [Option.bind_some, h8, cond_true]
            exact ⟨_, _, _, rfl, Nat.zero_le _, by simp⟩
        · simp only [Option.bind_some]
          exact ⟨_, _, _, rfl, Nat.zero_le _, by simp⟩
      · simp only [cond_true]
        exact ⟨_, _, _, rfl, Nat.zero_le _, by simp⟩
  · simp only [Bool.not_true, cond_true, cond_false, Option.bind_some]
    exact ⟨_, _, _, rfl, Nat.zero_le _, by simp⟩

end Go.Mi

namespace Go.Mi
open Go Go.Ev
set_option maxRecDepth 100000

abbrev Par := List (List UInt8 × (List UInt8 × Unit))

theorem F48_ok (P : Par) (hP : P.length ≤ 2000000) : ∃ n : Int, F48c49 ((P, (), ()), ()) = some (n, ()) ∧ (n < 0 ∨ (0 ≤ n ∧ n < P.length)) := by
  obtain ⟨r, h1, h2⟩ := loop_ind (f := B48c49_0)
    (I := fun p => ∃ i : Nat, p = ((P, (), (P.length : Int), (i : Int), ()), ()) ∧ i ≤ P.length)
    (μ := fun p => P.length - p.1.2.2.2.1.toNat)
    (Q := fun r => (r = .inl ((), ())) ∨ ∃ i : Nat, r = .inr (((i : Int), ()), ()) ∧ i < P.length)
    (step := fun p hp => by
      obtain ⟨i, rfl, g⟩ := hp
      by_cases hlt : i < P.length
      · have hw := w64_nat (show i < 9223372036854775807 by omega)
        have e : ∃ b : Bool, B48c49_0 ((P, (), (P.length : Int), (i : Int), ()), ()) = some (cond b (.inr (.inr (((i : Int), ()), ()))) (.inl ((P, (), (P.length : Int), ((i + 1 : Nat) : Int), ()), ()))) := by
          unfold B48c49_0
          simp only [nat_lt, nat_nn, hlt, decide_true, Bool.and_self, cond_true, hw, Int.toNat_natCast]
          generalize decide ((List.getD P i (([]:List UInt8), (([]:List UInt8), ()))).1 = ([98, 111, 117, 110, 100, 97, 114, 121]:List UInt8)) = b1
          cases b1
          · exact ⟨false, rfl⟩
          · exact ⟨true, rfl⟩
        obtain ⟨b, e⟩ := e
        cases b
        · refine .inl ⟨_, e, ⟨i + 1, rfl, hlt⟩, ?_⟩
          show P.length - ((i + 1 : Nat) : Int).toNat < P.length - (i : Int).toNat
          omega
        · exact .inr ⟨_, e, .inr ⟨i, rfl, hlt⟩⟩
      · refine .inr ⟨.inl ((), ()), ?_, .inl rfl⟩
        simp only [B48c49_0, nat_lt, hlt, decide_false, cond_false])
    (p := ((P, (), (P.length : Int), (0 : Int), ()), ())) ⟨0, rfl, Nat.zero_le _⟩ (by
      have := FUEL_big
      show P.length - (0 : Int).toNat < FUEL
      omega)
  have h1' : L48c49_0 ((P, (), (P.length : Int), (0:Int), ()), ()) = some r := h1
  simp only [F48c49, h1', Option.bind_some]
  rcases h2 with rfl | ⟨i, rfl, g⟩
  · exact ⟨-1, rfl, .inl (by omega)⟩
  · exact ⟨i, rfl, .inr ⟨by omega, by omega⟩⟩

abbrev Pc := List UInt8 × Par × List Fld × Int × Int × Int × Int × Int × Int × Unit

theorem F31_ok (p : Pc) (hP : p.2.1.length ≤ 2000000) (hx : ∀ x ∈ p.2.1, x.2.1.length ≤ 8000000) : ∃ b, F31 ((p, ()), ()) = some (b, ()) ∧ b.length ≤ 70 ∧ (Lib.hasPrefix p.1 [109, 117, 108, 116, 105, 112, 97, 114, 116, 47] = false → b = []) := by
  obtain ⟨n, h1, h2⟩ := F48_ok p.2.1 hP
  unfold F31
  cases hk : Lib.hasPrefix p.1 [109, 117, 108, 116, 105, 112, 97, 114, 116, 47]
  · simp only [hk, Bool.not_false, cond_true]
    exact ⟨[], rfl, by simp, fun _ => rfl⟩
  · simp only [hk, Bool.not_true, cond_false, h1, Option.bind_some]
    cases hn : decide (n < 0)
    · have hn' : ¬ n < 0 := of_decide_eq_false hn
      obtain ⟨g1, g2⟩ := h2.resolve_left hn'
      have hm : (List.getD p.2.1 n.toNat (([]:List UInt8), (([]:List UInt8), ()))) ∈ p.2.1 := by
        rw [List.getD_eq_getElem?_getD, List.getElem?_eq_getElem (by omega)]
        exact List.getElem_mem _
      have hb := hx _ hm
      simp only [cond_false, cond_true, decide_eq_true g1, decide_eq_true g2, Bool.and_self, Option.bind_some]
      generalize (List.getD p.2.1 n.toNat (([]:List UInt8), (([]:List UInt8), ()))).2.1 = b at hb ⊢
      have e1 : decide (b.length ≤ 9223372036854775807) = true := decide_eq_true (by omega)
      cases ho : (decide (b = []) || decide ((70 : Int) < (b.length : Int)))
      · simp only [Bool.not_false, cond_true, e1, Bool.and_true, Option.bind_some]
        have hl : b.length ≤ 70 := by
          rw [Bool.or_eq_false_iff] at ho
          have := of_decide_eq_false ho.2
          omega
        cases ht : decide (Lib.trimRightS b [32, 9] = b)
        · simp only [Bool.not_false, cond_true]
          exact ⟨[], rfl, by simp, fun h => by cases h⟩
        · simp only [Bool.not_true, cond_false]
          exact ⟨b, rfl, hl, fun h => by cases h⟩
      · simp only [Bool.not_true, cond_false, cond_true, Option.bind_some]
        exact ⟨[], rfl, by simp, fun h => by cases h⟩
    · simp only [cond_true]
      exact ⟨[], rfl, by simp, fun h => by cases h⟩

end Go.Mi

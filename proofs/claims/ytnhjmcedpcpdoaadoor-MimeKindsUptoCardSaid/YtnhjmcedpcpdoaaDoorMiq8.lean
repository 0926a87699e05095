/- Kinds: what they are. -/
import Derived.Test.YtnhjmcedpcpdoaaDoorMiq1
namespace Go.Mi
open Go Go.Ev
set_option maxRecDepth 100000

def bads : List UInt8 := [40, 41, 60, 62, 64, 44, 59, 58, 92, 34, 47, 91, 93, 63, 61]
def tkc (c : UInt8) : Bool := (!(decide (c.toNat < 33) || decide (126 < c.toNat))) && !decide ((0:Int) ≤ Lib.indexByte bads c)
def tk (s : List UInt8) : Nat := (s.takeWhile tkc).length

theorem tk_le (s : List UInt8) : tk s ≤ s.length := (List.takeWhile_prefix _).length_le
theorem tk_cons (a : UInt8) (t : List UInt8) : tk (a :: t) = if tkc a = true then tk t + 1 else 0 := by
  unfold tk
  rw [List.takeWhile_cons]
  split <;> simp

theorem drop_get {s : List UInt8} {i : Nat} (h : i < s.length) : ∃ a, s.getD i 0 = a ∧ s.drop i = a :: s.drop (i + 1) := by
  refine ⟨s[i], ?_, List.drop_eq_getElem_cons h⟩
  rw [List.getD_eq_getElem?_getD, List.getElem?_eq_getElem h]; rfl

/-- mime.token -/
theorem F20_eq (s : List UInt8) (hs : s.length ≤ 8000000) : F20 ((s, ()), ()) = some ((tk s : Int), ()) := by
  obtain ⟨r, h1, h2⟩ := loop_ind (f := B20_0)
    (I := fun p => ∃ i : Nat, p = ((s, (s.length : Int), (i : Int), ()), ()) ∧ i ≤ s.length ∧ tk s = i + tk (s.drop i))
    (μ := fun p => s.length - p.1.2.2.1.toNat)
    (Q := fun r => (r = .inl ((s, ()), ()) ∧ tk s = s.length) ∨ r = .inr (((tk s : Int), ()), ()))
    (step := fun p hp => by
      obtain ⟨i, rfl, g, g2⟩ := hp
      by_cases hlt : i < s.length
      · have hw := w64_nat (show i < 9223372036854775807 by omega)
        obtain ⟨a, ha, hd⟩ := drop_get hlt
        rw [hd, tk_cons] at g2
        have e : B20_0 ((s, (s.length : Int), (i : Int), ()), ()) = some (cond (tkc a) (.inl ((s, (s.length : Int), ((i + 1 : Nat) : Int), ()), ())) (.inr (.inr (((i : Int), ()), ())))) := by
          unfold B20_0 tkc bads
          simp only [nat_lt, nat_nn, hlt, decide_true, Bool.and_self, cond_true, Bool.true_or, hw, Int.toNat_natCast, ha, show UInt8.toNat 33 = 33 from rfl, show UInt8.toNat 126 = 126 from rfl]
          generalize (decide (UInt8.toNat a < 33) || decide (126 < UInt8.toNat a)) = b1
          generalize decide ((0:Int) ≤ Lib.indexByte ([40, 41, 60, 62, 64, 44, 59, 58, 92, 34, 47, 91, 93, 63, 61]:List UInt8) a) = b2
          cases b1 <;> cases b2 <;> rfl
        cases hk : tkc a
        · rw [hk] at e g2
          refine .inr ⟨_, e, .inr ?_⟩
          simp only [Bool.false_eq_true, if_false, Nat.add_zero] at g2
          rw [g2]
        · rw [hk] at e g2
          refine .inl ⟨_, e, ⟨i + 1, rfl, hlt, ?_⟩, ?_⟩
          · simp only [if_true] at g2
            omega
          · show s.length - ((i + 1 : Nat) : Int).toNat < s.length - (i : Int).toNat
            omega
      · refine .inr ⟨.inl ((s, ()), ()), ?_, .inl ⟨rfl, ?_⟩⟩
        · simp only [B20_0, nat_lt, hlt, decide_false, cond_false]
        · rw [List.drop_eq_nil_of_le (by omega)] at g2
          have : tk [] = 0 := rfl
          omega)
    (p := ((s, (s.length : Int), (0 : Int), ()), ())) ⟨0, rfl, Nat.zero_le _, by simp⟩ (by
      have := FUEL_big
      show s.length - (0 : Int).toNat < FUEL
      omega)
  have h1' : L20_0 ((s, (s.length : Int), (0:Int), ()), ()) = some r := h1
  simp only [F20, h1', Option.bind_some]
  rcases h2 with ⟨rfl, g⟩ | rfl
  · rw [g]; rfl
  · rfl

theorem F63_eq (s : List UInt8) (a : Nat) (hs : s.length ≤ 1100000) (ha : a < s.length) : F63 ((s, (a : Int), ()), ()) = some (((Lib.decodeL (s.drop a)).2 : Int), ()) := by
  have e1 : (decide ((0 : Int) ≤ (a : Int)) && decide ((a : Int) ≤ (s.length : Int)) && decide ((s.length : Int) ≤ (s.length : Int))) = true := by
    simp; omega
  have ht : List.take ((Int.toNat ((List.length s : Nat) : Int)) - (Int.toNat (a : Int))) (List.drop (Int.toNat (a : Int)) s) = s.drop a := List.take_of_length_le (by simp)
  have hl : (s.drop a).length = s.length - a := by simp
  have hne : s.drop a ≠ [] := fun h => by rw [h] at hl; simp at hl; omega
  have hw := Lib.decodeL_width (s.drop a)
  have hle := Lib.decodeL_le (s.drop a) hne
  simp only [F63, e1, cond_true, ht]
  generalize s.drop a = t at hl hne hw hle
  obtain ⟨r, h1, h2⟩ := loop_ind (f := B63_0) (I := fun p => ∃ pos : Nat, p = ((s, (a : Int), (), ()), ((t, pos), ())) ∧ (pos = 0 ∨ pos = (Lib.decodeL t).2)) (μ := fun p => t.length - p.2.1.2) (Q := fun r => (r = .inl ((s, (a : Int), ()), ()) ∧ (Lib.decodeL t).2 = t.length) ∨ r = .inr ((((Lib.decodeL t).2 : Int), ()), ()))
    (step := fun p hp => by
      obtain ⟨pos, rfl, h⟩ := hp
      rcases h with rfl | rfl
      · have hlt : 0 < t.length := by omega
        refine .inl ⟨((s, (a : Int), (), ()), ((t, 0 + (Utf8.decode ⟨t.toArray⟩ 0).2), ())), ?_, ⟨_, rfl, .inr (Nat.zero_add _)⟩, ?_⟩
        · have : decide ((0 : Int) < ((0 : Nat) : Int)) = false := rfl
          simp only [B63_0, decide_eq_true hlt, cond_true, cond_false, this]
        · show t.length - (0 + (Lib.decodeL t).2) < t.length - 0
          omega
      · by_cases hlt : (Lib.decodeL t).2 < t.length
        · refine .inr ⟨_, ?_, .inr rfl⟩
          have : decide ((0 : Int) < ((Lib.decodeL t).2 : Int)) = true := decide_eq_true (by omega)
          simp only [B63_0, decide_eq_true hlt, cond_true, this]
        · refine .inr ⟨.inl ((s, (a : Int), ()), ()), ?_, .inl ⟨rfl, by omega⟩⟩
          simp only [B63_0, decide_eq_false hlt, cond_false])
    (p := ((s, (a : Int), (), ()), ((t, 0), ()))) ⟨0, rfl, .inl rfl⟩ (by
      have := FUEL_big
      show t.length - 0 < FUEL
      omega)
  have h1' : L63_0 ((s, (a : Int), (), ()), ((t, 0), ())) = some r := h1
  simp only [h1', Option.bind_some]
  rcases h2 with ⟨rfl, g⟩ | rfl
  · have w : w64 ((s.length : Int) - (a : Int)) = ((Lib.decodeL t).2 : Int) := by
      rw [w64_id (by omega) (by omega)]; omega
    show some (w64 ((s.length : Int) - (a : Int)), ()) = _
    rw [w]
  · rfl

def pln (c w : Nat) : Bool := ((decide ((32:Int) ≤ (c : Int))) && (!(decide ((c : Int) = (127:Int))))) && ((!(decide ((c : Int) = (65533:Int)))) || (decide ((w : Int) = (3:Int))))
def enc (c : Nat) : List UInt8 := (ByteArray.data (Go.Utf8.encode (c : Int))).toList

/-- what a text quotes: from a place on -/
def uq : Nat → List UInt8 → Int → Bool → List UInt8 → Nat → List UInt8 × Int × Int
  | 0, _, place, _, _, _ => ([], place, 3)
  | k + 1, r, place, sign, out, pos =>
    if r = [] then ([], place, 3)
    else if ((decide (place = 0) && !decide (((Lib.decodeL r).1 : Int) = 34)) || ((sign && !decide (((Lib.decodeL r).1 : Int) = 34)) && !decide (((Lib.decodeL r).1 : Int) = 92))) || !pln (Lib.decodeL r).1 (Lib.decodeL r).2 then ([], place, 4)
    else if place = 0 then uq k (r.drop (Lib.decodeL r).2) (place + 1) sign out (pos + (Lib.decodeL r).2)
    else if !sign && decide (((Lib.decodeL r).1 : Int) = 92) then uq k (r.drop (Lib.decodeL r).2) (place + 1) true out (pos + (Lib.decodeL r).2)
    else if !sign && decide (((Lib.decodeL r).1 : Int) = 34) then if 1024 < out.length then ([], 0, 6) else (out, (pos : Int) + 1, 0)
    else uq k (r.drop (Lib.decodeL r).2) (place + 1) false (out ++ enc (Lib.decodeL r).1) (pos + (Lib.decodeL r).2)

def unq (s : List UInt8) : List UInt8 × Int × Int := uq s.length s 0 false [] 0

theorem step38v (s : List UInt8) (place : Int) (sign : Bool) (out : List UInt8) (pos k : Nat) (hs : s.length ≤ 1100000) (hpos : pos < s.length) (hp : 0 ≤ place) (hp2 : place ≤ pos) (ho : out.length ≤ 4 * pos) :
    ∃ r, B38_0 ((s, (), place, sign, (), ()), (out, (s, pos), ())) = some r ∧
      ((∃ place' sign' out', r = .inl ((s, (), place', sign', (), ()), (out', (s, pos + (Lib.decodeL (s.drop pos)).2), ())) ∧ 0 ≤ place' ∧ place' ≤ place + 1 ∧ out'.length ≤ out.length + 4 ∧
          uq (k + 1) (s.drop pos) place sign out pos = uq k ((s.drop pos).drop (Lib.decodeL (s.drop pos)).2) place' sign' out' (pos + (Lib.decodeL (s.drop pos)).2)) ∨
        ∃ v k' e, r = .inr (.inr ((v, k', e, ()), ())) ∧ uq (k + 1) (s.drop pos) place sign out pos = (v, k', e)) := by
  have hn := F63_eq s pos hs hpos
  have hw : w64 (place + 1) = place + 1 := w64_id (by omega) (by omega)
  have hw2 : w64 ((pos : Int) + 1) = (pos : Int) + 1 := w64_id (by omega) (by omega)
  have hne : s.drop pos ≠ [] := fun h => by have := congrArg List.length h; simp at this; omega
  have hd0 : Utf8.decode ⟨s.toArray⟩ pos = Lib.decodeL (s.drop pos) := by rw [← Lib.decodeL_drop]
  rw [uq]
  generalize hd : Lib.decodeL (s.drop pos) = d at hn hd0
  have hB : ∀ b : ByteArray, b.size ≤ 4 → (ByteArray.data b).toList.length ≤ 4 := fun b h => by
    rw [Array.length_toList]
    exact h
  have hel := hB _ (encode_size_le (d.1 : Int))
  have hby : bytesOK (out.length + (ByteArray.data (Utf8.encode (d.1 : Int))).toList.length) 1 = true := decide_eq_true (by omega)
  unfold B38_0
  simp only [decide_eq_true hpos, cond_true, hd0, hn, Option.bind_some, F62, if_neg hne, enc]
  have hpl : (decide ((32 : Int) ≤ (d.1 : Int)) && !decide ((d.1 : Int) = 127) && (!decide ((d.1 : Int) = 65533) || decide ((d.2 : Int) = 3))) = pln d.1 d.2 := rfl
  simp only [hpl]
  generalize pln d.1 d.2 = pl
  have hz : (place = 0) = (decide (place = 0) = true) := (decide_eq_true_eq).symm
  have h1024 : ((1024 : Nat) < out.length) = (decide ((1024 : Int) < (out.length : Int)) = true) := by
    rw [decide_eq_true_eq]
    exact propext ⟨fun h => by omega, fun h => by omega⟩
  simp only [h1024]
  cases b0 : decide (place = 0)
  · have b0' : ¬ place = 0 := of_decide_eq_false b0
    simp only [if_neg b0']
    cases b1 : decide ((d.1 : Int) = 34) <;> cases b2 : decide ((d.1 : Int) = 92) <;> cases sign <;> cases pl <;> cases b5 : decide ((1024 : Int) < (out.length : Int))
    all_goals
      simp only [Bool.and_true, Bool.and_false, Bool.true_and, Bool.false_and, Bool.not_true, Bool.not_false, Bool.or_true, Bool.or_false, Bool.true_or, Bool.false_or, Bool.false_eq_true, if_true, if_false, cond_true, cond_false, Option.bind_some, hby, Bool.and_self, b0, b1, b2, b5, hw, hw2]
    all_goals
      first
      | (refine ⟨_, by with_reducible rfl, .inl ⟨_, _, _, by with_reducible rfl, ?_, ?_, ?_, by with_reducible rfl⟩⟩ <;> first | omega | (rw [List.length_append]; omega))
      | (refine ⟨_, by with_reducible rfl, .inr ⟨_, _, _, by with_reducible rfl, by with_reducible rfl⟩⟩)
  · have b0' : place = 0 := of_decide_eq_true b0
    simp only [if_pos b0']
    cases b1 : decide ((d.1 : Int) = 34) <;> cases b2 : decide ((d.1 : Int) = 92) <;> cases sign <;> cases pl
    all_goals
      simp only [Bool.and_true, Bool.and_false, Bool.true_and, Bool.false_and, Bool.not_true, Bool.not_false, Bool.or_true, Bool.or_false, Bool.true_or, Bool.false_or, Bool.false_eq_true, if_true, if_false, cond_true, cond_false, Option.bind_some, hby, Bool.and_self, b0, b1, b2, hw, hw2]
    all_goals
      first
      | (refine ⟨_, by with_reducible rfl, .inl ⟨_, _, _, by with_reducible rfl, ?_, ?_, ?_, by with_reducible rfl⟩⟩ <;> omega)
      | (refine ⟨_, by with_reducible rfl, .inr ⟨_, _, _, by with_reducible rfl, by with_reducible rfl⟩⟩)

theorem uq_nil (k : Nat) (place : Int) (sign : Bool) (out : List UInt8) (pos : Nat) : uq k [] place sign out pos = ([], place, 3) := by
  cases k with
  | zero => rfl
  | succ k => rw [uq, if_pos rfl]

/-- text.Unquote -/
theorem F38_eq (s : List UInt8) (hs : s.length ≤ 1100000) : F38 ((s, ()), ()) = some (((unq s).1, (unq s).2.1, (unq s).2.2, ()), ()) := by
  obtain ⟨r, h1, h2⟩ := loop_ind (f := B38_0)
    (I := fun p => ∃ place sign out pos k, p = ((s, (), place, sign, (), ()), (out, (s, pos), ())) ∧ pos ≤ s.length ∧ 0 ≤ place ∧ place ≤ (pos : Int) ∧ out.length ≤ 4 * pos ∧ s.length - pos ≤ k ∧ unq s = uq k (s.drop pos) place sign out pos)
    (μ := fun p => s.length - p.2.2.1.2)
    (Q := fun r => (∃ k, r = .inl ((k, ()), ()) ∧ unq s = ([], k, 3)) ∨ r = .inr (((unq s).1, (unq s).2.1, (unq s).2.2, ()), ()))
    (step := fun p hp => by
      obtain ⟨place, sign, out, pos, k, rfl, g1, g2, g3, g4, g5, g6⟩ := hp
      by_cases hlt : pos < s.length
      · have hne : s.drop pos ≠ [] := fun h => by have := congrArg List.length h; simp at this; omega
        have d1 := Lib.decodeL_width (s.drop pos)
        have d2 := Lib.decodeL_le (s.drop pos) hne
        rw [List.length_drop] at d2
        obtain ⟨k, rfl⟩ : ∃ j, k = j + 1 := ⟨k - 1, by omega⟩
        obtain ⟨r, q1, q2⟩ := step38v s place sign out pos k hs hlt g2 g3 g4
        rcases q2 with ⟨place', sign', out', rfl, q3, q4, q5, q6⟩ | ⟨v, k', e, rfl, q3⟩
        · refine .inl ⟨_, q1, ⟨place', sign', out', _, k, rfl, by omega, q3, by omega, by omega, by omega, ?_⟩, ?_⟩
          · rw [g6, q6, List.drop_drop]
          · show s.length - (pos + (Lib.decodeL (s.drop pos)).2) < s.length - pos
            omega
        · refine .inr ⟨_, q1, .inr ?_⟩
          rw [g6, q3]
      · refine .inr ⟨.inl ((place, ()), ()), ?_, .inl ⟨place, rfl, ?_⟩⟩
        · simp only [B38_0, decide_eq_false hlt, cond_false]
        · rw [g6, List.drop_eq_nil_of_le (by omega), uq_nil])
    (p := ((s, (), (0:Int), false, (), ()), (([]:List UInt8), (s, 0), ()))) ⟨0, false, [], 0, s.length, rfl, Nat.zero_le _, by omega, by omega, by simp, by omega, rfl⟩ (by
      have := FUEL_big
      show s.length - 0 < FUEL
      omega)
  have h1' : L38_0 ((s, (), (0:Int), false, (), ()), (([]:List UInt8), (s, 0), ())) = some r := h1
  simp only [F38, h1', Option.bind_some]
  rcases h2 with ⟨k, rfl, g⟩ | rfl
  · simp only [Option.bind_some, g]
  · rfl

theorem unq_ok (s : List UInt8) (hs : s.length ≤ 1100000) (h : (unq s).2.2 = 0) : 0 ≤ (unq s).2.1 ∧ (unq s).2.1 ≤ s.length := by
  obtain ⟨v, k, e, h1, h2, h3⟩ := F38_ok s hs
  rw [F38_eq s hs] at h1
  simp only [Option.some.injEq, Prod.mk.injEq, and_true] at h1
  obtain ⟨q1, q2, q3⟩ := h1
  rw [q2]
  exact h3 (by rw [← q3]; exact h)

/-- a parameter -/
def par (s : List UInt8) : (List UInt8 × List UInt8 × Unit) × List UInt8 × Bool × Unit :=
  if tk s = 0 ∨ Lib.hasPrefix (s.drop (tk s)) [61] = false then (([], [], ()), s.drop (tk s), false, ())
  else if Lib.hasPrefix ((s.drop (tk s)).drop 1) [34] = true then
    if (unq ((s.drop (tk s)).drop 1)).2.2 = 0 then (((s.take (tk s)).map lowc, (unq ((s.drop (tk s)).drop 1)).1, ()), ((s.drop (tk s)).drop 1).drop (unq ((s.drop (tk s)).drop 1)).2.1.toNat, true, ())
    else (([], [], ()), (s.drop (tk s)).drop 1, false, ())
  else (((s.take (tk s)).map lowc, ((s.drop (tk s)).drop 1).take (tk ((s.drop (tk s)).drop 1)), ()), ((s.drop (tk s)).drop 1).drop (tk ((s.drop (tk s)).drop 1)), decide (0 < tk ((s.drop (tk s)).drop 1)), ())

/-- mime.param -/
theorem F23_eq (s : List UInt8) (hs : s.length ≤ 1100000) : F23 ((s, ()), ()) = some (par s, ()) := by
  have hm : maxLen = 9223372036854775807 := rfl
  have h1 := F20_eq s (by omega)
  have h2 := tk_le s
  unfold par
  generalize tk s = n at h1 h2 ⊢
  have h3 := F22_eq (s.take n) (by rw [List.length_take]; omega)
  unfold F23
  simp only [h1, Option.bind_some, nn, le_len h2, le_len (Nat.le_refl _), Bool.and_true, cond_true, Int.toNat_natCast, h3]
  have e0 : List.take (s.length - n) (List.drop n s) = s.drop n := List.take_of_length_le (by simp)
  simp only [e0]
  have ht : (s.drop n).length ≤ s.length := by simp
  generalize s.drop n = t at ht ⊢
  generalize (s.take n).map lowc = a
  have en : decide ((n : Int) = 0) = decide (n = 0) := decide_eq_decide.2 (by omega)
  rw [en]
  by_cases hn : n = 0
  · simp only [hn, decide_true, Bool.not_true, cond_true, cond_false, Option.bind_some, true_or, if_true]
  · simp only [hn, decide_false, false_or]
    cases hp : Lib.hasPrefix t [61]
    · simp only [Bool.not_false, Bool.not_true, cond_true, cond_false, Option.bind_some, hp, if_true]
    · have hl := pre_pos hp
      have e1 : decide ((1 : Int) ≤ (t.length : Int)) = true := decide_eq_true (by omega)
      have e2 : List.take (t.length - 1) (List.drop 1 t) = t.drop 1 := List.take_of_length_le (by simp)
      simp only [Bool.not_false, Bool.not_true, cond_true, cond_false, Option.bind_some, hp, e1, le_len (Nat.le_refl _), Bool.and_true, Int.toNat_natCast, e2, Bool.true_eq_false, if_false]
      have hu : (t.drop 1).length ≤ s.length := by simp; omega
      generalize t.drop 1 = u at hu ⊢
      cases hq : Lib.hasPrefix u [34]
      · have k1 := F20_eq u (by omega)
        have k2 := tk_le u
        generalize tk u = m at k1 k2 ⊢
        have e3 : List.take (u.length - m) (List.drop m u) = u.drop m := List.take_of_length_le (by simp)
        have em : decide ((0 : Int) < (m : Int)) = decide (0 < m) := decide_eq_decide.2 (by omega)
        simp only [cond_false, cond_true, Option.bind_some, k1, nn, le_len k2, le_len (Nat.le_refl _), Bool.and_true, Int.toNat_natCast, e3, Bool.false_eq_true, if_false, em]
      · have k1 := F38_eq u (by omega)
        have k3 := unq_ok u (by omega)
        generalize unq u = U at k1 k3 ⊢
        simp only [cond_false, cond_true, Option.bind_some, k1, if_true]
        by_cases he : U.2.2 = 0
        · obtain ⟨k4, k5⟩ := k3 he
          have e3 : List.take (u.length - U.2.1.toNat) (List.drop U.2.1.toNat u) = u.drop U.2.1.toNat := List.take_of_length_le (by simp)
          simp only [he, decide_true, Bool.not_true, cond_false, decide_eq_true k4, decide_eq_true k5, le_len (Nat.le_refl _), Bool.and_true, cond_true, Int.toNat_natCast, e3, if_true]
        · simp only [he, decide_false, Bool.not_false, cond_true, if_false]

theorem par_ok (s : List UInt8) (hs : s.length ≤ 1100000) : (par s).2.1.length ≤ s.length ∧ (par s).1.1.length ≤ s.length ∧ (par s).1.2.1.length ≤ 4 * s.length := by
  obtain ⟨a, b, r, is, h1, h2, h3, h4⟩ := F23_ok s hs
  rw [F23_eq s hs] at h1
  simp only [Option.some.injEq, Prod.mk.injEq, and_true] at h1
  rw [h1]
  exact ⟨h2, h3, h4⟩

/-- parameters -/
def prs : Nat → List UInt8 → Par → Option Par
  | 0, _, P => some P
  | _ + 1, [], P => some P
  | k + 1, c :: t, P => if c = 59 then if (par (trm t)).2.2.1 = true then prs k (trm (par (trm t)).2.1) (P ++ [((par (trm t)).1.1, (par (trm t)).1.2.1, ())]) else none else none

theorem L10_eq (kind : List UInt8) (s0 : List UInt8) (hs0 : s0.length ≤ 1100000) : L10_0 ((s0, kind, (), ()), ([], ())) = some (match prs s0.length s0 [] with
    | some P => .inl ((kind, (), ()), (P, ()))
    | none => .inr (((), (), (), ()), ([], ()))) := by
  have h := loop_ind (f := B10_0)
    (I := fun p => ∃ (s : List UInt8) (P : Par) (k : Nat), p = ((s, kind, (), ()), (P, ())) ∧ P.length + s.length ≤ s0.length ∧ s.length ≤ k ∧ prs k s P = prs s0.length s0 [])
    (μ := fun p => p.1.1.length)
    (Q := fun r => r = match prs s0.length s0 [] with
      | some P => .inl ((kind, (), ()), (P, ()))
      | none => .inr (((), (), (), ()), ([], ())))
    (step := fun p hp => by
      obtain ⟨s, P, k, rfl, g1, g2, g3⟩ := hp
      cases s with
      | nil =>
        refine .inr ⟨.inl ((kind, (), ()), (P, ())), rfl, ?_⟩
        have : prs k [] P = some P := by cases k <;> rfl
        rw [← g3, this]
      | cons c t =>
        simp only [List.length_cons] at g1 g2
        obtain ⟨k, rfl⟩ : ∃ j, k = j + 1 := ⟨k - 1, by omega⟩
        rw [prs] at g3
        have e0 : decide ((c :: t) = ([] : List UInt8)) = false := decide_eq_false (by simp)
        have e1 : decide ((0 : Int) < ((c :: t).length : Int)) = true := decide_eq_true (by simp)
        have e2 : decide ((1 : Int) ≤ ((c :: t).length : Int)) = true := decide_eq_true (by simp only [List.length_cons]; omega)
        have e3 : List.take ((c :: t).length - 1) (List.drop 1 (c :: t)) = t := by simp
        by_cases hc : c = 59
        · subst hc
          have hl := trm_le t
          have k1 := F23_eq (trm t) (by omega)
          have k2 := (par_ok (trm t) (by omega)).1
          generalize par (trm t) = q at k1 k2 g3
          obtain ⟨⟨a, b, u1⟩, r, is, u2⟩ := q
          simp only at k2 g3
          have hF : F19 ((t, ()), ()) = some (trm t, ()) := F19_eq t (by omega)
          have hF2 : F19 ((r, ()), ()) = some (trm r, ()) := F19_eq r (by omega)
          have hr := trm_le r
          cases is
          · refine .inr ⟨.inr (((), (), (), ()), ([], ())), ?_, ?_⟩
            · simp only [B10_0, e0, e1, e2, e3, Bool.not_false, Bool.not_true, cond_true, cond_false, List.getD_cons_zero, decide_true, le_len (Nat.le_refl _), Bool.and_true, Int.toNat_natCast, hF, Option.bind_some, k1]
            · rw [if_pos trivial] at g3
              rw [← g3]
              rfl
          · have hby : bytesOK (P.length + (List.length ([(a, (b, ()))] : List (List UInt8 × (List UInt8 × Unit))))) 32 = true := decide_eq_true (by simp; omega)
            refine .inl ⟨((trm r, kind, (), ()), (P ++ [(a, (b, ()))], ())), ?_, ⟨trm r, _, k, rfl, by rw [List.length_append, List.length_singleton]; omega, by omega, ?_⟩, ?_⟩
            · simp only [B10_0, e0, e1, e2, e3, Bool.not_false, Bool.not_true, cond_true, cond_false, List.getD_cons_zero, decide_true, le_len (Nat.le_refl _), Bool.and_true, Int.toNat_natCast, hF, Option.bind_some, k1, hby, hF2]
            · rw [if_pos trivial, if_pos rfl] at g3
              exact g3
            · show (trm r).length < (59 :: t).length
              simp only [List.length_cons]
              omega
        · refine .inr ⟨.inr (((), (), (), ()), ([], ())), ?_, ?_⟩
          · simp only [B10_0, e0, e1, Bool.not_false, cond_true, List.getD_cons_zero, hc, decide_false]
          · rw [if_neg hc] at g3
            rw [← g3])
    (p := ((s0, kind, (), ()), ([], ()))) ⟨s0, [], s0.length, rfl, by simp, Nat.le_refl _, rfl⟩ (by
      have := FUEL_big
      show s0.length < FUEL
      omega)
  obtain ⟨r, h1, rfl⟩ := h
  exact h1

def kd (v : List UInt8) : List UInt8 × Int × Par :=
  if tk (trm v) = 0 ∨ Lib.hasPrefix ((trm v).drop (tk (trm v))) [47] = false then ([], 4, [])
  else if tk (((trm v).drop (tk (trm v))).drop 1) = 0 then ([], 4, [])
  else match prs (trm (((trm v).drop (tk (trm v))).drop (1 + tk (((trm v).drop (tk (trm v))).drop 1)))).length (trm (((trm v).drop (tk (trm v))).drop (1 + tk (((trm v).drop (tk (trm v))).drop 1)))) [] with
    | none => ([], 4, [])
    | some P => if 8 < P.length then ([], 6, []) else (((trm v).take (tk (trm v) + 1 + tk (((trm v).drop (tk (trm v))).drop 1))).map lowc, 0, P)

/-- mime.Kind -/
theorem F10_eq (v : List UInt8) (hv : v.length ≤ 1100000) : F10 ((v, ()), ()) = some (((kd v).1, (), (kd v).2.1, ()), ((kd v).2.2, ())) := by
  have hm : maxLen = 9223372036854775807 := rfl
  have hl := trm_le v
  have hF : F19 ((v, ()), ()) = some (trm v, ()) := F19_eq v (by omega)
  unfold F10 kd
  simp only [hF, Option.bind_some]
  generalize trm v = s at hl ⊢
  have h1 := F20_eq s (by omega)
  have h2 := tk_le s
  generalize tk s = n at h1 h2 ⊢
  have e0 : List.take (s.length - n) (List.drop n s) = s.drop n := List.take_of_length_le (by simp)
  simp only [h1, Option.bind_some, nn, le_len h2, le_len (Nat.le_refl _), Bool.and_true, cond_true, Int.toNat_natCast, e0]
  have ht : (s.drop n).length = s.length - n := by simp
  generalize s.drop n = t at ht ⊢
  have en : decide ((n : Int) = 0) = decide (n = 0) := decide_eq_decide.2 (by omega)
  rw [en]
  by_cases hn : n = 0
  · simp only [hn, decide_true, Bool.not_true, cond_true, cond_false, Option.bind_some, true_or, if_true]
  · simp only [hn, decide_false, false_or]
    cases hp : Lib.hasPrefix t [47]
    · simp only [Bool.not_false, Bool.not_true, cond_true, cond_false, Option.bind_some, hp, if_true]
    · have hl1 := pre_pos hp
      have e1 : decide ((1 : Int) ≤ (t.length : Int)) = true := decide_eq_true (by omega)
      have e2 : List.take (t.length - 1) (List.drop 1 t) = t.drop 1 := List.take_of_length_le (by simp)
      have hd : (t.drop 1).length = t.length - 1 := by simp
      have k1 := F20_eq (t.drop 1) (by omega)
      have k2 := tk_le (t.drop 1)
      generalize tk (t.drop 1) = m at k1 k2 ⊢
      simp only [Bool.not_false, Bool.not_true, cond_true, cond_false, Option.bind_some, hp, e1, le_len (Nat.le_refl _), Bool.and_true, Int.toNat_natCast, e2, k1, Bool.true_eq_false, if_false]
      have em : decide ((m : Int) = 0) = decide (m = 0) := decide_eq_decide.2 (by omega)
      rw [em]
      by_cases hz : m = 0
      · simp only [hz, decide_true, cond_true, if_true]
      · have w1 : w64 (w64 ((n : Int) + 1) + (m : Int)) = ((n + 1 + m : Nat) : Int) := by
          rw [w64_nat (by omega), w64_id (by omega) (by omega)]; omega
        have w2 : w64 (1 + (m : Int)) = ((1 + m : Nat) : Int) := by
          rw [w64_id (by omega) (by omega)]; omega
        have h3 := F22_eq (s.take (n + 1 + m)) (by rw [List.length_take]; omega)
        have e5 : List.take (t.length - (1 + m)) (List.drop (1 + m) t) = t.drop (1 + m) := List.take_of_length_le (by simp)
        have hF3 : F19 ((t.drop (1 + m), ()), ()) = some (trm (t.drop (1 + m)), ()) := F19_eq _ (by simp; omega)
        have hl3 := trm_le (t.drop (1 + m))
        rw [List.length_drop] at hl3
        have q1 := L10_eq ((s.take (n + 1 + m)).map lowc) (trm (t.drop (1 + m))) (by omega)
        simp only [hz, decide_false, if_false, cond_false, cond_true, w1, w2, nn, le_len (show n + 1 + m ≤ s.length by omega), le_len (show 1 + m ≤ t.length by omega), le_len (Nat.le_refl _), Bool.and_true, Int.toNat_natCast, h3, Option.bind_some, e5, hF3, q1]
        generalize prs (trm (List.drop (1 + m) t)).length (trm (List.drop (1 + m) t)) [] = oP
        cases oP with
        | none => simp only [Option.bind_some]
        | some P =>
          have e8 : decide ((8 : Int) < (P.length : Int)) = decide (8 < P.length) := decide_eq_decide.2 (by omega)
          simp only [Option.bind_some, e8]
          by_cases h8 : 8 < P.length
          · simp only [h8, decide_true, cond_true, if_true]
          · simp only [h8, decide_false, cond_false, if_false]

end Go.Mi

namespace Go.Mi
open Go Go.Ev
set_option maxRecDepth 100000

def cutr : Nat → List UInt8 → List UInt8 → Nat → Int → LP → LP
  | 0, _, _, pos, fr, out => close fr pos out
  | k + 1, r, b, pos, fr, out =>
    if r = [] then close fr pos out
    else if rtr (ln r).1 = [45, 45] ++ b then cutr k (r.drop (ln r).2) b (pos + (ln r).2) ((pos + (ln r).2 : Nat) : Int) (close fr ((pos : Int) - 2) out)
    else if rtr (ln r).1 = [45, 45] ++ b ++ [45, 45] then close fr ((pos : Int) - 2) out
    else cutr k (r.drop (ln r).2) b (pos + (ln r).2) fr out

theorem ln_pos' {r : List UInt8} (h : r ≠ []) : 1 ≤ (ln r).2 := by
  cases r with
  | nil => exact absurd rfl h
  | cons a t => exact ln_pos a t

theorem cutr_same : ∀ (k k' : Nat) (r b : List UInt8) (pos : Nat) (fr : Int) (out : LP), r.length ≤ k → r.length ≤ k' → cutr k r b pos fr out = cutr k' r b pos fr out
  | 0, k', r, b, pos, fr, out, h, _ => by
    have : r = [] := List.eq_nil_of_length_eq_zero (by omega)
    subst this
    cases k' <;> simp [cutr]
  | k + 1, 0, r, b, pos, fr, out, _, h => by
    have : r = [] := List.eq_nil_of_length_eq_zero (by omega)
    subst this
    simp [cutr]
  | k + 1, k' + 1, r, b, pos, fr, out, h, h' => by
    rw [cutr, cutr]
    by_cases hr : r = []
    · rw [if_pos hr, if_pos hr]
    · have := ln_pos' hr
      have hd : (r.drop (ln r).2).length ≤ r.length - 1 := by simp; omega
      rw [if_neg hr, if_neg hr, cutr_same k k' (r.drop (ln r).2) b _ _ _ (by omega) (by omega), cutr_same k k' (r.drop (ln r).2) b _ fr out (by omega) (by omega)]

def cutw (r b : List UInt8) (pos : Nat) (fr : Int) (out : LP) : LP := cutr r.length r b pos fr out

theorem cutw_nil (b : List UInt8) (pos : Nat) (fr : Int) (out : LP) : cutw [] b pos fr out = close fr pos out := rfl

theorem cutw_step {r : List UInt8} (hr : r ≠ []) (b : List UInt8) (pos : Nat) (fr : Int) (out : LP) : cutw r b pos fr out =
    if rtr (ln r).1 = [45, 45] ++ b then cutw (r.drop (ln r).2) b (pos + (ln r).2) ((pos + (ln r).2 : Nat) : Int) (close fr ((pos : Int) - 2) out)
    else if rtr (ln r).1 = [45, 45] ++ b ++ [45, 45] then close fr ((pos : Int) - 2) out
    else cutw (r.drop (ln r).2) b (pos + (ln r).2) fr out := by
  have hp := ln_pos' hr
  unfold cutw
  obtain ⟨a, t, rfl⟩ : ∃ a t, r = a :: t := by
    cases r with
    | nil => exact absurd rfl hr
    | cons a t => exact ⟨a, t, rfl⟩
  have hd : ((a :: t).drop (ln (a :: t)).2).length ≤ t.length := by simp; omega
  rw [List.length_cons, cutr, if_neg hr, cutr_same t.length _ _ b _ _ _ hd (Nat.le_refl _), cutr_same t.length _ ((a :: t).drop (ln (a :: t)).2) b _ fr out hd (Nat.le_refl _)]

theorem line_eq (l : List UInt8) (at_ : Int) (h0 : 0 ≤ at_) (h1 : at_ < l.length) : line32 l at_ = rtr (ln (rest l at_)).1 ∧ next32 l at_ = at_ + ((ln (rest l at_)).2 : Int) := by
  have h3 : (rest l at_).length = l.length - at_.toNat := by simp [rest]
  unfold line32
  rw [rtr_eq]
  rcases ln_index (rest l at_) with ⟨e1, e2⟩ | ⟨i, e1, e2, e3⟩
  · have hx : ¬ 0 ≤ ix l at_ := by unfold ix; omega
    unfold end32 next32
    rw [if_neg hx, if_neg hx, e2]
    refine ⟨?_, ?_⟩
    · rw [List.take_of_length_le (by omega)]
    · simp only; omega
  · have hx : ix l at_ = (i : Int) := e1
    have h0 : 0 ≤ ix l at_ := by omega
    unfold end32 next32
    rw [if_pos h0, if_pos h0, e2, hx]
    refine ⟨?_, ?_⟩
    · have : (at_ + (i : Int)).toNat - at_.toNat = i := by omega
      rw [this]
    · simp only; omega

theorem F32_eq (l b : List UInt8) (hl : l.length ≤ 1900000) (hb : b.length ≤ 1900000) : F32 ((l, b, ()), ()) = some ((), (cutw l b 0 (-1) [], ())) := by
  obtain ⟨r, h1, h2⟩ := loop_ind (f := B32_0)
    (I := fun p => ∃ at_ fr out, p = mk32 l b at_ fr out ∧ 0 ≤ at_ ∧ at_ ≤ l.length ∧ fr ≤ at_ ∧ (out.length : Int) ≤ at_ ∧ cutw (rest l at_) b at_.toNat fr out = cutw l b 0 (-1) [])
    (μ := fun p => l.length - p.1.2.2.2.2.1.toNat)
    (Q := fun r => (∃ fr out, r = .inl ((l, (), ((), (), ()), ()), (((), ()), (fr, ()), out, ())) ∧ out.length ≤ l.length ∧ close fr l.length out = cutw l b 0 (-1) []) ∨ r = .inr (((), ()), (cutw l b 0 (-1) [], ())))
    (step := fun p hp => by
      obtain ⟨at_, fr, out, rfl, h0, h1, h2, h4, h5⟩ := hp
      by_cases hlt : at_ < l.length
      · obtain ⟨n1, n2, n3, n4⟩ := next_le l at_ h0 hlt
        obtain ⟨l1, l2⟩ := line_eq l at_ h0 hlt
        have hr : rest l at_ ≠ [] := fun h => by
          have := congrArg List.length h
          simp [rest] at this
          omega
        have hn := close_len fr (at_ - 2) out
        rw [cutw_step hr, ← l1] at h5
        have hd : (rest l at_).drop (ln (rest l at_)).2 = rest l (next32 l at_) := by
          unfold rest at *
          rw [List.drop_drop, l2]
          congr 1
          omega
        have hp : at_.toNat + (ln (rest l at_)).2 = (next32 l at_).toNat := by omega
        have hq : ((next32 l at_).toNat : Int) = next32 l at_ := by omega
        have hat : (at_.toNat : Int) = at_ := by omega
        rw [hd, hp, hq, hat] at h5
        rw [step32 l b at_ fr out h0 hlt (by omega) (by omega) (by omega)]
        by_cases c1 : line32 l at_ = [45, 45] ++ b
        · rw [if_pos c1] at h5 ⊢
          refine .inl ⟨_, rfl, ⟨next32 l at_, next32 l at_, _, rfl, by omega, by omega, by omega, by omega, h5⟩, ?_⟩
          show l.length - (next32 l at_).toNat < l.length - at_.toNat
          omega
        · rw [if_neg c1] at h5 ⊢
          by_cases c2 : line32 l at_ = [45, 45] ++ b ++ [45, 45]
          · rw [if_pos c2] at h5 ⊢
            exact .inr ⟨_, rfl, .inr (by rw [h5])⟩
          · rw [if_neg c2] at h5 ⊢
            refine .inl ⟨_, rfl, ⟨next32 l at_, fr, out, rfl, by omega, by omega, by omega, by omega, h5⟩, ?_⟩
            show l.length - (next32 l at_).toNat < l.length - at_.toNat
            omega
      · refine .inr ⟨.inl ((l, (), ((), (), ()), ()), (((), ()), (fr, ()), out, ())), ?_, .inl ⟨fr, out, rfl, by omega, ?_⟩⟩
        · unfold B32_0 mk32
          simp only [decide_eq_false hlt, cond_false]
        · have e : rest l at_ = [] := List.drop_eq_nil_of_le (by omega)
          have e2 : ((at_.toNat : Nat) : Int) = l.length := by omega
          rw [e, cutw_nil, e2] at h5
          exact h5)
    (p := mk32 l b 0 (-1) []) ⟨0, -1, [], rfl, by omega, by omega, by omega, by simp, by simp [rest]⟩ (by have := FUEL_big; show l.length - 0 < FUEL; omega)
  unfold F32 L32_0
  have h1' : loopOf B32_0 ((l, b, (), (), (0:Int), ((), (), ()), ()), (((), ()), ((-1:Int), ()), ([]:LP), ())) = some r := h1
  simp only [h1', Option.bind_some]
  rcases h2 with ⟨fr, out, rfl, g1, g2⟩ | rfl
  · have b3 : bytesOK (List.length out + (List.length [(fr, (bif decide (fr < (l.length : Int)) then (l.length : Int) else fr), ())])) 16 = true := decide_eq_true (by simp; omega)
    rw [← g2]
    by_cases hF : 0 ≤ fr
    · simp only [Option.bind_some, decide_eq_true hF, cond_true, b3, close, if_pos hF, Bool.cond_decide]
      simp only [Bool.cond_decide] at b3
      simp only [b3, cond_true, Option.bind_some]
    · simp only [Option.bind_some, decide_eq_false hF, cond_false, close, if_neg hF]
  · rfl

/-! pieces that are laid together -/

theorem rtr_infix : ∀ l : List UInt8, rtr l <+: l
  | [] => List.prefix_refl _
  | a :: t => by
    unfold rtr
    split
    · exact List.nil_prefix
    · exact List.prefix_cons_inj a |>.2 (rtr_infix t)

/-- the first line of a text with a line's end behind it -/
theorem ln_app : ∀ (p r : List UInt8), (ln (p ++ 13 :: 10 :: r) = (p, p.length + 2)) ∨ ∃ u v, p = u ++ 13 :: 10 :: v ∧ ln (p ++ 13 :: 10 :: r) = (u, u.length + 2)
  | [], r => .inl (by simp [ln])
  | a :: t, r => by
    rw [List.cons_append, ln]
    by_cases h : a = 13 ∧ (t ++ 13 :: 10 :: r).head? = some 10
    · rw [if_pos h]
      obtain ⟨rfl, h2⟩ := h
      cases t with
      | nil => simp at h2
      | cons c t =>
        simp only [List.cons_append, List.head?_cons, Option.some.injEq] at h2
        subst h2
        exact .inr ⟨[], t, rfl, rfl⟩
    · rw [if_neg h]
      rcases ln_app t r with e | ⟨u, v, rfl, e⟩
      · rw [e]; exact .inl rfl
      · rw [e]; exact .inr ⟨a :: u, v, rfl, rfl⟩

/-- a text in which the mark does not stand is passed by -/
theorem skip (b : List UInt8) : ∀ (n : Nat) (p r : List UInt8) (pos : Nat) (fr : Int) (out : LP), p.length ≤ n → ¬ ([45, 45] ++ b) <:+: p → cutw (p ++ 13 :: 10 :: r) b pos fr out = cutw r b (pos + p.length + 2) fr out
  | n, p, r, pos, fr, out, hn, hm => by
    have hne : p ++ 13 :: 10 :: r ≠ [] := by simp
    have key : ∀ u : List UInt8, u <:+: p → rtr u ≠ [45, 45] ++ b ∧ rtr u ≠ [45, 45] ++ b ++ [45, 45] := fun u hu => by
      refine ⟨fun h => hm ?_, fun h => hm ?_⟩
      · exact (h ▸ (rtr_infix u).isInfix).trans hu
      · have h1 : ([45, 45] ++ b) <+: rtr u := by rw [h]; exact List.prefix_append _ _
        exact (h1.trans (rtr_infix u)).isInfix.trans hu
    rw [cutw_step hne]
    rcases ln_app p r with e | ⟨u, v, hp, e⟩
    · obtain ⟨k1, k2⟩ := key p (List.infix_refl _)
      rw [e, if_neg k1, if_neg k2]
      simp only
      have : (p ++ 13 :: 10 :: r).drop (p.length + 2) = r := by
        rw [List.drop_append]; simp
      rw [this, Nat.add_assoc]
    · have hu : u <:+: p := by rw [hp]; exact (List.prefix_append _ _).isInfix
      obtain ⟨k1, k2⟩ := key u hu
      rw [e, if_neg k1, if_neg k2]
      simp only
      have hv : v <:+: p := by rw [hp]; exact ⟨u ++ [13, 10], [], by simp⟩
      have hl : p.length = u.length + v.length + 2 := by rw [hp]; simp; omega
      have : (p ++ 13 :: 10 :: r).drop (u.length + 2) = v ++ 13 :: 10 :: r := by
        rw [hp, List.append_assoc, List.drop_append]; simp
      rw [this]
      cases n with
      | zero => omega
      | succ n =>
        rw [skip b n v r _ fr out (by omega) (fun h => hm (h.trans hv)), hl]
        congr 1
        omega

theorem ln_clean : ∀ (p r : List UInt8), 13 ∉ p → ln (p ++ 13 :: 10 :: r) = (p, p.length + 2)
  | [], r, _ => by simp [ln]
  | a :: t, r, h => by
    rw [List.cons_append, ln, if_neg (fun h' => h (by rw [h'.1]; simp)), ln_clean t r (fun h' => h (List.mem_cons_of_mem _ h'))]
    rfl

theorem rtr_id (p : List UInt8) (a : UInt8) (h : bl a = false) : rtr (p ++ [a]) = p ++ [a] := by
  rw [rtr_snoc, if_neg (by rw [h]; simp)]

/-- letters that may be a boundary's -/
def Letters (b : List UInt8) : Prop := b ≠ [] ∧ ∀ c ∈ b, 97 ≤ c.toNat ∧ c.toNat ≤ 122

theorem rtr_letters {b p : List UInt8} (h : Letters b) : rtr (p ++ b) = p ++ b := by
  obtain ⟨t, a, rfl⟩ : ∃ t a, b = t ++ [a] := ⟨b.dropLast, b.getLast h.1, (List.dropLast_concat_getLast h.1).symm⟩
  have ha := h.2 a (by simp)
  rw [← List.append_assoc]
  refine rtr_id _ _ ?_
  unfold bl
  rw [Bool.or_eq_false_iff]
  exact ⟨decide_eq_false fun h => by rw [h] at ha; exact absurd ha (by decide), decide_eq_false fun h => by rw [h] at ha; exact absurd ha (by decide)⟩

theorem no13 {b : List UInt8} (h : Letters b) : (13 : UInt8) ∉ b := fun h' => by
  have := h.2 13 h'
  exact absurd this (by decide)

def lays (b behind : List UInt8) : List (List UInt8) → List UInt8
  | [] => (45 :: 45 :: b) ++ 45 :: 45 :: 13 :: 10 :: behind
  | p :: ps => (45 :: 45 :: b) ++ 13 :: 10 :: (p ++ 13 :: 10 :: lays b behind ps)

def spans (b : List UInt8) : Nat → List (List UInt8) → LP
  | _, [] => []
  | pos, p :: ps => (((pos + (b.length + 4) : Nat) : Int), ((pos + (b.length + 4) + p.length : Nat) : Int), ()) :: spans b (pos + (b.length + 4) + p.length + 2) ps

theorem cut_lays (b behind : List UInt8) (hb : Letters b) : ∀ (ps : List (List UInt8)) (pos : Nat) (fr : Int) (out : LP), (∀ p ∈ ps, ¬ ([45, 45] ++ b) <:+: p) → (0 ≤ fr → fr ≤ (pos : Int) - 2) →
    cutw (lays b behind ps) b pos fr out = (if 0 ≤ fr then out ++ [(fr, (pos : Int) - 2, ())] else out) ++ spans b pos ps
  | [], pos, fr, out, _, hf => by
    have h13 : (13 : UInt8) ∉ (45 :: 45 :: b) ++ [45, 45] := by
      have := no13 hb
      simp [this]
    have e := ln_clean ((45 :: 45 :: b) ++ [45, 45]) behind h13
    have e0 : lays b behind [] = ((45 :: 45 :: b) ++ [45, 45]) ++ 13 :: 10 :: behind := by simp [lays]
    rw [e0, cutw_step (by simp), e]
    have e1 : rtr ((45 :: 45 :: b) ++ [45, 45]) = (45 :: 45 :: b) ++ [45, 45] := by
      have := rtr_id ((45 :: 45 :: b) ++ [45]) 45 rfl
      simpa using this
    rw [e1, if_neg (fun h => by have := congrArg List.length h; simp at this), if_pos (by simp)]
    unfold close spans
    by_cases h0 : 0 ≤ fr
    · have := hf h0
      rw [if_pos h0, if_pos h0, List.append_nil]
      congr 3
      simp only [Prod.mk.injEq, and_true]
      split <;> omega
    · rw [if_neg h0, if_neg h0, List.append_nil]
  | p :: ps, pos, fr, out, hps, hf => by
    have h13 : (13 : UInt8) ∉ (45 :: 45 :: b) := by
      have := no13 hb
      simp [this]
    have e := ln_clean (45 :: 45 :: b) (p ++ 13 :: 10 :: lays b behind ps) h13
    rw [lays, cutw_step (by simp), e]
    have e1 : rtr (45 :: 45 :: b) = 45 :: 45 :: b := rtr_letters (p := [45, 45]) hb
    rw [e1, if_pos (by simp)]
    have e2 : (45 :: 45 :: b ++ 13 :: 10 :: (p ++ 13 :: 10 :: lays b behind ps)).drop ((45 :: 45 :: b).length + 2) = p ++ 13 :: 10 :: lays b behind ps := by
      rw [List.drop_append]; simp
    have hl : (45 :: 45 :: b).length + 2 = b.length + 4 := by simp
    simp only [e2]
    rw [hl, skip b p.length p _ _ _ _ (Nat.le_refl _) (hps p (by simp)), cut_lays b behind hb ps _ _ _ (fun q hq => hps q (by simp [hq])) (fun _ => by omega), if_pos (by omega)]
    have e3 : close fr ((pos : Int) - 2) out = if 0 ≤ fr then out ++ [(fr, (pos : Int) - 2, ())] else out := by
      unfold close
      by_cases h0 : 0 ≤ fr
      · have := hf h0
        rw [if_pos h0, if_pos h0]
        congr 3
        simp only [Prod.mk.injEq, and_true]
        split <;> omega
      · rw [if_neg h0, if_neg h0]
    rw [e3, spans, List.append_assoc]
    congr 1
    rw [List.singleton_append]
    congr 1
    simp only [Prod.mk.injEq, and_true, true_and]
    omega

end Go.Mi

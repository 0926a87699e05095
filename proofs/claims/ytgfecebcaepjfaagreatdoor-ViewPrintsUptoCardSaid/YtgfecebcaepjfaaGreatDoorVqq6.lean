/- The letters of a path, of names; one item is read as it was printed: sections. -/
import Derived.Test.YtgfecebcaepjfaaGreatDoorVqq5
namespace Go.Vw
open Go Go.Ev
set_option maxRecDepth 100000

def pcs (c : UInt8) : Bool := dg c || decide (c = 46) || (hdW ++ txW ++ miW).contains (lowc c)

def plainc (c : UInt8) : Bool := decide (c.toNat < 128) && (decide (c ≠ 93) && (decide (c ≠ 40) && (decide (c ≠ 32) && (decide (c ≠ 41) && decide (c ≠ 62)))))

theorem pcs_all : (List.range 256).all (fun n => !pcs (UInt8.ofNat n) || plainc (UInt8.ofNat n)) = true := by kernel_rfl

theorem pcs_plain {c : UInt8} (h : pcs c = true) : plainc c = true := by
  have := List.all_eq_true.1 pcs_all c.toNat (List.mem_range.2 c.toNat_lt)
  rw [UInt8.ofNat_toNat] at this
  simpa [h] using this

theorem dg_all : (List.range 256).all (fun n => !dg (UInt8.ofNat n) || (plainc (UInt8.ofNat n) && decide (UInt8.ofNat n ≠ 46))) = true := by kernel_rfl

theorem dg_plain {c : UInt8} (h : dg c = true) : plainc c = true ∧ c ≠ 46 := by
  have := List.all_eq_true.1 dg_all c.toNat (List.mem_range.2 c.toNat_lt)
  rw [UInt8.ofNat_toNat] at this
  simpa [h] using this

theorem gd_all : (List.range 256).all (fun n => !gd (UInt8.ofNat n) || (plainc (UInt8.ofNat n) || decide (UInt8.ofNat n = 62))) = true := by kernel_rfl

theorem gd_plain {c : UInt8} (h : gd c = true) : c.toNat < 128 ∧ c ≠ 93 ∧ c ≠ 32 ∧ c ≠ 41 := by
  have := List.all_eq_true.1 gd_all c.toNat (List.mem_range.2 c.toNat_lt)
  rw [UInt8.ofNat_toNat] at this
  simp only [h, Bool.not_true, Bool.false_or, Bool.or_eq_true, decide_eq_true_eq] at this
  rcases this with h1 | rfl
  · unfold plainc at h1
    simp only [Bool.and_eq_true, decide_eq_true_eq] at h1
    exact ⟨h1.1, h1.2.1, h1.2.2.2.1, h1.2.2.2.2.1⟩
  · decide

theorem good_dg {w : List UInt8} (h : good w = true) : ∀ c ∈ w, dg c = true := by
  unfold good at h
  simp only [Bool.and_eq_true, decide_eq_true_eq] at h
  have h1 := h.1
  unfold numR at h1
  by_cases h0 : w = []
  · rw [if_pos h0] at h1; exact absurd h1 (by decide)
  rw [if_neg h0] at h1
  cases hn : nb (z48 w) 0 w with
  | some k => rw [hn] at h1; simp at h1
  | none => exact nb_all _ w 0 hn

theorem tl_pcs {z : Bool} {w : List UInt8} (h : tl z (w.map lowc) = true) : ∀ c ∈ w, pcs c = true := by
  intro c hc
  have hm : lowc c ∈ w.map lowc := List.mem_map.2 ⟨c, hc, rfl⟩
  unfold tl at h
  simp only [Bool.or_eq_true, Bool.and_eq_true, decide_eq_true_eq] at h
  have : lowc c ∈ hdW ++ txW ++ miW := by
    rcases h with (h | h) | ⟨h, _⟩
    · rw [h] at hm; simp [hm]
    · rw [h] at hm; simp [hm]
    · rw [h] at hm; simp [hm]
  unfold pcs
  rw [Bool.or_eq_true]
  exact .inr (List.contains_iff_mem.2 this)

theorem okP_pcs : ∀ (ws : List (List UInt8)) (z : Bool), okP z ws = true → ∀ w ∈ ws, ∀ c ∈ w, pcs c = true
  | [], _, _, _, h, _, _ => by cases h
  | [w], z, h, v, hv, c, hc => by
    obtain rfl : v = w := by simpa using hv
    have h' : (good v || tl z (v.map lowc)) = true := h
    rw [Bool.or_eq_true] at h'
    rcases h' with h' | h'
    · unfold pcs; rw [good_dg h' c hc]; rfl
    · exact tl_pcs h' c hc
  | w :: v :: r, z, h, u, hu, c, hc => by
    have h' : (good w && okP true (v :: r)) = true := h
    rw [Bool.and_eq_true] at h'
    rcases List.mem_cons.1 hu with rfl | hu
    · unfold pcs; rw [good_dg h'.1 c hc]; rfl
    · exact okP_pcs (v :: r) true h'.2 u hu c hc

theorem prt_has : ∀ (s cur : List UInt8) (c : UInt8), c ∈ cur ++ s → c = 46 ∨ ∃ w ∈ prt cur s, c ∈ w
  | [], cur, c, h => .inr ⟨cur, by simp [prt], by simpa using h⟩
  | b :: t, cur, c, h => by
    have e1 : prt cur (b :: t) = if b = 46 then cur :: prt [] t else prt (cur ++ [b]) t := rfl
    rw [e1]
    by_cases hb : b = 46
    · subst hb
      rw [if_pos rfl]
      simp only [List.mem_append, List.mem_cons] at h
      rcases h with h | rfl | h
      · exact .inr ⟨cur, by simp, h⟩
      · exact .inl rfl
      · rcases prt_has t [] c (by simpa using h) with h1 | ⟨w, h1, h2⟩
        · exact .inl h1
        · exact .inr ⟨w, by simp [h1], h2⟩
    · rw [if_neg hb]
      exact prt_has t (cur ++ [b]) c (by simpa using h)

theorem path_plain {s : List UInt8} (h : okPath s = true) : ∀ c ∈ s, plainc c = true := by
  intro c hc
  unfold okPath at h
  by_cases h0 : s = []
  · rw [h0] at hc; cases hc
  rw [if_neg h0] at h
  rcases prt_has s [] c (by simpa using hc) with rfl | ⟨w, h1, h2⟩
  · decide
  · exact pcs_plain (okP_pcs _ _ h w h1 c h2)

theorem plain_not {s : List UInt8} (h : ∀ c ∈ s, plainc c = true) : (93 : UInt8) ∉ s ∧ (40 : UInt8) ∉ s ∧ (32 : UInt8) ∉ s ∧ (41 : UInt8) ∉ s ∧ (62 : UInt8) ∉ s :=
  ⟨fun m => absurd (h _ m) (by decide), fun m => absurd (h _ m) (by decide), fun m => absurd (h _ m) (by decide), fun m => absurd (h _ m) (by decide), fun m => absurd (h _ m) (by decide)⟩

theorem plain_ascii {s : List UInt8} (h : ∀ c ∈ s, plainc c = true) : ascii s = true := by
  refine List.all_eq_true.2 fun c hc => ?_
  have := h c hc
  unfold plainc at this
  rw [Bool.and_eq_true] at this
  exact this.1

theorem name_gd {w : List UInt8} (h : nameOK w = true) : ∀ c ∈ w, gd c = true := by
  unfold nameOK atom at h
  simp only [Bool.and_eq_true] at h
  exact List.all_eq_true.1 h.2.2

theorem F72_eq (s word : List UInt8) (hs : s.length ≤ 8000000000) (hw : word.length ≤ 1000) :
    F72 ((s, word, ()), ()) = some (if word.length ≤ s.length ∧ (s.take word.length).map lowc = word.map lowc then (s.drop word.length, true, ()) else (s, false, ()), ()) := by
  have hm : maxLen = 9223372036854775807 := rfl
  have h21 := F21_eq (s.take word.length) word (by rw [List.length_take]; omega) (by omega)
  by_cases hl : word.length ≤ s.length
  · have e1 : decide (((s.length : Nat) : Int) < ((word.length : Nat) : Int)) = false := decide_eq_false (by omega)
    have e2 : decide (((word.length : Nat) : Int) ≤ ((s.length : Nat) : Int)) = true := decide_eq_true (by omega)
    have e3 : decide (((s.length : Nat) : Int) ≤ ((s.length : Nat) : Int)) = true := decide_eq_true (by omega)
    have et : (s.drop word.length).take (s.length - word.length) = s.drop word.length := List.take_of_length_le (by rw [List.length_drop]; omega)
    by_cases he : (s.take word.length).map lowc = word.map lowc
    · rw [if_pos ⟨hl, he⟩]
      simp only [F72, nat_nn, e1, e2, e3, Bool.and_self, Bool.true_or, cond_true, Bool.not_false, Int.toNat_natCast, h21, he, decide_true, Option.bind_some, Bool.not_true, cond_false, et]
    · rw [if_neg (fun h => he h.2)]
      simp only [F72, nat_nn, e1, e2, Bool.and_self, Bool.true_or, cond_true, Bool.not_false, Int.toNat_natCast, h21, he, decide_false, Option.bind_some]
  · have e1 : decide (((s.length : Nat) : Int) < ((word.length : Nat) : Int)) = true := decide_eq_true (by omega)
    rw [if_neg (fun h => hl h.1)]
    simp only [F72, e1, Bool.or_true, cond_true, Bool.not_true, cond_false]

theorem F96_one (s : List UInt8) (c : UInt8) (hs : s.length ≤ 8000000000) : F96 ((s ++ [c], [c], ()), ()) = some ((s, true, ()), ()) := by
  have hl : (s ++ [c]).length = s.length + 1 := by simp
  have ew : w64 (((s.length + 1 : Nat) : Int) - ((([c] : List UInt8).length : Nat) : Int)) = (s.length : Int) := by
    rw [w64_id (by simp only [List.length_singleton]; omega) (by simp only [List.length_singleton]; omega)]; simp only [List.length_singleton]; omega
  have e2 : decide (((s.length : Nat) : Int) ≤ ((s.length + 1 : Nat) : Int)) = true := decide_eq_true (by omega)
  have e3 : decide (((s.length + 1 : Nat) : Int) ≤ ((s.length + 1 : Nat) : Int)) = true := decide_eq_true (by omega)
  have e4 : decide (((([c] : List UInt8).length : Nat) : Int) ≤ ((s.length + 1 : Nat) : Int)) = true := decide_eq_true (by simp only [List.length_singleton]; omega)
  have ed : (s ++ [c]).drop s.length = [c] := by simp
  have et : ([c] : List UInt8).take (s.length + 1 - s.length) = [c] := by rw [show s.length + 1 - s.length = 1 by omega]; rfl
  have et2 : (s ++ [c]).take s.length = s := by simp
  simp only [F96, F132, F161, hl, ew, nat_nn, e2, e3, e4, Bool.and_self, Bool.true_or, cond_true, Int.toNat_natCast, ed, et, decide_true, Option.bind_some, Bool.not_true, cond_false, et2]

def hfL : List UInt8 := [72, 69, 65, 68, 69, 82, 46, 70, 73, 69, 76, 68, 83, 32, 40]
def hfl : List UInt8 := [104, 101, 97, 100, 101, 114, 46, 102, 105, 101, 108, 100, 115, 32, 40]

/-- what section answers -/
abbrev Sec (x : It) (tail : List UInt8) : ((Int × List UInt8 × Unit × Bool × Int × Int × Unit) × List UInt8 × Bool × Unit) × (List (List UInt8) × Unit) :=
  (((x.1, x.2.1, (), x.2.2.2.1, x.2.2.2.2.1, x.2.2.2.2.2.1, ()), tail, true, ()), (x.2.2.1, ()))

theorem take_at {α : Type} (a r : List α) : (a ++ r).take a.length = a := by simp
theorem drop_at {α : Type} (a r : List α) : (a ++ r).drop a.length = r := by simp
theorem drop_at1 {α : Type} (a r : List α) (c : α) : (a ++ c :: r).drop (a.length + 1) = r := by
  rw [← List.drop_drop, drop_at]; rfl

theorem sec_start (inner tail : List UInt8) (hi : (93 : UInt8) ∉ inner) (hl : (inner ++ 93 :: tail).length ≤ 8000000000) :
    Lib.indexByte (inner ++ 93 :: tail) 93 = (inner.length : Int) ∧ decide ((inner.length : Int) < 0) = false ∧ decide ((0 : Int) ≤ (inner.length : Int)) = true ∧ decide ((inner.length : Int) ≤ (((inner ++ 93 :: tail).length : Nat) : Int)) = true ∧
    w64 ((inner.length : Int) + 1) = ((inner.length + 1 : Nat) : Int) ∧ decide (((inner.length + 1 : Nat) : Int) ≤ (((inner ++ 93 :: tail).length : Nat) : Int)) = true ∧ (inner ++ 93 :: tail).take inner.length = inner ∧
    ((inner ++ 93 :: tail).drop (inner.length + 1)).take ((inner ++ 93 :: tail).length - (inner.length + 1)) = tail := by
  have hn : (inner ++ 93 :: tail).length = inner.length + (tail.length + 1) := by simp
  refine ⟨idx_at 93 inner tail hi, decide_eq_false (by omega), decide_eq_true (by omega), decide_eq_true (by omega), w64_nat (by omega), decide_eq_true (by omega), take_at _ _, ?_⟩
  rw [drop_at1, List.take_of_length_le (by omega)]

theorem F73_names (names : List (List UInt8)) (tail : List UInt8) (h0 : 0 < names.length) (h16 : names.length ≤ 16) (hn : ∀ w ∈ names, nameOK w = true) (hl : tail.length ≤ 1000000000) :
    F73 (((hfL ++ (Lib.join names [32] ++ [41])) ++ 93 :: tail, ()), ()) = some (Sec (7, [], names, false, 0, 0, ()) tail) := by
  have hj := join_bd names
  have hb := names_bd hn
  have hmem : ∀ c ∈ Lib.join names [32], c ≠ 93 := by
    have : ∀ (l : List (List UInt8)), (∀ w ∈ l, nameOK w = true) → ∀ c ∈ Lib.joinTail [32] l, c ≠ 93 := by
      intro l
      induction l with
      | nil => intro _ c hc; simp [Lib.joinTail] at hc
      | cons w l ih =>
        intro h c hc
        rw [jt_cons] at hc
        simp only [List.mem_cons, List.mem_append] at hc
        rcases hc with rfl | hc | hc
        · decide
        · exact (gd_plain (name_gd (h w (by simp)) c hc)).2.1
        · exact ih (fun v hv => h v (by simp [hv])) c hc
    intro c hc
    cases names with
    | nil => simp [Lib.join_nil] at hc
    | cons w l =>
      rw [Lib.join_cons, List.mem_append] at hc
      rcases hc with hc | hc
      · exact (gd_plain (name_gd (hn w (by simp)) c hc)).2.1
      · exact this l (fun v hv => hn v (by simp [hv])) c hc
  have hin : (93 : UInt8) ∉ hfL ++ (Lib.join names [32] ++ [41]) := by
    intro h
    simp only [List.mem_append, List.mem_singleton] at h
    rcases h with h | h | h
    · revert h; decide
    · exact hmem _ h rfl
    · revert h; decide
  have hhl : hfL.length = 15 := rfl
  have hlen : (hfL ++ (Lib.join names [32] ++ [41])).length ≤ 1000 := by simp only [List.length_append, List.length_singleton]; omega
  obtain ⟨a1, a2, a3, a4, a5, a6, a7, a8⟩ := sec_start _ tail hin (by simp only [List.length_append, List.length_cons, List.length_singleton] at hlen ⊢; omega)
  have h72 := F72_eq (hfL ++ (Lib.join names [32] ++ [41])) hfl (by omega) (by decide)
  have hcond : hfl.length ≤ (hfL ++ (Lib.join names [32] ++ [41])).length ∧ ((hfL ++ (Lib.join names [32] ++ [41])).take hfl.length).map lowc = hfl.map lowc := by
    refine ⟨by simp only [List.length_append]; show 15 ≤ 15 + _; omega, ?_⟩
    have : (hfL ++ (Lib.join names [32] ++ [41])).take hfl.length = hfL := take_at hfL _
    rw [this]
    decide
  have hdrop : (hfL ++ (Lib.join names [32] ++ [41])).drop hfl.length = Lib.join names [32] ++ [41] := drop_at hfL _
  rw [if_pos hcond, hdrop] at h72
  have hsp := parts_join names (List.length_pos_iff.1 h0) fun w hw h => (gd_plain (name_gd (hn w hw) _ h)).2.2.1 rfl
  have c1 : decide ((Lib.join names [32]).length < 4294967281) = true := decide_eq_true (by omega)
  have e3 : ∀ n : Nat, decide (((n : Nat) : Int) ≤ ((n : Nat) : Int)) = true := fun n => decide_eq_true (by omega)
  unfold hfl at h72
  simp only [F73, a1, a2, a3, a4, a5, a6, a7, a8, nat_nn, e3, Bool.and_self, cond_true, cond_false, Int.toNat_natCast, Option.bind_some, h72, F96_one _ 41 (show (Lib.join names [32]).length ≤ 8000000000 by omega), c1, hsp]
end Go.Vw

namespace Go.Vw
open Go Go.Ev
set_option maxRecDepth 100000

theorem lc_all : (List.range 256).all (fun n => !plainc (UInt8.ofNat n) || decide (lowc (UInt8.ofNat n) ≠ 40)) = true := by kernel_rfl

theorem lc_plain {c : UInt8} (h : plainc c = true) : lowc c ≠ 40 := by
  have := List.all_eq_true.1 lc_all c.toNat (List.mem_range.2 c.toNat_lt)
  rw [UInt8.ofNat_toNat] at this
  simpa [h] using this

theorem path_no (path : List UInt8) (hp : ∀ c ∈ path, plainc c = true) (hl : path.length ≤ 1100000) : F72 ((path, hfl, ()), ()) = some ((path, false, ()), ()) := by
  have h72 := F72_eq path hfl (by omega) (by decide)
  rw [h72, if_neg]
  rintro ⟨_, h⟩
  have hm : (40 : UInt8) ∈ hfl.map lowc := by decide
  rw [← h] at hm
  obtain ⟨c, hc, e⟩ := List.mem_map.1 hm
  exact lc_plain (hp c (List.mem_of_mem_take hc)) e

theorem pre_no (c d : UInt8) (r : List UInt8) (h : c ≠ d) : Lib.hasPrefix (c :: r) [d] = false := by
  simp [Lib.hasPrefix, List.isPrefixOf, Ne.symm h]

theorem pre_yes (d : UInt8) (r : List UInt8) : Lib.hasPrefix (d :: r) [d] = true := by
  simp [Lib.hasPrefix, List.isPrefixOf]

theorem F73_path (path : List UInt8) (c : UInt8) (r : List UInt8) (hk : okPath path = true) (hu : path.map upc = path) (hl : path.length ≤ 1100000) (hr : r.length ≤ 1000000000) (hc : c ≠ 60) :
    F73 ((path ++ 93 :: (c :: r), ()), ()) = some (Sec (6, path, [], false, 0, 0, ()) (c :: r)) := by
  have hp := path_plain hk
  have hn := plain_not hp
  obtain ⟨a1, a2, a3, a4, a5, a6, a7, a8⟩ := sec_start path (c :: r) hn.1 (by simp only [List.length_append, List.length_cons]; omega)
  have h72 := path_no path hp hl
  have h67 := F67_eq path (by unfold maxLen; omega)
  rw [hu] at h67
  have e3 : ∀ n : Nat, decide (((n : Nat) : Int) ≤ ((n : Nat) : Int)) = true := fun n => decide_eq_true (by omega)
  unfold hfl at h72
  simp only [F73, a1, a2, a3, a4, a5, a6, a7, a8, nat_nn, e3, Bool.and_self, cond_true, cond_false, Int.toNat_natCast, Option.bind_some, h72, h67, pre_no c 60 r hc, Bool.not_false]

theorem fst_at (c : UInt8) : ∀ (w r : List UInt8), c ∉ w → fst c (w ++ c :: r) = some w.length
  | [], r, _ => by simp [fst]
  | b :: w, r, h => by
    simp only [List.mem_cons, not_or] at h
    have e : fst c ((b :: w) ++ c :: r) = if b = c then some 0 else (fst c (w ++ c :: r)).map (· + 1) := rfl
    rw [e, if_neg (fun e => h.1 e.symm), fst_at c w r h.2]
    rfl

theorem F73_part (path : List UInt8) (fr sz : Int) (tail : List UInt8) (hk : okPath path = true) (hu : path.map upc = path) (hl : path.length ≤ 1100000) (hr : tail.length ≤ 1000000000) (hf : bnd fr = true) (hz : bnd sz = true) :
    F73 ((path ++ 93 :: (60 :: (numI fr ++ 46 :: (numI sz ++ 62 :: tail))), ()), ()) = some (Sec (6, path, [], true, fr, sz, ()) tail) := by
  obtain ⟨x, rfl, hx⟩ := bnd_nat hf
  obtain ⟨y, rfl, hy⟩ := bnd_nat hz
  have ex : numI (x : Int) = num x := rfl
  have ey : numI (y : Int) = num y := rfl
  rw [ex, ey]
  have hp := path_plain hk
  have hn := plain_not hp
  have n1 := num_len x
  have n2 := num_len y
  have p1 : (62 : UInt8) ∉ num x := fun m => absurd (dg_plain (num_all x _ m)).1 (by decide)
  have p2 : (62 : UInt8) ∉ num y := fun m => absurd (dg_plain (num_all y _ m)).1 (by decide)
  have p3 : (46 : UInt8) ∉ num x := fun m => (dg_plain (num_all x _ m)).2 rfl
  generalize hR : (60 :: (num x ++ 46 :: (num y ++ 62 :: tail)) : List UInt8) = R
  have hRe : R = (60 :: (num x ++ 46 :: num y)) ++ 62 :: tail := by rw [← hR]; simp
  have hRl : R.length = (num x).length + (num y).length + tail.length + 3 := by rw [hRe]; simp only [List.length_append, List.length_cons]; omega
  obtain ⟨a1, a2, a3, a4, a5, a6, a7, a8⟩ := sec_start path R hn.1 (by simp only [List.length_append, List.length_cons]; omega)
  have h72 := path_no path hp hl
  have h67 := F67_eq path (by unfold maxLen; omega)
  rw [hu] at h67
  have e3 : ∀ n : Nat, decide (((n : Nat) : Int) ≤ ((n : Nat) : Int)) = true := fun n => decide_eq_true (by omega)
  have hpre : Lib.hasPrefix R [60] = true := by rw [← hR]; exact pre_yes 60 _
  have hml : (60 :: (num x ++ 46 :: num y) : List UInt8).length = (num x).length + (num y).length + 2 := by simp only [List.length_cons, List.length_append]; omega
  have hix : Lib.indexByte R 62 = (((num x).length + (num y).length + 2 : Nat) : Int) := by
    rw [hRe, idx_at 62 _ tail (by simp [p1, p2]), hml]
  have b1 : decide ((((num x).length + (num y).length + 2 : Nat) : Int) < 0) = false := decide_eq_false (by omega)
  have b2 : decide ((1 : Int) ≤ (((num x).length + (num y).length + 2 : Nat) : Int)) = true := decide_eq_true (by omega)
  have b3 : decide ((((num x).length + (num y).length + 2 : Nat) : Int) ≤ ((R.length : Nat) : Int)) = true := decide_eq_true (by omega)
  have b4 : w64 ((((num x).length + (num y).length + 2 : Nat) : Int) + 1) = (((num x).length + (num y).length + 2 + 1 : Nat) : Int) := w64_nat (by omega)
  have b5 : decide ((((num x).length + (num y).length + 2 + 1 : Nat) : Int) ≤ ((R.length : Nat) : Int)) = true := decide_eq_true (by omega)
  have b6 : ∀ n : Nat, decide ((0 : Int) ≤ ((n : Nat) : Int)) = true := fun n => decide_eq_true (by omega)
  have t1 : (R.drop 1).take ((num x).length + (num y).length + 2 - 1) = num x ++ 46 :: num y := by
    rw [← hR]
    have : (num x).length + (num y).length + 2 - 1 = (num x ++ 46 :: num y).length := by simp only [List.length_cons, List.length_append]; omega
    rw [this]
    have e : (60 :: (num x ++ 46 :: (num y ++ 62 :: tail)) : List UInt8).drop 1 = (num x ++ 46 :: num y) ++ 62 :: tail := by simp
    rw [e, take_at]
  have t2 : (R.drop ((num x).length + (num y).length + 2 + 1)).take (R.length - ((num x).length + (num y).length + 2 + 1)) = tail := by
    have e : R.drop ((num x).length + (num y).length + 2 + 1) = tail := by rw [hRe, ← hml, drop_at1]
    rw [e, List.take_of_length_le (by omega)]
  have c1 : decide ((num x ++ 46 :: num y).length < 4294967281) = true := decide_eq_true (by simp only [List.length_cons, List.length_append]; omega)
  have hcut : Lib.cut (num x ++ 46 :: num y) [46] = (num x, num y, true) := by
    rw [cut_eq, fst_at 46 _ _ p3]
    simp only
    rw [take_at, drop_at1]
  have f1 := F99_eq (num x) (by omega)
  have f2 := F99_eq (num y) (by omega)
  rw [numR_num x hx] at f1
  rw [numR_num y hy] at f2
  unfold hfl at h72
  simp only [F73, a1, a2, a3, a4, a5, a6, a7, a8, nat_nn, e3, Bool.and_self, cond_true, cond_false, Int.toNat_natCast, Option.bind_some, h72, h67, hpre, Bool.not_true, hix, b1, b2, b3, b4, b5, t1, t2, c1, hcut, f1, f2, decide_true]
end Go.Vw

namespace Go.Vw
open Go Go.Ev
set_option maxRecDepth 100000

def bpl : List UInt8 := [98, 111, 100, 121, 46, 112, 101, 101, 107, 91]

theorem bp_yes (rest : List UInt8) (hl : rest.length ≤ 7000000000) : F72 ((bpW ++ rest, bpl, ()), ()) = some ((rest, true, ()), ()) := by
  have hb : bpW.length = 10 := rfl
  rw [F72_eq (bpW ++ rest) bpl (by simp only [List.length_append]; omega) (by decide), if_pos]
  · rw [show (bpW ++ rest).drop bpl.length = rest from drop_at bpW rest]
  · refine ⟨by simp only [List.length_append]; show 10 ≤ 10 + _; omega, ?_⟩
    rw [show (bpW ++ rest).take bpl.length = bpW from take_at bpW rest]
    decide

theorem bp_no1 (d : UInt8) (rest : List UInt8) (hl : rest.length ≤ 7000000000) (hd : lowc d ≠ 98) : F72 ((d :: rest, bpl, ()), ()) = some ((d :: rest, false, ()), ()) := by
  rw [F72_eq (d :: rest) bpl (by simp only [List.length_cons]; omega) (by decide), if_neg]
  rintro ⟨_, h⟩
  have e : ((d :: rest).take bpl.length).map lowc = lowc d :: (rest.take 9).map lowc := rfl
  rw [e] at h
  have := (List.cons.inj h).1
  exact hd (this.trans (by decide))

theorem bp_no5 (rest : List UInt8) (hl : rest.length ≤ 7000000000) : F72 ((wd 5 ++ rest, bpl, ()), ()) = some ((wd 5 ++ rest, false, ()), ()) := by
  have hw : (wd 5).length = 13 := by decide
  rw [F72_eq (wd 5 ++ rest) bpl (by simp only [List.length_append]; omega) (by decide), if_neg]
  rintro ⟨_, h⟩
  have e : (wd 5 ++ rest).take bpl.length = [66, 79, 68, 89, 83, 84, 82, 85, 67, 84] := rfl
  rw [e] at h
  revert h
  decide

theorem bp_no {see : Int} (h1 : 1 ≤ see) (h5 : see ≤ 5) (rest : List UInt8) (hl : rest.length ≤ 6000000000) : F72 ((wd see ++ rest, bpl, ()), ()) = some ((wd see ++ rest, false, ()), ()) := by
  have q : see = 1 ∨ see = 2 ∨ see = 3 ∨ see = 4 ∨ see = 5 := by omega
  rcases q with rfl | rfl | rfl | rfl | rfl
  · have e : wd 1 = 85 :: [73, 68] := by decide
    rw [e, List.cons_append]
    exact bp_no1 85 ([73, 68] ++ rest) (by simp only [List.length_append, List.length_cons, List.length_nil]; omega) (by decide)
  · have e : wd 2 = 70 :: [76, 65, 71, 83] := by decide
    rw [e, List.cons_append]
    exact bp_no1 70 ([76, 65, 71, 83] ++ rest) (by simp only [List.length_append, List.length_cons, List.length_nil]; omega) (by decide)
  · have e : wd 3 = 82 :: [70, 67, 56, 50, 50, 46, 83, 73, 90, 69] := by decide
    rw [e, List.cons_append]
    exact bp_no1 82 ([70, 67, 56, 50, 50, 46, 83, 73, 90, 69] ++ rest) (by simp only [List.length_append, List.length_cons, List.length_nil]; omega) (by decide)
  · have e : wd 4 = 69 :: [78, 86, 69, 76, 79, 80, 69] := by decide
    rw [e, List.cons_append]
    exact bp_no1 69 ([78, 86, 69, 76, 79, 80, 69] ++ rest) (by simp only [List.length_append, List.length_cons, List.length_nil]; omega) (by decide)
  · exact bp_no5 rest (by omega)

theorem wd_ne {k see : Int} (h1 : 1 ≤ k) (h2 : k < see) (h5 : see ≤ 5) : decide ((wd see).map lowc = (wd k).map lowc) = false := by
  have q1 : see = 2 ∨ see = 3 ∨ see = 4 ∨ see = 5 := by omega
  have q2 : k = 1 ∨ k = 2 ∨ k = 3 ∨ k = 4 := by omega
  rcases q1 with rfl | rfl | rfl | rfl <;> rcases q2 with rfl | rfl | rfl | rfl <;> first | (exfalso; omega) | rfl

theorem wd_clear {see : Int} (h1 : 1 ≤ see) (h5 : see ≤ 5) : ∀ b ∈ wd see, ([32, 41] : List UInt8).contains b = false := by
  have : see = 1 ∨ see = 2 ∨ see = 3 ∨ see = 4 ∨ see = 5 := by omega
  rcases this with rfl | rfl | rfl | rfl | rfl <;> decide

theorem L42_iter {see : Int} (h1 : 1 ≤ see) (h5 : see ≤ 5) (tail : List UInt8) (ht : tail.length ≤ 6000000000) : ∀ (d fuel : Nat) (k : Int), k + (d : Int) = see → 1 ≤ k → d < fuel →
    iter B42_0 fuel ((wd see ++ tail, (), (((wd see).length : Nat) : Int), k, ()), (((), (), (), (), (), (), ()), ([] : List (List UInt8)), ())) = some (.inr (((), tail, (), ()), ((see, (), (), (), (), (), ()), ([] : List (List UInt8)), ()))) := by
  have hw := wd_len see
  have hl : (wd see ++ tail).length = (wd see).length + tail.length := List.length_append ..
  have e1 : decide ((((wd see).length : Nat) : Int) ≤ (((wd see ++ tail).length : Nat) : Int)) = true := decide_eq_true (by omega)
  have e3 : ∀ n : Nat, decide (((n : Nat) : Int) ≤ ((n : Nat) : Int)) = true := fun n => decide_eq_true (by omega)
  have t2 : ((wd see ++ tail).drop (wd see).length).take ((wd see ++ tail).length - (wd see).length) = tail := by
    rw [drop_at, List.take_of_length_le (by omega)]
  intro d
  induction d with
  | zero =>
    intro fuel k hk hk1 hf
    obtain ⟨fuel, rfl⟩ : ∃ f, fuel = f + 1 := ⟨fuel - 1, by omega⟩
    obtain rfl : k = see := by omega
    have h21 := F21_eq (wd k) (wd k) (by unfold maxLen; omega) (by unfold maxLen; omega)
    have e5 : decide (k ≤ (5:Int)) = true := decide_eq_true h5
    simp only [iter, B42_0, e5, cond_true, nat_nn, e1, e3, Bool.and_self, F35_eq, Option.bind_some, Int.toNat_natCast, take_at, h21, decide_true, t2]
  | succ d ih =>
    intro fuel k hk hk1 hf
    obtain ⟨fuel, rfl⟩ : ∃ f, fuel = f + 1 := ⟨fuel - 1, by omega⟩
    have hwk := wd_len k
    have h21 := F21_eq (wd see) (wd k) (by unfold maxLen; omega) (by unfold maxLen; omega)
    rw [wd_ne hk1 (by omega) h5] at h21
    have e5 : decide (k ≤ (5:Int)) = true := decide_eq_true (by omega)
    have ew : w64 (k + 1) = k + 1 := w64_id (by omega) (by omega)
    simp only [iter, B42_0, e5, cond_true, nat_nn, e1, Bool.and_self, F35_eq, Option.bind_some, Int.toNat_natCast, take_at, h21, cond_false, ew]
    exact ih fuel (k + 1) (by omega) (by omega) (by omega)

theorem F42_eq {x : It} (hx : good1 x) (c : UInt8) (r : List UInt8) (hc : c = 32 ∨ c = 41) (hr : r.length ≤ 900000000) (ha : ascii (wrd x ++ c :: r) = true) :
    F42 ((wrd x ++ c :: r, ()), ()) = some (Sec x (c :: r)) := by
  have hF := FUEL_big
  have hc60 : c ≠ 60 := by rcases hc with rfl | rfl <;> decide
  have hwl := wrd_len hx
  have htl : (c :: r).length ≤ 1000000000 := by simp only [List.length_cons]; omega
  obtain ⟨see, path, names, part, fr, sz, ⟨⟩⟩ := x
  rcases ok_cases hx with ⟨rfl, rfl, rfl, rfl, rfl, a0, a1, a2⟩ | ⟨rfl, rfl, k1, k2, a1, a2⟩ | ⟨b1, b2, rfl, rfl, rfl, rfl, rfl⟩
  · have hs : wrd (7, [], names, false, 0, 0, ()) ++ c :: r = bpW ++ ((hfL ++ (Lib.join names [32] ++ [41])) ++ 93 :: (c :: r)) := by
      unfold wrd
      rw [if_pos rfl]
      show (hfW ++ _) ++ _ = _
      rw [show hfW = bpW ++ hfL from rfl]
      simp
    have hj := join_bd names
    have hb := names_bd a2
    have hhl : hfL.length = 15 := rfl
    have hy := bp_yes ((hfL ++ (Lib.join names [32] ++ [41])) ++ 93 :: (c :: r)) (by simp only [List.length_append, List.length_cons, List.length_nil]; omega)
    have hy73 := F73_names names (c :: r) a0 a1 a2 htl
    rw [hs]
    unfold bpl at hy
    simp only [F42, hy, Option.bind_some, cond_true, hy73]
  · rcases a2 with ⟨rfl, c1, c2, c3⟩ | ⟨rfl, rfl, rfl⟩
    · have hs : wrd (6, path, [], true, fr, sz, ()) ++ c :: r = bpW ++ (path ++ 93 :: (60 :: (numI fr ++ 46 :: (numI sz ++ 62 :: (c :: r))))) := by
        unfold wrd ptW
        rw [if_neg (show ¬ (6 : Int) = 7 by decide), if_pos rfl]
        simp
      have n1 : (numI fr).length ≤ 10 := num_len _
      have n2 : (numI sz).length ≤ 10 := num_len _
      have hy := bp_yes (path ++ 93 :: (60 :: (numI fr ++ 46 :: (numI sz ++ 62 :: (c :: r))))) (by simp only [List.length_append, List.length_cons]; omega)
      have hy73 := F73_part path fr sz (c :: r) k1 k2 a1 htl c1 c2
      rw [hs]
      unfold bpl at hy
      simp only [F42, hy, Option.bind_some, cond_true, hy73]
    · have hs : wrd (6, path, [], false, 0, 0, ()) ++ c :: r = bpW ++ (path ++ 93 :: (c :: r)) := by
        unfold wrd
        rw [if_neg (show ¬ (6 : Int) = 7 by decide), if_pos rfl]
        simp
      have hy := bp_yes (path ++ 93 :: (c :: r)) (by simp only [List.length_append, List.length_cons]; omega)
      have hy73 := F73_path path c r k1 k2 a1 (by omega) hc60
      rw [hs]
      unfold bpl at hy
      simp only [F42, hy, Option.bind_some, cond_true, hy73]
  · have h7 : ¬ see = 7 := by omega
    have h6 : ¬ see = 6 := by omega
    have hs : wrd (see, [], [], false, 0, 0, ()) = wd see := by unfold wrd; rw [if_neg h7, if_neg h6]
    rw [hs] at ha ⊢
    have hw := wd_len see
    have hno := bp_no b1 b2 (c :: r) (by omega)
    have hia := any_at [32, 41] c (by rcases hc with rfl | rfl <;> rfl) (wd see) r (wd_clear b1 b2)
    have hL : L42_0 ((wd see ++ c :: r, (), (((wd see).length : Nat) : Int), (1:Int), ()), (((), (), (), (), (), (), ()), ([] : List (List UInt8)), ())) = _ :=
      L42_iter b1 b2 (c :: r) (by omega) (see.toNat - 1) FUEL 1 (by omega) (by omega) (by omega)
    have e1 : decide ((wd see ++ c :: r).length < 4294967281) = true := decide_eq_true (by simp only [List.length_append]; omega)
    have e2 : decide ((((wd see).length : Nat) : Int) < 0) = false := decide_eq_false (by omega)
    unfold bpl at hno
    simp only [F42, hno, Option.bind_some, cond_false, e1, ha, Bool.and_self, cond_true, hia, e2, hL]
end Go.Vw

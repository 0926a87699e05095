/- Place in plain Lean: hashes, seats in order of their users. -/
import Derived.Test.YtjpbndlmjbmdaaaPl1
import Derived.Test.YtjpbndlmjbmdaaaMapL
namespace Go.Pl
open Go Go.Ev
set_option maxRecDepth 100000

abbrev Tx := List UInt8
abbrev Seat := T3.den

/-! ### hashes -/
theorem wrap32 (n : Nat) : IntKind.wrap .u32 (n : Int) = ((n % 4294967296 : Nat) : Int) := by
  simp only [IntKind.wrap, IntKind.bits, IntKind.signed]
  simp

theorem xor32 (a b : Nat) (ha : a < 4294967296) (hb : b < 4294967296) : bitsOf .xor .u32 (a : Int) (b : Int) = ((a ^^^ b : Nat) : Int) := by
  have hx : a ^^^ b < 4294967296 := Nat.xor_lt_two_pow (n := 32) ha hb
  have e : bitsOf .xor .u32 (a : Int) (b : Int) = IntKind.wrap .u32 ((BitVec.ofInt 32 (a : Int) ^^^ BitVec.ofInt 32 (b : Int)).toNat : Int) := rfl
  rw [e, BitVec.ofInt_natCast, BitVec.ofInt_natCast, BitVec.toNat_xor, BitVec.toNat_ofNat, BitVec.toNat_ofNat, wrap32]
  rw [Nat.mod_eq_of_lt (show a < 2 ^ 32 from ha), Nat.mod_eq_of_lt (show b < 2 ^ 32 from hb), Nat.mod_eq_of_lt hx]

theorem xor64 (a b : Nat) (ha : a < 256) (hb : b < 256) : bitsOf .xor .i64 (a : Int) (b : Int) = ((a ^^^ b : Nat) : Int) := by
  have hx : a ^^^ b < 256 := Nat.xor_lt_two_pow (n := 8) ha hb
  have e : bitsOf .xor .i64 (a : Int) (b : Int) = w64 ((BitVec.ofInt 64 (a : Int) ^^^ BitVec.ofInt 64 (b : Int)).toNat : Int) := rfl
  rw [e, BitVec.ofInt_natCast, BitVec.ofInt_natCast, BitVec.toNat_xor, BitVec.toNat_ofNat, BitVec.toNat_ofNat]
  rw [Nat.mod_eq_of_lt (show a < 2 ^ 64 by omega), Nat.mod_eq_of_lt (show b < 2 ^ 64 by omega)]
  exact w64_id (by omega) (by omega)

theorem xor_low (h b : Nat) (hb : b < 256) : h - h % 256 + (h % 256 ^^^ b) = h ^^^ b := by
  have e1 : (h ^^^ b) % 256 = h % 256 ^^^ b := by
    have := @Nat.xor_mod_two_pow h b 8
    rw [show (2 : Nat) ^ 8 = 256 from rfl, Nat.mod_eq_of_lt hb] at this
    exact this
  have e2 : (h ^^^ b) / 256 = h / 256 := by
    have := @Nat.xor_div_two_pow h b 8
    rw [show (2 : Nat) ^ 8 = 256 from rfl, Nat.div_eq_of_lt hb, Nat.xor_zero] at this
    exact this
  omega

def hashN (h : Nat) (b : UInt8) : Nat := ((h ^^^ b.toNat) * 16777619) % 4294967296
def hash (s : Tx) : Nat := s.foldl hashN 2166136261

theorem hash_lt (s : Tx) : hash s < 4294967296 := by
  unfold hash
  have : ∀ (s : Tx) (h : Nat), h < 4294967296 → s.foldl hashN h < 4294967296 := fun s => by
    induction s with
    | nil => intro h hh; exact hh
    | cons a t ih => intro h _; exact ih _ (Nat.mod_lt _ (by decide))
  exact this s _ (by decide)

theorem foldS_foldl {α β τ : Type} (g : β → α → β) (fin : β → τ) : ∀ (l : List α) (b : β), foldS (fun a b => .inl (g b a)) fin b l = fin (l.foldl g b)
  | [], _ => rfl
  | a :: t, b => by simp only [foldS, List.foldl_cons]; exact foldS_foldl g fin t (g b a)

theorem F11_eq (s : Tx) (hs : s.length ≤ maxLen) : F11 ((s, ()), ()) = some ((hash s : Int), ()) := by
  have hm : maxLen = 9223372036854775807 := rfl
  have hl := walk_listI (f := B11_0) (fun (h : {h : Nat // h < 4294967296}) i => ((s, (h.1 : Int), (s.length : Int), (i : Int), ()), ())) s (fun a b => .inl ⟨hashN b.1 a, Nat.mod_lt _ (by decide)⟩) (fun h => (((h.1 : Int), ()), ())) (fun _ _ => True) (fun b i a _ hi ha => .inl ⟨_, rfl, trivial, by
    have hb := b.2
    have ha' : a.toNat < 256 := a.toNat_lt
    simp only [B11_0]
    rw [nat_lt, decide_eq_true hi, nat_nn]
    simp only [Bool.and_self, cond_true, Option.bind_some, Int.toNat_natCast, ha 0]
    rw [xor32 _ _ hb (by omega), w64_nat (by omega)]
    have : ((b.1 ^^^ a.toNat : Nat) : Int) * 16777619 = (((b.1 ^^^ a.toNat) * 16777619 : Nat) : Int) := by omega
    rw [this, wrap32]
    rfl⟩) (fun b _ => by
    simp only [B11_0]
    rw [nat_lt, decide_eq_false (Nat.lt_irrefl _)]
    rfl) (by unfold FUEL; omega) (b := ⟨2166136261, by decide⟩) trivial
  have e : ∀ (l : Tx) (b : {h : Nat // h < 4294967296}), foldS (fun a (b : {h : Nat // h < 4294967296}) => Sum.inl ⟨hashN b.1 a, Nat.mod_lt _ (by decide)⟩) (fun h => (((h.1 : Int), ()), ())) b l = ((((l.foldl hashN b.1 : Nat) : Int), ()), ()) := fun l => by
    induction l with
    | nil => intro b; rfl
    | cons a t ih => intro b; simp only [foldS, List.foldl_cons]; exact ih _
  simp only [F11, L11_0]
  erw [hl]
  rw [e]
  rfl

theorem F12_eq (s : Tx) (hs : s.length ≤ maxLen) : F12 ((s, ()), ()) = some ((hash s : Int), ()) := by
  have hm : maxLen = 9223372036854775807 := rfl
  have hl := walk_listI (f := B12_0) (fun (h : {h : Nat // h < 4294967296}) i => ((s, (h.1 : Int), (i : Int), ()), ())) s (fun a b => .inl ⟨hashN b.1 a, Nat.mod_lt _ (by decide)⟩) (fun h => (((h.1 : Int), ()), ())) (fun _ _ => True) (fun b i a _ hi ha => .inl ⟨_, rfl, trivial, by
    have hb := b.2
    have ha' : a.toNat < 256 := a.toNat_lt
    simp only [B12_0]
    rw [nat_lt, decide_eq_true hi, nat_nn]
    simp only [Bool.and_self, cond_true, Option.bind_some, Int.toNat_natCast, ha 0]
    have e1 : Int.tmod (b.1 : Int) 256 = ((b.1 % 256 : Nat) : Int) := by rw [Int.tmod_eq_emod_of_nonneg (by omega)]; rfl
    have hlt : b.1 % 256 < 256 := Nat.mod_lt _ (by decide)
    have hx : b.1 ^^^ a.toNat < 4294967296 := Nat.xor_lt_two_pow (n := 32) hb (by omega)
    have hxl := xor_low b.1 a.toNat ha'
    have hle : b.1 % 256 ≤ b.1 := Nat.mod_le _ _
    rw [e1, xor64 _ _ hlt ha', w64_nat (by omega)]
    have e2 : w64 ((b.1 : Int) - ((b.1 % 256 : Nat) : Int)) = ((b.1 - b.1 % 256 : Nat) : Int) := by rw [w64_id (by omega) (by omega)]; omega
    rw [e2]
    have e3 : w64 (((b.1 - b.1 % 256 : Nat) : Int) + ((b.1 % 256 ^^^ a.toNat : Nat) : Int)) = ((b.1 ^^^ a.toNat : Nat) : Int) := by rw [← hxl, w64_id (by omega) (by omega)]; omega
    rw [e3]
    have e4 : w64 (((b.1 ^^^ a.toNat : Nat) : Int) * 16777619) = (((b.1 ^^^ a.toNat) * 16777619 : Nat) : Int) := by rw [w64_id (by omega) (by omega)]; omega
    rw [e4, Int.tmod_eq_emod_of_nonneg (by omega)]
    rfl⟩) (fun b _ => by
    simp only [B12_0]
    rw [nat_lt, decide_eq_false (Nat.lt_irrefl _)]
    rfl) (by unfold FUEL; omega) (b := ⟨2166136261, by decide⟩) trivial
  have e : ∀ (l : Tx) (b : {h : Nat // h < 4294967296}), foldS (fun a (b : {h : Nat // h < 4294967296}) => Sum.inl ⟨hashN b.1 a, Nat.mod_lt _ (by decide)⟩) (fun h => (((h.1 : Int), ()), ())) b l = ((((l.foldl hashN b.1 : Nat) : Int), ()), ()) := fun l => by
    induction l with
    | nil => intro b; rfl
    | cons a t ih => intro b; simp only [foldS, List.foldl_cons]; exact ih _
  simp only [F12, L12_0]
  erw [hl]
  rw [e]
  have : IntKind.wrap .u32 ((hash s : Nat) : Int) = ((hash s : Nat) : Int) := by rw [wrap32, Nat.mod_eq_of_lt (hash_lt s)]
  simp only [Option.bind_some]
  unfold hash at this ⊢
  rw [this]

/-- where a user is at first -/
def home (u : Tx) (n : Int) : Int := cond (decide (1 ≤ n) && decide (n ≤ 4)) ((hash u : Int) % n) 0
def rightN (n : Int) : Bool := decide (1 ≤ n) && decide (n ≤ 4)

theorem F8_eq (u : Tx) (n : Int) (hs : u.length ≤ maxLen) : F8 ((u, n, ()), ()) = some ((home u n, cond (rightN n) 0 2, ()), ()) := by
  simp only [F8, home, rightN]
  cases h : (decide (1 ≤ n) && decide (n ≤ 4)) with
  | false => rfl
  | true =>
    simp only [Bool.and_eq_true, decide_eq_true_eq] at h
    obtain ⟨h1, h2⟩ := h
    simp only [Bool.not_true, cond_false, F11_eq u hs, Option.bind_some]
    have e : IntKind.wrap .u32 n = n := by
      obtain ⟨k, rfl⟩ := Int.eq_ofNat_of_zero_le (show 0 ≤ n by omega)
      rw [wrap32, Nat.mod_eq_of_lt (by omega)]
    rw [e, decide_eq_true (by omega), cond_true, Int.tmod_eq_emod_of_nonneg (by omega)]
    have := Int.emod_lt_of_pos (hash u : Int) (show 0 < n by omega)
    have := Int.emod_nonneg (hash u : Int) (show n ≠ 0 by omega)
    rw [w64_id (by omega) (by omega)]
    rfl

theorem F9_eq (u : Tx) (n : Int) (hs : u.length ≤ maxLen) : F9 ((u, n, ()), ()) = some ((home u n, cond (rightN n) 0 2, ()), ()) := by
  simp only [F9, home, rightN]
  by_cases h1 : 1 ≤ n
  · by_cases h2 : n ≤ 4
    · rw [decide_eq_false (show ¬ n < 1 by omega), decide_eq_false (show ¬ 4 < n by omega), decide_eq_true h1, decide_eq_true h2]
      simp only [Bool.or_self, cond_false, F12_eq u hs, Option.bind_some, Bool.and_self, cond_true]
      have := hash_lt u
      rw [decide_eq_true (by omega), cond_true, w64_id (by omega) (by omega), Int.tmod_eq_emod_of_nonneg (by omega)]
    · rw [decide_eq_false (show ¬ n < 1 by omega), decide_eq_true (show 4 < n by omega), decide_eq_true h1, decide_eq_false h2]
      rfl
  · rw [decide_eq_true (show n < 1 by omega), decide_eq_false h1]
    rfl
end Go.Pl

namespace Go.Pl
open Go Go.Ev
set_option maxRecDepth 100000

abbrev Ent := Tx × Seat
def getL (L : List Seat) (u : Tx) : Option Seat := L.find? fun s => decide (s.1 = u)
def putL : List Seat → Seat → List Seat
  | [], s => [s]
  | a :: r, s => if a.1 < s.1 then a :: putL r s else if a.1 = s.1 then s :: r else s :: a :: r
def Srt (L : List Seat) : Prop := L.Pairwise fun a b => a.1 < b.1

theorem getL_none {L : List Seat} {u : Tx} : getL L u = none ↔ ∀ s ∈ L, s.1 ≠ u := by
  unfold getL
  rw [List.find?_eq_none]
  simp
theorem getL_some {L : List Seat} {u : Tx} {s : Seat} (h : getL L u = some s) : s ∈ L ∧ s.1 = u := by
  unfold getL at h
  exact ⟨List.mem_of_find?_eq_some h, by simpa using List.find?_some h⟩

theorem Srt.inj {L : List Seat} (hs : Srt L) {a b : Seat} (ha : a ∈ L) (hb : b ∈ L) (h : a.1 = b.1) : a = b := by
  obtain ⟨i, hi, rfl⟩ := List.getElem_of_mem ha
  obtain ⟨j, hj, rfl⟩ := List.getElem_of_mem hb
  have h1 := List.pairwise_iff_getElem.1 hs
  rcases Nat.lt_trichotomy i j with h' | h' | h'
  · have := h1 i j hi hj h'
    rw [h] at this
    exact absurd this (List.lt_irrefl _)
  · subst h'; rfl
  · have := h1 j i hj hi h'
    rw [h] at this
    exact absurd this (List.lt_irrefl _)

theorem getL_iff {L : List Seat} (hs : Srt L) {u : Tx} {s : Seat} : getL L u = some s ↔ s ∈ L ∧ s.1 = u := by
  refine ⟨getL_some, fun ⟨h1, h2⟩ => ?_⟩
  cases h : getL L u with
  | none => exact absurd h2 (getL_none.1 h s h1)
  | some t =>
    obtain ⟨h3, h4⟩ := getL_some h
    rw [hs.inj h1 h3 (h2.trans h4.symm)]

theorem mem_putL {s : Seat} : ∀ {L : List Seat}, Srt L → ∀ x, x ∈ putL L s ↔ x = s ∨ (x ∈ L ∧ x.1 ≠ s.1)
  | [], _, x => by simp [putL]
  | a :: r, hs, x => by
    have hs' : Srt r := (List.pairwise_cons.1 hs).2
    have ha := (List.pairwise_cons.1 hs).1
    unfold putL
    by_cases h1 : a.1 < s.1
    · rw [if_pos h1, List.mem_cons, mem_putL hs' x, List.mem_cons]
      have hne : a.1 ≠ s.1 := fun e => by rw [e] at h1; exact List.lt_irrefl _ h1
      constructor
      · rintro (rfl | rfl | ⟨h, h'⟩)
        · exact .inr ⟨.inl rfl, hne⟩
        · exact .inl rfl
        · exact .inr ⟨.inr h, h'⟩
      · rintro (rfl | ⟨rfl | h, h'⟩)
        · exact .inr (.inl rfl)
        · exact .inl rfl
        · exact .inr (.inr ⟨h, h'⟩)
    · rw [if_neg h1]
      by_cases h2 : a.1 = s.1
      · rw [if_pos h2, List.mem_cons, List.mem_cons]
        constructor
        · rintro (rfl | h)
          · exact .inl rfl
          · refine .inr ⟨.inr h, fun e => ?_⟩
            have := ha x h
            rw [h2, e] at this
            exact List.lt_irrefl _ this
        · rintro (rfl | ⟨rfl | h, h'⟩)
          · exact .inl rfl
          · exact absurd h2 h'
          · exact .inr h
      · rw [if_neg h2, List.mem_cons, List.mem_cons]
        have h3 : s.1 < a.1 := by
          rcases List.le_iff_lt_or_eq.1 (List.not_lt.1 h1) with h | h
          · exact h
          · exact absurd h.symm h2
        constructor
        · rintro (rfl | rfl | h)
          · exact .inl rfl
          · exact .inr ⟨.inl rfl, h2⟩
          · refine .inr ⟨.inr h, fun e => ?_⟩
            have := List.lt_trans h3 (ha x h)
            rw [e] at this
            exact List.lt_irrefl _ this
        · rintro (rfl | ⟨rfl | h, h'⟩)
          · exact .inl rfl
          · exact .inr (.inl rfl)
          · exact .inr (.inr h)

theorem srt_putL {s : Seat} : ∀ {L : List Seat}, Srt L → Srt (putL L s)
  | [], _ => by simp [putL, Srt]
  | a :: r, hs => by
    have hs' : Srt r := (List.pairwise_cons.1 hs).2
    have ha := (List.pairwise_cons.1 hs).1
    unfold putL
    by_cases h1 : a.1 < s.1
    · rw [if_pos h1]
      refine List.pairwise_cons.2 ⟨fun x hx => ?_, srt_putL hs'⟩
      rcases (mem_putL hs' x).1 hx with rfl | ⟨h, _⟩
      · exact h1
      · exact ha x h
    · rw [if_neg h1]
      by_cases h2 : a.1 = s.1
      · rw [if_pos h2]
        exact List.pairwise_cons.2 ⟨fun x hx => by rw [← h2]; exact ha x hx, hs'⟩
      · rw [if_neg h2]
        have h3 : s.1 < a.1 := by
          rcases List.le_iff_lt_or_eq.1 (List.not_lt.1 h1) with h | h
          · exact h
          · exact absurd h.symm h2
        refine List.pairwise_cons.2 ⟨fun x hx => ?_, hs⟩
        rcases List.mem_cons.1 hx with rfl | h
        · exact h3
        · exact List.lt_trans h3 (ha x h)

/-- how many come ahead of a user -/
def posL (L : List Seat) (u : Tx) : Nat := (L.takeWhile fun s => decide (s.1 < u)).length

theorem posL_le (L : List Seat) (u : Tx) : posL L u ≤ L.length := by
  unfold posL
  have := List.takeWhile_prefix (p := fun s : Seat => decide (s.1 < u)) (l := L)
  exact this.length_le

theorem posL_cons_lt {a : Seat} {r : List Seat} {u : Tx} (h : a.1 < u) : posL (a :: r) u = posL r u + 1 := by
  simp [posL, List.takeWhile_cons, h]
theorem posL_cons_ge {a : Seat} {r : List Seat} {u : Tx} (h : ¬ a.1 < u) : posL (a :: r) u = 0 := by
  simp [posL, List.takeWhile_cons, h]

/-- is the user there? -/
def isL (L : List Seat) (u : Tx) : Bool := match L[posL L u]? with
  | some s => decide (s.1 = u)
  | none => false

theorem getL_pos {u : Tx} : ∀ {L : List Seat}, Srt L → getL L u = cond (isL L u) L[posL L u]? none
  | [], _ => by simp [getL, isL]
  | a :: r, hs => by
    have hs' : Srt r := (List.pairwise_cons.1 hs).2
    have ha := (List.pairwise_cons.1 hs).1
    by_cases h1 : a.1 < u
    · have hne : a.1 ≠ u := fun e => by rw [e] at h1; exact List.lt_irrefl _ h1
      have := getL_pos (u := u) hs'
      unfold isL at this ⊢
      rw [posL_cons_lt h1]
      simp only [List.getElem?_cons_succ]
      rw [← this]
      simp [getL, List.find?_cons, hne]
    · unfold isL
      rw [posL_cons_ge h1]
      simp only [List.getElem?_cons_zero]
      by_cases h2 : a.1 = u
      · simp [getL, List.find?_cons, h2]
      · rw [decide_eq_false h2, cond_false, getL_none]
        intro s hs2 e
        rcases List.mem_cons.1 hs2 with rfl | h
        · exact h2 e
        · have := ha s h
          rw [e] at this
          exact h1 this

theorem isL_get {L : List Seat} (hs : Srt L) {u : Tx} : (getL L u).isSome = isL L u := by
  rw [getL_pos hs]
  cases h : isL L u with
  | false => rfl
  | true =>
    unfold isL at h
    rw [cond_true]
    split at h
    · next e => rw [e]; rfl
    · cases h

theorem putL_pos {s : Seat} : ∀ {L : List Seat}, putL L s = L.take (posL L s.1) ++ [s] ++ L.drop (posL L s.1 + cond (isL L s.1) 1 0)
  | [] => by simp [putL, posL, isL]
  | a :: r => by
    unfold putL
    by_cases h1 : a.1 < s.1
    · rw [if_pos h1, putL_pos (s := s) (L := r)]
      unfold isL
      rw [posL_cons_lt h1]
      simp only [List.getElem?_cons_succ]
      rw [show posL r s.1 + 1 + (cond (match r[posL r s.1]? with | some x => decide (x.1 = s.1) | none => false) 1 0) = (posL r s.1 + (cond (match r[posL r s.1]? with | some x => decide (x.1 = s.1) | none => false) 1 0)) + 1 by omega]
      simp
    · rw [if_neg h1]
      unfold isL
      rw [posL_cons_ge h1]
      simp only [List.getElem?_cons_zero]
      by_cases h2 : a.1 = s.1
      · rw [if_pos h2, decide_eq_true h2]
        simp
      · rw [if_neg h2, decide_eq_false h2]
        simp

/-- A map, and the list that it stands for. -/
structure Rel (M : List Ent) (L : List Seat) : Prop where
  nd : (M.map (·.1)).Nodup
  keys : ∀ p ∈ M, p.1 = p.2.1
  bound : ∀ p ∈ M, p.1.length ≤ maxLen
  perm : (M.map (·.2)).Perm L
  srt : Srt L

theorem Rel.nil : Rel [] [] := ⟨by simp, by simp, by simp, by simp, by simp [Srt]⟩

theorem Rel.len {M : List Ent} {L : List Seat} (h : Rel M L) : M.length = L.length := by simpa using h.perm.length_eq

theorem Rel.mem {M : List Ent} {L : List Seat} (h : Rel M L) {s : Seat} : s ∈ L ↔ (s.1, s) ∈ M := by
  rw [← h.perm.mem_iff, List.mem_map]
  constructor
  · rintro ⟨p, hp, rfl⟩
    rw [← h.keys p hp]
    exact hp
  · intro hp
    exact ⟨_, hp, rfl⟩

theorem Rel.get {M : List Ent} {L : List Seat} (h : Rel M L) (u : Tx) : mapGet .str M u = getL L u := by
  cases hg : getL L u with
  | none =>
    rw [mapGet_none KE_str]
    intro p hp e
    have hk := h.keys p hp
    have : (p.2.1, p.2) ∈ M := by rw [← hk]; exact hp
    exact (getL_none.1 hg) p.2 (h.mem.2 this) (by rw [← hk, e])
  | some s =>
    obtain ⟨h1, h2⟩ := getL_some hg
    refine mapGet_mem KE_str h.nd ?_
    rw [← h2]
    exact h.mem.1 h1

theorem Rel.put {M : List Ent} {L : List Seat} (h : Rel M L) {s : Seat} (hb : s.1.length ≤ maxLen) : Rel (mapSet .str M s.1 s) (putL L s) where
  nd := mapSet_nd KE_str h.nd
  keys := fun p hp => by
    rcases (mapSet_mem KE_str h.nd p).1 hp with rfl | ⟨hp, _⟩
    · rfl
    · exact h.keys p hp
  bound := fun p hp => by
    rcases (mapSet_mem KE_str h.nd p).1 hp with rfl | ⟨hp, _⟩
    · exact hb
    · exact h.bound p hp
  srt := srt_putL h.srt
  perm := by
    have hn1 : ((mapSet .str M s.1 s).map (·.2)).Nodup := by
      have := mapSet_nd (x := s) (k := s.1) KE_str h.nd
      rw [List.Nodup, List.pairwise_map] at this ⊢
      refine this.imp_of_mem fun {a b} ha hb hne e => hne ?_
      have key : ∀ p ∈ mapSet .str M s.1 s, p.1 = p.2.1 := fun p hp => by
        rcases (mapSet_mem KE_str h.nd p).1 hp with rfl | ⟨hp, _⟩
        · rfl
        · exact h.keys p hp
      rw [key a ha, key b hb, e]
    have hn2 : (putL L s).Nodup := by
      have := srt_putL (s := s) h.srt
      exact this.imp fun {a b} hlt e => by rw [e] at hlt; exact List.lt_irrefl _ hlt
    refine (List.perm_ext_iff_of_nodup hn1 hn2).2 fun x => ?_
    rw [mem_putL h.srt, List.mem_map]
    constructor
    · rintro ⟨p, hp, rfl⟩
      rcases (mapSet_mem KE_str h.nd p).1 hp with rfl | ⟨hp, hne⟩
      · exact .inl rfl
      · have hk := h.keys p hp
        refine .inr ⟨h.mem.2 (by rw [← hk]; exact hp), by rw [← hk]; exact hne⟩
    · rintro (rfl | ⟨hx, hne⟩)
      · exact ⟨(x.1, x), (mapSet_mem KE_str h.nd _).2 (.inl rfl), rfl⟩
      · exact ⟨(x.1, x), (mapSet_mem KE_str h.nd _).2 (.inr ⟨h.mem.1 hx, hne⟩), rfl⟩

theorem Rel.sort {M : List Ent} {L : List Seat} (h : Rel M L) : srt26 M = L := by
  have h1 := srt26_of h.nd h.keys (d := L.map toST) (by
    have := h.perm.symm.map toST
    simpa [List.map_map, Function.comp_def] using this) (by
    rw [List.pairwise_map]
    exact h.srt.imp fun {a b} hlt hlt' => List.lt_irrefl _ (List.lt_trans hlt hlt'))
  have hinj : Function.Injective toST := fun a b e => toST_inj e
  exact ((List.map_inj_right (fun _ _ e => toST_inj e)).1 h1).symm

theorem Rel.ok {M : List Ent} {L : List Seat} (h : Rel M L) (hl : L.length ≤ 1048576) : srt26OK M = true := by
  simp only [srt26OK, Bool.and_eq_true, decide_eq_true_eq, List.all_eq_true]
  exact ⟨by have := h.len; omega, fun p hp => ⟨h.bound p hp, h.keys p hp⟩⟩
end Go.Pl

namespace Go.Pl
open Go Go.Ev
set_option maxRecDepth 100000

/-- where a user is -/
def seatL (n : Int) (L : List Seat) (u : Tx) : Seat := (getL L u).getD (u, home u n, 1, ())

theorem seat_eta (s : Seat) : (s.1, s.2.1, s.2.2.1, ()) = s := rfl

theorem F14_eq {M : List Ent} {L : List Seat} (h : Rel M L) (n : Int) (u : Tx) (hu : u.length ≤ maxLen) :
    F14 ((true, u, ()), ((n, (), ()), M, ())) = some ((seatL n L u, 0, ()), ((n, (), ()), M, ())) := by
  simp only [F14, Bool.not_true, cond_false, cond_true, Option.bind_some, h.get u]
  cases hg : getL L u with
  | none =>
    simp only [Option.isSome_none, cond_false, F8_eq u n hu, Option.bind_some, seatL, hg, Option.getD_none]
  | some s =>
    simp only [Option.isSome_some, cond_true, Option.bind_some, seatL, hg, Option.getD_some]

theorem F14_nil (u : Tx) (x : (Int × Unit × Unit) × List Ent × Unit) : F14 ((false, u, ()), x) = some ((([], 0, 0, ()), 1, ()), x) := rfl

/-- What a seat that is learnt makes of the list. -/
def learnL (n : Int) (L : List Seat) (s : Seat) : Int × List Seat :=
  cond (decide (s.2.1 < 0) || decide (n ≤ s.2.1) || decide (s.2.2.1 < 1)) (2, L)
    (cond (decide (s.2.2.1 ≤ (seatL n L s.1).2.2.1)) (12, L)
      (cond (!(getL L s.1).isSome && decide (64 ≤ L.length)) (8, L) (0, putL L s)))

/-- .. and of the map. -/
def learnM (n : Int) (M : List Ent) (L : List Seat) (s : Seat) : List Ent :=
  cond (decide (s.2.1 < 0) || decide (n ≤ s.2.1) || decide (s.2.2.1 < 1)) M
    (cond (decide (s.2.2.1 ≤ (seatL n L s.1).2.2.1)) M
      (cond (!(getL L s.1).isSome && decide (64 ≤ L.length)) M (mapSet .str M s.1 s)))

theorem Rel.learn {M : List Ent} {L : List Seat} (h : Rel M L) (n : Int) (s : Seat) (hu : s.1.length ≤ maxLen) : Rel (learnM n M L s) (learnL n L s).2 := by
  unfold learnM learnL
  cases (decide (s.2.1 < 0) || decide (n ≤ s.2.1) || decide (s.2.2.1 < 1)) <;> simp only [cond_true, cond_false]
  · cases decide (s.2.2.1 ≤ (seatL n L s.1).2.2.1) <;> simp only [cond_true, cond_false]
    · cases (!(getL L s.1).isSome && decide (64 ≤ L.length)) <;> simp only [cond_true, cond_false]
      · exact h.put hu
      · exact h
    · exact h
  · exact h

theorem F17_eq {M : List Ent} {L : List Seat} (h : Rel M L) (n : Int) (s : Seat) (hu : s.1.length ≤ maxLen) :
    F17 ((true, s, ()), ((n, (), ()), M, ())) = some ((learnL n L s).1, ((n, (), ()), learnM n M L s, ())) := by
  simp only [F17, Bool.not_true, cond_false, cond_true, F14_eq h n s.1 hu, Option.bind_some, h.get s.1, agr_self, Bool.true_or, learnL, learnM]
  cases h1 : (decide (s.2.1 < 0) || decide (n ≤ s.2.1) || decide (s.2.2.1 < 1)) with
  | true => rfl
  | false =>
    simp only [cond_false]
    cases h2 : decide (s.2.2.1 ≤ (seatL n L s.1).2.2.1) with
    | true => rfl
    | false =>
      simp only [cond_false]
      cases hg : (getL L s.1).isSome with
      | true => rfl
      | false =>
        simp only [Bool.not_false, cond_true, Bool.true_and]
        have hl : decide ((64 : Int) ≤ ((List.length M : Nat) : Int)) = decide (64 ≤ List.length L) := by rw [h.len]; simp only [decide_eq_decide]; omega
        rw [hl]
        cases h3 : decide (64 ≤ List.length L) with
        | true => rfl
        | false => rfl

theorem F17_nil (s : Seat) (x : (Int × Unit × Unit) × List Ent × Unit) : F17 ((false, s, ()), x) = some (1, x) := rfl

theorem F25_eq (n : Int) (L : List Seat) (u : Tx) (hl : L.length ≤ 1048576) : F25 ((true, u, ()), ((n, L, ()), ())) = some (((posL L u : Int), isL L u, ()), ((n, L, ()), ())) := by
  have hw := walk_listI (f := B25_0) (fun (_ : Nat) i => ((true, u, (i : Int), ()), ((n, L, ()), ()))) L (fun a b => if a.1 < u then .inl (b + 1) else .inr ((true, u, (b : Int), ()), ((n, L, ()), ())))
    (fun b => ((true, u, (b : Int), ()), ((n, L, ()), ()))) (fun b i => b = i) (fun b i a hb hi ha => by
      subst hb
      have e : B25_0 ((true, u, (b : Int), ()), ((n, L, ()), ())) = (cond (Go.Op.bytesLess a.1 u) (some (Sum.inl ((true, u, w64 ((b : Int) + 1), ()), ((n, L, ()), ())))) (some (Sum.inr ((true, u, (b : Int), ()), ((n, L, ()), ()))))) := by
        simp only [B25_0, cond_true, Bool.true_or]
        rw [nat_lt, decide_eq_true hi, nat_nn]
        simp only [Bool.true_and, Bool.true_or, cond_true, Int.toNat_natCast, ha]
      rw [e, Go.Proofs.bytesLess_eq]
      by_cases h : a.1 < u
      · exact .inl ⟨b + 1, if_pos h, rfl, by rw [decide_eq_true h, cond_true, w64_nat (by omega)]⟩
      · exact .inr ⟨_, if_neg h, by rw [decide_eq_false h, cond_false]⟩)
    (fun b hb => by
      subst hb
      simp only [B25_0, cond_true, Bool.true_or]
      rw [nat_lt, decide_eq_false (Nat.lt_irrefl _)]
      simp) (by unfold FUEL; omega) (b := 0) rfl
  have hf : ∀ (l : List Seat) (b : Nat), foldS (fun (a : Seat) (b : Nat) => if a.1 < u then .inl (b + 1) else .inr ((true, u, (b : Int), ()), ((n, L, ()), ()))) (fun b => (((true, u, (b : Int), ()), ((n, L, ()), ())) : (Bool × Tx × Int × Unit) × ((Int × List Seat × Unit) × Unit))) b l = ((true, u, ((b + posL l u : Nat) : Int), ()), ((n, L, ()), ())) := fun l => by
    induction l with
    | nil => intro b; rfl
    | cons a t ih =>
      intro b
      unfold foldS
      by_cases h : a.1 < u
      · rw [if_pos h]
        simp only []
        rw [ih (b + 1), posL_cons_lt h]
        rw [show b + 1 + posL t u = b + (posL t u + 1) by omega]
      · rw [if_neg h, posL_cons_ge h]
        rfl
  simp only [F25, L25_0]
  erw [hw]
  rw [hf]
  simp only [Option.bind_some, Nat.zero_add, cond_true, Bool.true_or, nat_nn, Bool.true_and, nat_lt, Int.toNat_natCast]
  have hor : (decide (posL L u < L.length) || !decide (posL L u < L.length)) = true := by cases decide (posL L u < L.length) <;> rfl
  rw [hor, cond_true]
  congr 4
  unfold isL
  by_cases hlt : posL L u < L.length
  · rw [decide_eq_true hlt, Bool.true_and, List.getElem?_eq_getElem hlt]
    simp only [List.getD_eq_getElem?_getD, List.getElem?_eq_getElem hlt, Option.getD_some]
  · rw [decide_eq_false hlt, Bool.false_and, List.getElem?_eq_none (by omega)]

theorem F15_eq (n : Int) {L : List Seat} (hs : Srt L) (u : Tx) (hl : L.length ≤ 1048576) (hu : u.length ≤ maxLen) : F15 ((true, u, ()), ((n, L, ()), ())) = some ((seatL n L u, 0, ()), ((n, L, ()), ())) := by
  simp only [F15, Bool.not_true, cond_false, cond_true, F25_eq n L u hl, Option.bind_some, seatL, getL_pos hs]
  cases h : isL L u with
  | false => simp only [cond_false, F9_eq u n hu, Option.bind_some, Option.getD_none]
  | true =>
    have hlt : posL L u < L.length := by
      unfold isL at h
      split at h
      · next e => exact (List.getElem?_eq_some_iff.1 e).1
      · cases h
    simp only [cond_true, nat_nn, nat_lt, decide_eq_true hlt, Bool.and_self, Option.bind_some, Int.toNat_natCast, List.getD_eq_getElem?_getD, List.getElem?_eq_getElem hlt, Option.getD_some]

theorem F22_eq (n : Int) {L : List Seat} (hs : Srt L) (s : Seat) (hl : L.length ≤ 1048576) (hu : s.1.length ≤ maxLen) : F22 ((true, s, ()), ((n, L, ()), ())) = some ((learnL n L s).1, ((n, (learnL n L s).2, ()), ())) := by
  have hp := posL_le L s.1
  simp only [F22, Bool.not_true, cond_false, cond_true, Bool.true_or, F15_eq n hs s.1 hl hu, F25_eq n L s.1 hl, Option.bind_some, learnL, isL_get hs]
  cases h1 : (decide (s.2.1 < 0) || decide (n ≤ s.2.1) || decide (s.2.2.1 < 1)) with
  | true => rfl
  | false =>
    simp only [cond_false]
    cases h2 : decide (s.2.2.1 ≤ (seatL n L s.1).2.2.1) with
    | true => rfl
    | false =>
      simp only [cond_false]
      have hl64 : decide ((64 : Int) ≤ ((List.length L : Nat) : Int)) = decide (64 ≤ List.length L) := by simp only [decide_eq_decide]; omega
      rw [hl64]
      cases h3 : (!isL L s.1 && decide (64 ≤ List.length L)) with
      | true => rfl
      | false =>
        simp only [cond_false, nat_nn, Bool.true_and, Int.toNat_natCast]
        have e1 : decide ((posL L s.1 : Int) ≤ (List.length L : Int)) = true := by simp; omega
        have b1 : bytesOK (([] : List Seat).length + (List.take (posL L s.1) L).length) 32 = true := by
          simp only [bytesOK, decide_eq_true_eq, List.length_nil, List.length_take]; omega
        have b2 : bytesOK (([] ++ List.take (posL L s.1) L).length + ([(s.1, s.2.1, s.2.2.1, ())] : List Seat).length) 32 = true := by
          simp only [bytesOK, decide_eq_true_eq, List.nil_append, List.length_take, List.length_cons, List.length_nil]; omega
        rw [e1, cond_true]
        erw [b1]
        simp only [cond_true, Option.bind_some]
        erw [b2]
        simp only [cond_true, Option.bind_some, List.nil_append]
        cases hi : isL L s.1 with
        | true =>
          have hlt : posL L s.1 < L.length := by
            unfold isL at hi
            split at hi
            · next e => exact (List.getElem?_eq_some_iff.1 e).1
            · cases hi
          simp only [cond_true, Option.bind_some]
          rw [w64_nat (by omega)]
          have e2 : decide (((posL L s.1 + 1 : Nat) : Int) ≤ (List.length L : Int)) = true := by simp; omega
          have e3 : decide ((List.length L : Int) ≤ (List.length L : Int)) = true := by simp
          rw [nat_nn, e2, e3]
          simp only [Bool.and_self, cond_true, Int.toNat_natCast]
          have b3 : bytesOK ((List.take (posL L s.1) L ++ ([(s.1, s.2.1, s.2.2.1, ())] : List Seat)).length + (List.take (L.length - (posL L s.1 + 1)) (List.drop (posL L s.1 + 1) L)).length) 32 = true := by
            simp only [bytesOK, decide_eq_true_eq, List.length_append, List.length_take, List.length_drop, List.length_cons, List.length_nil]; omega
          erw [b3]
          simp only [cond_true, Option.bind_some]
          have e4 : List.take (L.length - (posL L s.1 + 1)) (List.drop (posL L s.1 + 1) L) = List.drop (posL L s.1 + 1) L := List.take_of_length_le (by simp)
          rw [putL_pos, hi]
          simp only [cond_true]
          rw [e4]
        | false =>
          simp only [cond_false, Option.bind_some]
          have e3 : decide ((List.length L : Int) ≤ (List.length L : Int)) = true := by simp
          rw [nat_nn, e1, e3]
          simp only [Bool.and_self, cond_true, Int.toNat_natCast]
          have b3 : bytesOK ((List.take (posL L s.1) L ++ ([(s.1, s.2.1, s.2.2.1, ())] : List Seat)).length + (List.take (L.length - posL L s.1) (List.drop (posL L s.1) L)).length) 32 = true := by
            simp only [bytesOK, decide_eq_true_eq, List.length_append, List.length_take, List.length_drop, List.length_cons, List.length_nil]; omega
          erw [b3]
          simp only [cond_true, Option.bind_some]
          have e4 : List.take (L.length - posL L s.1) (List.drop (posL L s.1) L) = List.drop (posL L s.1) L := List.take_of_length_le (by simp)
          rw [putL_pos, hi]
          simp only [cond_false, Nat.add_zero]
          rw [e4]

theorem learn_len (n : Int) (L : List Seat) (s : Seat) : (learnL n L s).2.length ≤ L.length + 1 := by
  unfold learnL
  have hput : (putL L s).length ≤ L.length + 1 := by
    have : ∀ L : List Seat, (putL L s).length ≤ L.length + 1 := fun L => by
      induction L with
      | nil => simp [putL]
      | cons a r ih =>
        unfold putL
        split
        · simp only [List.length_cons]; omega
        · split <;> simp
    exact this L
  cases (decide (s.2.1 < 0) || decide (n ≤ s.2.1) || decide (s.2.2.1 < 1)) <;> simp only [cond_true, cond_false]
  · cases decide (s.2.2.1 ≤ (seatL n L s.1).2.2.1) <;> simp only [cond_true, cond_false]
    · cases (!(getL L s.1).isSome && decide (64 ≤ L.length)) <;> simp only [cond_true, cond_false]
      · exact hput
      · omega
    · omega
  · omega

theorem learn_srt (n : Int) {L : List Seat} (h : Srt L) (s : Seat) : Srt (learnL n L s).2 := by
  unfold learnL
  cases (decide (s.2.1 < 0) || decide (n ≤ s.2.1) || decide (s.2.2.1 < 1)) <;> simp only [cond_true, cond_false]
  · cases decide (s.2.2.1 ≤ (seatL n L s.1).2.2.1) <;> simp only [cond_true, cond_false]
    · cases (!(getL L s.1).isSome && decide (64 ≤ L.length)) <;> simp only [cond_true, cond_false]
      · exact srt_putL h
      · exact h
    · exact h
  · exact h

/-- All that is known. -/
theorem F19_eq {M : List Ent} {L : List Seat} (h : Rel M L) (n : Int) (hl : L.length ≤ 1048576) : F19 ((true, ()), ((n, (), ()), M, ())) = some (L, ((n, (), ()), M, ())) := by
  simp only [F19, Bool.not_true, cond_false, cond_true, F27, Option.bind_some, h.ok hl, h.sort]

theorem F18_eq (a b : List Seat) (hl : a.length ≤ 1048576) : F18 ((a, b, ()), ()) = some (decide (a = b), ()) := by
  simp only [F18]
  by_cases h : a.length = b.length
  · have hw := walk_list (f := B18_0) (fun (_ : Unit) i => ((a, b, (i : Int), ()), ())) (a.zip b) (fun x _ => if x.1 = x.2 then .inl () else .inr (Sum.inr (((), ()), ()))) (fun _ => Sum.inl ((), ())) (fun _ i x hi hx => by
      have hia : i < a.length := by simp at hi; omega
      have hib : i < b.length := by omega
      have hx1 : x = (a[i], b[i]) := by
        have := hx x
        rw [List.getD_eq_getElem?_getD, List.getElem?_eq_getElem hi] at this
        simpa using this.symm
      subst hx1
      simp only [B18_0, nat_lt, nat_nn, decide_eq_true hia, decide_eq_true hib, Bool.and_self, cond_true, Int.toNat_natCast, List.getD_eq_getElem?_getD, List.getElem?_eq_getElem hia, List.getElem?_eq_getElem hib, Option.getD_some]
      have e : (decide (a[i].1 = b[i].1) && (decide (a[i].2.1 = b[i].2.1) && decide (a[i].2.2.1 = b[i].2.2.1))) = decide (a[i] = b[i]) := by
        rw [Bool.eq_iff_iff]
        simp only [Bool.and_eq_true, decide_eq_true_eq]
        constructor
        · rintro ⟨h1, h2, h3⟩
          exact Prod.ext h1 (Prod.ext h2 (Prod.ext h3 rfl))
        · intro e; rw [e]; exact ⟨rfl, rfl, rfl⟩
      rw [e, w64_nat (by omega)]
      by_cases hab : a[i] = b[i]
      · rw [decide_eq_true hab, if_pos hab]; rfl
      · rw [decide_eq_false hab, if_neg hab]; rfl) (fun _ => by
      have : (a.zip b).length = a.length := by simp; omega
      rw [this]
      simp only [B18_0, nat_lt, decide_eq_false (Nat.lt_irrefl _)]
      rfl) (by unfold FUEL; simp; omega) (b := ())
    have hf : ∀ (a b : List Seat), a.length = b.length → foldS (fun (x : Seat × Seat) (_ : Unit) => if x.1 = x.2 then .inl () else .inr (Sum.inr (((), ()), ()))) (fun _ => (Sum.inl ((), ()) : (Unit × Unit) ⊕ ((Unit × Unit) × Unit))) () (a.zip b) = if a = b then Sum.inl ((), ()) else Sum.inr (((), ()), ()) := fun a => by
      induction a with
      | nil => intro b hb; have : b = [] := List.eq_nil_of_length_eq_zero hb.symm; subst this; rfl
      | cons x r ih =>
        intro b hb
        cases b with
        | nil => simp at hb
        | cons y t =>
          simp only [List.zip_cons_cons]
          unfold foldS
          by_cases hxy : x = y
          · subst hxy
            simp only [if_true]
            rw [ih t (by simpa using hb)]
            by_cases hrt : r = t
            · subst hrt; simp
            · rw [if_neg hrt, if_neg (fun e => hrt (List.cons.inj e).2)]
          · simp only [if_neg hxy]
            rw [if_neg (fun e => hxy (List.cons.inj e).1)]
    have e1 : decide (((List.length a : Nat) : Int) = ((List.length b : Nat) : Int)) = true := by simp [h]
    rw [e1]
    simp only [Bool.not_true, cond_false, L18_0]
    erw [hw]
    rw [hf a b h]
    by_cases hab : a = b
    · rw [if_pos hab, decide_eq_true hab]; rfl
    · rw [if_neg hab, decide_eq_false hab]; rfl
  · have e1 : decide (((List.length a : Nat) : Int) = ((List.length b : Nat) : Int)) = false := by simp; omega
    rw [e1, decide_eq_false (fun e => h (by rw [e]))]
    rfl
end Go.Pl

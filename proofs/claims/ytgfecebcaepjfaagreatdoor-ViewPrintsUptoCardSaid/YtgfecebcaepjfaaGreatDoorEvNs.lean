/- Functions of the library that only yield values, told by their contracts where something holds. -/
import Derived.Test.YtgfecebcaepjfaaGreatDoorEvZ
import Derived.Lib.IndexAny
import Derived.Lib.SlTrimSet
import Derived.Lib.SlFresh
namespace Go.Ev
open Go Go.Proofs

abbrev Pvs := List AV → Option (Bool × AV)

def PvsOK (P : Program) (f : FuncId) (g : Pvs) : Prop :=
  Enters P f ∧ ∀ args v, g args = some (true, v) → ∀ w N μ H vals, (tabsOf P).tab w → RelVs w N μ H args vals →
    Calls P f vals.toArray w fun e w' => ∃ val, e = .returned val ∧ (∀ w1 N1 μ1 H1, RelV w1 N1 μ1 H1 v val) ∧ RowKit.Below w.heap.size w w'

def zPv (g : Pvs) : Deed := fun args S => match g args with
  | some (b, v) => some (b, v, S)
  | none => none

theorem zPv_ok {P : Program} {f : FuncId} {g : Pvs} (h : PvsOK P f g) : ZOK P f (zPv g) := by
  refine ⟨h.1, fun args S v S' hz F μ w vals hp hr => ?_⟩
  unfold zPv at hz
  split at hz
  · rename_i b v' hg
    simp only [Option.some.injEq, Prod.mk.injEq] at hz
    obtain ⟨rfl, rfl, rfl⟩ := hz
    refine (h.2 args v' hg w _ _ _ vals hp.tab hr).mono fun e w' ⟨val, h1, h2, bel⟩ => ?_
    exact ⟨μ, [], val, h1, rfl, by simp, hp.keep ⟨bel.size, fun g hg _ => bel.block g hg⟩ fun g ⟨b, hb, hg⟩ => bel.block g (hp.lt b g hb hg),
      Pl.keep hp ⟨⟨bel.size, fun g hg _ => bel.block g hg⟩, bel.os, bel.tape, bel.output⟩, h2 _ _ _ _⟩
  · cases hz

def ascii (l : List UInt8) : Bool := l.all fun b => decide (b.toNat < 128)

theorem ascii_at {l : List UInt8} (h : ascii l = true) : ∀ (j : Nat) b, l[j]? = some b → b.toNat < 128 := fun j b hb => by
  have := List.all_eq_true.mp h b (List.mem_of_getElem? hb)
  exact of_decide_eq_true this

def pTrim : Pvs
  | [.s l, .s c] => some (decide (l.length ≤ 9223372036854775807) && decide (c.length < 4294967281) && ascii c, .s (Lib.trimS l c))
  | _ => none

theorem pTrim_ok {P : Program} {f : FuncId} (hen : Enters P f)
    (hc : ∀ (s c : ByteArray) (w : World), s.size ≤ 9223372036854775807 → c.size < 4294967281 → (∀ (j : Nat) b, c.data.toList[j]? = some b → b.toNat < 128) →
      Calls P f #[.string s, .string c] w fun e w' => e = .returned (.string ⟨(Lib.trimS s.data.toList c.data.toList).toArray⟩) ∧ RowKit.Below w.heap.size w w') : ZOK P f (zPv pTrim) := by
  refine zPv_ok ⟨hen, fun args v h w N μ H vals ht hr => ?_⟩
  unfold pTrim at h
  split at h
  · rename_i l c
    simp only [Option.some.injEq, Prod.mk.injEq, Bool.and_eq_true, decide_eq_true_eq] at h
    obtain ⟨⟨⟨h1, h2⟩, h3⟩, rfl⟩ := h
    simp only [RelVs, RelV] at hr
    obtain ⟨_, _, rfl, rfl, _, _, rfl, rfl, rfl⟩ := hr
    refine (hc ⟨l.toArray⟩ ⟨c.toArray⟩ w (by simpa [ByteArray.size] using h1) (by simpa [ByteArray.size] using h2) (by simpa using ascii_at h3)).mono fun e w' ⟨he, bel⟩ => ⟨_, he, fun w1 N1 μ1 H1 => ?_, bel⟩
    simp [RelV]
  · cases h

def pCut : Pvs
  | [.s l, .s c] => some (decide (l.length < 4294967281), .tup [.s (Lib.cut l c).1, .s (Lib.cut l c).2.1, .b (Lib.cut l c).2.2])
  | _ => none

theorem pCut_ok {P : Program} {f : FuncId} {g : Nat} (hen : Enters P f) (hg : globAt P "internal/bytealg.MaxLen" = some g)
    (hc : ∀ (s c : ByteArray) (m : Int) (w : World), s.size < 4294967281 → w.cell? ⟨g, 0, none⟩ = some (.int .i64 m) →
      Calls P f #[.string s, .string c] w fun e w' => e = .returned (.tuple #[.string ⟨(Lib.cut s.data.toList c.data.toList).1.toArray⟩, .string ⟨(Lib.cut s.data.toList c.data.toList).2.1.toArray⟩, .bool (Lib.cut s.data.toList c.data.toList).2.2]) ∧ RowKit.Below w.heap.size w w') : ZOK P f (zPv pCut) := by
  refine zPv_ok ⟨hen, fun args v h w N μ H vals ht hr => ?_⟩
  unfold pCut at h
  split at h
  · rename_i l c
    simp only [Option.some.injEq, Prod.mk.injEq, decide_eq_true_eq] at h
    obtain ⟨h1, rfl⟩ := h
    simp only [RelVs, RelV] at hr
    obtain ⟨_, _, rfl, rfl, _, _, rfl, rfl, rfl⟩ := hr
    obtain ⟨m, hm⟩ := ht.2 g hg
    refine (hc ⟨l.toArray⟩ ⟨c.toArray⟩ m w (by simpa [ByteArray.size] using h1) hm).mono fun e w' ⟨he, bel⟩ => ⟨_, he, fun w1 N1 μ1 H1 => ?_, bel⟩
    simp only [RelV, RelVs]
    exact ⟨_, rfl, _, _, rfl, rfl, _, _, rfl, rfl, _, _, rfl, rfl, rfl⟩
  · cases h

def pContainsAny : Pvs
  | [.s l, .s c] => some (decide (l.length < 4294967281) && decide (c.length < 4294967281) && ascii l && ascii c, .b (Lib.containsAny l c))
  | _ => none

theorem pContainsAny_ok {P : Program} {f : FuncId} (hen : Enters P f)
    (hc : ∀ (s c : ByteArray) (w : World), s.size < 4294967281 → c.size < 4294967281 → (∀ (j : Nat) b, s.data.toList[j]? = some b → b.toNat < 128) → (∀ (j : Nat) b, c.data.toList[j]? = some b → b.toNat < 128) →
      Calls P f #[.string s, .string c] w fun e w' => e = .returned (.bool (Lib.containsAny s.data.toList c.data.toList)) ∧ RowKit.Below w.heap.size w w') : ZOK P f (zPv pContainsAny) := by
  refine zPv_ok ⟨hen, fun args v h w N μ H vals ht hr => ?_⟩
  unfold pContainsAny at h
  split at h
  · rename_i l c
    simp only [Option.some.injEq, Prod.mk.injEq, Bool.and_eq_true, decide_eq_true_eq] at h
    obtain ⟨⟨⟨⟨h1, h2⟩, h3⟩, h4⟩, rfl⟩ := h
    simp only [RelVs, RelV] at hr
    obtain ⟨_, _, rfl, rfl, _, _, rfl, rfl, rfl⟩ := hr
    refine (hc ⟨l.toArray⟩ ⟨c.toArray⟩ w (by simpa [ByteArray.size] using h1) (by simpa [ByteArray.size] using h2) (by simpa using ascii_at h3) (by simpa using ascii_at h4)).mono fun e w' ⟨he, bel⟩ => ⟨_, he, fun w1 N1 μ1 H1 => ?_, bel⟩
    simp [RelV]
  · cases h

def pHasPrefix : Pvs
  | [.s l, .s c] => some (true, .b (Lib.hasPrefix l c))
  | _ => none

theorem pHasPrefix_ok {P : Program} {f : FuncId} (hen : Enters P f)
    (hc : ∀ (s c : ByteArray) (w : World), Calls P f #[.string s, .string c] w fun e w' => e = .returned (.bool (Lib.hasPrefix s.data.toList c.data.toList)) ∧ w' = w) : ZOK P f (zPv pHasPrefix) := by
  refine zPv_ok ⟨hen, fun args v h w N μ H vals ht hr => ?_⟩
  unfold pHasPrefix at h
  split at h
  · rename_i l c
    simp only [Option.some.injEq, Prod.mk.injEq, true_and] at h
    subst h
    simp only [RelVs, RelV] at hr
    obtain ⟨_, _, rfl, rfl, _, _, rfl, rfl, rfl⟩ := hr
    refine (hc ⟨l.toArray⟩ ⟨c.toArray⟩ w).mono fun e w' ⟨he, hw⟩ => ⟨_, he, fun w1 N1 μ1 H1 => ?_, hw ▸ RowKit.Below.refl _ _⟩
    simp [RelV]
  · cases h

def pIndexByte : Pvs
  | [.s l, .u c] => some (true, .i .i64 (Lib.indexByte l c))
  | _ => none

theorem pIndexByte_ok {P : Program} {f : FuncId} (hen : Enters P f)
    (hc : ∀ (s : ByteArray) (c : Int) (w : World), Calls P f #[.string s, .int .u8 c] w fun e w' => e = .returned (.int .i64 (Lib.indexByte s.data.toList c.toNat.toUInt8)) ∧ w' = w) : ZOK P f (zPv pIndexByte) := by
  refine zPv_ok ⟨hen, fun args v h w N μ H vals ht hr => ?_⟩
  unfold pIndexByte at h
  split at h
  · rename_i l c
    simp only [Option.some.injEq, Prod.mk.injEq, true_and] at h
    subst h
    simp only [RelVs, RelV] at hr
    obtain ⟨_, _, rfl, rfl, _, _, rfl, rfl, rfl⟩ := hr
    refine (hc ⟨l.toArray⟩ (c.toNat : Int) w).mono fun e w' ⟨he, hw⟩ => ⟨_, he, fun w1 N1 μ1 H1 => ?_, hw ▸ RowKit.Below.refl _ _⟩
    simp [RelV]
  · cases h

/-- the cells of bytes -/
theorem sl_cells {w : World} {N : Nat → Prop} {l : List UInt8} {v : Value} (h : RelD w N (.sl .u8) l [v]) (h0 : l ≠ []) :
    ∃ (a : Addr) (c : Nat), v = .slice (some a) l.length c ∧ l.length ≤ c ∧ ∀ i, i < l.length → w.cell? (a.add i) = some (.int .u8 ((Lib.numsL l).getD i 0)) := by
  simp only [RelD] at h
  obtain ⟨a, c, h1, h2, h3⟩ := h
  obtain ⟨g, o, rfl, _, hg, hrow⟩ := h3 (List.length_pos_iff.mpr h0)
  injection h1 with h1 _
  refine ⟨⟨g, o, none⟩, c, h1, h2, fun i hi => ?_⟩
  obtain ⟨es, e1, e2, e3⟩ := hrow i hi
  subst e3
  have := e2 0 (by simp)
  simp only [Ty.size, Nat.mul_one, Nat.add_zero, List.getElem_cons_zero] at this
  rw [add_none, this]
  simp [Lib.numsL, hi]

def pBytesIndexByte : Pvs
  | [.sl .u8 l, .u c] => some (!(List.isEmpty (α := UInt8) l), .i .i64 (Lib.indexByte l c))
  | _ => none

theorem pBytesIndexByte_ok {P : Program} {f : FuncId} (hen : Enters P f)
    (hc : ∀ (a : Addr) (n c : Nat) (xs : List Int) (cv : Int) (w : World), xs.length = n → (∀ i, i < n → w.cell? (a.add i) = some (.int .u8 (xs.getD i 0))) →
      Calls P f #[.slice (some a) n c, .int .u8 cv] w fun e w' => e = .returned (.int .i64 (Lib.indexByte (Lib.bytesOf xs) cv.toNat.toUInt8)) ∧ w' = w) : ZOK P f (zPv pBytesIndexByte) := by
  refine zPv_ok ⟨hen, fun args v h w N μ H vals ht hr => ?_⟩
  unfold pBytesIndexByte at h
  split at h
  · rename_i l c
    simp only [Option.some.injEq, Prod.mk.injEq, Bool.not_eq_true'] at h
    obtain ⟨h1, rfl⟩ := h
    have h0 : l ≠ [] := fun e => by rw [e] at h1; cases h1
    simp only [RelVs, RelV] at hr
    obtain ⟨_, _, rfl, hl, _, _, rfl, rfl, rfl⟩ := hr
    obtain ⟨a, cc, rfl, _, hcell⟩ := sl_cells hl h0
    refine (hc a l.length cc (Lib.numsL l) (c.toNat : Int) w (Lib.numsL_length l) hcell).mono fun e w' ⟨he, hw⟩ => ⟨_, he, fun w1 N1 μ1 H1 => ?_, hw ▸ RowKit.Below.refl _ _⟩
    rw [Lib.bytesOf_numsL]
    simp [RelV]
  · cases h

/-- Nothing is known of it. -/
theorem Orc.OK.none {P : Program} {f : FuncId} {a : VSh} {bs : List (Nat × BSh)} {o : VSh} {obs : List (Nat × BSh)} (hen : Enters P f) (hf : (⟨a, bs, o, obs, fun _ => Option.none⟩ : Orc).fits = true) : (⟨a, bs, o, obs, fun _ => Option.none⟩ : Orc).OK P f := ⟨hen, hf, fun p r h => by cases h⟩

end Go.Ev

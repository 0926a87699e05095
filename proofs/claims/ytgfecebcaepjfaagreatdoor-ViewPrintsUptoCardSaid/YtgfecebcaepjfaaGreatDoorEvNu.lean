/- More deeds: TrimRight, bytes.Index; one deed or another. -/
import Derived.Test.YtgfecebcaepjfaaGreatDoorEvSt
import Derived.Test.YtgfecebcaepjfaaGreatDoorEvY
namespace Go.Ev
open Go Go.Proofs
set_option maxRecDepth 100000

def pTrimRight : Pvs
  | [.s l, .s c] => some (decide (l.length ≤ 9223372036854775807) && decide (c.length < 4294967281) && ascii c, .s (Lib.trimRightS l c))
  | _ => none

theorem pTrimRight_ok {P : Program} {f : FuncId} (hen : Enters P f)
    (hc : ∀ (s c : ByteArray) (w : World), s.size ≤ 9223372036854775807 → c.size < 4294967281 → (∀ (j : Nat) b, c.data.toList[j]? = some b → b.toNat < 128) →
      Calls P f #[.string s, .string c] w fun e w' => e = .returned (.string ⟨(Lib.trimRightS s.data.toList c.data.toList).toArray⟩) ∧ RowKit.Below w.heap.size w w') : ZOK P f (zPv pTrimRight) := by
  refine zPv_ok ⟨hen, fun args v h w N μ H vals ht hr => ?_⟩
  unfold pTrimRight at h
  split at h
  · rename_i l c
    simp only [Option.some.injEq, Prod.mk.injEq, Bool.and_eq_true, decide_eq_true_eq] at h
    obtain ⟨⟨⟨h1, h2⟩, h3⟩, rfl⟩ := h
    simp only [RelVs, RelV] at hr
    obtain ⟨_, _, rfl, rfl, _, _, rfl, rfl, rfl⟩ := hr
    refine (hc ⟨l.toArray⟩ ⟨c.toArray⟩ w (by simpa [ByteArray.size] using h1) (by simpa [ByteArray.size] using h2) (by simpa using ascii_at h3)).mono fun e w' ⟨he, bel⟩ => ⟨_, he, fun w1 N1 μ1 H1 => ?_, bel⟩
    simp [RelV]
  · cases h

/-- bytes.Index by a pattern of one's own, or by a part of another's text -/
def pIndexB : Pvr
  | [.sl .u8 l, .wh b], H => match H b with
    | .data .u8 p => some (!(List.isEmpty (α := UInt8) l) && decide (l.length < 4294967281) && !(List.isEmpty (α := UInt8) p) && decide (p.length ≤ 9223372036854775807), .i .i64 (Lib.index l p))
    | _ => none
  | [.sl .u8 l, .sl .u8 p], _ => some (!(List.isEmpty (α := UInt8) l) && decide (l.length < 4294967281) && !(List.isEmpty (α := UInt8) p) && decide (p.length ≤ 9223372036854775807), .i .i64 (Lib.index l p))
  | _, _ => none

theorem pIndexB_ok {P : Program} {f : FuncId} {g : Nat} (hen : Enters P f) (hg : globAt P "internal/bytealg.MaxLen" = some g)
    (hc : ∀ (a1 a2 : Addr) (n c1 k c2 : Nat) (xs ys : List Int) (m : Int) (w : World), xs.length = n → ys.length = k → (∀ x ∈ xs, 0 ≤ x ∧ x < 256) → (∀ y ∈ ys, 0 ≤ y ∧ y < 256) →
      (∀ i, i < n → w.cell? (a1.add i) = some (.int .u8 (xs.getD i 0))) → (∀ i, i < k → w.cell? (a2.add i) = some (.int .u8 (ys.getD i 0))) → n ≤ c1 → n < 4294967281 → k ≤ 9223372036854775807 → w.cell? ⟨g, 0, none⟩ = some (.int .i64 m) →
      Calls P f #[.slice (some a1) n c1, .slice (some a2) k c2] w fun e w' => e = .returned (.int .i64 (Lib.index (Lib.bytesOf xs) (Lib.bytesOf ys))) ∧ RowKit.Below w.heap.size w w') : ZOK P f (zPvr pIndexB) := by
  refine zPvr_ok ⟨hen, fun args H nx v h F μ w vals hp hr => ?_⟩
  unfold pIndexB at h
  split at h
  · rename_i l b
    split at h
    · rename_i p hb
      simp only [Option.some.injEq, Prod.mk.injEq, Bool.and_eq_true, decide_eq_true_eq, Bool.not_eq_true'] at h
      obtain ⟨⟨⟨⟨h1, h2⟩, h3⟩, h4⟩, rfl⟩ := h
      have l0 : l ≠ [] := fun e => by rw [e] at h1; cases h1
      have p0 : p ≠ [] := fun e => by rw [e] at h3; cases h3
      simp only [RelVs] at hr
      obtain ⟨v1, _, rfl, hl, v2, _, rfl, hw, rfl⟩ := hr
      have hl' : RelD w (Not F μ H) (.sl .u8) l [v1] := by simpa only [RelV] using hl
      obtain ⟨a, cc, rfl, hcc, hcell⟩ := sl_cells hl' l0
      obtain ⟨a2, c2, rfl, _, hcell2⟩ := own_bytes hp hb hw p0
      obtain ⟨m, hm⟩ := hp.tab.2 g hg
      refine (hc a a2 l.length cc p.length c2 (Lib.numsL l) (Lib.numsL p) m w (Lib.numsL_length l) (Lib.numsL_length p) (Lib.numsL_range l) (Lib.numsL_range p) hcell hcell2 hcc h2 h4 hm).mono fun e w' ⟨he, bel⟩ => ⟨_, he, ?_, bel⟩
      rw [Lib.bytesOf_numsL, Lib.bytesOf_numsL]
      simp [RelV]
    · cases h
  · rename_i l p
    simp only [Option.some.injEq, Prod.mk.injEq, Bool.and_eq_true, decide_eq_true_eq, Bool.not_eq_true'] at h
    obtain ⟨⟨⟨⟨h1, h2⟩, h3⟩, h4⟩, rfl⟩ := h
    have l0 : l ≠ [] := fun e => by rw [e] at h1; cases h1
    have p0 : p ≠ [] := fun e => by rw [e] at h3; cases h3
    simp only [RelVs] at hr
    obtain ⟨v1, _, rfl, hl, v2, _, rfl, hw, rfl⟩ := hr
    have hl' : RelD w (Not F μ H) (.sl .u8) l [v1] := by simpa only [RelV] using hl
    have hw' : RelD w (Not F μ H) (.sl .u8) p [v2] := by simpa only [RelV] using hw
    obtain ⟨a, cc, rfl, hcc, hcell⟩ := sl_cells hl' l0
    obtain ⟨a2, c2, rfl, _, hcell2⟩ := sl_cells hw' p0
    obtain ⟨m, hm⟩ := hp.tab.2 g hg
    refine (hc a a2 l.length cc p.length c2 (Lib.numsL l) (Lib.numsL p) m w (Lib.numsL_length l) (Lib.numsL_length p) (Lib.numsL_range l) (Lib.numsL_range p) hcell hcell2 hcc h2 h4 hm).mono fun e w' ⟨he, bel⟩ => ⟨_, he, ?_, bel⟩
    rw [Lib.bytesOf_numsL, Lib.bytesOf_numsL]
    simp [RelV]
  · cases h

/-- one deed for slices of one's own, another for plain data -/
def zOr (z1 z2 : Deed) : Deed := fun args S => match args with
  | .wh b :: r => z1 (.wh b :: r) S
  | a => z2 a S

theorem zOr_ok {P : Program} {f : FuncId} {z1 z2 : Deed} (h1 : ZOK P f z1) (h2 : ZOK P f z2) : ZOK P f (zOr z1 z2) := by
  refine ⟨h1.1, fun args S v S' hz => ?_⟩
  unfold zOr at hz
  split at hz
  · exact h1.2 _ S v S' hz
  · exact h2.2 _ S v S' hz

end Go.Ev

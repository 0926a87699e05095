/- strings.Split, told. -/
import Derived.Test.YtgfecebcaepjfaaGreatDoorVpZ
import Derived.Lib.SplitLaws
namespace Go.Vw
open Go Go.Ev Go.Proofs
set_option maxRecDepth 100000

/-- what stands between a text's separators -/
def parts97 (l sep : List UInt8) : List (List UInt8) := (Lib.splitB ⟨sep.toArray⟩ 0 (Lib.countB ⟨l.toArray⟩ ⟨sep.toArray⟩) ⟨l.toArray⟩).map fun x => x.data.toList

def zSplit : Deed := fun args S => match args with
  | [.s l, .s sep] => some (decide (1 ≤ sep.length) && decide (l.length < 4294967281), .wh S.nx, ⟨S.E, updH S.H S.nx (.data .str (parts97 l sep)), S.nx + 1, S.kl⟩)
  | _ => none

theorem zSplit97 : ZOK Tryz.prog 97 zSplit := by
  refine ⟨Tryz.call97, fun args S v S' h F μ w vals hp hr => ?_⟩
  unfold zSplit at h
  split at h
  · rename_i l sep
    rw [Option.some.injEq, Prod.mk.injEq, Prod.mk.injEq] at h
    obtain ⟨hc, rfl, rfl⟩ := h
    simp only [Bool.and_eq_true, decide_eq_true_eq] at hc
    simp only [RelVs, RelV] at hr
    obtain ⟨_, _, rfl, rfl, _, _, rfl, rfl, rfl⟩ := hr
    obtain ⟨m, hm⟩ := hp.tab.2 0 (by kernel_rfl)
    have h1 : 1 ≤ (⟨sep.toArray⟩ : ByteArray).size := by simpa [ByteArray.size] using hc.1
    have hs : (⟨l.toArray⟩ : ByteArray).size < 4294967281 := by simpa [ByteArray.size] using hc.2
    have hlen := Lib.splitB_all ⟨sep.toArray⟩ h1 0 _ ⟨l.toArray⟩ rfl
    have hpl : (parts97 l sep).length = Lib.countB ⟨l.toArray⟩ ⟨sep.toArray⟩ + 1 := by unfold parts97; rw [List.length_map, hlen]
    refine (Tryz.strings_Split ⟨l.toArray⟩ ⟨sep.toArray⟩ m w hs hm h1).mono fun e w' ⟨he, hw⟩ => ?_
    subst hw
    have hb : RowKit.Below w.heap.size w (w.alloc (.cells ((Lib.splitB ⟨sep.toArray⟩ 0 (Lib.countB ⟨l.toArray⟩ ⟨sep.toArray⟩) ⟨l.toArray⟩).map Value.string).toArray 9)) := (RowKit.Below.refl _ w).alloc (Nat.le_refl _) _
    have hcell : ∀ i (h : i < (parts97 l sep).length), (w.alloc (.cells ((Lib.splitB ⟨sep.toArray⟩ 0 (Lib.countB ⟨l.toArray⟩ ⟨sep.toArray⟩) ⟨l.toArray⟩).map Value.string).toArray 9)).cell? ⟨w.heap.size, i, none⟩ = some (.string ⟨(parts97 l sep)[i].toArray⟩) := fun i h => by
      rw [World.cell?_alloc_at _ _ _ _ rfl]
      have hi : i < (Lib.splitB ⟨sep.toArray⟩ 0 (Lib.countB ⟨l.toArray⟩ ⟨sep.toArray⟩) ⟨l.toArray⟩).length := by rw [hlen]; rw [hpl] at h; exact h
      simp [parts97, hi]
    obtain ⟨μ', kl, r1, r2, r3, r4, r5⟩ := new_dataN (S := S) (t := .str) (l := parts97 l sep) (gb := w.heap.size) (c := Lib.countB ⟨l.toArray⟩ ⟨sep.toArray⟩ + 1) hp hb (Nat.le_refl _) (by simp) (by omega) (fun k hk => by
        have hk' : k < (parts97 l sep).length := by rw [hpl]; simpa [Ty.size] using hk
        refine ⟨by rw [hcell k hk']; rfl, ?_⟩
        exact World.frozen?_alloc_at _ _ _ _ rfl) (fun i hi => ⟨[.string ⟨(parts97 l sep)[i].toArray⟩], rfl, fun k hk => by
        have hk0 : k = 0 := by simpa using hk
        subst hk0
        have := hcell i hi
        simpa [Ty.size] using this, by simp [RelD]⟩)
    rw [hpl] at r5
    exact ⟨μ', kl, _, he, r1, r2, r3, r4, r5⟩
  · cases h

end Go.Vw

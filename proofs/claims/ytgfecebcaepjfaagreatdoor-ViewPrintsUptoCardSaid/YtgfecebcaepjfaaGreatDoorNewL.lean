/- A slice that a function has made. -/
import Derived.Test.YtgfecebcaepjfaaGreatDoorEvY
namespace Go.Ev
open Go Go.Proofs
theorem turned_new {T : Tb} {F : Frm T} {μ : Nat → Option Nat} {H : Nat → Blk} {nx : Nat} {w w' : World} (hp : Hp F μ H nx w) (hb : Go.RowKit.Below w.heap.size w w') {g' : Option Nat} {B : Blk} (hB : B ≠ .dead) (hg : ∀ g, g' = some g → w.heap.size ≤ g ∧ g < w'.heap.size) :
    Turned F μ H nx w [] nx g' B (nx + 1) w' where
  hp := hp
  os := hb.os
  tape := hb.tape
  output := hb.output
  size := hb.size
  keep := fun g hg _ => hb.block g hg
  at_ := fun g h => .inr (hg g h)
  mono := Nat.le_succ _
  lt := Nat.lt_succ_self _
  live := hB
  kind := fun h => absurd h (Nat.lt_irrefl _)
  self := fun _ h => absurd (hp.dead nx (Nat.le_refl _)) h

theorem new_dataN {P : Program} {F : Frm (tabsOf P)} {μ : Nat → Option Nat} {S : St} {w w' : World} {gb c : Nat} {t : Ty} {l : List t.den} (hp : Hp F μ S.H S.nx w) (hb : Go.RowKit.Below w.heap.size w w') (hg : w.heap.size ≤ gb) (hg' : gb < w'.heap.size) (hcl : l.length ≤ c) (hroom : room w' gb (c * t.size))
    (hrow : ∀ i (h : i < l.length), ∃ es : List Value, es.length = t.size ∧ rowAt w' gb (i * t.size) es ∧ RelD w' (Not F (updM μ S.nx (some gb)) (updH S.H S.nx (.data t l))) t l[i] es) :
    ∃ μ' kl, (⟨S.E, updH S.H S.nx (.data t l), S.nx + 1, S.kl⟩ : St).E = killsE kl S.E ∧ (⟨S.E, updH S.H S.nx (.data t l), S.nx + 1, S.kl⟩ : St).kl = S.kl ++ kl ∧ Hp F μ' (updH S.H S.nx (.data t l)) (S.nx + 1) w' ∧ Pl F μ S.H S.nx w kl μ' (updH S.H S.nx (.data t l)) (S.nx + 1) w' ∧ RelV w' (Not F μ' (updH S.H S.nx (.data t l))) μ' (updH S.H S.nx (.data t l)) (.wh S.nx) (.slice (some ⟨gb, 0, none⟩) l.length c) := by
  have T := turned_new hp hb (g' := some gb) (B := .data t l) (by simp) (fun g h => by cases h; exact ⟨hg, hg'⟩)
  refine ⟨updM μ S.nx (some gb), [], rfl, by simp, T.hp' ?_, T.pl, ?_⟩
  · simp only [RelB]
    exact .inr ⟨gb, updM_same _ _ _, fun k hk => hroom k (Nat.lt_of_lt_of_le hk (Nat.mul_le_mul_right _ hcl)), fun i hi => hrow i hi⟩
  · simp only [RelV]
    exact ⟨t, l, updH_same _ _ _, .inl ⟨gb, c, updM_same _ _ _, rfl, hcl, hroom⟩⟩

theorem new_nilN {P : Program} {F : Frm (tabsOf P)} {μ : Nat → Option Nat} {S : St} {w w' : World} {t : Ty} (hp : Hp F μ S.H S.nx w) (hb : Go.RowKit.Below w.heap.size w w') :
    ∃ μ' kl, (⟨S.E, updH S.H S.nx (.data t []), S.nx + 1, S.kl⟩ : St).E = killsE kl S.E ∧ (⟨S.E, updH S.H S.nx (.data t []), S.nx + 1, S.kl⟩ : St).kl = S.kl ++ kl ∧ Hp F μ' (updH S.H S.nx (.data t [])) (S.nx + 1) w' ∧ Pl F μ S.H S.nx w kl μ' (updH S.H S.nx (.data t [])) (S.nx + 1) w' ∧ RelV w' (Not F μ' (updH S.H S.nx (.data t []))) μ' (updH S.H S.nx (.data t [])) (.wh S.nx) (.slice none 0 0) := by
  have T := turned_new hp hb (g' := none) (B := .data t []) (by simp) (fun g h => by cases h)
  refine ⟨updM μ S.nx none, [], rfl, by simp, T.hp' ?_, T.pl, ?_⟩
  · simp only [RelB]
    exact .inl ⟨updM_same _ _ _, trivial⟩
  · simp only [RelV]
    exact ⟨t, [], updH_same _ _ _, .inr ⟨updM_same _ _ _, rfl, trivial⟩⟩

end Go.Ev

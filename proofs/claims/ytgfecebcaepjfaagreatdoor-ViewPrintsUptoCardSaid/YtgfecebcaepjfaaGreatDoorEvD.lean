/- Stores. -/
import Derived.Test.YtgfecebcaepjfaaGreatDoorEvC
namespace Go.Ev
open Go
section
variable {P : Program} {T : Tb} {F : Frm T} {μ : Nat → Option Nat} {H : Nat → Blk} {nx : Nat} {w : World} {N : Nat → Prop} {α : Type} {r : α}

/-- Some cells of one block are others. -/
structure SetMany (w w' : World) (g o : Nat) (vs : List Value) : Prop where
  heap : ∀ k, k ≠ g → w'.heap[k]? = w.heap[k]?
  size : w'.heap.size = w.heap.size
  os : w'.os = w.os
  tape : w'.tape = w.tape
  output : w'.output = w.output
  cell : ∀ k, w'.cell? ⟨g, k, none⟩ = if h : o ≤ k ∧ k < o + vs.length then some (vs[k - o]'(by omega)) else w.cell? ⟨g, k, none⟩
  frozen : ∀ k, w'.frozen? ⟨g, k, none⟩ = w.frozen? ⟨g, k, none⟩

theorem run_storeCells : ∀ (vs : List Value) (w : World) (g b i : Nat), (∀ v ∈ vs, v.oneCell' = true) → (∀ k, k < vs.length → (w.cell? ⟨g, b + i + k, none⟩).isSome = true ∧ w.frozen? ⟨g, b + i + k, none⟩ = false) →
    ∃ w', (storeCells ⟨g, b, none⟩ vs i).run P w = .ok () w' ∧ SetMany w w' g (b + i) vs
  | [], w, g, b, i, _, _ => ⟨w, by simp [storeCells], ⟨fun _ _ => rfl, rfl, rfl, rfl, rfl, fun k => by rw [dif_neg (by simp only [List.length_nil]; omega)], fun _ => rfl⟩⟩
  | v :: vs, w, g, b, i, h1, h2 => by
    obtain ⟨c, hc⟩ := Option.isSome_iff_exists.1 (h2 0 (by simp)).1
    have hf := (h2 0 (by simp)).2
    simp only [Nat.add_zero] at hc hf
    have hst : (store (⟨g, b + i, none⟩ : Addr) v).run P w = .ok () (w.setCell ⟨g, b + i, none⟩ v) := by
      rw [run_store P w _ v .plain (h1 v (by simp)), hc]; simp [hf]
    have hother : ∀ k, k ≠ b + i → (w.setCell ⟨g, b + i, none⟩ v).cell? ⟨g, k, none⟩ = w.cell? ⟨g, k, none⟩ := fun k hk =>
      World.cell?_setCell_other w ⟨g, b + i, none⟩ ⟨g, k, none⟩ v (by simp; omega)
    obtain ⟨w', hrun, hS⟩ := run_storeCells vs (w.setCell ⟨g, b + i, none⟩ v) g b (i + 1) (fun u hu => h1 u (by simp [hu])) (fun k hk => by
      have := h2 (k + 1) (by simp; omega)
      have e : b + (i + 1) + k = b + i + (k + 1) := by omega
      rw [e, hother _ (by omega), World.frozen?_setCell]
      exact this)
    refine ⟨w', by simp only [storeCells, Sem.run_bind, add_none, hst, Result.andThen_ok, hrun], ?_⟩
    refine ⟨fun k hk => ?_, ?_, ?_, ?_, ?_, fun k => ?_, fun k => ?_⟩
    · rw [hS.heap k hk]; exact heap_setCell_other w _ k v (by simpa using hk)
    · rw [hS.size]; simp
    · rw [hS.os]; rfl
    · rw [hS.tape]; rfl
    · rw [hS.output]; rfl
    · rw [hS.cell k]
      by_cases hk : k = b + i
      · subst hk
        have n1 : ¬ (b + (i + 1) ≤ b + i ∧ b + i < b + (i + 1) + vs.length) := by omega
        have n2 : b + i ≤ b + i ∧ b + i < b + i + (v :: vs).length := by simp
        rw [dif_neg n1, dif_pos n2, World.cell?_setCell_same w _ _ hc]
        simp
      · by_cases hk2 : b + (i + 1) ≤ k ∧ k < b + (i + 1) + vs.length
        · have n2 : b + i ≤ k ∧ k < b + i + (v :: vs).length := by simp; omega
          rw [dif_pos hk2, dif_pos n2]
          congr 1
          have e : k - (b + i) = (k - (b + (i + 1))) + 1 := by omega
          simp only [e, List.getElem_cons_succ]
        · have n2 : ¬ (b + i ≤ k ∧ k < b + i + (v :: vs).length) := by simp; omega
          rw [dif_neg hk2, dif_neg n2, hother k hk]
    · rw [hS.frozen k, World.frozen?_setCell]

theorem SetMany.room {w w' : World} {g o n : Nat} {vs : List Value} (h : SetMany w w' g o vs) (hr : room w g n) : room w' g n := fun k hk => by
  obtain ⟨h1, h2⟩ := hr k hk
  refine ⟨?_, by rw [h.frozen]; exact h2⟩
  rw [h.cell]
  split
  · rfl
  · exact h1

theorem SetMany.row {w w' : World} {g o b : Nat} {vs us : List Value} (h : SetMany w w' g o vs) (hr : rowAt w g b us) (hd : b + us.length ≤ o ∨ o + vs.length ≤ b) : rowAt w' g b us := fun i hi => by
  rw [h.cell, dif_neg (by omega)]
  exact hr i hi

theorem SetMany.rowNew {w w' : World} {g o : Nat} {vs : List Value} (h : SetMany w w' g o vs) : rowAt w' g o vs := fun i hi => by
  rw [h.cell, dif_pos (by omega)]
  simp

theorem SetMany.splice {w w' : World} {g o b : Nat} {vs us : List Value} (h : SetMany w w' g (b + o) vs) (hr : rowAt w g b us) (hle : o + vs.length ≤ us.length) :
    rowAt w' g b (us.take o ++ vs ++ us.drop (o + vs.length)) := fun i hi => by
  rw [h.cell]
  split
  · rename_i hc
    congr 1
    simp only [List.getElem_append, List.length_take, List.length_append]
    have h1 : ¬ i < min o us.length := by omega
    have h2 : i < min o us.length + vs.length := by omega
    simp only [h2, dif_pos, h1, dif_neg, not_false_eq_true]
    congr 1; omega
  · rename_i hc
    simp only [List.length_append, List.length_take, List.length_drop] at hi
    have hi' : i < us.length := by omega
    rw [hr i hi']
    congr 1
    simp only [List.getElem_append, List.length_take, List.length_append]
    by_cases h1 : i < o
    · have h2 : i < min o us.length + vs.length := by omega
      have h3 : i < min o us.length := by omega
      simp [h2, h3]
    · have h2 : ¬ i < min o us.length + vs.length := by omega
      simp only [h2, dif_neg, not_false_eq_true, List.getElem_drop]
      congr 1; omega

theorem okCell_one {x : AV} {v : Value} (hx : RelV w N μ H x v) (ho : okCell x = true) : v.oneCell' = true := by
  cases x <;> simp only [okCell, Bool.false_eq_true] at ho
  case c u =>
    simp only [RelV] at hx; subst hx
    cases v <;> simp_all [Value.oneCell']
  case fn f cs => simp only [RelV] at hx; obtain ⟨vs, rfl, _⟩ := hx; rfl
  case sl t l => simp only [RelV, RelD] at hx; obtain ⟨a, c, hv, _⟩ := hx; simp at hv; subst hv; rfl
  case fp t l i f => simp only [RelV] at hx; obtain ⟨_, g, o, _, _, rfl, _⟩ := hx; rfl
  case ptr b o => simp only [RelV] at hx; obtain ⟨_, g, _, rfl⟩ := hx; rfl
  case mp b => simp only [RelV] at hx; obtain ⟨_, g, _, rfl⟩ := hx; rfl
  case ifc t x => simp only [RelV] at hx; obtain ⟨_, rfl, _⟩ := hx; rfl
  case mptr c b o => simp only [RelV] at hx; obtain ⟨_, ⟨_, g, _, rfl⟩ | ⟨_, rfl⟩⟩ := hx <;> rfl
  case ep b t i f => simp only [RelV] at hx; obtain ⟨_, g, _, _, _, rfl⟩ := hx; rfl
  case wh b => simp only [RelV] at hx; obtain ⟨t, l, _, ⟨g, c, _, rfl, _⟩ | ⟨_, _, rfl⟩⟩ := hx <;> rfl
  case win b lo n => simp only [RelV] at hx; obtain ⟨t, l, _, _, ⟨g, c, o, _, rfl, _⟩ | ⟨_, _, rfl⟩⟩ := hx <;> rfl
  all_goals (simp only [RelV] at hx; subst hx; rfl)

theorem okCells_one : ∀ {cs : List AV} {vs : List Value}, RelVs w N μ H cs vs → cs.all okCell = true → ∀ v ∈ vs, v.oneCell' = true
  | [], _, h, _, v, hv => by simp only [RelVs] at h; subst h; simp at hv
  | x :: cs, _, h, ho, v, hv => by
    simp only [RelVs] at h
    obtain ⟨u, ur, rfl, h1, h2⟩ := h
    simp only [List.all_cons, Bool.and_eq_true] at ho
    rcases List.mem_cons.1 hv with rfl | hv
    · exact okCell_one h1 ho.1
    · exact okCells_one h2 ho.2 v hv

theorem run_storeAt {t : TypeId} {g o : Nat} {v : Value} (hi : (P.info? t).isSome = true) (hn : v.cells.toList.length = P.cellsOf t) (h1 : ∀ u ∈ v.cells.toList, u.oneCell' = true)
    (h2 : ∀ k, k < v.cells.toList.length → (w.cell? ⟨g, o + k, none⟩).isSome = true ∧ w.frozen? ⟨g, o + k, none⟩ = false) :
    ∃ w', (Instr.storeAt t (.pointer (some ⟨g, o, none⟩)) v).run P w = .ok () w' ∧ SetMany w w' g o v.cells.toList := by
  obtain ⟨w', hrun, hS⟩ := run_storeCells (P := P) v.cells.toList w g o 0 h1 (by simpa using h2)
  refine ⟨w', ?_, by simpa using hS⟩
  obtain ⟨i, hi⟩ := Option.isSome_iff_exists.1 hi
  have hsz : ¬ v.cells.size ≠ i.size := by
    have : P.cellsOf t = i.size := by simp [Program.cellsOf, hi]
    simp at hn; omega
  simp only [Instr.storeAt, Instr.sureAddr, Sem.run_bind, Sem.run_pure, Result.andThen_ok, storeVar, run_sizeOf hi]
  rw [if_neg hsz]
  simp [hrun]

def SameKind : Blk → Blk → Prop
  | .vars _, .vars _ => True
  | .data t l, .data t' l' => ∃ _ : t' = t, l'.length = l.length
  | _, _ => False

/-- A store into a block that stays where it is. -/
theorem Turned.store (hp : Hp F μ H nx w) {b g o : Nat} {vs : List Value} {w' : World} {B : Blk} (hl : H b ≠ .dead) (hg : μ b = some g) (hS : SetMany w w' g o vs) (hB : B ≠ .dead)
    (hk : SameKind (H b) B) : Turned F μ H nx w [] b (some g) B nx w' where
  hp := hp
  os := hS.os
  tape := hS.tape
  output := hS.output
  size := Nat.le_of_eq hS.size.symm
  keep := fun g' _ hne => hS.heap g' fun e => hne hl (by rw [e]; exact hg)
  at_ := fun g' hg' => .inl ⟨hl, by rw [← hg', hg]⟩
  mono := Nat.le_refl _
  lt := by
    rcases Nat.lt_or_ge b nx with h | h
    · exact h
    · exact absurd (hp.dead b h) hl
  live := hB
  kind := fun _ ht => by
    cases hb : H b <;> cases B <;> simp only [hb, SameKind] at hk <;> first | exact ⟨rfl, hg.symm⟩ | exact absurd rfl ht
  self := fun _ _ => by
    refine ⟨by rw [updM_same, hg], ?_⟩
    cases hb : H b <;> cases B <;> simp only [hb, SameKind] at hk <;> simp only [updH_same] <;> try trivial
    · obtain ⟨ht, hlen⟩ := hk
      subst ht
      exact ⟨⟨_, rfl, hlen⟩, fun g' n hg' hr => by rw [hg] at hg'; cases hg'; exact hS.room hr⟩

end
end Go.Ev

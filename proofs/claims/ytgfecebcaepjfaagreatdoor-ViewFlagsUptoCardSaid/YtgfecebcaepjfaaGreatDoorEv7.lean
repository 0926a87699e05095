/- The operations that only yield a value, 5: slices' contents, literals. -/
import Derived.Test.YtgfecebcaepjfaaGreatDoorEvq1
namespace Go.Ev
open Go
section
variable {P : Program} {w : World} {T : Tb} {F : Frm T} {μ : Nat → Option Nat} {H : Nat → Blk} {nx : Nat} {α : Type} {r : α}

/-- A slice value whose elements are this data. -/
def SlRow (w : World) (N : Nat → Prop) (t : Ty) (l : List t.den) (v : Value) : Prop :=
  ∃ a c, v = .slice a l.length c ∧ l.length ≤ c ∧ (0 < l.length → ∃ g o, a = some ⟨g, o, none⟩ ∧ g < w.heap.size ∧
    ∀ i, (h : i < l.length) → ∃ es, es.length = t.size ∧ rowAt w g (o + i * t.size) es ∧ RelD w N t l[i] es)

theorem SlRow.sub {N : Nat → Prop} {t : Ty} {l : List t.den} {g o lo n c : Nat} (hlt : 0 < l.length → g < w.heap.size)
    (hr : ∀ i, (h : i < l.length) → ∃ es, es.length = t.size ∧ rowAt w g (o + i * t.size) es ∧ RelD w N t l[i] es) (hle : lo + n ≤ l.length) (hc : n ≤ c)
    {o' : Nat} (ho : o' = o + lo * t.size ∨ n = 0) : SlRow w N t ((l.drop lo).take n) (.slice (some ⟨g, o', none⟩) n c) := by
  have hlen : ((l.drop lo).take n).length = n := by simp; omega
  refine ⟨some ⟨g, o', none⟩, c, by rw [hlen], by rw [hlen]; exact hc, fun hp => ?_⟩
  rw [hlen] at hp
  refine ⟨g, o', rfl, hlt (by omega), fun i hi => ?_⟩
  rw [hlen] at hi
  obtain ⟨es, h1, h2, h3⟩ := hr (lo + i) (by omega)
  have ho' : o' = o + lo * t.size := by omega
  refine ⟨es, h1, ?_, ?_⟩
  · rw [ho', Nat.add_assoc, ← Nat.add_mul]; exact h2
  · have : ((l.drop lo).take n)[i] = l[lo + i] := by simp
    rw [this]; exact h3

theorem items_ok (hp : Hp F μ H nx w) {t : Ty} {x : AV} {v : Value} {K : List t.den → Option α} (hx : RelV w (Not F μ H) μ H x v) (h : items H t x K = some r) :
    ∃ l, K l = some r ∧ SlRow w (Not F μ H) t l v := by
  unfold items at h
  cases x <;> simp only [reduceCtorEq] at h
  case sl t' l =>
    split at h
    · rename_i ht; subst ht
      simp only [RelV, RelD] at hx
      obtain ⟨a, c, hv, hc, hrow⟩ := hx
      simp only [List.cons.injEq, and_true] at hv
      refine ⟨l, h, a, c, hv, hc, fun hl => ?_⟩
      obtain ⟨g, o, ha, _, hg, hr⟩ := hrow hl
      exact ⟨g, o, ha, hg, hr⟩
    · cases h
  case c u =>
    simp only [RelV] at hx; subst hx
    split at h
    all_goals first
      | (cases h; done)
      | (rename_i heq; cases heq; done)
      | (rename_i heq; cases heq; exact ⟨[], h, none, 0, rfl, Nat.le_refl _, fun hh => absurd hh (by simp)⟩)
      | (rename_i heq; subst heq; exact ⟨[], h, none, 0, rfl, Nat.le_refl _, fun hh => absurd hh (by simp)⟩)
  case wh b =>
    simp only [RelV] at hx
    obtain ⟨t', l, hb, hv⟩ := hx
    simp only [hb] at h
    split at h
    · rename_i ht; subst ht
      refine ⟨l, h, ?_⟩
      rcases hv with ⟨g, c, hg, rfl, hc, _⟩ | ⟨_, rfl, rfl⟩
      · refine ⟨_, c, rfl, hc, fun hl => ⟨g, 0, rfl, hp.lt b g (by simp [hb]) hg, fun i hi => ?_⟩⟩
        have hB := hp.blk b
        simp only [hb, RelB] at hB
        rcases hB with ⟨hn, _⟩ | ⟨g', hg', _, hr⟩
        · rw [hg] at hn; cases hn
        · rw [hg] at hg'; cases hg'
          simpa using hr i hi
      · exact ⟨none, 0, rfl, Nat.le_refl _, fun hh => absurd hh (by simp)⟩
    · cases h
  case win b lo n =>
    simp only [RelV] at hx
    obtain ⟨t', l, hb, hle, hv⟩ := hx
    simp only [hb] at h
    split at h
    · rename_i ht; subst ht
      refine ⟨_, h, ?_⟩
      rcases hv with ⟨g, c, o, hg, rfl, hc, _, ho⟩ | ⟨_, rfl, rfl⟩
      · have hB := hp.blk b
        simp only [hb, RelB] at hB
        rcases hB with ⟨hn, _⟩ | ⟨g', hg', _, hr⟩
        · rw [hg] at hn; cases hn
        · rw [hg] at hg'; cases hg'
          refine SlRow.sub (o := 0) (fun _ => hp.lt b g (by simp [hb]) hg) (fun i hi => by simpa using hr i hi) hle (by omega) ?_
          rcases ho with rfl | ⟨rfl, _⟩
          · left; omega
          · right; omega
      · have h0 : lo = 0 ∧ n = 0 := by simp at hle; omega
        obtain ⟨rfl, rfl⟩ := h0
        exact ⟨none, 0, rfl, Nat.le_refl _, fun hh => absurd hh (by simp)⟩
    · cases h

theorem lenOf_ok {x : AV} {v : Value} {K : Nat → Option α} (hx : RelV w (Not F μ H) μ H x v) (h : lenOf H x K = some r) :
    ∃ n, K n = some r ∧ ∃ a c, v = .slice a n c := by
  unfold lenOf at h
  cases x <;> simp only [reduceCtorEq] at h
  case sl t l =>
    simp only [RelV, RelD] at hx
    obtain ⟨a, c, hv, _⟩ := hx
    simp only [List.cons.injEq, and_true] at hv
    exact ⟨_, h, ⟨a, c, hv⟩⟩
  case c u =>
    simp only [RelV] at hx; subst hx
    split at h
    all_goals first
      | (cases h; done)
      | (rename_i heq; cases heq; done)
      | (rename_i heq; cases heq; exact ⟨0, h, none, 0, rfl⟩)
      | (rename_i heq; subst heq; exact ⟨0, h, none, 0, rfl⟩)
  case wh b =>
    simp only [RelV] at hx
    obtain ⟨t, l, hb, hv⟩ := hx
    simp only [hb] at h
    rcases hv with ⟨g, c, _, rfl, _⟩ | ⟨_, rfl, rfl⟩
    · exact ⟨_, h, _, c, rfl⟩
    · exact ⟨_, h, none, 0, rfl⟩
  case win b lo n =>
    simp only [RelV] at hx
    obtain ⟨t, l, hb, hle, hv⟩ := hx
    rcases hv with ⟨g, c, o, _, rfl, _⟩ | ⟨_, rfl, rfl⟩
    · exact ⟨_, h, _, _, rfl⟩
    · have : n = 0 := by simp at hle; omega
      subst this
      exact ⟨_, h, none, 0, rfl⟩

/-- The bytes of a slice, as a string. -/
theorem bytes_fold : ∀ (l : List UInt8) (acc : List UInt8), (l.map fun b => (b.toNat : Int)).foldl (fun (r : ByteArray) n => r.push (UInt8.ofNat n.toNat)) ⟨acc.toArray⟩ = ⟨(acc ++ l).toArray⟩
  | [], acc => by simp
  | b :: l, acc => by
    have hb : (⟨acc.toArray⟩ : ByteArray).push (UInt8.ofNat ((b.toNat : Int)).toNat) = ⟨(acc ++ [b]).toArray⟩ := by
      apply ByteArray.ext
      simp [ByteArray.push]
    simp only [List.map_cons, List.foldl_cons, hb, bytes_fold l (acc ++ [b]), List.append_assoc, List.singleton_append]

theorem run_bytes {X : Nat → Nat → Prop} {N : Nat → Prop} {l : List UInt8} {v : Value} (h : SlRow w N .u8 l v) (hX : ∀ g o n c, v = .slice (some ⟨g, o, none⟩) n c → 0 < n → ∀ k, ¬ X g k) {w' : World} (hw : Agr X w w') : (Conv.bytesToString v).run P w' = .ok (.string ⟨l.toArray⟩) w' := by
  obtain ⟨a, c, rfl, _, hr⟩ := h
  cases l with
  | nil =>
    cases a with
    | none => simp [Conv.bytesToString]; rfl
    | some a =>
      exact run_bytesToString (P := P) w' a 0 c [] (by simp [loadCells, loadCellsFrom])
  | cons x xs =>
    obtain ⟨g, o, rfl, hg, hrow⟩ := hr (by simp)
    have hl : rowAt w' g o ((x :: xs).map fun b => Value.int .u8 (b.toNat : Int)) := by
      intro i hi
      simp only [List.length_map] at hi
      obtain ⟨es, h1, h2, h3⟩ := hrow i hi
      simp only [RelD] at h3
      subst h3
      have h4 := hw.row (fun k _ _ => hX _ _ _ _ rfl (by simp) k) h2 0 (by simp)
      simp only [Ty.size, Nat.mul_one, Nat.add_zero] at h4
      rw [h4, List.getElem_map]; rfl
    have hc := run_cells (P := P) hl
    rw [List.length_map] at hc
    have hm : ((x :: xs).map fun b => Value.int .u8 (b.toNat : Int)) = ((x :: xs).map fun b => (b.toNat : Int)).map (Value.int .u8) := by simp
    rw [hm] at hc
    rw [run_bytesToString w' _ _ c _ hc]
    have := bytes_fold (x :: xs) []
    simp only [List.nil_append] at this
    exact congrArg (fun z => Result.ok (Value.string z) w') this

end
end Go.Ev

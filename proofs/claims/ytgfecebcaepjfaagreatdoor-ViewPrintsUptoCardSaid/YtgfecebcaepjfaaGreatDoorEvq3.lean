/- The operations that only yield a value, 5: slices' contents, literals. -/
import Derived.Test.YtgfecebcaepjfaaGreatDoorEvq1
namespace Go.Ev
open Go
section
variable {P : Program} {w : World} {T : Tb} {F : Frm T} {μ : Nat → Option Nat} {H : Nat → Blk} {nx : Nat} {α : Type} {r : α}

/-- A slice value whose elements are this data. -/
def SlRow (w : World) (N : Nat → Prop) (t : Ty) (l : List t.den) (v : Value) : Prop :=
  ∃ a c, v = .slice a l.length c ∧ l.length ≤ c ∧ (0 < l.length → ∃ g o, a = some ⟨g, o, none⟩ ∧ g < w.heap.size ∧
    ∀ i, (h : i < l.length) → ∃ es, es.length = t.size ∧ rowAt w g (o + i * t.size) es ∧ RelD w N t l[i] es)

theorem SlRow.sub {N : Nat → Prop} {t : Ty} {l : List t.den} {g o lo n c : Nat} (hlt : 0 < l.length → g < w.heap.size)
    (hr : ∀ i, (h : i < l.length) → ∃ es, es.length = t.size ∧ rowAt w g (o + i * t.size) es ∧ RelD w N t l[i] es) (hle : lo + n ≤ l.length) (hc : n ≤ c)
    {o' : Nat} (ho : o' = o + lo * t.size ∨ n = 0) : SlRow w N t ((l.drop lo).take n) (.slice (some ⟨g, o', none⟩) n c) := by
  have hlen : ((l.drop lo).take n).length = n := by simp; omega
  refine ⟨some ⟨g, o', none⟩, c, by rw [hlen], by rw [hlen]; exact hc, fun hp => ?_⟩
  rw [hlen] at hp
  refine ⟨g, o', rfl, hlt (by omega), fun i hi => ?_⟩
  rw [hlen] at hi
  obtain ⟨es, h1, h2, h3⟩ := hr (lo + i) (by omega)
  have ho' : o' = o + lo * t.size := by omega
  refine ⟨es, h1, ?_, ?_⟩
  · rw [ho', Nat.add_assoc, ← Nat.add_mul]; exact h2
  · have : ((l.drop lo).take n)[i] = l[lo + i] := by simp
    rw [this]; exact h3

theorem items_ok (hp : Hp F μ H nx w) {t : Ty} {x : AV} {v : Value} {K : List t.den → Option α} (hx : RelV w (Not F μ H) μ H x v) (h : items H t x K = some r) :
    ∃ l, K l = some r ∧ SlRow w (Not F μ H) t l v := by
  unfold items at h
  cases x <;> simp only [reduceCtorEq] at h
  case sl t' l =>
    split at h
    · rename_i ht; subst ht
      simp only [RelV, RelD] at hx
      obtain ⟨a, c, hv, hc, hrow⟩ := hx
      simp only [List.cons.injEq, and_true] at hv
      refine ⟨l, h, a, c, hv, hc, fun hl => ?_⟩
      obtain ⟨g, o, ha, _, hg, hr⟩ := hrow hl
      exact ⟨g, o, ha, hg, hr⟩
    · cases h
  case c u =>
    simp only [RelV] at hx; subst hx
    split at h
    all_goals first
      | (cases h; done)
      | (rename_i heq; cases heq; done)
      | (rename_i heq; cases heq; exact ⟨[], h, none, 0, rfl, Nat.le_refl _, fun hh => absurd hh (by simp)⟩)
      | (rename_i heq; subst heq; exact ⟨[], h, none, 0, rfl, Nat.le_refl _, fun hh => absurd hh (by simp)⟩)
  case wh b =>
    simp only [RelV] at hx
    obtain ⟨t', l, hb, hv⟩ := hx
    simp only [hb] at h
    split at h
    · rename_i ht; subst ht
      refine ⟨l, h, ?_⟩
      rcases hv with ⟨g, c, hg, rfl, hc, _⟩ | ⟨_, rfl, rfl⟩
      · refine ⟨_, c, rfl, hc, fun hl => ⟨g, 0, rfl, hp.lt b g (by simp [hb]) hg, fun i hi => ?_⟩⟩
        have hB := hp.blk b
        simp only [hb, RelB] at hB
        rcases hB with ⟨hn, _⟩ | ⟨g', hg', _, hr⟩
        · rw [hg] at hn; cases hn
        · rw [hg] at hg'; cases hg'
          simpa using hr i hi
      · exact ⟨none, 0, rfl, Nat.le_refl _, fun hh => absurd hh (by simp)⟩
    · cases h
  case win b lo n =>
    simp only [RelV] at hx
    obtain ⟨t', l, hb, hle, hv⟩ := hx
    simp only [hb] at h
    split at h
    · rename_i ht; subst ht
      refine ⟨_, h, ?_⟩
      rcases hv with ⟨g, c, o, hg, rfl, hc, _, ho⟩ | ⟨_, rfl, rfl⟩
      · have hB := hp.blk b
        simp only [hb, RelB] at hB
        rcases hB with ⟨hn, _⟩ | ⟨g', hg', _, hr⟩
        · rw [hg] at hn; cases hn
        · rw [hg] at hg'; cases hg'
          refine SlRow.sub (o := 0) (fun _ => hp.lt b g (by simp [hb]) hg) (fun i hi => by simpa using hr i hi) hle (by omega) ?_
          rcases ho with rfl | ⟨rfl, _⟩
          · left; omega
          · right; omega
      · have h0 : lo = 0 ∧ n = 0 := by simp at hle; omega
        obtain ⟨rfl, rfl⟩ := h0
        exact ⟨none, 0, rfl, Nat.le_refl _, fun hh => absurd hh (by simp)⟩
    · cases h

theorem lenOf_ok {x : AV} {v : Value} {K : Nat → Option α} (hx : RelV w (Not F μ H) μ H x v) (h : lenOf H x K = some r) :
    ∃ n, K n = some r ∧ ∃ a c, v = .slice a n c := by
  unfold lenOf at h
  cases x <;> simp only [reduceCtorEq] at h
  case sl t l =>
    simp only [RelV, RelD] at hx
    obtain ⟨a, c, hv, _⟩ := hx
    simp only [List.cons.injEq, and_true] at hv
    exact ⟨_, h, ⟨a, c, hv⟩⟩
  case c u =>
    simp only [RelV] at hx; subst hx
    split at h
    all_goals first
      | (cases h; done)
      | (rename_i heq; cases heq; done)
      | (rename_i heq; cases heq; exact ⟨0, h, none, 0, rfl⟩)
      | (rename_i heq; subst heq; exact ⟨0, h, none, 0, rfl⟩)
  case wh b =>
    simp only [RelV] at hx
    obtain ⟨t, l, hb, hv⟩ := hx
    simp only [hb] at h
    rcases hv with ⟨g, c, _, rfl, _⟩ | ⟨_, rfl, rfl⟩
    · exact ⟨_, h, _, c, rfl⟩
    · exact ⟨_, h, none, 0, rfl⟩
  case win b lo n =>
    simp only [RelV] at hx
    obtain ⟨t, l, hb, hle, hv⟩ := hx
    rcases hv with ⟨g, c, o, _, rfl, _⟩ | ⟨_, rfl, rfl⟩
    · exact ⟨_, h, _, _, rfl⟩
    · have : n = 0 := by simp at hle; omega
      subst this
      exact ⟨_, h, none, 0, rfl⟩

/-- The bytes of a slice, as a string. -/
theorem bytes_fold : ∀ (l : List UInt8) (acc : List UInt8), (l.map fun b => (b.toNat : Int)).foldl (fun (r : ByteArray) n => r.push (UInt8.ofNat n.toNat)) ⟨acc.toArray⟩ = ⟨(acc ++ l).toArray⟩
  | [], acc => by simp
  | b :: l, acc => by
    have hb : (⟨acc.toArray⟩ : ByteArray).push (UInt8.ofNat ((b.toNat : Int)).toNat) = ⟨(acc ++ [b]).toArray⟩ := by
      apply ByteArray.ext
      simp [ByteArray.push]
    simp only [List.map_cons, List.foldl_cons, hb, bytes_fold l (acc ++ [b]), List.append_assoc, List.singleton_append]

theorem run_bytes {X : Nat → Nat → Prop} {N : Nat → Prop} {l : List UInt8} {v : Value} (h : SlRow w N .u8 l v) (hX : ∀ g o n c, v = .slice (some ⟨g, o, none⟩) n c → 0 < n → ∀ k, ¬ X g k) {w' : World} (hw : Agr X w w') : (Conv.bytesToString v).run P w' = .ok (.string ⟨l.toArray⟩) w' := by
  obtain ⟨a, c, rfl, _, hr⟩ := h
  cases l with
  | nil =>
    cases a with
    | none => simp [Conv.bytesToString]; rfl
    | some a =>
      exact run_bytesToString (P := P) w' a 0 c [] (by simp [loadCells, loadCellsFrom])
  | cons x xs =>
    obtain ⟨g, o, rfl, hg, hrow⟩ := hr (by simp)
    have hl : rowAt w' g o ((x :: xs).map fun b => Value.int .u8 (b.toNat : Int)) := by
      intro i hi
      simp only [List.length_map] at hi
      obtain ⟨es, h1, h2, h3⟩ := hrow i hi
      simp only [RelD] at h3
      subst h3
      have h4 := hw.row (fun k _ _ => hX _ _ _ _ rfl (by simp) k) h2 0 (by simp)
      simp only [Ty.size, Nat.mul_one, Nat.add_zero] at h4
      rw [h4, List.getElem_map]; rfl
    have hc := run_cells (P := P) hl
    rw [List.length_map] at hc
    have hm : ((x :: xs).map fun b => Value.int .u8 (b.toNat : Int)) = ((x :: xs).map fun b => (b.toNat : Int)).map (Value.int .u8) := by simp
    rw [hm] at hc
    rw [run_bytesToString w' _ _ c _ hc]
    have := bytes_fold (x :: xs) []
    simp only [List.nil_append] at this
    exact congrArg (fun z => Result.ok (Value.string z) w') this

end
end Go.Ev

namespace Go.Ev
open Go
section
variable {P : Program} {w : World} {N : Nat → Prop} {T : Tb} {F : Frm T} {μ : Nat → Option Nat} {H : Nat → Blk} {nx : Nat} {α : Type} {r : α}

theorem cellsK_ok {x : AV} {v : Value} {K : List AV → Option α} (hx : RelV w N μ H x v) (h : cellsK x K = some r) :
    ∃ cs, K cs = some r ∧ RelVs w N μ H cs v.cells.toList := by
  unfold cellsK at h
  cases x <;> simp only [reduceCtorEq] at h
  case agg cs =>
    simp only [RelV] at hx
    obtain ⟨vs, rfl, hvs⟩ := hx
    exact ⟨cs, h, by simpa [Value.cells] using hvs⟩
  case c u =>
    obtain ⟨h1, h2⟩ := cond_some h
    simp only [RelV] at hx; subst hx
    refine ⟨_, h2, ?_⟩
    cases v <;> simp_all [Value.cells, RelVs, RelV, notAgg]
  all_goals
    refine ⟨_, h, ?_⟩
    have hx' := hx
    simp only [RelV, RelD] at hx'
    have : v.cells = #[v] := by
      cases v <;> first | rfl | (exfalso; simp_all; done) | (exfalso; rcases hx' with ⟨_, _, _, h⟩ | _ <;> simp_all; done) | (exfalso; obtain ⟨_, _, _, h⟩ := hx'; simp_all; done) | skip
      all_goals first | (exfalso; obtain ⟨_, _, _, ⟨_, _, _, h, _⟩ | ⟨_, _, h⟩⟩ := hx' <;> simp_all; done) | (exfalso; obtain ⟨_, _, _, _, ⟨_, _, _, _, h, _⟩ | ⟨_, _, h⟩⟩ := hx' <;> simp_all; done) | skip
    rw [this]
    simp only [RelVs]
    exact ⟨v, [], rfl, hx, rfl⟩

theorem splice_ok {cs vs : List AV} {X V : List Value} {o : Nat} (hx : RelVs w N μ H cs X) (hv : RelVs w N μ H vs V) : RelVs w N μ H (splice cs o vs) (X.take o ++ V ++ X.drop (o + V.length)) := by
  unfold splice
  rw [RelVs_length hv]
  exact RelVs_append (RelVs_append (RelVs_take o hx) hv) (RelVs_drop _ hx)

/-- What 'fill' does to a struct's cells. -/
theorem fold_set : ∀ (V : List Value) (cells : List Value) (off k : Nat), off + k + V.length ≤ cells.length →
    (V.zipIdx k).foldl (fun (cs : Array Value) (p : Value × Nat) => cs.setIfInBounds (off + p.2) p.1) cells.toArray = (cells.take (off + k) ++ V ++ cells.drop (off + k + V.length)).toArray
  | [], cells, off, k, _ => by simp
  | v :: V, cells, off, k, h => by
    simp only [List.length_cons] at h
    simp only [List.zipIdx_cons, List.foldl_cons, List.length_cons]
    have h1 : (cells.toArray.setIfInBounds (off + k) v) = (cells.set (off + k) v).toArray := by simp
    rw [h1, fold_set V (cells.set (off + k) v) off (k + 1) (by simp; omega)]
    congr 1
    apply List.ext_getElem?
    intro i
    simp only [List.getElem?_append, List.getElem?_drop, List.length_append, List.length_take, List.length_set, List.length_cons, List.getElem?_take, List.getElem?_set, List.getElem?_cons]
    (repeat' split) <;> first | rfl | (congr 1; omega) | omega | (simp_all; omega) | skip
    all_goals (try simp_all) <;> (try omega)
    all_goals (congr 1; omega)


theorem zeroCells_ok {t : TypeId} {K : List AV → Option α} (h : zeroCells P t K = some r) :
    ∃ cs z, K cs = some r ∧ RelVs w N μ H cs z.cells.toList ∧ ∀ w', (zeroValue t).run P w' = .ok z w' := by
  unfold zeroCells at h
  cases hi : P.info? t with
  | none => simp [hi] at h
  | some i =>
    simp only [hi] at h
    cases hz : i.zero with
    | none => simp [hz] at h
    | some z =>
      simp only [hz] at h
      obtain ⟨cs, hK, hr⟩ := cellsK_ok (w := w) (N := N) (μ := μ) (H := H) (absV_ok z) h
      exact ⟨cs, z, hK, hr, fun w' => by simp [zeroValue, typeInfo, hi, hz]⟩

theorem run_places (fs : List Field) (h : ∀ f ∈ fs, (P.info? f.type).isSome = true) (w' : World) :
    (fs.mapM fun f => do pure (f.offset, ← sizeOf f.type) : Sem (List (Nat × Nat))).run P w' = .ok (fs.map fun f => (f.offset, P.cellsOf f.type)) w' := by
  induction fs with
  | nil => simp
  | cons f fs ih =>
    have hf := h f (by simp)
    cases hi : P.info? f.type with
    | none => simp [hi] at hf
    | some i =>
      have ih' := ih fun g hg => h g (by simp [hg])
      simp only [List.mapM_cons, Sem.run_bind, run_sizeOf hi, Result.andThen_ok, Sem.run_pure, ih', List.map_cons]
      simp [Program.cellsOf, hi]

theorem fillAV_ok {fs : Array Field} : ∀ {ps : List (Nat × AV)} {cs : List AV} {X : List Value} {vs : List (Nat × Value)} {K : List AV → Option α},
    RelVs w N μ H cs X → (ps.length = vs.length ∧ ∀ (k : Nat) (p : Nat × AV) (v : Nat × Value), ps[k]? = some p → vs[k]? = some v → p.1 = v.1 ∧ RelV w N μ H p.2 v.2) → fillAV P fs.toList cs ps K = some r →
    ∃ cs' X', K cs' = some r ∧ RelVs w N μ H cs' X' ∧ Instr.fill (fun i => (fs.map fun f => (f.offset, P.cellsOf f.type))[i]?) X.toArray vs = some X'.toArray
  | [], cs, X, vs, K, hx, hv, h => by
    have : vs = [] := by have := hv.1; simp at this; exact List.length_eq_zero_iff.1 this.symm
    subst this
    exact ⟨cs, X, h, hx, rfl⟩
  | (i, x) :: ps, cs, X, vs, K, hx, hv, h => by
    obtain ⟨hlen, hall⟩ := hv
    cases vs with
    | nil => simp at hlen
    | cons p vs =>
      obtain ⟨i', v⟩ := p
      obtain ⟨e1, e2⟩ := hall 0 (i, x) (i', v) rfl rfl
      simp only at e1 e2
      subst e1
      simp only [fillAV] at h
      cases hf : fs.toList[i]? with
      | none => simp [hf] at h
      | some f =>
        simp only [hf] at h
        obtain ⟨ws, h1, hws⟩ := cellsK_ok e2 h
        obtain ⟨h2, h3⟩ := cond_some h1
        simp only [Bool.and_eq_true] at h2
        have hn : ws.length = P.cellsOf f.type := Nat.eq_of_beq_eq_true h2.1
        have hb : f.offset + ws.length ≤ cs.length := Nat.le_of_ble_eq_true h2.2
        have l1 := RelVs_length hws
        have l2 := RelVs_length hx
        obtain ⟨cs', X', hK, hr, hfill⟩ := fillAV_ok (splice_ok hx hws) ⟨by simpa using hlen, fun k p q hp hq => hall (k + 1) p q (by simpa using hp) (by simpa using hq)⟩ h3
        refine ⟨cs', X', hK, hr, ?_⟩
        have hplace : (fs.map fun f => (f.offset, P.cellsOf f.type))[i]? = some (f.offset, P.cellsOf f.type) := by
          simp only [Array.getElem?_map]
          have : fs[i]? = some f := by simpa using hf
          rw [this]; rfl
        have hsz : v.cells.size = ws.length := by rw [← l1]; simp
        have hcond : (decide (v.cells.size ≠ P.cellsOf f.type) || decide (f.offset + v.cells.size > X.toArray.size)) = false := by
          simp only [Bool.or_eq_false_iff, decide_eq_false_iff_not, List.size_toArray]
          constructor <;> omega
        rw [Instr.fill]
        simp only [hplace, hcond, Bool.false_eq_true, if_false]
        rw [← hfill]
        congr 1
        have := fold_set v.cells.toList X f.offset 0 (by simp; omega)
        simp only [Nat.add_zero] at this
        rw [← this, ← Array.foldl_toList]
        simp

theorem fillAr_ok {sz : Nat} : ∀ {ps : List (Nat × AV)} {cs : List AV} {X : List Value} {vs : List (Nat × Value)} {K : List AV → Option α},
    RelVs w N μ H cs X → (ps.length = vs.length ∧ ∀ (k : Nat) (p : Nat × AV) (v : Nat × Value), ps[k]? = some p → vs[k]? = some v → p.1 = v.1 ∧ RelV w N μ H p.2 v.2) → fillAr sz cs ps K = some r →
    ∃ cs' X', K cs' = some r ∧ RelVs w N μ H cs' X' ∧ Instr.fill (fun i => some (i * sz, sz)) X.toArray vs = some X'.toArray
  | [], cs, X, vs, K, hx, hv, h => by
    have : vs = [] := by have := hv.1; simp at this; exact List.length_eq_zero_iff.1 this.symm
    subst this
    exact ⟨cs, X, h, hx, rfl⟩
  | (i, x) :: ps, cs, X, vs, K, hx, hv, h => by
    obtain ⟨hlen, hall⟩ := hv
    cases vs with
    | nil => simp at hlen
    | cons p vs =>
      obtain ⟨i', v⟩ := p
      obtain ⟨e1, e2⟩ := hall 0 (i, x) (i', v) rfl rfl
      simp only at e1 e2
      subst e1
      simp only [fillAr] at h
      obtain ⟨ws, h1, hws⟩ := cellsK_ok e2 h
      obtain ⟨h2, h3⟩ := cond_some h1
      simp only [Bool.and_eq_true] at h2
      have hn : ws.length = sz := Nat.eq_of_beq_eq_true h2.1
      have hb : i * sz + ws.length ≤ cs.length := Nat.le_of_ble_eq_true h2.2
      have l1 := RelVs_length hws
      have l2 := RelVs_length hx
      obtain ⟨cs', X', hK, hr, hfill⟩ := fillAr_ok (splice_ok hx hws) ⟨by simpa using hlen, fun k p q hp hq => hall (k + 1) p q (by simpa using hp) (by simpa using hq)⟩ h3
      refine ⟨cs', X', hK, hr, ?_⟩
      have hsz : v.cells.size = ws.length := by rw [← l1]; simp
      have hcond : (decide (v.cells.size ≠ sz) || decide (i * sz + v.cells.size > X.toArray.size)) = false := by
        simp only [Bool.or_eq_false_iff, decide_eq_false_iff_not, List.size_toArray]
        constructor <;> omega
      rw [Instr.fill]
      simp only [hcond, Bool.false_eq_true, if_false]
      rw [← hfill]
      congr 1
      have := fold_set v.cells.toList X (i * sz) 0 (by simp; omega)
      simp only [Nat.add_zero] at this
      rw [← this, ← Array.foldl_toList]
      simp

theorem parts_rel {ρ : Operand → Value} {ρA : Operand → AV} (hρ : ∀ x, RelG w N μ H ρ (ρA x) (ρ x)) (ps : List (Nat × Operand)) :
    (ps.map fun (i, x) => (i, ρA x)).length = (ps.map fun (i, x) => (i, ρ x)).length ∧ ∀ (k : Nat) (p : Nat × AV) (v : Nat × Value),
      (ps.map fun (i, x) => (i, ρA x))[k]? = some p → (ps.map fun (i, x) => (i, ρ x))[k]? = some v → p.1 = v.1 ∧ RelV w N μ H p.2 v.2 := by
  refine ⟨by simp, fun k p v hp hv => ?_⟩
  simp only [List.getElem?_map, Option.map_eq_some_iff] at hp hv
  obtain ⟨⟨i, x⟩, h1, rfl⟩ := hp
  obtain ⟨⟨i', x'⟩, h2, rfl⟩ := hv
  rw [h1] at h2
  simp only [Option.some.injEq, Prod.mk.injEq] at h2
  obtain ⟨rfl, rfl⟩ := h2
  exact ⟨rfl, (hρ x).rel⟩

theorem RelVs_map {ρ : Operand → Value} {ρA : Operand → AV} (hρ : ∀ x, RelG w N μ H ρ (ρA x) (ρ x)) : ∀ xs : List Operand, RelVs w N μ H (xs.map ρA) (xs.map ρ)
  | [] => by simp [RelVs]
  | x :: xs => by simp only [List.map_cons, RelVs]; exact ⟨_, _, rfl, (hρ x).rel, RelVs_map hρ xs⟩

theorem unGx_ok {ρ : Operand → Value} {x : AV} {v : Value} {c : Operand} {b : Bool} (hx : RelG w N μ H ρ x v) (hc : ρ c = .bool b) : RelV w N μ H (unGx c b x) v := by
  unfold unGx
  cases c with
  | tmp j =>
    simp only [unG]
    cases x <;> first | exact hx | skip
    rename_i j' w' y
    simp only
    by_cases hj : j' = j ∧ w' = b
    · obtain ⟨rfl, rfl⟩ := hj
      simp only [Nat.beq_refl, BEq.rfl, Bool.and_self, cond_true]
      have := hx hc
      cases y <;> first | exact this | simp [noGd, RelV]
    · have : (Nat.beq j' j && w' == b) = false := by
        rw [Bool.and_eq_false_iff]
        by_cases h1 : j' = j
        · right; simp; exact fun h2 => hj ⟨h1, h2⟩
        · left; exact Bool.eq_false_iff.2 fun h => h1 (Nat.eq_of_beq_eq_true h)
      simp [this, RelV]
  | _ => exact hx.rel

theorem run_fieldAt {t : TypeId} {f o : Nat} {ft : TypeId} (h : fieldOff P t f = some (o, ft)) (g b : Nat) (w' : World) :
    (Instr.fieldAt t (.pointer (some ⟨g, b, none⟩)) f).run P w' = .ok (.pointer (some ⟨g, b + o, none⟩)) w' := by
  unfold fieldOff at h
  cases hu : P.underlying t with
  | none => simp [hu] at h
  | some d =>
    cases d <;> simp only [hu, reduceCtorEq] at h
    rename_i fs
    cases hf : fs[f]? with
    | none => simp [hf] at h
    | some fd =>
      simp only [hf] at h
      cases hz : Nat.beq (P.cellsOf fd.type) 0 with
      | true => simp [hz] at h
      | false =>
        simp only [hz, cond_false, Option.some.injEq, Prod.mk.injEq] at h
        obtain ⟨rfl, rfl⟩ := h
        have hi : ∃ i, P.info? fd.type = some i := by
          cases hi : P.info? fd.type with
          | none => simp [Program.cellsOf, hi] at hz
          | some i => exact ⟨i, rfl⟩
        obtain ⟨i, hi⟩ := hi
        have hsz : ¬ i.size = 0 := by
          intro h0; simp [Program.cellsOf, hi, h0] at hz
        simp [Instr.fieldAt, run_underlying hu, hf, Instr.sureAddr, fieldPlace, run_sizeOf hi, hsz, add_none]

theorem fieldOff_field {t : TypeId} {f o : Nat} {ft : TypeId} (h : fieldOff P t f = some (o, ft)) : ∃ fs fd, P.underlying t = some (.struct fs) ∧ fs[f]? = some fd ∧ fd.offset = o ∧ fd.type = ft := by
  unfold fieldOff at h
  cases hu : P.underlying t with
  | none => simp [hu] at h
  | some d =>
    cases d <;> simp only [hu, reduceCtorEq] at h
    rename_i fs
    cases hf : fs[f]? with
    | none => simp [hf] at h
    | some fd =>
      simp only [hf] at h
      cases hz : Nat.beq (P.cellsOf fd.type) 0 <;> simp [hz] at h
      exact ⟨fs, fd, rfl, hf, h.1, h.2⟩

theorem run_indexAt {t e : TypeId} {ty : Ty} (ht : P.underlying t = some (.slice e)) (hs : szOK P e ty = true) {g o len cap : Nat} {k : IntKind} {i : Int} (h0 : 0 ≤ i) (h1 : i < (len : Int)) (w' : World) :
    (Instr.indexAt t (.slice (some ⟨g, o, none⟩) len cap) (.int k i)).run P w' = .ok (.pointer (some ⟨g, o + i.toNat * ty.size, none⟩)) w' := by
  simp [Instr.indexAt, asIntOf, run_underlying ht, h0, h1, szOK_run hs, add_none]

end
end Go.Ev

namespace Go.Ev
open Go
section
variable {P : Program} {X : Nat → Nat → Prop} {w : World} {T : Tb} {F : Frm T} {μ : Nat → Option Nat} {H : Nat → Blk} {nx : Nat} {α : Type} {r : α}

def VOK (P : Program) (X : Nat → Nat → Prop) (w : World) {T : Tb} (F : Frm T) (μ : Nat → Option Nat) (H : Nat → Blk) (ρ : Operand → Value) (op : Op) {α : Type} (K : Bool → AV → Option α) (r : α) : Prop :=
  ∃ side v, K side v = some r ∧ (side = true → ∃ val, RelV w (Not F μ H) μ H v val ∧ Yields P X w ρ op val)

theorem VOK.of {ρ : Operand → Value} {op : Op} {K : Bool → AV → Option α} {v : AV} {val : Value} (h : K true v = some r) (hv : RelV w (Not F μ H) μ H v val)
    (hy : ∀ o : Oper, o.op = op → ∀ w', Agr X w w' → (execOp ρ o).run P w' = .ok (.value val) w') : VOK P X w F μ H ρ op K r :=
  ⟨true, v, h, fun _ => ⟨val, hv, hy⟩⟩

theorem pick_and {ρ : Operand → Value} {c a : Operand} {x : AV} {cv q : Bool} {w' : World} (hc : ρ c = .bool cv) (hu : ∀ b, ρ c = .bool b → b = true → RelV w (Not F μ H) μ H x (ρ a)) (hx : x = .b q ∨ x = .kb q)
    (hk : ∀ v, ρ (.const v) = v) {o : Oper} (ho : o.op = .pick c a (.const (.bool false))) : (execOp ρ o).run P w' = .ok (.value (.bool (cv && q))) w' := by
  cases cv
  · simp [execOp, ho, hc, asBool, hk]
  · have := hu true hc rfl
    rcases hx with rfl | rfl <;> simp only [RelV] at this <;> simp [execOp, ho, hc, asBool, this]

theorem pick_or {ρ : Operand → Value} {c b : Operand} {x : AV} {cv q : Bool} {w' : World} (hc : ρ c = .bool cv) (hu : ∀ b', ρ c = .bool b' → b' = false → RelV w (Not F μ H) μ H x (ρ b)) (hx : x = .b q ∨ x = .kb q)
    (hk : ∀ v, ρ (.const v) = v) {o : Oper} (ho : o.op = .pick c (.const (.bool true)) b) : (execOp ρ o).run P w' = .ok (.value (.bool (cv || q))) w' := by
  cases cv
  · have := hu false hc rfl
    rcases hx with rfl | rfl <;> simp only [RelV] at this <;> simp [execOp, ho, hc, asBool, this]
  · simp [execOp, ho, hc, asBool, hk]

theorem wrap_small {k : IntKind} {x : UInt8} (h8 : k ≠ .u8) (hi : k ≠ .i8) : k.wrap (x.toNat : Int) = (x.toNat : Int) := by
  have hx := u8_toNat x
  cases k <;> first | exact absurd rfl h8 | exact absurd rfl hi | (simp [IntKind.wrap, IntKind.bits, IntKind.signed]; try omega)

theorem sides {a z l : Int} (h : (decide (0 ≤ a) && decide (a ≤ z) && decide (z ≤ l)) = true) : 0 ≤ a ∧ a ≤ z ∧ z ≤ l := by
  simp only [Bool.and_eq_true, decide_eq_true_eq] at h
  exact ⟨h.1.1, h.1.2, h.2⟩

theorem sides2 {i l : Int} (h : (decide (0 ≤ i) && decide (i < l)) = true) : 0 ≤ i ∧ i < l := by
  simpa using h

theorem cellsAg_ok {N : Nat → Prop} {cs : List AV} {vs : List Value} {o n : Nat} {ag : Bool} {K : AV → Option α}
    (hr : RelVs w N μ H cs vs) (h : cellsAt cs o n ag K = some r) :
    ∃ v val, K v = some r ∧ RelV w N μ H v val ∧ ((ag = true ∧ val = .agg (vs.toArray.extract o (o + n))) ∨ (ag = false ∧ vs[o]? = some val)) := by
  unfold cellsAt at h
  cases ag with
  | true =>
    simp only [cond_true] at h
    obtain ⟨hb, hK⟩ := cond_some h
    refine ⟨_, .agg ((vs.drop o).take n).toArray, hK, ?_, .inl ⟨rfl, ?_⟩⟩
    · simp only [RelV]
      exact ⟨_, rfl, RelVs_take n (RelVs_drop o hr)⟩
    · congr 1
      simp [List.extract_eq_take_drop]
  | false =>
    simp only [cond_false] at h
    have hd := RelVs_drop o hr
    cases hx : cs.drop o with
    | nil => simp [hx] at h
    | cons x rest =>
      simp only [hx] at h hd
      simp only [RelVs] at hd
      obtain ⟨v, vr, hv, h1, _⟩ := hd
      refine ⟨x, v, h, h1, .inr ⟨rfl, ?_⟩⟩
      have h2 : (vs.drop o)[0]? = some v := by rw [hv]; rfl
      simpa using h2

set_option maxHeartbeats 2000000 in
theorem evVal_ok {op : Op} {ρ : Operand → Value} {ρA : Operand → AV} {K : Bool → AV → Option α} (hp : Hp F μ H nx w) (hρ : ∀ x, RelG w (Not F μ H) μ H ρ (ρA x) (ρ x)) (hk : ∀ v, ρ (.const v) = v)
    (hX : FreeOp P X ρ op) (h : evVal P op ρA H K = some r) : VOK P X w F μ H ρ op K r := by
  cases op <;> simp only [evVal, reduceCtorEq] at h
  case move x => exact .of h (hρ x).rel fun o ho w' _ => by simp [execOp, ho]
  case assign x => exact .of h (hρ x).rel fun o ho w' _ => by simp [execOp, ho]
  case pick c a b =>
    have hc := (hρ c).rel
    cases hcv : ρA c <;> simp only [hcv, reduceCtorEq] at h hc
    case kb x =>
      simp only [RelV] at hc
      cases x
      · exact .of h (unGx_ok (hρ b) hc) fun o ho w' _ => by simp [execOp, ho, hc, asBool]
      · exact .of h (unGx_ok (hρ a) hc) fun o ho w' _ => by simp [execOp, ho, hc, asBool]
    case b cv =>
      simp only [RelV] at hc
      split at h
      · have hu : ∀ b, ρ c = .bool b → b = true → RelV w (Not F μ H) μ H (unGx c true (ρA a)) (ρ a) := fun b hb h1 => by subst h1; exact unGx_ok (hρ a) hb
        cases hx : unGx c true (ρA a) <;> simp only [hx, reduceCtorEq] at h hu
        case b q => exact .of (val := .bool (cv && q)) h rfl fun o ho w' _ => pick_and hc hu (.inl rfl) hk ho
        case kb q => exact .of (val := .bool (cv && q)) h rfl fun o ho w' _ => pick_and hc hu (.inr rfl) hk ho
      · have hu : ∀ b', ρ c = .bool b' → b' = false → RelV w (Not F μ H) μ H (unGx c false (ρA b)) (ρ b) := fun b' hb h1 => by subst h1; exact unGx_ok (hρ b) hb
        cases hx : unGx c false (ρA b) <;> simp only [hx, reduceCtorEq] at h hu
        case b q => exact .of (val := .bool (cv || q)) h rfl fun o ho w' _ => pick_or hc hu (.inl rfl) hk ho
        case kb q => exact .of (val := .bool (cv || q)) h rfl fun o ho w' _ => pick_or hc hu (.inr rfl) hk ho
      · cases h
  case makeInterface t x =>
    obtain ⟨h1, h2⟩ := cond_some h
    have hx := (hρ x).rel
    have hn : RelV w (Not F μ H) μ H (noGd (ρA x)) (ρ x) := by
      cases hx' : ρA x <;> rw [hx'] at hx <;> first | exact hx | simp [noGd, RelV]
    refine .of (val := .iface t (ρ x)) h2 ⟨_, rfl, hn⟩ fun o ho w' _ => ?_
    have hmi : (Instr.makeInterface t (ρ x)).run P w' = .ok (.iface t (ρ x)) w' := by
      unfold concreteB at h1
      cases hd : P.underlying t with
      | none => simp [hd] at h1
      | some d => cases d <;> first | (simp [hd] at h1; done) | simp [Instr.makeInterface, run_underlying hd]
    simp [execOp, ho, hmi]
  case build t parts =>
    cases hu : P.underlying t with
    | none => simp [hu] at h
    | some d =>
      cases d <;> simp only [hu, reduceCtorEq] at h
      case array n e =>
        obtain ⟨h1, h2⟩ := cond_some h
        obtain ⟨i, hi⟩ := Option.isSome_iff_exists.1 h1
        obtain ⟨cs, z, h3, hz, hrun⟩ := zeroCells_ok (w := w) (N := Not F μ H) (μ := μ) (H := H) h2
        obtain ⟨cs', X', hK, hr, hfill⟩ := fillAr_ok hz (parts_rel hρ parts.toList) h3
        refine .of (val := .agg X'.toArray) hK ⟨X', rfl, hr⟩ fun o ho w' _ => ?_
        have hparts : (parts.map fun (x : Nat × Operand) => match x with | (i, x) => (i, ρ x)).toList = parts.toList.map fun (i, x) => (i, ρ x) := by simp
        have hsz : P.cellsOf e = i.size := by simp [Program.cellsOf, hi]
        rw [hsz] at hfill
        simp only [execOp, ho, Instr.build, Sem.run_bind, hrun, Result.andThen_ok, run_underlying hu, run_sizeOf hi, hparts]
        have hz' : z.cells = z.cells.toList.toArray := by simp
        rw [hz', hfill]
        simp
      rename_i fs
      obtain ⟨h1, h2⟩ := cond_some h
      obtain ⟨cs, z, h3, hz, hrun⟩ := zeroCells_ok (w := w) (N := Not F μ H) (μ := μ) (H := H) h2
      obtain ⟨cs', X', hK, hr, hfill⟩ := fillAV_ok hz (parts_rel hρ parts.toList) h3
      refine .of (val := .agg X'.toArray) hK ⟨X', rfl, hr⟩ fun o ho w' _ => ?_
      have hpl := run_places (P := P) fs.toList (fun f hf => (List.all_eq_true.1 h1) f hf) w'
      have hm : (fs.mapM fun f => do pure (f.offset, ← sizeOf f.type) : Sem (Array (Nat × Nat))).run P w' = .ok (fs.map fun f => (f.offset, P.cellsOf f.type)) w' := by
        rw [Array.mapM_eq_mapM_toList]
        simp only [Sem.run_map, hpl, Result.andThen_ok]
        exact congrArg (fun z => Result.ok z w') (by apply Array.ext'; simp)
      have hparts : (parts.map fun (x : Nat × Operand) => match x with | (i, x) => (i, ρ x)).toList = parts.toList.map fun (i, x) => (i, ρ x) := by simp
      simp only [execOp, ho, Instr.build, Sem.run_bind, hrun, Result.andThen_ok, run_underlying hu, hm, hparts]
      have hz' : z.cells = z.cells.toList.toArray := by simp
      rw [hz', hfill]
      simp
  case load t x =>
    obtain ⟨y, val, hK, hy, hrun⟩ := loadAV_ok hp (hρ x).rel hX h
    exact .of hK hy fun o ho w' hw => by simp [execOp, ho, hrun w' hw]
  case nilCheck x =>
    have hx := (hρ x).rel
    cases hv : ρA x <;> simp only [hv, reduceCtorEq] at h hx
    case ptr b o' =>
      have hx' := hx
      simp only [RelV] at hx'
      obtain ⟨_, g, _, he⟩ := hx'
      exact .of h hx fun o ho w' _ => by simp [execOp, ho, he]
    case mptr c b o' =>
      refine ⟨_, _, h, fun hc => ?_⟩
      subst hc
      simp only [RelV] at hx
      obtain ⟨hl, ⟨_, g, hg, he⟩ | ⟨hc, _⟩⟩ := hx
      · exact ⟨ρ x, by simp only [RelV]; exact ⟨hl, g, hg, he⟩, fun o ho w' _ => by simp [execOp, ho, he]⟩
      · cases hc
    case ep b t i f =>
      have hx' := hx
      simp only [RelV] at hx'
      obtain ⟨_, g, _, _, _, he⟩ := hx'
      exact .of h hx fun o ho w' _ => by simp [execOp, ho, he]
    case fp t l i f =>
      have hx' := hx
      simp only [RelV] at hx'
      obtain ⟨_, g, _, _, _, he, _⟩ := hx'
      exact .of h hx fun o ho w' _ => by simp [execOp, ho, he]
    case fn f cs =>
      have hx' := hx
      simp only [RelV] at hx'
      obtain ⟨vs, he, _⟩ := hx'
      exact .of h hx fun o ho w' _ => by simp [execOp, ho, he]
  case binOp op t x y ty =>
    obtain ⟨side, v, hK, hs⟩ := evBinS_ok (hρ x).rel (hρ y).rel h
    exact ⟨side, v, hK, fun hside => let ⟨val, hv, hb⟩ := hs hside; ⟨val, hv, yields_bin hb⟩⟩
  case unOp op t x =>
    obtain ⟨v, val, hK, hv, hrun⟩ := evUn_ok (P := P) (hρ x).rel h
    exact .of hK hv fun o ho w' _ => by simp [execOp, ho, hrun w']
  case convert src dst x =>
    have hx := (hρ x).rel
    split at h
    · rename_i k n hs hd hv
      rw [hv] at hx
      simp only [RelV] at hx
      refine .of h (val := .int .u8 (n.toNat : Int)) rfl fun o ho w' _ => ?_
      have := u8_toNat n
      have hw : IntKind.u8.wrap (n.toNat : Int) = (n.toNat : Int) := by rw [wrap_u8]; omega
      simp [execOp, ho, convert, run_underlying hs, run_underlying hd, hx, Conv.intToInt, hw]
    · rename_i k k' n hs hd hv
      rw [hv] at hx
      simp only [RelV] at hx
      refine .of h (val := .int .u8 ((u8of n).toNat : Int)) rfl fun o ho w' _ => ?_
      simp [execOp, ho, convert, run_underlying hs, run_underlying hd, hx, Conv.intToInt, u8of_toNat]
    · cases h
    · rename_i k k' n h8 hi8 hs hd hv
      rw [hv] at hx
      simp only [RelV] at hx
      refine .of h (val := .int k' (n.toNat : Int)) rfl fun o ho w' _ => ?_
      have hw : k'.wrap (n.toNat : Int) = (n.toNat : Int) := wrap_small (fun e => by subst e; simp_all) (fun e => by subst e; simp_all)
      simp [execOp, ho, convert, run_underlying hs, run_underlying hd, hx, Conv.intToInt, hw]
    · rename_i k k' k'' n h8 hs hd hv
      rw [hv] at hx
      simp only [RelV] at hx
      refine .of h wr_ok fun o ho w' _ => ?_
      simp [execOp, ho, convert, run_underlying hs, run_underlying hd, hx, Conv.intToInt]
    · rename_i l hs hd hv
      rw [hv] at hx
      refine .of h hx fun o ho w' _ => ?_
      simp only [RelV] at hx
      simp [execOp, ho, convert, run_underlying hs, run_underlying hd, hx]
    · rename_i k k' n hs hd hv
      rw [hv] at hx
      simp only [RelV] at hx
      refine .of h (val := .string ⟨(Utf8.encode n).data.toList.toArray⟩) rfl fun o ho w' _ => ?_
      simp [execOp, ho, convert, run_underlying hs, run_underlying hd, hx, Conv.intToString]
    · rename_i v e hs hd
      cases he : P.underlying e with
      | none => simp [he] at h
      | some d =>
        simp only [he] at h
        split at h
        · rename_i heq
          cases heq
          obtain ⟨l, hK, hrow⟩ := items_ok hp hx h
          refine .of hK (val := .string ⟨l.toArray⟩) rfl fun o ho w' hw => ?_
          have hr := run_bytes (P := P) hrow hX hw
          obtain ⟨a, c, hvv, _⟩ := hrow
          rw [hvv] at hr
          simp [execOp, ho, convert, run_underlying hs, run_underlying hd, hvv, run_underlying he, hr]
        · cases h
    · cases h
  case makeFunc fn first caps =>
    cases fn <;> simp only [reduceCtorEq] at h
    obtain ⟨h1, h2⟩ := cond_some h
    have hf : first = #[] := by simpa using h1
    subst hf
    refine .of h2 (val := .func (.func _) #[] (caps.toList.map ρ).toArray) ⟨_, rfl, RelVs_map hρ _⟩ fun o ho w' _ => ?_
    have he : caps.map ρ = (caps.toList.map ρ).toArray := by apply Array.ext'; simp
    simp [execOp, ho, Instr.makeFunc, he]
  case fieldAddr t x f =>
    have hx := (hρ x).rel
    cases hf : fieldOff P t f with
    | none => simp [hf] at h
    | some q =>
      obtain ⟨o', ft⟩ := q
      simp only [hf] at h
      cases hv : ρA x <;> simp only [hv, reduceCtorEq] at h hx
      case ptr b o'' =>
        simp only [RelV] at hx
        obtain ⟨h1, g, hg, he⟩ := hx
        exact .of h (val := .pointer (some ⟨g, o'' + o', none⟩)) ⟨h1, g, hg, rfl⟩ fun o ho w' _ => by simp [execOp, ho, he, run_fieldAt hf]
      case ep b ty i fo =>
        simp only [RelV] at hx
        obtain ⟨l, g, h1, h2, hg, he⟩ := hx
        exact .of h (val := .pointer (some ⟨g, i * ty.size + fo + o', none⟩)) ⟨l, g, h1, h2, hg, by rw [Nat.add_assoc]⟩ fun o ho w' _ => by simp [execOp, ho, he, run_fieldAt hf]
      case fp ty l i fo =>
        simp only [RelV] at hx
        obtain ⟨h1, g, o1, h2, h3, he, h4⟩ := hx
        exact .of h (val := .pointer (some ⟨g, o1 + i * ty.size + fo + o', none⟩)) ⟨h1, g, o1, h2, h3, by rw [Nat.add_assoc (o1 + i * ty.size)], h4⟩ fun o ho w' _ => by simp [execOp, ho, he, run_fieldAt hf]
  case field t x f =>
    have hx := (hρ x).rel
    cases hf : fieldOff P t f with
    | none => simp [hf] at h
    | some q =>
      obtain ⟨o', ft⟩ := q
      simp only [hf] at h
      cases hv : ρA x <;> simp only [hv, reduceCtorEq] at h hx
      rename_i cs
      simp only [RelV] at hx
      obtain ⟨vs, hvv, hr⟩ := hx
      obtain ⟨fs, fd, hu, hfd, ho1, ho2⟩ := fieldOff_field hf
      cases hft : P.underlying ft with
      | none => simp [hft] at h
      | some d =>
        simp only [hft] at h
        obtain ⟨v, val, hK, hvr, hc⟩ := cellsAg_ok hr h
        refine .of hK hvr fun o ho w' _ => ?_
        have hpart : (part ft vs.toArray o').run P w' = .ok val w' := by
          unfold part
          rw [Sem.run_bind, run_isAgg hft]
          rcases hc with ⟨h1, rfl⟩ | ⟨h1, h2⟩
          · simp [h1, run_sizeOf' hft]
          · simp [h1, h2]
        simp [execOp, ho, Instr.field, run_underlying hu, hfd, hvv, asAgg, ho1, ho2, hpart]
  case slice t x lo hi mx =>
    have hx := (hρ x).rel
    cases mx with
    | some m => simp at h
    | none =>
      simp only at h
      cases hu : P.underlying t with
      | none => simp [hu] at h
      | some d =>
        cases d <;> simp only [hu, reduceCtorEq] at h
        case string =>
          cases hv : ρA x <;> simp only [hv, reduceCtorEq] at h hx
          rename_i s
          simp only [RelV] at hx
          obtain ⟨a, h1, ba⟩ := boundOf_ok hρ h
          obtain ⟨z, h2, bz⟩ := boundOf_ok hρ h1
          refine ⟨_, _, h2, fun hs => ?_⟩
          obtain ⟨s0, s1, s2⟩ := sides hs
          refine ⟨.string ⟨((s.drop a.toNat).take (z.toNat - a.toNat)).toArray⟩, rfl, fun o ho w' _ => ?_⟩
          simp [execOp, ho, hx, run_sliceStr hu ba bz s0 s1 s2]
        case slice e =>
          cases hv : ρA x <;> simp only [hv, reduceCtorEq] at h hx
          case sl ty l =>
            obtain ⟨hsz, h⟩ := cond_some h
            obtain ⟨a, h1, ba⟩ := boundOf_ok hρ h
            obtain ⟨z, h2, bz⟩ := boundOf_ok hρ h1
            refine ⟨_, _, h2, fun hs => ?_⟩
            obtain ⟨s0, s1, s2⟩ := sides hs
            simp only [RelV, RelD] at hx
            obtain ⟨ad, c, hvv, hc, hrow⟩ := hx
            simp only [List.cons.injEq, and_true] at hvv
            have hlen : ((l.drop a.toNat).take (z.toNat - a.toNat)).length = z.toNat - a.toNat := by clear hrow; simp; omega
            have l1 : z.toNat - a.toNat ≤ c - a.toNat := by clear hrow; omega
            have l2 : 0 < z.toNat - a.toNat → 0 < l.length ∧ ¬ c = a.toNat := by clear hrow; omega
            have l3 : ∀ i, i < z.toNat - a.toNat → a.toNat + i < l.length := by clear hrow; intro i hi; omega
            refine ⟨.slice (if c = a.toNat then ad else ad.map (·.add (a.toNat * ty.size))) (z.toNat - a.toNat) (c - a.toNat), ?_, fun o ho w' _ => ?_⟩
            · simp only [RelV, RelD]
              refine ⟨if c = a.toNat then ad else ad.map (·.add (a.toNat * ty.size)), c - a.toNat, by rw [hlen], by rw [hlen]; exact l1, fun hp0 => ?_⟩
              rw [hlen] at hp0
              obtain ⟨g, o, rfl, hn, hg, hr⟩ := hrow (l2 hp0).1
              have hne : ¬ c = a.toNat := (l2 hp0).2
              refine ⟨g, o + a.toNat * ty.size, by simp [hne, add_none], hn, hg, fun i hi => ?_⟩
              rw [hlen] at hi
              obtain ⟨es, e1, e2, e3⟩ := hr (a.toNat + i) (l3 i hi)
              refine ⟨es, e1, ?_, ?_⟩
              · rw [Nat.add_assoc, ← Nat.add_mul]; exact e2
              · have : ((l.drop a.toNat).take (z.toNat - a.toNat))[i]'(by rw [hlen]; exact hi) = l[a.toNat + i]'(l3 i hi) := by simp
                rw [this]; exact e3
            · simp [execOp, ho, hvv, run_sliceOf hu hsz ba bz s0 s1 s2 hc]
          case wh b =>
            simp only [RelV] at hx
            obtain ⟨ty, l, hb, hvv⟩ := hx
            simp only [hb] at h
            obtain ⟨hsz, h⟩ := cond_some h
            obtain ⟨a, h1, ba⟩ := boundOf_ok hρ h
            obtain ⟨z, h2, bz⟩ := boundOf_ok hρ h1
            refine ⟨_, _, h2, fun hs => ?_⟩
            obtain ⟨s0, s1, s2⟩ := sides hs
            rcases hvv with ⟨g, c, hg, hvv, hc, hroom⟩ | ⟨hg, rfl, hvv⟩
            · refine ⟨.slice (if c = a.toNat then some ⟨g, 0, none⟩ else (some ⟨g, 0, none⟩ : Option Addr).map (·.add (a.toNat * ty.size))) (z.toNat - a.toNat) (c - a.toNat), ?_, fun o ho w' _ => ?_⟩
              · simp only [RelV]
                refine ⟨ty, l, hb, by omega, .inl ⟨g, c, if c = a.toNat then 0 else a.toNat * ty.size, hg, ?_, hc, hroom, ?_⟩⟩
                · split <;> simp [add_none]
                · split
                  · right; exact ⟨by assumption, Nat.zero_le _⟩
                  · left; rfl
              · simp [execOp, ho, hvv, run_sliceOf hu hsz ba bz s0 s1 s2 hc]
            · have ha0 : a = 0 ∧ z = 0 := by simp at s2; omega
              obtain ⟨rfl, rfl⟩ := ha0
              refine ⟨.slice none 0 0, ?_, fun o ho w' _ => ?_⟩
              · simp only [RelV]
                exact ⟨ty, [], hb, by simp, .inr ⟨hg, by simp, by simp⟩⟩
              · simp [execOp, ho, hvv, run_sliceOf (len := 0) hu hsz ba (by simpa using bz) s0 s1 (by simp) (Nat.le_refl 0)]
          case win b lo' n =>
            simp only [RelV] at hx
            obtain ⟨ty, l, hb, hle, hvv⟩ := hx
            simp only [hb] at h
            obtain ⟨hsz, h⟩ := cond_some h
            obtain ⟨a, h1, ba⟩ := boundOf_ok hρ h
            obtain ⟨z, h2, bz⟩ := boundOf_ok hρ h1
            refine ⟨_, _, h2, fun hs => ?_⟩
            obtain ⟨s0, s1, s2⟩ := sides hs
            rcases hvv with ⟨g, c, o1, hg, hvv, hc, hroom, hoo⟩ | ⟨hg, rfl, hvv⟩
            · refine ⟨.slice (if c - lo' = a.toNat then some ⟨g, o1, none⟩ else (some ⟨g, o1, none⟩ : Option Addr).map (·.add (a.toNat * ty.size))) (z.toNat - a.toNat) (c - lo' - a.toNat), ?_, fun o ho w' _ => ?_⟩
              · simp only [RelV]
                refine ⟨ty, l, hb, by omega, .inl ⟨g, c, if c - lo' = a.toNat then o1 else o1 + a.toNat * ty.size, hg, ?_, hc, hroom, ?_⟩⟩
                · rw [Nat.sub_sub]; split <;> simp [add_none]
                · split
                  · right
                    refine ⟨by omega, ?_⟩
                    rw [Nat.add_mul]
                    rcases hoo with rfl | ⟨_, hoo⟩
                    · omega
                    · omega
                  · left
                    rcases hoo with rfl | ⟨rfl, _⟩
                    · rw [Nat.add_mul]
                    · omega
              · simp [execOp, ho, hvv, run_sliceOf (cap := c - lo') hu hsz ba bz s0 s1 s2 (by omega)]
            · have h0 : lo' = 0 ∧ n = 0 := by simp at hle; omega
              obtain ⟨rfl, rfl⟩ := h0
              have ha0 : a = 0 ∧ z = 0 := by simp at s2; omega
              obtain ⟨rfl, rfl⟩ := ha0
              refine ⟨.slice none 0 0, ?_, fun o ho w' _ => ?_⟩
              · simp only [RelV]
                exact ⟨ty, [], hb, by simp, .inr ⟨hg, by simp, by simp⟩⟩
              · simp [execOp, ho, hvv, run_sliceOf (len := 0) hu hsz ba (by simpa using bz) s0 s1 (by simp) (Nat.le_refl 0)]
  case indexAddr t x ix =>
    have hx := (hρ x).rel
    cases hu : P.underlying t with
    | none => simp [hu] at h
    | some d =>
      cases d <;> simp only [hu, reduceCtorEq] at h
      case array n e =>
        obtain ⟨k, i, hi, h⟩ := natOf_ok (hρ ix).rel h
        obtain ⟨h1, h⟩ := cond_some h
        obtain ⟨ie, hie⟩ := Option.isSome_iff_exists.1 h1
        have hsz : P.cellsOf e = ie.size := by simp [Program.cellsOf, hie]
        have hrun : 0 ≤ i → i < (n : Int) → ∀ (g o : Nat) (w' : World), (Instr.indexAt t (.pointer (some ⟨g, o, none⟩)) (.int k i)).run P w' = .ok (.pointer (some ⟨g, o + i.toNat * P.cellsOf e, none⟩)) w' := fun s0 s1 g o w' => by
          simp [Instr.indexAt, asIntOf, run_underlying hu, Instr.sureAddr, s0, s1, run_sizeOf hie, add_none, hsz]
        cases hv : ρA x <;> simp only [hv, reduceCtorEq] at h hx
        case ptr b o'' =>
          obtain ⟨s0, s1, h⟩ := pickIx_ok h
          refine ⟨_, _, h, fun _ => ?_⟩
          simp only [RelV] at hx
          obtain ⟨h1, g, hg, he⟩ := hx
          exact ⟨.pointer (some ⟨g, o'' + i.toNat * P.cellsOf e, none⟩), ⟨h1, g, hg, rfl⟩, fun o ho w' _ => by
            simp only [execOp, ho, he, hi, Sem.run_bind, hrun s0 s1, Result.andThen_ok, Sem.run_pure]⟩
        case ep b ty j fo =>
          obtain ⟨s0, s1, h⟩ := pickIx_ok h
          refine ⟨_, _, h, fun _ => ?_⟩
          simp only [RelV] at hx
          obtain ⟨l, g, h1, h2, hg, he⟩ := hx
          exact ⟨.pointer (some ⟨g, j * ty.size + fo + i.toNat * P.cellsOf e, none⟩), ⟨l, g, h1, h2, hg, by rw [Nat.add_assoc]⟩, fun o ho w' _ => by
            simp only [execOp, ho, he, hi, Sem.run_bind, hrun s0 s1, Result.andThen_ok, Sem.run_pure]⟩
        case fp ty l j fo =>
          obtain ⟨s0, s1, h⟩ := pickIx_ok h
          refine ⟨_, _, h, fun _ => ?_⟩
          simp only [RelV] at hx
          obtain ⟨h1, g, o1, h2, h3, he, h4⟩ := hx
          exact ⟨.pointer (some ⟨g, o1 + j * ty.size + fo + i.toNat * P.cellsOf e, none⟩), ⟨h1, g, o1, h2, h3, by rw [Nat.add_assoc (o1 + j * ty.size)], h4⟩, fun o ho w' _ => by
            simp only [execOp, ho, he, hi, Sem.run_bind, hrun s0 s1, Result.andThen_ok, Sem.run_pure]⟩
      rename_i e
      obtain ⟨k, i, hi, h⟩ := natOf_ok (hρ ix).rel h
      cases hv : ρA x <;> simp only [hv, reduceCtorEq] at h hx
      case sl ty l =>
        obtain ⟨hsz, h⟩ := cond_some h
        refine ⟨_, _, h, fun hs => ?_⟩
        obtain ⟨s0, s1⟩ := sides2 hs
        simp only [RelV, RelD] at hx
        obtain ⟨ad, c, hvv, hc, hrow⟩ := hx
        simp only [List.cons.injEq, and_true] at hvv
        obtain ⟨g, o, rfl, hn, hg, hr⟩ := hrow (by omega)
        have hlt : i.toNat < l.length := by omega
        obtain ⟨es, e1, e2, e3⟩ := hr i.toNat hlt
        refine ⟨.pointer (some ⟨g, o + i.toNat * ty.size, none⟩), ?_, fun o' ho w' _ => ?_⟩
        · simp only [RelV]
          exact ⟨hlt, g, o, hn, hg, rfl, es, e1, e2, hlt, e3⟩
        · simp [execOp, ho, hvv, hi, run_indexAt hu hsz s0 s1]
      case wh b =>
        simp only [RelV] at hx
        obtain ⟨ty, l, hb, hvv⟩ := hx
        simp only [hb] at h
        obtain ⟨hsz, h⟩ := cond_some h
        refine ⟨_, _, h, fun hs => ?_⟩
        obtain ⟨s0, s1⟩ := sides2 hs
        rcases hvv with ⟨g, c, hg, hvv, hc, hroom⟩ | ⟨hg, rfl, hvv⟩
        · have hlt : i.toNat < l.length := by omega
          refine ⟨.pointer (some ⟨g, 0 + i.toNat * ty.size, none⟩), ?_, fun o' ho w' _ => ?_⟩
          · simp only [RelV]
            exact ⟨l, g, hb, hlt, hg, by simp⟩
          · simp only [execOp, ho, hvv, hi, Sem.run_bind, run_indexAt hu hsz s0 s1, Result.andThen_ok, Sem.run_pure]
        · simp at s1; omega
      case win b lo n =>
        simp only [RelV] at hx
        obtain ⟨ty, l, hb, hle, hvv⟩ := hx
        simp only [hb] at h
        obtain ⟨hsz, h⟩ := cond_some h
        refine ⟨_, _, h, fun hs => ?_⟩
        obtain ⟨s0, s1⟩ := sides2 hs
        rcases hvv with ⟨g, c, o1, hg, hvv, hc, hroom, hoo⟩ | ⟨hg, rfl, hvv⟩
        · have hlt : lo + i.toNat < l.length := by omega
          have ho1 : o1 = lo * ty.size := by rcases hoo with rfl | ⟨rfl, _⟩ <;> omega
          refine ⟨.pointer (some ⟨g, o1 + i.toNat * ty.size, none⟩), ?_, fun o' ho w' _ => ?_⟩
          · simp only [RelV]
            exact ⟨l, g, hb, hlt, hg, by rw [ho1, Nat.add_mul, Nat.add_zero]⟩
          · simp only [execOp, ho, hvv, hi, Sem.run_bind, run_indexAt hu hsz s0 s1, Result.andThen_ok, Sem.run_pure]
        · simp at hle; omega
  case index t x ix =>
    have hx := (hρ x).rel
    split at h
    · rename_i l hu hv
      obtain ⟨k, i, hi, h⟩ := natOf_ok (hρ ix).rel h
      rw [hv] at hx
      simp only [RelV] at hx
      refine ⟨_, _, h, fun hs => ?_⟩
      obtain ⟨s0, s1⟩ := sides2 hs
      have hlt : i.toNat < l.length := by omega
      refine ⟨.int .u8 ((l.getD i.toNat 0).toNat : Int), rfl, fun o ho w' _ => ?_⟩
      have hget : (⟨l.toArray⟩ : ByteArray)[i.toNat]? = some l[i.toNat] := by
        rw [ByteArray.getElem?_lt' _ _ (by simpa [ByteArray.size] using hlt)]
        rfl
      have hgd : l.getD i.toNat 0 = l[i.toNat] := by simp [List.getD, List.getElem?_eq_getElem hlt]
      simp only [execOp, ho, hi, hx, Instr.index, Sem.run_bind, asIntOf, Sem.run_pure, Result.andThen_ok, run_underlying hu, s0, if_true, hget, hgd]
    · rename_i n e cs hu hv
      cases hue : P.underlying e with
      | none => simp [hue] at h
      | some d =>
        simp only [hue] at h
        obtain ⟨k, i, hi, h⟩ := natOf_ok (hρ ix).rel h
        obtain ⟨s0, s1, h⟩ := pickIx_ok h
        rw [hv] at hx
        simp only [RelV] at hx
        obtain ⟨vs, hvv, hr⟩ := hx
        obtain ⟨v, val, hK, hvr, hc⟩ := cellsAg_ok hr h
        refine ⟨_, _, hK, fun hs => ⟨val, hvr, fun o ho w' _ => ?_⟩⟩
        have hpart : (part e vs.toArray (i.toNat * P.cellsOf e)).run P w' = .ok val w' := by
          unfold part
          rw [Sem.run_bind, run_isAgg hue]
          rcases hc with ⟨h1, rfl⟩ | ⟨h1, h2⟩
          · simp [h1, run_sizeOf' hue]
          · simp [h1, h2]
        simp [execOp, ho, hi, hvv, Instr.index, asIntOf, run_underlying hu, s0, s1, run_sizeOf' hue, hpart]
    · cases h
  case extract x n =>
    have hx := (hρ x).rel
    cases hv : ρA x <;> simp only [hv, reduceCtorEq] at h hx
    rename_i vs
    simp only [RelV] at hx
    obtain ⟨us, hvv, hr⟩ := hx
    cases hn : vs[n]? with
    | none => simp [hn] at h
    | some v =>
      simp only [hn] at h
      obtain ⟨val, hval, hvr⟩ := RelVs_get n hr hn
      exact .of h hvr fun o ho w' _ => by simp [execOp, ho, Instr.extract, hvv, hval]
  case call c =>
    obtain ⟨callee, args, argTypes⟩ := c
    cases callee <;> first | (cases h; done) | skip
    rename_i b
    cases b <;> first | (cases h; done) | skip
    case len =>
      simp only at h
      split at h
      · rename_i x t ha ht
        have ha' : args = #[x] := by apply Array.ext'; simpa using ha
        have ht' : argTypes = #[t] := by apply Array.ext'; simpa using ht
        subst ha'; subst ht'
        have hx := (hρ x).rel
        cases hu : P.underlying t with
        | none => simp [hu] at h
        | some d =>
          cases d <;> simp only [hu, reduceCtorEq] at h
          case string =>
            cases hv : ρA x <;> simp only [hv, reduceCtorEq] at h hx
            rename_i l
            simp only [RelV] at hx
            refine .of (val := .int .i64 (l.length : Int)) h rfl fun o ho w' _ => ?_
            have hsz : (⟨l.toArray⟩ : ByteArray).size = l.length := by simp [ByteArray.size]
            simp [execOp, ho, resolve, invoke, builtin, Builtin.len_, run_underlying hu, hx, goInt, hsz]
          case slice e =>
            obtain ⟨n, hK, a, c, hvv⟩ := lenOf_ok hx h
            refine .of (val := .int .i64 (n : Int)) hK rfl fun o ho w' _ => ?_
            simp [execOp, ho, resolve, invoke, builtin, Builtin.len_, run_underlying hu, hvv, goInt]
      · cases h
    case min =>
      simp only at h
      split at h
      · rename_i x y ha
        have ha' : args = #[x, y] := by apply Array.ext'; simpa using ha
        subst ha'
        have hx := (hρ x).rel
        have hy := (hρ y).rel
        cases hv : ρA x <;> simp only [hv, least, reduceCtorEq] at h hx
        cases hv2 : ρA y <;> simp only [hv2, reduceCtorEq] at h hy
        rename_i k a k' b
        obtain ⟨h1, hK⟩ := cond_some h
        have h1 := of_decide_eq_true h1
        subst h1
        simp only [RelV] at hx hy
        refine .of (val := .int k (cond (decide (b < a)) b a)) hK rfl fun o ho w' _ => ?_
        by_cases hlt : b < a <;> simp [execOp, ho, resolve, invoke, builtin, Builtin.min_, Builtin.min2, hx, hy, hlt]
      · cases h
    case max =>
      simp only at h
      split at h
      · rename_i x y ha
        have ha' : args = #[x, y] := by apply Array.ext'; simpa using ha
        subst ha'
        have hx := (hρ x).rel
        have hy := (hρ y).rel
        cases hv : ρA x <;> simp only [hv, most, reduceCtorEq] at h hx
        cases hv2 : ρA y <;> simp only [hv2, reduceCtorEq] at h hy
        rename_i k a k' b
        obtain ⟨h1, hK⟩ := cond_some h
        have h1 := of_decide_eq_true h1
        subst h1
        simp only [RelV] at hx hy
        refine .of (val := .int k (cond (decide (a < b)) b a)) hK rfl fun o ho w' _ => ?_
        by_cases hlt : a < b <;> simp [execOp, ho, resolve, invoke, builtin, Builtin.max_, Builtin.max2, hx, hy, hlt]
      · cases h
end
end Go.Ev

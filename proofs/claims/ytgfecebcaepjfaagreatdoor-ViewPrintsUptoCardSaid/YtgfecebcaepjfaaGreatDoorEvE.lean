/- The operations that make or write memory: each of them. -/
import Derived.Test.YtgfecebcaepjfaaGreatDoorEvD
import Derived.Laws.MakeOwn
import Derived.Laws.AppendOwn
namespace Go.Ev
open Go
section
variable {P : Program} {T : Tb} {F : Frm T} {μ : Nat → Option Nat} {S : St} {w : World} {α : Type} {r : α} {ρ : Operand → Value} {ρA : Operand → AV} {K : AV → St → Option α}

theorem szOK_info {e : TypeId} {t : Ty} (h : szOK P e t = true) : ∃ i, P.info? e = some i ∧ i.size = t.size := by
  unfold szOK at h
  cases hi : P.info? e with
  | none => simp [hi] at h
  | some i => simp only [hi] at h; exact ⟨i, rfl, Nat.eq_of_beq_eq_true h⟩

theorem elemTy_und {t e : TypeId} {y : Ty} (h : elemTy P t = some (e, y)) : P.underlying t = some (.slice e) := by
  unfold elemTy at h
  split at h
  · rename_i e' hu
    obtain ⟨y', _, hy⟩ := Option.map_eq_some_iff.1 h
    simp only [Prod.mk.injEq] at hy
    rw [hu, hy.1]
  · cases h

theorem zero_info {t : TypeId} {K : List AV → Option α} {N : Nat → Prop} {H : Nat → Blk} (h : zeroCells P t K = some r) :
    ∃ i z cs, P.info? t = some i ∧ i.zero = some z ∧ K cs = some r ∧ RelVs w N μ H cs z.cells.toList := by
  unfold zeroCells at h
  cases hi : P.info? t with
  | none => simp [hi] at h
  | some i =>
    simp only [hi] at h
    cases hz : i.zero with
    | none => simp [hz] at h
    | some z =>
      simp only [hz] at h
      obtain ⟨cs, hK, hr⟩ := cellsK_ok (w := w) (N := N) (μ := μ) (H := H) (absV_ok z) h
      exact ⟨i, z, cs, rfl, hz, hK, hr⟩

theorem eff_alloc (hp : Hp F μ S.H S.nx w) {C : Calling} {t : TypeId} (h : evEff P C (.alloc t) ρA S K = some r) : EffOK P F μ S w ρ (.alloc t) K r := by
  simp only [evEff] at h
  obtain ⟨i, z, cs, hi, hz, hK, hr⟩ := zero_info (w := w) (μ := μ) (N := Not F μ S.H) (H := S.H) h
  refine eff_vars (e := t) (vs := z.cells.toList) hp hr (by simpa using Grew.alloc w (.cells z.cells t)) hK fun o ho => ?_
  simp [execOp, ho, Instr.alloc, zeroValue, typeInfo, hi, hz, newVar, newRow]

theorem eff_box (hp : Hp F μ S.H S.nx w) (hρ : ∀ x, RelG w (Not F μ S.H) μ S.H ρ (ρA x) (ρ x)) {C : Calling} {t : TypeId} {x : Operand} (h : evEff P C (.box t x) ρA S K = some r) : EffOK P F μ S w ρ (.box t x) K r := by
  simp only [evEff] at h
  obtain ⟨cs, hK, hr⟩ := cellsK_ok (hρ x).rel h
  refine eff_vars (e := t) (vs := (ρ x).cells.toList) hp hr (by simpa using Grew.alloc w (.cells (ρ x).cells t)) hK fun o ho => ?_
  simp [execOp, ho, Instr.box, newVar, newRow]

theorem eff_range (hp : Hp F μ S.H S.nx w) (hρ : ∀ x, RelG w (Not F μ S.H) μ S.H ρ (ρA x) (ρ x)) {C : Calling} {t : TypeId} {x : Operand} (h : evEff P C (.range t x) ρA S K = some r) : EffOK P F μ S w ρ (.range t x) K r := by
  simp only [evEff] at h
  split at h
  · rename_i l hu hv
    have hx := (hρ x).rel
    rw [hv] at hx
    simp only [RelV] at hx
    have hg := Grew.alloc w (.stringIter ⟨l.toArray⟩ 0)
    have T := hg.turned hp (.iter l 0) (by simp)
    have hp' := T.hp' (by simp only [RelB]; exact ⟨w.heap.size, updM_same _ _ _, hg.new⟩)
    refine ⟨_, _, updM μ S.nx (some w.heap.size), _, [], h, rfl, by simp, hp', T.pl, .pointer (some ⟨w.heap.size, 0, none⟩), fun o ho => .inl ?_, ?_⟩
    · simp [execOp, ho, Instr.range, run_underlying hu, hx]
    · simp only [RelV, updM_same, updH_same]
      exact ⟨⟨by simp, _, rfl, rfl⟩, hg.fine⟩
  · cases h

/-- A slice literal's cells. -/
theorem fill_elems (size : Nat) : ∀ (parts : List (Nat × Value)) (k : Nat) (X : List Value), (∀ j p, parts[j]? = some p → p.1 = k + j ∧ p.2.cells.size = size) → (k + parts.length) * size ≤ X.length →
    Instr.fill (fun i => some (i * size, size)) X.toArray parts = some (X.take (k * size) ++ parts.flatMap (fun p => p.2.cells.toList) ++ X.drop ((k + parts.length) * size)).toArray
  | [], k, X, _, _ => by simp [Instr.fill]
  | (i, v) :: parts, k, X, h, hle => by
    obtain ⟨h1, h2⟩ := h 0 (i, v) rfl
    simp only at h1 h2
    rw [Nat.add_zero] at h1
    replace h1 := h1.symm
    subst h1
    have hle' : k * size + size ≤ X.length := by
      refine Nat.le_trans ?_ hle
      simp only [List.length_cons]
      rw [← Nat.succ_mul]
      exact Nat.mul_le_mul_right _ (by omega)
    have hc : (decide (v.cells.size ≠ size) || decide (k * size + v.cells.size > X.toArray.size)) = false := by
      simp only [Bool.or_eq_false_iff, decide_eq_false_iff_not, List.size_toArray]
      constructor <;> omega
    have hf := fold_set v.cells.toList X (k * size) 0 (by simp; omega)
    simp only [Nat.add_zero] at hf
    have hf' : v.cells.zipIdx.foldl (fun (cs : Array Value) (x : Value × Nat) => cs.setIfInBounds (k * size + x.2) x.1) X.toArray = (X.take (k * size) ++ v.cells.toList ++ X.drop (k * size + v.cells.toList.length)).toArray := by
      rw [← hf, ← Array.foldl_toList]; simp
    have hvl : v.cells.toList.length = size := by simpa using h2
    have hlen : (X.take (k * size) ++ v.cells.toList ++ X.drop (k * size + v.cells.toList.length)).length = X.length := by
      simp only [List.length_append, List.length_take, List.length_drop, hvl]; omega
    have e1 : (k + 1) * size = k * size + size := by rw [Nat.succ_mul]
    have e2 : k + 1 + parts.length = k + (parts.length + 1) := by omega
    have ih := fill_elems size parts (k + 1) (X.take (k * size) ++ v.cells.toList ++ X.drop (k * size + v.cells.toList.length)) (fun j p hj => by
      obtain ⟨g1, g2⟩ := h (j + 1) p (by simpa using hj)
      exact ⟨by omega, g2⟩) (by rw [hlen, e2]; simpa using hle)
    rw [Instr.fill]
    simp only [hc, Bool.false_eq_true, if_false]
    rw [hf', ih]
    simp only [List.length_cons, List.flatMap_cons, hvl]
    congr 2
    have t1 : (X.take (k * size) ++ v.cells.toList ++ X.drop (k * size + size)).take ((k + 1) * size) = X.take (k * size) ++ v.cells.toList := by
      rw [List.take_append_of_le_length (by simp only [List.length_append, List.length_take, hvl]; omega)]
      rw [List.take_of_length_le (by simp only [List.length_append, List.length_take, hvl]; omega)]
    have t2 : (X.take (k * size) ++ v.cells.toList ++ X.drop (k * size + size)).drop ((k + 1 + parts.length) * size) = X.drop ((k + (parts.length + 1)) * size) := by
      rw [e2]
      have hb : k * size + size ≤ (k + (parts.length + 1)) * size := by rw [← Nat.succ_mul]; exact Nat.mul_le_mul_right _ (by omega)
      rw [List.drop_append, List.drop_of_length_le (by simp only [List.length_append, List.length_take, hvl]; omega), List.nil_append, List.drop_drop]
      congr 1
      simp only [List.length_append, List.length_take, hvl]
      omega
    rw [t1, t2, List.append_assoc (X.take (k * size))]

theorem elemsAV_ok {N : Nat → Prop} {H : Nat → Blk} {y : Ty} : ∀ {ps : List (Nat × AV)} {vs : List (Nat × Value)} {k : Nat} {K : List y.den → Option α},
    (ps.length = vs.length ∧ ∀ (j : Nat) (p : Nat × AV) (v : Nat × Value), ps[j]? = some p → vs[j]? = some v → p.1 = v.1 ∧ RelV w N μ H p.2 v.2) → elemsAV y k ps K = some r →
    ∃ l, K l = some r ∧ l.length = ps.length ∧ (∀ j p, vs[j]? = some p → p.1 = k + j ∧ p.2.cells.size = y.size) ∧
      ∀ i, (h : i < l.length) → RelD w N y l[i] (((vs.flatMap fun p => p.2.cells.toList).drop (i * y.size)).take y.size)
  | [], vs, k, K, hv, h => by
    have : vs = [] := by have := hv.1; simp at this; exact List.length_eq_zero_iff.1 this.symm
    subst this
    exact ⟨[], h, rfl, by simp, by simp⟩
  | (i, x) :: ps, vs, k, K, hv, h => by
    obtain ⟨hlen, hall⟩ := hv
    cases vs with
    | nil => simp at hlen
    | cons p vs =>
      obtain ⟨i', v⟩ := p
      obtain ⟨e1, e2⟩ := hall 0 (i, x) (i', v) rfl rfl
      simp only at e1 e2
      subst e1
      simp only [elemsAV] at h
      obtain ⟨hk, h1⟩ := cond_some h
      have hk' : i = k := Nat.eq_of_beq_eq_true hk
      subst hk'
      obtain ⟨ws, h2, hws⟩ := cellsK_ok e2 h1
      obtain ⟨d, rest, es, us, h3, h4, h5, h6⟩ := dec_ok hws h2
      cases rest with
      | cons _ _ => simp at h3
      | nil =>
        simp only [RelVs] at h6
        subst h6
        rw [List.append_nil] at h4
        simp only at h3
        obtain ⟨l, hK, hl, hidx, hrel⟩ := elemsAV_ok ⟨by simpa using hlen, fun j p q hp hq => hall (j + 1) p q (by simpa using hp) (by simpa using hq)⟩ h3
        have hsz : es.length = y.size := h5.length
        refine ⟨d :: l, hK, by simp [hl], fun j p hj => ?_, fun j hj => ?_⟩
        · cases j with
          | zero =>
            simp at hj; subst hj
            exact ⟨rfl, by rw [← hsz, ← h4]; simp⟩
          | succ j =>
            obtain ⟨g1, g2⟩ := hidx j p (by simpa using hj)
            exact ⟨by omega, g2⟩
        · cases j with
          | zero =>
            simp only [List.flatMap_cons, h4, Nat.zero_mul, List.drop_zero, List.getElem_cons_zero]
            rw [List.take_append_of_le_length (by omega), List.take_of_length_le (by omega)]
            exact h5
          | succ j =>
            simp only [List.flatMap_cons, h4, List.getElem_cons_succ]
            have := hrel j (by simpa using hj)
            rw [Nat.succ_mul, Nat.add_comm, List.drop_append, List.drop_of_length_le (by omega), List.nil_append]
            rw [show y.size + j * y.size - es.length = j * y.size by omega]
            exact this

theorem eff_buildSlice (hp : Hp F μ S.H S.nx w) (hρ : ∀ x, RelG w (Not F μ S.H) μ S.H ρ (ρA x) (ρ x)) {C : Calling} {t : TypeId} {len : Nat} {parts : Array (Nat × Operand)} (h : evEff P C (.buildSlice t len parts) ρA S K = some r) :
    EffOK P F μ S w ρ (.buildSlice t len parts) K r := by
  simp only [evEff] at h
  cases he : elemTy P t with
  | none => simp [he] at h
  | some q =>
    obtain ⟨e, y⟩ := q
    simp only [he] at h
    have hu := elemTy_und he
    obtain ⟨h1, h2⟩ := cond_some h
    simp only [Bool.and_eq_true] at h1
    obtain ⟨⟨h3, h4⟩, h5⟩ := h1
    have hlen : len = parts.size := Nat.eq_of_beq_eq_true h3
    have hb : len * y.size ≤ 16777216 := Nat.le_of_ble_eq_true h5
    obtain ⟨i, hi, hsz⟩ := szOK_info h4
    refine sealing_ok hp hρ h2 fun S ρA hp hρ h2 => ?_
    obtain ⟨i', z, cs, hi', hz, h6, _⟩ := zero_info (w := w) (μ := μ) (N := Not F μ S.H) (H := S.H) h2
    rw [hi] at hi'; cases hi'
    obtain ⟨l, hK, hl, hidx, hrel⟩ := elemsAV_ok (parts_rel hρ parts.toList) h6
    have hln : l.length = len := by rw [hl, hlen]; simp
    have hfl := fill_elems y.size (parts.toList.map fun (i, x) => (i, ρ x)) 0
    have hflen : ∀ (vs : List (Nat × Value)), (∀ p ∈ vs, p.2.cells.size = y.size) → (vs.flatMap fun p => p.2.cells.toList).length = vs.length * y.size := by
      intro vs
      induction vs with
      | nil => simp
      | cons p vs ih =>
        intro hh
        have h0 := hh p (by simp)
        simp only [List.flatMap_cons, List.length_append, List.length_cons, ih fun q hq => hh q (by simp [hq])]
        rw [Nat.succ_mul]; simp [h0]; omega
    have hfl2 := hflen (parts.toList.map fun (i, x) => (i, ρ x)) (fun p hpm => by
      obtain ⟨j, hj⟩ := List.getElem?_of_mem hpm
      exact (hidx j p hj).2)
    have hpl : (parts.toList.map fun (i, x) => (i, ρ x)).length = len := by simp [hlen]
    rw [hpl] at hfl2
    refine eff_data (e := e) (fr := (0, 0)) (c := len) (t := y) (l := l) (cs := (parts.toList.map fun (i, x) => (i, ρ x)).flatMap fun p => p.2.cells.toList) hp (Grew.alloc w _) (.inl rfl) (by omega) (by rw [hfl2]) hrel hK fun o ho => ?_
    have hparts : (parts.map fun (x : Nat × Operand) => match x with | (i, x) => (i, ρ x)).toList = parts.toList.map fun (i, x) => (i, ρ x) := by simp
    have hnb : ¬ len * i.size > 2 ^ 24 := by rw [hsz]; omega
    simp only [execOp, ho, Instr.buildSlice, Sem.run_bind, run_underlying hu, Result.andThen_ok, run_sizeOf hi, if_neg hnb, hparts, Sem.run_ite, Sem.run_pure]
    have hzr : ∀ w', (zeroValue e).run P w' = .ok z w' := fun w' => by simp [zeroValue, typeInfo, hi, hz]
    have hfill : ∀ (Z : Array Value), Instr.fill (fun j => some (j * i.size, i.size)) ((Array.range (len * i.size)).map (fun x => Z[x % Z.size]!)) (parts.toList.map fun (i, x) => (i, ρ x)) =
        some ((parts.toList.map fun (i, x) => (i, ρ x)).flatMap fun p => p.2.cells.toList).toArray := by
      intro Z
      have hX := hfl (((Array.range (len * i.size)).map (fun x => Z[x % Z.size]!)).toList) (fun j p hj => by simpa using hidx j p hj) (by simp [hlen, hsz])
      rw [hsz]
      rw [hsz] at hX
      simp only [Array.toArray_toList, Nat.zero_mul, List.take_zero, List.nil_append, Nat.zero_add, hpl] at hX
      rw [hX]
      congr 2
      rw [List.drop_of_length_le (by simp), List.append_nil]
    split
    · simp only [hfill]
      simp [newRow, hln]
    · simp only [hzr, Result.andThen_ok, hfill]
      simp [newRow, hln]

end
end Go.Ev

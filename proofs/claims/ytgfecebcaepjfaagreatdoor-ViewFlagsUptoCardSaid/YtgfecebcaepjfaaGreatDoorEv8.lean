/- The operations that only yield a value, all of them. -/
import Derived.Test.YtgfecebcaepjfaaGreatDoorEv7
namespace Go.Ev
open Go
section
variable {P : Program} {w : World} {N : Nat → Prop} {T : Tb} {F : Frm T} {μ : Nat → Option Nat} {H : Nat → Blk} {nx : Nat} {α : Type} {r : α}

theorem cellsK_ok {x : AV} {v : Value} {K : List AV → Option α} (hx : RelV w N μ H x v) (h : cellsK x K = some r) :
    ∃ cs, K cs = some r ∧ RelVs w N μ H cs v.cells.toList := by
  unfold cellsK at h
  cases x <;> simp only [reduceCtorEq] at h
  case agg cs =>
    simp only [RelV] at hx
    obtain ⟨vs, rfl, hvs⟩ := hx
    exact ⟨cs, h, by simpa [Value.cells] using hvs⟩
  case c u =>
    obtain ⟨h1, h2⟩ := cond_some h
    simp only [RelV] at hx; subst hx
    refine ⟨_, h2, ?_⟩
    cases v <;> simp_all [Value.cells, RelVs, RelV, notAgg]
  all_goals
    refine ⟨_, h, ?_⟩
    have hx' := hx
    simp only [RelV, RelD] at hx'
    have : v.cells = #[v] := by
      cases v <;> first | rfl | (exfalso; simp_all; done) | (exfalso; rcases hx' with ⟨_, _, _, h⟩ | _ <;> simp_all; done) | (exfalso; obtain ⟨_, _, _, h⟩ := hx'; simp_all; done) | skip
      all_goals first | (exfalso; obtain ⟨_, _, _, ⟨_, _, _, h, _⟩ | ⟨_, _, h⟩⟩ := hx' <;> simp_all; done) | (exfalso; obtain ⟨_, _, _, _, ⟨_, _, _, _, h, _⟩ | ⟨_, _, h⟩⟩ := hx' <;> simp_all; done) | skip
    rw [this]
    simp only [RelVs]
    exact ⟨v, [], rfl, hx, rfl⟩

theorem splice_ok {cs vs : List AV} {X V : List Value} {o : Nat} (hx : RelVs w N μ H cs X) (hv : RelVs w N μ H vs V) : RelVs w N μ H (splice cs o vs) (X.take o ++ V ++ X.drop (o + V.length)) := by
  unfold splice
  rw [RelVs_length hv]
  exact RelVs_append (RelVs_append (RelVs_take o hx) hv) (RelVs_drop _ hx)

/-- What 'fill' does to a struct's cells. -/
theorem fold_set : ∀ (V : List Value) (cells : List Value) (off k : Nat), off + k + V.length ≤ cells.length →
    (V.zipIdx k).foldl (fun (cs : Array Value) (p : Value × Nat) => cs.setIfInBounds (off + p.2) p.1) cells.toArray = (cells.take (off + k) ++ V ++ cells.drop (off + k + V.length)).toArray
  | [], cells, off, k, _ => by simp
  | v :: V, cells, off, k, h => by
    simp only [List.length_cons] at h
    simp only [List.zipIdx_cons, List.foldl_cons, List.length_cons]
    have h1 : (cells.toArray.setIfInBounds (off + k) v) = (cells.set (off + k) v).toArray := by simp
    rw [h1, fold_set V (cells.set (off + k) v) off (k + 1) (by simp; omega)]
    congr 1
    apply List.ext_getElem?
    intro i
    simp only [List.getElem?_append, List.getElem?_drop, List.length_append, List.length_take, List.length_set, List.length_cons, List.getElem?_take, List.getElem?_set, List.getElem?_cons]
    (repeat' split) <;> first | rfl | (congr 1; omega) | omega | (simp_all; omega) | skip
    all_goals (try simp_all) <;> (try omega)
    all_goals (congr 1; omega)


theorem zeroCells_ok {t : TypeId} {K : List AV → Option α} (h : zeroCells P t K = some r) :
    ∃ cs z, K cs = some r ∧ RelVs w N μ H cs z.cells.toList ∧ ∀ w', (zeroValue t).run P w' = .ok z w' := by
  unfold zeroCells at h
  cases hi : P.info? t with
  | none => simp [hi] at h
  | some i =>
    simp only [hi] at h
    cases hz : i.zero with
    | none => simp [hz] at h
    | some z =>
      simp only [hz] at h
      obtain ⟨cs, hK, hr⟩ := cellsK_ok (w := w) (N := N) (μ := μ) (H := H) (absV_ok z) h
      exact ⟨cs, z, hK, hr, fun w' => by simp [zeroValue, typeInfo, hi, hz]⟩

theorem run_places (fs : List Field) (h : ∀ f ∈ fs, (P.info? f.type).isSome = true) (w' : World) :
    (fs.mapM fun f => do pure (f.offset, ← sizeOf f.type) : Sem (List (Nat × Nat))).run P w' = .ok (fs.map fun f => (f.offset, P.cellsOf f.type)) w' := by
  induction fs with
  | nil => simp
  | cons f fs ih =>
    have hf := h f (by simp)
    cases hi : P.info? f.type with
    | none => simp [hi] at hf
    | some i =>
      have ih' := ih fun g hg => h g (by simp [hg])
      simp only [List.mapM_cons, Sem.run_bind, run_sizeOf hi, Result.andThen_ok, Sem.run_pure, ih', List.map_cons]
      simp [Program.cellsOf, hi]

theorem fillAV_ok {fs : Array Field} : ∀ {ps : List (Nat × AV)} {cs : List AV} {X : List Value} {vs : List (Nat × Value)} {K : List AV → Option α},
    RelVs w N μ H cs X → (ps.length = vs.length ∧ ∀ (k : Nat) (p : Nat × AV) (v : Nat × Value), ps[k]? = some p → vs[k]? = some v → p.1 = v.1 ∧ RelV w N μ H p.2 v.2) → fillAV P fs.toList cs ps K = some r →
    ∃ cs' X', K cs' = some r ∧ RelVs w N μ H cs' X' ∧ Instr.fill (fun i => (fs.map fun f => (f.offset, P.cellsOf f.type))[i]?) X.toArray vs = some X'.toArray
  | [], cs, X, vs, K, hx, hv, h => by
    have : vs = [] := by have := hv.1; simp at this; exact List.length_eq_zero_iff.1 this.symm
    subst this
    exact ⟨cs, X, h, hx, rfl⟩
  | (i, x) :: ps, cs, X, vs, K, hx, hv, h => by
    obtain ⟨hlen, hall⟩ := hv
    cases vs with
    | nil => simp at hlen
    | cons p vs =>
      obtain ⟨i', v⟩ := p
      obtain ⟨e1, e2⟩ := hall 0 (i, x) (i', v) rfl rfl
      simp only at e1 e2
      subst e1
      simp only [fillAV] at h
      cases hf : fs.toList[i]? with
      | none => simp [hf] at h
      | some f =>
        simp only [hf] at h
        obtain ⟨ws, h1, hws⟩ := cellsK_ok e2 h
        obtain ⟨h2, h3⟩ := cond_some h1
        simp only [Bool.and_eq_true] at h2
        have hn : ws.length = P.cellsOf f.type := Nat.eq_of_beq_eq_true h2.1
        have hb : f.offset + ws.length ≤ cs.length := Nat.le_of_ble_eq_true h2.2
        have l1 := RelVs_length hws
        have l2 := RelVs_length hx
        obtain ⟨cs', X', hK, hr, hfill⟩ := fillAV_ok (splice_ok hx hws) ⟨by simpa using hlen, fun k p q hp hq => hall (k + 1) p q (by simpa using hp) (by simpa using hq)⟩ h3
        refine ⟨cs', X', hK, hr, ?_⟩
        have hplace : (fs.map fun f => (f.offset, P.cellsOf f.type))[i]? = some (f.offset, P.cellsOf f.type) := by
          simp only [Array.getElem?_map]
          have : fs[i]? = some f := by simpa using hf
          rw [this]; rfl
        have hsz : v.cells.size = ws.length := by rw [← l1]; simp
        have hcond : (decide (v.cells.size ≠ P.cellsOf f.type) || decide (f.offset + v.cells.size > X.toArray.size)) = false := by
          simp only [Bool.or_eq_false_iff, decide_eq_false_iff_not, List.size_toArray]
          constructor <;> omega
        rw [Instr.fill]
        simp only [hplace, hcond, Bool.false_eq_true, if_false]
        rw [← hfill]
        congr 1
        have := fold_set v.cells.toList X f.offset 0 (by simp; omega)
        simp only [Nat.add_zero] at this
        rw [← this, ← Array.foldl_toList]
        simp

theorem fillAr_ok {sz : Nat} : ∀ {ps : List (Nat × AV)} {cs : List AV} {X : List Value} {vs : List (Nat × Value)} {K : List AV → Option α},
    RelVs w N μ H cs X → (ps.length = vs.length ∧ ∀ (k : Nat) (p : Nat × AV) (v : Nat × Value), ps[k]? = some p → vs[k]? = some v → p.1 = v.1 ∧ RelV w N μ H p.2 v.2) → fillAr sz cs ps K = some r →
    ∃ cs' X', K cs' = some r ∧ RelVs w N μ H cs' X' ∧ Instr.fill (fun i => some (i * sz, sz)) X.toArray vs = some X'.toArray
  | [], cs, X, vs, K, hx, hv, h => by
    have : vs = [] := by have := hv.1; simp at this; exact List.length_eq_zero_iff.1 this.symm
    subst this
    exact ⟨cs, X, h, hx, rfl⟩
  | (i, x) :: ps, cs, X, vs, K, hx, hv, h => by
    obtain ⟨hlen, hall⟩ := hv
    cases vs with
    | nil => simp at hlen
    | cons p vs =>
      obtain ⟨i', v⟩ := p
      obtain ⟨e1, e2⟩ := hall 0 (i, x) (i', v) rfl rfl
      simp only at e1 e2
      subst e1
      simp only [fillAr] at h
      obtain ⟨ws, h1, hws⟩ := cellsK_ok e2 h
      obtain ⟨h2, h3⟩ := cond_some h1
      simp only [Bool.and_eq_true] at h2
      have hn : ws.length = sz := Nat.eq_of_beq_eq_true h2.1
      have hb : i * sz + ws.length ≤ cs.length := Nat.le_of_ble_eq_true h2.2
      have l1 := RelVs_length hws
      have l2 := RelVs_length hx
      obtain ⟨cs', X', hK, hr, hfill⟩ := fillAr_ok (splice_ok hx hws) ⟨by simpa using hlen, fun k p q hp hq => hall (k + 1) p q (by simpa using hp) (by simpa using hq)⟩ h3
      refine ⟨cs', X', hK, hr, ?_⟩
      have hsz : v.cells.size = ws.length := by rw [← l1]; simp
      have hcond : (decide (v.cells.size ≠ sz) || decide (i * sz + v.cells.size > X.toArray.size)) = false := by
        simp only [Bool.or_eq_false_iff, decide_eq_false_iff_not, List.size_toArray]
        constructor <;> omega
      rw [Instr.fill]
      simp only [hcond, Bool.false_eq_true, if_false]
      rw [← hfill]
      congr 1
      have := fold_set v.cells.toList X (i * sz) 0 (by simp; omega)
      simp only [Nat.add_zero] at this
      rw [← this, ← Array.foldl_toList]
      simp

theorem parts_rel {ρ : Operand → Value} {ρA : Operand → AV} (hρ : ∀ x, RelG w N μ H ρ (ρA x) (ρ x)) (ps : List (Nat × Operand)) :
    (ps.map fun (i, x) => (i, ρA x)).length = (ps.map fun (i, x) => (i, ρ x)).length ∧ ∀ (k : Nat) (p : Nat × AV) (v : Nat × Value),
      (ps.map fun (i, x) => (i, ρA x))[k]? = some p → (ps.map fun (i, x) => (i, ρ x))[k]? = some v → p.1 = v.1 ∧ RelV w N μ H p.2 v.2 := by
  refine ⟨by simp, fun k p v hp hv => ?_⟩
  simp only [List.getElem?_map, Option.map_eq_some_iff] at hp hv
  obtain ⟨⟨i, x⟩, h1, rfl⟩ := hp
  obtain ⟨⟨i', x'⟩, h2, rfl⟩ := hv
  rw [h1] at h2
  simp only [Option.some.injEq, Prod.mk.injEq] at h2
  obtain ⟨rfl, rfl⟩ := h2
  exact ⟨rfl, (hρ x).rel⟩

theorem RelVs_map {ρ : Operand → Value} {ρA : Operand → AV} (hρ : ∀ x, RelG w N μ H ρ (ρA x) (ρ x)) : ∀ xs : List Operand, RelVs w N μ H (xs.map ρA) (xs.map ρ)
  | [] => by simp [RelVs]
  | x :: xs => by simp only [List.map_cons, RelVs]; exact ⟨_, _, rfl, (hρ x).rel, RelVs_map hρ xs⟩

theorem unGx_ok {ρ : Operand → Value} {x : AV} {v : Value} {c : Operand} {b : Bool} (hx : RelG w N μ H ρ x v) (hc : ρ c = .bool b) : RelV w N μ H (unGx c b x) v := by
  unfold unGx
  cases c with
  | tmp j =>
    simp only [unG]
    cases x <;> first | exact hx | skip
    rename_i j' w' y
    simp only
    by_cases hj : j' = j ∧ w' = b
    · obtain ⟨rfl, rfl⟩ := hj
      simp only [Nat.beq_refl, BEq.rfl, Bool.and_self, cond_true]
      have := hx hc
      cases y <;> first | exact this | simp [noGd, RelV]
    · have : (Nat.beq j' j && w' == b) = false := by
        rw [Bool.and_eq_false_iff]
        by_cases h1 : j' = j
        · right; simp; exact fun h2 => hj ⟨h1, h2⟩
        · left; exact Bool.eq_false_iff.2 fun h => h1 (Nat.eq_of_beq_eq_true h)
      simp [this, RelV]
  | _ => exact hx.rel

theorem run_fieldAt {t : TypeId} {f o : Nat} {ft : TypeId} (h : fieldOff P t f = some (o, ft)) (g b : Nat) (w' : World) :
    (Instr.fieldAt t (.pointer (some ⟨g, b, none⟩)) f).run P w' = .ok (.pointer (some ⟨g, b + o, none⟩)) w' := by
  unfold fieldOff at h
  cases hu : P.underlying t with
  | none => simp [hu] at h
  | some d =>
    cases d <;> simp only [hu, reduceCtorEq] at h
    rename_i fs
    cases hf : fs[f]? with
    | none => simp [hf] at h
    | some fd =>
      simp only [hf] at h
      cases hz : Nat.beq (P.cellsOf fd.type) 0 with
      | true => simp [hz] at h
      | false =>
        simp only [hz, cond_false, Option.some.injEq, Prod.mk.injEq] at h
        obtain ⟨rfl, rfl⟩ := h
        have hi : ∃ i, P.info? fd.type = some i := by
          cases hi : P.info? fd.type with
          | none => simp [Program.cellsOf, hi] at hz
          | some i => exact ⟨i, rfl⟩
        obtain ⟨i, hi⟩ := hi
        have hsz : ¬ i.size = 0 := by
          intro h0; simp [Program.cellsOf, hi, h0] at hz
        simp [Instr.fieldAt, run_underlying hu, hf, Instr.sureAddr, fieldPlace, run_sizeOf hi, hsz, add_none]

theorem fieldOff_field {t : TypeId} {f o : Nat} {ft : TypeId} (h : fieldOff P t f = some (o, ft)) : ∃ fs fd, P.underlying t = some (.struct fs) ∧ fs[f]? = some fd ∧ fd.offset = o ∧ fd.type = ft := by
  unfold fieldOff at h
  cases hu : P.underlying t with
  | none => simp [hu] at h
  | some d =>
    cases d <;> simp only [hu, reduceCtorEq] at h
    rename_i fs
    cases hf : fs[f]? with
    | none => simp [hf] at h
    | some fd =>
      simp only [hf] at h
      cases hz : Nat.beq (P.cellsOf fd.type) 0 <;> simp [hz] at h
      exact ⟨fs, fd, rfl, hf, h.1, h.2⟩

theorem run_indexAt {t e : TypeId} {ty : Ty} (ht : P.underlying t = some (.slice e)) (hs : szOK P e ty = true) {g o len cap : Nat} {k : IntKind} {i : Int} (h0 : 0 ≤ i) (h1 : i < (len : Int)) (w' : World) :
    (Instr.indexAt t (.slice (some ⟨g, o, none⟩) len cap) (.int k i)).run P w' = .ok (.pointer (some ⟨g, o + i.toNat * ty.size, none⟩)) w' := by
  simp [Instr.indexAt, asIntOf, run_underlying ht, h0, h1, szOK_run hs, add_none]

end
end Go.Ev

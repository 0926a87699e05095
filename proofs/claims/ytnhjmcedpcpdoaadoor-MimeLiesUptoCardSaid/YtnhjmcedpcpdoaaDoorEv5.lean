/- The operations that only yield a value, 3. -/
import Derived.Test.YtnhjmcedpcpdoaaDoorEv4
namespace Go.Ev
open Go
section
variable {P : Program} {w : World} {N : Nat → Prop} {μ : Nat → Option Nat} {H : Nat → Blk} {α : Type} {r : α}

theorem flat_notAgg {t : TypeId} {x : AV} (h : flatTy P t x = true) : ∃ d, P.underlying t = some d ∧ isAggB P t = false := by
  unfold flatTy at h
  unfold isAggB
  cases hu : P.underlying t with
  | none => simp [hu] at h
  | some d => refine ⟨d, rfl, ?_⟩; cases d <;> simp_all

theorem flat_equalIn {t : TypeId} {x y : AV} {a b : Value} {K : Bool → Option α} (hf : flatTy P t x = true) (hx : RelV w N μ H x a) (hy : RelV w N μ H y b) (h : eqCell x y K = some r) :
    ∃ q, K q = some r ∧ ∀ d w', (Op.equalIn (d + 1) t a b).run P w' = .ok q w' := by
  obtain ⟨q, hK, hq⟩ := eqCell_ok hx hy h
  refine ⟨q, hK, fun d w' => ?_⟩
  unfold flatTy at hf
  cases hu : P.underlying t with
  | none => simp [hu] at hf
  | some ds =>
    rcases hq with ⟨k, m, n, rfl, rfl, rfl⟩ | ⟨m, n, rfl, rfl, rfl⟩ | ⟨m, n, rfl, rfl, rfl⟩
    all_goals
      cases ds <;> simp only [hu, Bool.false_eq_true] at hf <;> cases x <;> simp only [RelV, reduceCtorEq] at hx hf <;> try contradiction
    all_goals first
      | exact run_equalIn_int w' d t _ _ _ _ hu
      | exact run_equalIn_bool' w' d t _ _ hu
      | (rw [run_equalIn_string w' d t _ _ hu, beq_toListBytes]; done)
      | (simp_all; done)

theorem run_part {t : TypeId} {d : TypeDesc} (hu : P.underlying t = some d) (ha : isAggB P t = false) (cs : List Value) (o : Nat) (v : Value) (hv : cs[o]? = some v) (w' : World) :
    (part t cs.toArray o).run P w' = .ok v w' := by
  unfold part
  rw [Sem.run_bind, run_isAgg hu]
  simp [ha, hv]

theorem eqFS_ok : ∀ (fs : List Field) (i : Nat) (xs ys : List AV) (X Y : List Value) (K : Bool → Option α), RelVs w N μ H xs (X.drop i) → RelVs w N μ H ys (Y.drop i) →
    eqFS P i fs xs ys K = some r → ∃ q, K q = some r ∧ ∀ d w', (Op.eqFields (d + 1) X.toArray Y.toArray fs).run P w' = .ok q w' := by
  have hd : ∀ (X : List Value) i v vr, X.drop i = v :: vr → X[i]? = some v ∧ X.drop (i + 1) = vr := fun X i v vr h => by
    constructor
    · have : (X.drop i)[0]? = some v := by rw [h]; rfl
      simpa using this
    · have : (X.drop i).drop 1 = vr := by rw [h]; rfl
      simpa [Nat.add_comm] using this
  intro fs
  induction fs with
  | nil =>
    intro i xs ys X Y K hx hy h
    cases xs <;> cases ys <;> simp only [eqFS, reduceCtorEq] at h
    exact ⟨true, h, fun d w' => by simp [Op.eqFields]⟩
  | cons f fs ih =>
    intro i xs ys X Y K hx hy h
    cases xs with
    | nil => cases fs <;> simp [eqFS] at h
    | cons x xs =>
      cases ys with
      | nil => cases fs <;> cases xs <;> simp [eqFS] at h
      | cons y ys =>
        simp only [RelVs] at hx hy
        obtain ⟨a, ar, hX, h1, h2⟩ := hx
        obtain ⟨b, br, hY, g1, g2⟩ := hy
        obtain ⟨ha, har⟩ := hd _ _ _ _ hX
        obtain ⟨hb, hbr⟩ := hd _ _ _ _ hY
        have key : ∀ {K' : Bool → Option α}, cond (f.name != "_" && Nat.beq f.offset i && flatTy P f.type x) (eqCell x y K') none = some r →
            ∃ q, K' q = some r ∧ ∀ d w' fs', (Op.eqFields (d + 1) X.toArray Y.toArray (f :: fs')).run P w' = if q then (Op.eqFields (d + 1) X.toArray Y.toArray fs').run P w' else .ok false w' := by
          intro K' hc
          obtain ⟨hc1, hc2⟩ := cond_some hc
          simp only [Bool.and_eq_true, bne_iff_ne, ne_eq] at hc1
          obtain ⟨⟨hn, ho⟩, hf⟩ := hc1
          have ho' : f.offset = i := Nat.eq_of_beq_eq_true ho
          obtain ⟨q, hq, he⟩ := flat_equalIn hf h1 g1 hc2
          obtain ⟨ds, hu, hag⟩ := flat_notAgg hf
          refine ⟨q, hq, fun d w' fs' => ?_⟩
          have p1 := run_part (P := P) hu hag X f.offset a (by rw [ho']; exact ha) w'
          have p2 := run_part (P := P) hu hag Y f.offset b (by rw [ho']; exact hb) w'
          rw [Op.eqFields, if_pos hn]
          simp only [Sem.run_bind, p1, p2, he, Result.andThen_ok]
          cases q <;> simp
        have gen : cond (f.name != "_" && Nat.beq f.offset i && flatTy P f.type x) (eqCell x y fun r => eqFS P (i + 1) fs xs ys fun q => K (r && q)) none = some r →
            ∃ q, K q = some r ∧ ∀ d w', (Op.eqFields (d + 1) X.toArray Y.toArray (f :: fs)).run P w' = .ok q w' := by
          intro hg
          obtain ⟨q, hq, he⟩ := key hg
          obtain ⟨q', hq', he'⟩ := ih (i + 1) xs ys X Y _ (by rw [har]; exact h2) (by rw [hbr]; exact g2) hq
          exact ⟨q && q', hq', fun d w' => by rw [he, he']; cases q <;> simp⟩
        cases fs with
        | cons f' fs => exact gen (by cases xs <;> cases ys <;> simpa only [eqFS] using h)
        | nil =>
          cases xs with
          | cons x' xs => exact gen (by cases ys <;> simpa only [eqFS] using h)
          | nil =>
            cases ys with
            | cons y' ys => exact gen (by simpa only [eqFS] using h)
            | nil =>
              simp only [eqFS] at h
              obtain ⟨q, hq, he⟩ := key h
              exact ⟨q, hq, fun d w' => by rw [he]; cases q <;> simp [Op.eqFields]⟩

theorem run_equalIn_arr2 {t e : TypeId} {ds : TypeDesc} (ht : P.underlying t = some (.array 2 e)) (hs : P.cellsOf e = 1) (hu : P.underlying e = some ds) (ha : isAggB P e = false) {a1 a2 b1 b2 : Value} {q1 q2 : Bool} {d : Nat}
    (h1 : ∀ w', (Op.equalIn d e a1 b1).run P w' = .ok q1 w') (h2 : ∀ w', (Op.equalIn d e a2 b2).run P w' = .ok q2 w') (w' : World) :
    (Op.equalIn (d + 1) t (.agg #[a1, a2]) (.agg #[b1, b2])).run P w' = .ok (q1 && q2) w' := by
  have p1 : ∀ w', (part e #[a1, a2] 0).run P w' = .ok a1 w' := run_part hu ha [a1, a2] 0 a1 rfl
  have p2 : ∀ w', (part e #[a1, a2] 1).run P w' = .ok a2 w' := run_part hu ha [a1, a2] 1 a2 rfl
  have p3 : ∀ w', (part e #[b1, b2] 0).run P w' = .ok b1 w' := run_part hu ha [b1, b2] 0 b1 rfl
  have p4 : ∀ w', (part e #[b1, b2] 1).run P w' = .ok b2 w' := run_part hu ha [b1, b2] 1 b2 rfl
  have hz : ∀ w', (sizeOf e).run P w' = .ok 1 w' := fun w' => by rw [run_sizeOf' hu, hs]
  unfold Op.equalIn
  simp only [Sem.run_bind, run_underlying ht, Result.andThen_ok, hz]
  simp [List.range', p1, p2, p3, p4, h1, h2]
  cases q1 <;> cases q2 <;> simp

theorem eqAgg_ok {t : TypeId} {xs ys : List AV} {X Y : List Value} {K : Bool → Option α} (hx : RelVs w N μ H xs X) (hy : RelVs w N μ H ys Y) (h : eqAgg P t xs ys K = some r) :
    ∃ q, K q = some r ∧ BinYields P w .eql t (.agg X.toArray) (.agg Y.toArray) (.bool q) ∧ BinYields P w .neq t (.agg X.toArray) (.agg Y.toArray) (.bool (!q)) := by
  unfold eqAgg at h
  obtain ⟨h1, h2⟩ := cond_some h
  simp only [Bool.and_eq_true, Bool.not_eq_true'] at h1
  split at h2
  · rename_i fs hu
    obtain ⟨q, hq, he⟩ := eqFS_ok fs.toList 0 xs ys X Y K (by simpa using hx) (by simpa using hy) h2
    have hf : P.fieldsOf t = fs := by simp [Program.fieldsOf, hu]
    have hu' : P.underlying t = some (.struct (P.fieldsOf t)) := by rw [hf, hu]
    refine ⟨q, hq, fun w' _ x y => ?_, fun w' _ x y => ?_⟩
    · simp only [Sem.run_bind, run_eqGuard_agg w' _ t x y _ _ h1.1, Result.andThen_ok, run_eql_struct, run_equalIn_agg w' 9999 t _ _ hu' h1.2, hf, he 9998]
    · simp only [Sem.run_bind, run_eqGuard_agg w' _ t x y _ _ h1.1, Result.andThen_ok, run_neq_struct, run_equalIn_agg w' 9999 t _ _ hu' h1.2, hf, he 9998]
  · rename_i e hu
    split at h2
    · rename_i x1 x2 y1 y2
      obtain ⟨h3, h4⟩ := cond_some h2
      simp only [Bool.and_eq_true] at h3
      obtain ⟨⟨h5, h6⟩, h7⟩ := h3
      simp only [RelVs] at hx hy
      obtain ⟨a1, r1, rfl, ha1, a2, r2, rfl, ha2, rfl⟩ := hx
      obtain ⟨b1, s1, rfl, hb1, b2, s2, rfl, hb2, rfl⟩ := hy
      obtain ⟨q1, h8, e1⟩ := flat_equalIn h6 ha1 hb1 h4
      obtain ⟨q2, h9, e2⟩ := flat_equalIn h7 ha2 hb2 h8
      obtain ⟨ds, hue, hag⟩ := flat_notAgg h6
      have hrun := run_equalIn_arr2 (P := P) hu (Nat.eq_of_beq_eq_true h5) hue hag (d := 9999) (e1 9998) (e2 9998)
      refine ⟨q1 && q2, h9, fun w' _ x y => ?_, fun w' _ x y => ?_⟩
      · simp only [Sem.run_bind, run_eqGuard_agg w' _ t x y _ _ h1.1, Result.andThen_ok, run_eql_struct]
        have := hrun w'
        simp only [this, Result.andThen_ok]
      · simp only [Sem.run_bind, run_eqGuard_agg w' _ t x y _ _ h1.1, Result.andThen_ok, run_neq_struct]
        have := hrun w'
        simp only [this, Result.andThen_ok]
    · cases h2
  · cases h2

theorem isBool_und {t : TypeId} (h : isBoolTy P t = true) : P.underlying t = some .bool := by
  unfold isBoolTy at h
  cases hu : P.underlying t with
  | none => simp [hu] at h
  | some d => cases d <;> simp_all

theorem evBin_ok {op : BinOp} {t : TypeId} {x y : AV} {a b : Value} {K : AV → Option α} (hx : RelV w N μ H x a) (hy : RelV w N μ H y b) (h : evBin P op t x y K = some r) :
    ∃ v val, K v = some r ∧ RelV w N μ H v val ∧ BinYields P w op t a b val := by
  have bools : ∀ {x y : AV} {a b : Value}, RelV w N μ H x a → RelV w N μ H y b → (∀ xs, x ≠ .agg xs) →
      cond (isBoolTy P t) (match op with
        | .eql => eqCell x y fun r => K (.b r)
        | .neq => eqCell x y fun r => K (.b (!r))
        | _ => none) none = some r → ∃ v val, K v = some r ∧ RelV w N μ H v val ∧ BinYields P w op t a b val := by
    intro x y a b hx hy hxa hc
    obtain ⟨hb, hc⟩ := cond_some hc
    have hu := isBool_und hb
    have fin : ∀ q, ((∃ k m n, a = .int k m ∧ b = .int k n ∧ q = (m == n)) ∨ (∃ m n : ByteArray, a = .string m ∧ b = .string n ∧ q = (m == n)) ∨ (∃ m n, a = .bool m ∧ b = .bool n ∧ q = (m == n))) →
        BinYields P w .eql t a b (.bool q) ∧ BinYields P w .neq t a b (.bool (!q)) := by
      intro q hq
      rcases hq with ⟨k, m, n, rfl, rfl, rfl⟩ | ⟨m, n, rfl, rfl, rfl⟩ | ⟨m, n, rfl, rfl, rfl⟩
      · constructor <;> refine binYields_of (by simp) (by simp) fun w' _ => ?_
        · simp [binOp, Op.intCmp]
        · simp [binOp, Op.intCmp, bne]
      · constructor <;> refine binYields_of (by simp) (by simp) fun w' _ => ?_
        · simp [binOp, Op.stringOp, beq_toListBytes]
        · simp [binOp, Op.stringOp, beq_toListBytes]
      · constructor <;> refine binYields_of (by simp) (by simp) fun w' _ => ?_
        · simp [binOp, Op.equal, Op.maxDepth, run_equalIn_bool' w' 9999 t _ _ hu]
        · simp [binOp, Op.equal, Op.maxDepth, run_equalIn_bool' w' 9999 t _ _ hu]
    cases op <;> simp only [reduceCtorEq] at hc
    · obtain ⟨q, hK, hq⟩ := eqCell_ok hx hy hc
      exact ⟨_, _, hK, rfl, (fin q hq).1⟩
    · obtain ⟨q, hK, hq⟩ := eqCell_ok hx hy hc
      exact ⟨_, _, hK, rfl, (fin q hq).2⟩
  unfold evBin at h
  split at h
  · rename_i k m k' n
    simp only [RelV] at hx hy; subst hx; subst hy
    obtain ⟨hk, hc⟩ := cond_some h
    have hk' : k = k' := by simpa using hk
    subst hk'
    exact intBin_ok hc
  · simp only [RelV] at hx hy; subst hx; subst hy
    exact u8Bin_ok h
  · simp only [RelV] at hx hy; subst hx; subst hy
    exact strBin_ok h
  · rename_i xs ys
    simp only [RelV] at hx hy
    obtain ⟨X, rfl, hx⟩ := hx
    obtain ⟨Y, rfl, hy⟩ := hy
    cases op <;> simp only [reduceCtorEq] at h
    · obtain ⟨q, hK, h1, _⟩ := eqAgg_ok hx hy h
      exact ⟨_, _, hK, rfl, h1⟩
    · obtain ⟨q, hK, _, h2⟩ := eqAgg_ok hx hy h
      exact ⟨_, _, hK, rfl, h2⟩
  · rename_i h1 h2 h3 h4
    by_cases hxa : ∃ xs, x = .agg xs
    · obtain ⟨xs, rfl⟩ := hxa
      obtain ⟨hb, hc⟩ := cond_some h
      cases op <;> simp only [reduceCtorEq] at hc <;> cases y <;> simp [eqCell] at hc
    · exact bools hx hy (fun xs hh => hxa ⟨xs, hh⟩) h

end
end Go.Ev

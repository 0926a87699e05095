/- Regions whose order is drawn: an operation that yields the same wherever the others take it may be taken first. -/
import Derived.Test.YtnhjmcedpcpdoaaDoorEvK
namespace Go.Ev
open Go
section
variable {P : Program} {ops : Array Oper} {Q : Exit → Act → World → Prop}

/-- What is told of the world beside it: here, the blocks that are tracked, and which cells an operation leaves as they are. -/
abbrev Gh := (Nat → Prop) × (Nat → Nat → Nat → Prop)

/-- Whatever order is picked from here on, each operation keeping what it has pledged. -/
def wpAnyG (P : Program) (ops : Array Oper) (G : Nat → Gh → World → Gh → World → Prop) (Q : Exit → Act → World → Prop) : Nat → Array Bool → Gh → Act → World → Prop
  | 0, listed, _, a, w => Region.ready .any ops listed = [] ∧ Q .normal a w
  | n + 1, listed, T, a, w => (Region.ready .any ops listed = [] → Q .normal a w) ∧
    ∀ i ∈ Region.ready .any ops listed, wpOp P ops Q i (fun a' w' => ∃ T', G i T w T' w' ∧ wpAnyG P ops G Q n (listed.setIfInBounds i true) T' a' w') a w

theorem wpAny_of_G {G : Nat → Gh → World → Gh → World → Prop} : ∀ (n : Nat) (listed : Array Bool) (T : Gh) (a : Act) (w : World), wpAnyG P ops G Q n listed T a w → wpAny P .any ops Q n listed a w
  | 0, _, _, _, _, h => h
  | n + 1, _, _, _, _, h => ⟨h.1, fun i hi => wpOp_mono (fun a' w' ⟨T', _, hk⟩ => wpAny_of_G n _ T' a' w' hk) (h.2 i hi)⟩

/-- Less is asked. -/
theorem wpAnyG_less {G : Nat → Gh → World → Gh → World → Prop} {T T1 : Gh} {w : World} (hG : ∀ j T' w', G j T1 w T' w' → G j T w T' w') : ∀ {n : Nat} {listed : Array Bool} {a : Act}, wpAnyG P ops G Q n listed T1 a w → wpAnyG P ops G Q n listed T a w
  | 0, _, _, h => h
  | _ + 1, _, _, h => ⟨h.1, fun i hi => wpOp_mono (fun _ w' ⟨T', hg, hk⟩ => ⟨T', hG i T' w' hg, hk⟩) (h.2 i hi)⟩

/-- In every world of J, the operation yields v, and leaves the world as it is. -/
def YJ (P : Program) (ops : Array Oper) (J : Gh → World → Prop) (o : Oper) (v : Value) (a : Act) : Prop :=
  (Region.wanted o (yielded ops a.tmps) = true ∧ ∀ T w, J T w → (execOp a.eval o).run P w = .ok (.value v) w) ∨ (Region.wanted o (yielded ops a.tmps) = false ∧ v = undef)

theorem YJ.of_same {J : Gh → World → Prop} {o : Oper} {v : Value} {a a' : Act} (hy : YJ P ops J o v a) (he : execOp a'.eval o = execOp a.eval o)
    (hw : Region.wanted o (yielded ops a'.tmps) = Region.wanted o (yielded ops a.tmps)) : YJ P ops J o v a' := by
  unfold YJ at *
  rw [he, hw]
  exact hy

theorem wpOp_putG {J : Gh → World → Prop} {j : Nat} {oi oj : Oper} {v : Value} (hj : ops[j]? = some oj) (hap : oi.apart ops oj = true)
    (hsi : ∀ cs b, oi.op ≠ .select cs b) (hsj : ∀ cs b, oj.op ≠ .select cs b)
    (hQ : ∀ c a a' w, a'.defers = a.defers → Q (.panic c) a w → Q (.panic c) a' w) {K : Act → World → Prop} {a : Act} {w : World}
    (hy : YJ P ops J oi v a) (h : wpOp P ops Q j K (a.put oi.dst v) w) :
    wpOp P ops Q j (fun a' w' => YJ P ops J oi v a' ∧ K (a'.put oi.dst v) w') a w := by
  obtain ⟨h1, h2, h3⟩ := Oper.apart_spec hap
  have keep : ∀ (a : Act), YJ P ops J oi v a → ∀ u, YJ P ops J oi v (a.put oj.dst u) := fun a hy u =>
    hy.of_same (execOp_put oi hsi a oj.dst u h3) (wanted_put oi a oj.dst u h3)
  have keepD : ∀ d, YJ P ops J oi v { a with defers := d :: a.defers } := fun d => hy.of_same rfl rfl
  unfold wpOp at *
  simp only [hj] at *
  rw [wanted_put oj a oi.dst v h1] at h
  split
  · rename_i hw
    simp only [hw, if_true] at h
    rcases h with h | ⟨hasks, hlets⟩
    case inr => exact .inr ⟨by unfold Oper.asks at *; rw [execOp_put oj hsj a oi.dst v h1] at hasks; exact hasks, hlets⟩
    refine .inl ?_
    unfold Oper.wp at *
    rw [execOp_put oj hsj a oi.dst v h1] at h
    generalize (execOp a.eval oj).run P w = r at *
    cases r with
    | ok n w' =>
      cases n <;> simp only [Oper.upon] at h ⊢
      case value u => exact ⟨keep a hy u, by rw [← Act.put_comm a v u h2]; exact h⟩
      case skip => exact ⟨keep a hy _, by rw [← Act.put_comm a v undef h2]; exact h⟩
      case defer d =>
        refine ⟨keep _ (keepD d) _, ?_⟩
        rw [← Act.put_comm _ v undef h2, ← Act.put_defers]
        exact h
      case enter f args =>
        refine Calls.mono h fun e w'' he => ?_
        cases e with
        | returned u => exact ⟨keep a hy u, by rw [← Act.put_comm a v u h2]; exact he⟩
        | panicked c => exact hQ _ _ _ _ (by cases oi.dst <;> rfl) he
        | outgrown => exact he
      case row row args => exact Rows.mono h fun u w'' he => ⟨keep a hy u, by rw [← Act.put_comm a v u h2]; exact he⟩
    | halt x w' =>
      cases x <;> simp only [Oper.upon] at h ⊢
      case panic u => exact hQ _ _ _ _ (by cases oi.dst <;> rfl) h
  · rename_i hw
    simp only [hw] at h
    exact ⟨keep a hy _, by rw [← Act.put_comm a v undef h2]; exact h⟩

theorem readyG_mono {i j : Nat} {listed : Array Bool} (hj : j ∈ Region.ready .any ops listed) (h : j ≠ i) : j ∈ Region.ready .any ops (listed.setIfInBounds i true) := ready_mono hj h

/-- What has come up waits for nothing that has not. -/
def Clo (ops : Array Oper) (listed : Array Bool) : Prop := ∀ m om, ops[m]? = some om → listed.getD m false = true → ∀ e ∈ om.after, Region.binds .any e = true → listed.getD e.on false = true

theorem Clo.set {listed : Array Bool} (h : Clo ops listed) {j : Nat} {oj : Oper} (hj : ops[j]? = some oj) (hall : ∀ e ∈ oj.after, Region.binds .any e = true → listed.getD e.on false = true) : Clo ops (listed.setIfInBounds j true) := fun m om hm hl e he hb => by
  refine getD_set_true ?_
  by_cases hjm : j = m
  · subst hjm
    rw [hj] at hm; cases hm
    exact hall e he hb
  · rw [getD_set_ne false hjm] at hl
    exact h m om hm hl e he hb

/-- Those that wait for x have not come up, nor may they. -/
theorem behind_ok {listed : Array Bool} (hclo : Clo ops listed) {x : Nat} (hx : listed.getD x false = false) (hb : ∀ e, Region.binds .any e = bnd e) : ∀ (l : List Oper) (k : Nat) (acc : List Nat), (∀ j, l[j]? = ops[k + j]?) →
    (∀ m ∈ acc, listed.getD m false = false ∧ ∀ om, ops[m]? = some om → ¬ ∀ e ∈ om.after, Region.binds .any e = true → listed.getD e.on false = true) →
    ∀ m ∈ behind x k l acc, listed.getD m false = false ∧ ∀ om, ops[m]? = some om → ¬ ∀ e ∈ om.after, Region.binds .any e = true → listed.getD e.on false = true
  | [], _, _, _, ha => ha
  | o :: l, k, acc, hl, ha => by
    have hk : ops[k]? = some o := by have := hl 0; simpa using this.symm
    refine behind_ok hclo hx hb l (k + 1) _ (fun j => by have := hl (j + 1); simpa [Nat.add_assoc, Nat.add_comm 1 j] using this) ?_
    cases hc : (o.after.toList.any fun e => bnd e && hasN (x :: acc) e.on) with
    | false => exact ha
    | true =>
      obtain ⟨e, he, hbe⟩ := List.any_eq_true.1 hc
      simp only [Bool.and_eq_true] at hbe
      have hon : listed.getD e.on false = false := by
        rcases List.mem_cons.1 (hasN_mem.1 hbe.2) with h | h
        · rw [h]; exact hx
        · exact (ha _ h).1
      have hno : ¬ ∀ e ∈ o.after, Region.binds .any e = true → listed.getD e.on false = true := fun h => by
        have := h e (by simpa using he) (by rw [hb]; exact hbe.1)
        rw [hon] at this; cases this
      intro m hm
      rcases List.mem_cons.1 hm with rfl | hm
      · refine ⟨?_, fun om ho => by rw [hk] at ho; cases ho; exact hno⟩
        cases hlm : listed.getD m false with
        | false => rfl
        | true => exact absurd (hclo m o hk hlm) hno
      · exact ha m hm

/-- An operation that may come up now may be taken first. -/
theorem wpAnyG_first {G : Nat → Gh → World → Gh → World → Prop} {J : Gh → World → Prop} {i : Nat} {oi : Oper} {v : Value} (hi : ops[i]? = some oi) (hsel : ∀ (j : Nat) (o : Oper) cs b, ops[j]? = some o → o.op ≠ .select cs b)
    (hQ : ∀ c a a' w, a'.defers = a.defers → Q (.panic c) a w → Q (.panic c) a' w) (hGi : ∀ T w, G i T w T w) (hbe : ∀ e, Region.binds .any e = bnd e) :
    ∀ (n : Nat) (listed : Array Bool) (T : Gh) (a : Act) (w : World),
      (∀ j oj, ops[j]? = some oj → j ≠ i → listed.getD j true = false → hasN (behind i 0 ops.toList []) j = false → oi.apart ops oj = true ∧ ∀ T w T' w', J T w → G j T w T' w' → J T' w') →
      Clo ops listed → i ∈ Region.ready .any ops listed → YJ P ops J oi v a → J T w →
      wpAnyG P ops G Q n (listed.setIfInBounds i true) T (a.put oi.dst v) w → wpAnyG P ops G Q (n + 1) listed T a w := by
  have here : ∀ {K : Act → World → Prop} {T : Gh} {a : Act} {w : World}, YJ P ops J oi v a → J T w → K (a.put oi.dst v) w → wpOp P ops Q i K a w := by
    intro K T a w hy hJ hk
    unfold wpOp
    simp only [hi]
    rcases hy with ⟨hw, hv⟩ | ⟨hw, rfl⟩
    · simp only [hw, if_true, Oper.wp, hv T w hJ, Oper.upon]; exact .inl hk
    · simp only [hw, Bool.false_eq_true, if_false]; exact hk
  intro n
  induction n with
  | zero =>
    intro listed T a w _ _ hr hy hJ H
    refine ⟨fun h => (by rw [h] at hr; cases hr), fun j hj => ?_⟩
    by_cases hji : j = i
    · subst hji; exact here hy hJ ⟨T, hGi T w, H⟩
    · have := readyG_mono hj hji
      rw [H.1] at this
      cases this
  | succ n ih =>
    intro listed T a w hfree hclo hr hy hJ H
    refine ⟨fun h => (by rw [h] at hr; cases hr), fun j hj => ?_⟩
    by_cases hji : j = i
    · subst hji; exact here hy hJ ⟨T, hGi T w, H⟩
    · have h1 := H.2 j (readyG_mono hj hji)
      obtain ⟨hjun, oj, hoj, hall⟩ := mem_ready.1 hj
      have hi0 : listed.getD i false = false := by
        have h0 := (mem_ready.1 hr).1
        rcases Nat.lt_or_ge i listed.size with h' | h'
        · simpa [h'] using h0
        · simp [Array.getElem?_eq_none h']
      have hnot : hasN (behind i 0 ops.toList []) j = false := by
        cases hh : hasN (behind i 0 ops.toList []) j with
        | false => rfl
        | true => exact absurd hall ((behind_ok hclo hi0 hbe ops.toList 0 [] (by simp) (by simp) j (hasN_mem.1 hh)).2 oj hoj)
      obtain ⟨hap, hJj⟩ := hfree j oj hoj hji hjun hnot
      have h2 := wpOp_putG hoj hap (fun cs b => hsel i oi cs b hi) (fun cs b => hsel j oj cs b hoj) hQ hy h1
      have hfree' : ∀ k ok, ops[k]? = some ok → k ≠ i → (listed.setIfInBounds j true).getD k true = false →
          hasN (behind i 0 ops.toList []) k = false → oi.apart ops ok = true ∧ ∀ T w T' w', J T w → G k T w T' w' → J T' w' := fun k ok hk hki hun hno => by
        refine hfree k ok hk hki ?_ hno
        by_cases hjk : j = k
        · subst hjk; exact hjun
        · rw [getD_set_ne true hjk] at hun; exact hun
      refine wpOp_mono (fun a' w' h3 => ?_) h2
      obtain ⟨hy', T', hg, hk⟩ := h3
      refine ⟨T', hg, ih (listed.setIfInBounds j true) T' a' w' hfree' (hclo.set hoj hall) (readyG_mono hr (Ne.symm hji)) hy' (hJj T w T' w' hJ hg) ?_⟩
      rw [Array.setIfInBounds_comm _ _ hji]
      exact hk

end
end Go.Ev

/- Regions in the order that they stand in. -/
import Derived.Test.YtnhjmcedpcpdoaaDoorEvJ
namespace Go.Ev
open Go
section
variable {P : Program} {F : Frm (tabsOf P)} {μ μ' : Nat → Option Nat} {S S' : St} {w w' : World} {a a' : Act} {done : List Nat} {α : Type} {r : α} {M : FuncId → Bool}

theorem Post.of_val (hr : Rg F μ done S a w) {dst : Option Nat} {v : AV} {val : Value} {done' : List Nat} (h : Rg F μ done' (S.put dst v) (a.put dst val) w) : Post F μ S w a done' (S.put dst v) w (a.put dst val) := by
  refine ⟨⟨μ, [], by cases dst <;> simp [St.put], ?_, h⟩, Act.put_size _ _ _, Act.put_defers' _ _ _⟩
  have := Pl.refl hr.hp
  cases dst <;> exact this

/-- One operation, in its turn. -/
theorem evOp_ok {C : Calling} (hC : CallOK P C M) {chk : Check} {ops : Array Oper} {o : Oper} {K : St → Option α} {Kp : AV → St → Option α} {next : Act → World → Prop} {Q : Exit → Act → World → Prop} (hr : Rg F μ done S a w)
    (hd : ∀ d, o.dst = some d → d < a.tmps.size ∧ d ∉ done) (h : evOp P C chk ops done o S K Kp = some r)
    (hq : ∀ x S' w' a' val, Kp x S' = some r → PPost F μ S.H S.nx S.kl w a x S' w' a' val → Q (.panic [{ v := val, recovered := false }]) a' w')
    (hn : ∀ S' w' a', K S' = some r → Post F μ S w a (dstL o ++ done) S' w' a' → next a' w') : wpTurn P ops o a w next Q := by
  cases hv : isVal P o.op with
  | false => exact evOp_eff hC hv hr hd h (fun x S' w' val h1 h2 => hq x S' w' a val h1 h2) fun S' w' a' h1 h2 _ => hn S' w' a' h1 h2
  | true =>
    obtain ⟨v, val, hK, hrg, hy⟩ := evOp_val (X := fun _ _ => False) hv hr hd (fun _ _ _ _ => .none) h
    have := hn _ w _ hK (.of_val hr hrg)
    unfold wpTurn
    rcases hy with ⟨h1, h2⟩ | ⟨h1, h2⟩
    · rw [if_pos h1]
      unfold Oper.wp
      rw [h2 w (Agr.refl w)]
      exact this
    · rw [if_neg (by simp [h1]), ← h2]
      exact this

theorem Post.trans {d1 d2 : List Nat} {S1 S2 : St} {w1 w2 : World} {a1 a2 : Act} (h : ∃ μ' kl, S1.kl = S.kl ++ kl ∧ Pl F μ S.H S.nx w kl μ' S1.H S1.nx w1 ∧ Rg F μ' d1 S1 a1 w1 ∧ Post F μ' S1 w1 a1 d2 S2 w2 a2)
    (hs : a1.tmps.size = a.tmps.size) (hd : a1.defers = a.defers) : Post F μ S w a d2 S2 w2 a2 := by
  obtain ⟨μ', kl, h1, h2, _, ⟨⟨μ'', kl', g1, g2, g3⟩, g4, g5⟩⟩ := h
  exact ⟨⟨μ'', kl ++ kl', by rw [g1, h1, List.append_assoc], h2.trans g2, g3⟩, g4.trans hs, g5.trans hd⟩

theorem Post.refl (hr : Rg F μ done S a w) : Post F μ S w a done S w a := ⟨⟨μ, [], by simp, Pl.refl hr.hp, hr⟩, rfl, rfl⟩

theorem PPost.trans {x : AV} {S1 S2 : St} {w1 w2 : World} {a1 a2 : Act} {val : Value} (h : ∃ μ' kl, S1.kl = S.kl ++ kl ∧ Pl F μ S.H S.nx w kl μ' S1.H S1.nx w1 ∧ PPost F μ' S1.H S1.nx S1.kl w1 a1 x S2 w2 a2 val)
    (hd : a1.defers = a.defers) : PPost F μ S.H S.nx S.kl w a x S2 w2 a2 val := by
  obtain ⟨μ', kl, h1, h2, ⟨⟨μ'', kl', g1, g2, g3, g4⟩, g5⟩⟩ := h
  exact ⟨⟨μ'', kl ++ kl', by rw [g1, h1, List.append_assoc], h2.trans g2, g3, g4⟩, g5.trans hd⟩

theorem wpOps_turn {ops : Array Oper} {Q : Exit → Act → World → Prop} {k : Nat} {rest : List Nat} {o : Oper} (ho : ops[k]? = some o) (h : wpTurn P ops o a w (wpOps P ops Q rest) Q) : wpOps P ops Q (k :: rest) a w := by
  simp only [wpOps, ho]
  unfold wpTurn at h
  split
  · rename_i hw; rw [if_pos hw] at h; exact .inl h
  · rename_i hw; rw [if_neg hw] at h; exact h

theorem turns_ok {C : Calling} (hC : CallOK P C M) {n : Nat} {ops : Array Oper} {Q : Exit → Act → World → Prop} {K : St → Option α} {Kp : AV → St → Option α} : ∀ (l : List Oper) (k : Nat) (F : Frm (tabsOf P)) (μ : Nat → Option Nat) (done : List Nat) (S : St) (a : Act) (w : World), (∀ j, l[j]? = ops[k + j]?) →
    n = a.tmps.size → Rg F μ done S a w → evTurns P C n ops (turns k l) done [] S K Kp = some r →
    (∀ x S' w' a' val, Kp x S' = some r → PPost F μ S.H S.nx S.kl w a x S' w' a' val → Q (.panic [{ v := val, recovered := false }]) a' w') →
    (∀ S' w' a' done', K S' = some r → Post F μ S w a done' S' w' a' → Q .normal a' w') → wpOps P ops Q (List.range' k l.length) a w
  | [], k, F, μ, done, S, a, w, _, _, hr, h, _, hn => hn S w a done h (.refl hr)
  | o :: l, k, F, μ, done, S, a, w, hl, hsz, hr, h, hq, hn => by
    have ho : ops[k]? = some o := by simpa using (hl 0).symm
    simp only [turns, evTurns, Turn.watch, isNilN, cond_true, keepW, List.append_nil] at h
    obtain ⟨h0, h1⟩ := cond_some h
    rw [hsz] at h0
    rw [List.length_cons, List.range'_succ]
    refine wpOps_turn ho (evOp_ok hC hr (fresh_ok h0) h1 hq fun S' w' a' hK hp => ?_)
    obtain ⟨⟨μ', kl, e1, e2, e3⟩, e4, e5⟩ := hp
    refine turns_ok hC l (k + 1) F μ' (dstL o ++ done) S' a' w' (fun j => ?_) (by rw [e4, hsz]) e3 hK (fun x S2 w2 a2 val h1 h2 => hq x S2 w2 a2 val h1 (PPost.trans ⟨μ', kl, e1, e2, h2⟩ e5)) fun S2 w2 a2 d2 hK2 hp2 => hn S2 w2 a2 d2 hK2 ?_
    · have := hl (j + 1)
      simpa [Nat.add_assoc, Nat.add_comm 1 j] using this
    · exact Post.trans ⟨μ', kl, e1, e2, e3, hp2⟩ e4 e5

/-- A region whose order is not drawn. -/
theorem region_ok {C : Calling} (hC : CallOK P C M) {id : Nat} {ops : Array Oper} {Q : Exit → Act → World → Prop} {K : St → Option α} {Kp : AV → St → Option α} (hr : Rg F μ [] S a w)
    (h : evTurns P C a.tmps.size ops (turns 0 ops.toList) [] [] S K Kp = some r)
    (hq : ∀ x S' w' a' val, Kp x S' = some r → PPost F μ S.H S.nx S.kl w a x S' w' a' val → Q (.panic [{ v := val, recovered := false }]) a' w')
    (hn : ∀ S' w' a' done', K S' = some r → Post F μ S w a done' S' w' a' → Q .normal a' w') : (Code.region id ops false).wp P Q a w := by
  refine wp_region ?_
  have := turns_ok hC (Q := Q) ops.toList 0 F μ [] S a w (by simp) rfl hr h hq hn
  rw [List.range_eq_range']
  simpa using this

end
end Go.Ev

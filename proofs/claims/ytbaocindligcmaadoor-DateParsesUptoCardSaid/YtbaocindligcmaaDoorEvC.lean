/- The operations that make or write memory. -/
import Derived.Test.YtbaocindligcmaaDoorEvB
import Derived.Laws.Rows
namespace Go.Ev
open Go
section
variable {P : Program} {T : Tb} {F : Frm T} {μ : Nat → Option Nat} {H : Nat → Blk} {nx : Nat} {w : World} {N : Nat → Prop} {α : Type} {r : α}

/-- A world with one block more (and perhaps some draws). -/
structure Grew (w : World) (o : Obj) (w' : World) : Prop where
  heap : w'.heap = w.heap.push o
  os : w'.os = w.os
  tape : w'.tape = w.tape
  output : w'.output = w.output

theorem Grew.alloc (w : World) (o : Obj) : Grew w o (w.alloc o) := ⟨rfl, rfl, rfl, rfl⟩
theorem Grew.drew (w : World) (o : Obj) : Grew w o (w.drew.alloc o) := ⟨rfl, rfl, rfl, rfl⟩

section
variable {o : Obj} {w' : World}
theorem Grew.old (h : Grew w o w') {g : Nat} (hg : g < w.heap.size) : w'.heap[g]? = w.heap[g]? := by
  rw [h.heap, Array.getElem?_push, if_neg (by omega)]
theorem Grew.new (h : Grew w o w') : w'.heap[w.heap.size]? = some o := by
  rw [h.heap, Array.getElem?_push, if_pos rfl]
theorem Grew.size (h : Grew w o w') : w'.heap.size = w.heap.size + 1 := by rw [h.heap]; simp

theorem Grew.row {cs : Array Value} {e : TypeId} {fr : Nat × Nat} (h : Grew w (.cells cs e fr) w') : rowAt w' w.heap.size 0 cs.toList := by
  intro i hi
  simp only [World.cell?, h.new, Nat.zero_add]
  simp at hi ⊢


theorem Grew.room {cs : Array Value} {e : TypeId} {fr : Nat × Nat} (h : Grew w (.cells cs e fr) w') (hf : fr = (0, 0) ∨ cs.size ≤ fr.1) : room w' w.heap.size cs.size := by
  intro k hk
  simp only [World.cell?, World.frozen?, h.new]
  refine ⟨by simp [hk], ?_⟩
  rcases hf with rfl | hf
  · simp
  · obtain ⟨lo, hi⟩ := fr
    simp only at hf ⊢
    have : ¬ lo ≤ k := by omega
    simp [this]

/-- A new block. -/
theorem Grew.turned (h : Grew w o w') (hp : Hp F μ H nx w) (B : Blk) (hB : B ≠ .dead) : Turned F μ H nx w [] nx (some w.heap.size) B (nx + 1) w' where
  hp := hp
  os := h.os
  tape := h.tape
  output := h.output
  size := by rw [h.size]; omega
  keep := fun g hg _ => h.old hg
  at_ := fun g hg => by cases hg; exact .inr ⟨Nat.le_refl _, by rw [h.size]; omega⟩
  mono := by omega
  lt := by omega
  live := hB
  kind := fun hb => absurd hb (by omega)
  self := fun _ hl => absurd (hp.dead nx (Nat.le_refl _)) hl

end

/-- What else is known of an operation: which blocks it leaves alone. -/
def Fine (ρ : Operand → Value) (op : Op) (w w' : World) : Prop :=
  match op with
  | .alloc _ | .box .. | .buildSlice .. | .makeSlice .. | .range .. | .convert .. => Keep (fun _ => False) w w'
  | .store _ x _ => ∀ X : Nat → Prop, (∀ g o, ρ x = .pointer (some ⟨g, o, none⟩) → X g) → Keep X w w'
  | _ => True

theorem Fine.new {ρ : Operand → Value} {op : Op} {w w' : World} (h : Keep (fun _ => False) w w') : Fine ρ op w w' := by
  cases op <;> first | trivial | exact h | exact fun X _ => ⟨h.size, fun g hg _ => h.keep g hg (fun x => x)⟩

theorem Grew.fine {w w' : World} {o : Obj} (h : Grew w o w') {ρ : Operand → Value} {op : Op} : Fine ρ op w w' :=
  .new ⟨by rw [h.size]; omega, fun g hg _ => h.old hg⟩

/-- What an operation that makes or writes memory comes to. -/
def EffOK (P : Program) {T : Tb} (F : Frm T) (μ : Nat → Option Nat) (S : St) (w : World) (ρ : Operand → Value) (op : Op) {α : Type} (K : AV → St → Option α) (r : α) : Prop :=
  ∃ v S' μ' w' kl, K v S' = some r ∧ S'.E = killsE kl S.E ∧ S'.kl = S.kl ++ kl ∧ Hp F μ' S'.H S'.nx w' ∧ Pl F μ S.H S.nx w kl μ' S'.H S'.nx w' ∧
    ∃ val, (∀ o : Oper, o.op = op → (execOp ρ o).run P w = .ok (.value val) w' ∨ ((execOp ρ o).run P w = .ok .skip w' ∧ val = undef)) ∧ RelV w' (Not F μ' S'.H) μ' S'.H v val ∧ Fine ρ op w w'

/-- A new block of variables. -/
theorem eff_vars {S : St} {ρ : Operand → Value} {op : Op} {K : AV → St → Option α} {cs : List AV} {vs : List Value} {e : TypeId} {w' : World} (hp : Hp F μ S.H S.nx w)
    (hr : RelVs w (Not F μ S.H) μ S.H cs vs) (hg : Grew w (.cells vs.toArray e) w')
    (hK : K (.ptr S.nx 0) ⟨S.E, updH S.H S.nx (.vars cs), S.nx + 1, S.kl⟩ = some r)
    (hrun : ∀ o : Oper, o.op = op → (execOp ρ o).run P w = .ok (.value (.pointer (some ⟨w.heap.size, 0, none⟩))) w') : EffOK P F μ S w ρ op K r := by
  have T := hg.turned hp (.vars cs) (by simp)
  have hrow := hg.row
  have hroom := hg.room (.inl rfl)
  have hp' := T.hp' (by
    simp only [RelB]
    refine ⟨w.heap.size, vs, updM_same _ _ _, T.trs cs vs hr, by simpa using hrow, by simpa using hroom⟩)
  refine ⟨_, _, updM μ S.nx (some w.heap.size), w', [], hK, rfl, by simp, hp', T.pl, .pointer (some ⟨w.heap.size, 0, none⟩), fun o ho => .inl (hrun o ho), ?_⟩
  simp only [RelV, updM_same, updH_same]
  exact ⟨⟨by simp, _, rfl, rfl⟩, hg.fine⟩

/-- Rows of data in a new block. -/
theorem rows_new {t : Ty} {l : List t.den} {cs : List Value} {w' : World} {g : Nat} (hrow : rowAt w' g 0 cs)
    (hd : ∀ i, (h : i < l.length) → i * t.size + t.size ≤ cs.length ∧ RelD w' N t l[i] ((cs.drop (i * t.size)).take t.size)) :
    ∀ i, (h : i < l.length) → ∃ es, es.length = t.size ∧ rowAt w' g (i * t.size) es ∧ RelD w' N t l[i] es := by
  intro i hi
  obtain ⟨h1, h2⟩ := hd i hi
  refine ⟨_, by simp; omega, ?_, h2⟩
  have := rowAt_sub hrow (i * t.size) t.size
  simpa using this

/-- A new block of data: whole slice. -/
theorem eff_data {S : St} {ρ : Operand → Value} {op : Op} {K : AV → St → Option α} {t : Ty} {l : List t.den} {cs : List Value} {e : TypeId} {fr : Nat × Nat} {c : Nat} {w' : World} (hp : Hp F μ S.H S.nx w)
    (hg : Grew w (.cells cs.toArray e fr) w') (hf : fr = (0, 0) ∨ cs.length ≤ fr.1) (hc : l.length ≤ c) (hcs : c * t.size = cs.length)
    (hd : ∀ i, (h : i < l.length) → RelD w (Not F μ S.H) t l[i] ((cs.drop (i * t.size)).take t.size))
    (hK : K (.wh S.nx) ⟨S.E, updH S.H S.nx (.data t l), S.nx + 1, S.kl⟩ = some r)
    (hrun : ∀ o : Oper, o.op = op → (execOp ρ o).run P w = .ok (.value (.slice (some ⟨w.heap.size, 0, none⟩) l.length c)) w') : EffOK P F μ S w ρ op K r := by
  have T := hg.turned hp (.data t l) (by simp)
  have hrow := hg.row
  have hroom := hg.room (by simpa using hf)
  simp only [List.size_toArray] at hroom
  have hle : ∀ k, k ≤ c → k * t.size ≤ cs.length := fun k hk => by rw [← hcs]; exact Nat.mul_le_mul_right _ hk
  have hp' := T.hp' (by
    simp only [RelB]
    refine .inr ⟨w.heap.size, updM_same _ _ _, fun k hk => hroom k (Nat.lt_of_lt_of_le hk (hle _ hc)), rows_new (by simpa using hrow) fun i hi => ⟨?_, (hd i hi).keep T.keepN T.notN⟩⟩
    have := hle (i + 1) (by omega)
    rw [Nat.add_mul] at this
    omega)
  refine ⟨_, _, updM μ S.nx (some w.heap.size), w', [], hK, rfl, by simp, hp', T.pl, .slice (some ⟨w.heap.size, 0, none⟩) l.length c, fun o ho => .inl (hrun o ho), ?_⟩
  simp only [RelV]
  refine ⟨⟨t, l, updH_same _ _ _, .inl ⟨w.heap.size, c, updM_same _ _ _, rfl, hc, ?_⟩⟩, hg.fine⟩
  rw [hcs]; exact hroom

end
end Go.Ev

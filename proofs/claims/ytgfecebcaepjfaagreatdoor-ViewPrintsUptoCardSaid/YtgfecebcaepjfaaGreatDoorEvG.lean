/- append. -/
import Derived.Test.YtgfecebcaepjfaaGreatDoorEvF
namespace Go.Ev
open Go
section
variable {P : Program} {T : Tb} {F : Frm T} {μ : Nat → Option Nat} {S : St} {w : World} {α : Type} {r : α} {ρ : Operand → Value} {ρA : Operand → AV} {K : AV → St → Option α}

/-- Rows, one behind the other. -/
theorem rows_flat {N : Nat → Prop} {y : Ty} {g : Nat} : ∀ (l : List y.den) (o : Nat), (∀ i, (h : i < l.length) → ∃ es, es.length = y.size ∧ rowAt w g (o + i * y.size) es ∧ RelD w N y l[i] es) →
    ∃ cs : List Value, cs.length = l.length * y.size ∧ rowAt w g o cs ∧ ∀ i, (h : i < l.length) → RelD w N y l[i] ((cs.drop (i * y.size)).take y.size)
  | [], o, _ => ⟨[], by simp, fun i hi => absurd hi (by simp), fun i hi => absurd hi (by simp)⟩
  | d :: l, o, h => by
    obtain ⟨es, e1, e2, e3⟩ := h 0 (by simp)
    obtain ⟨cs, c1, c2, c3⟩ := rows_flat l (o + y.size) fun i hi => by
      obtain ⟨fs, f1, f2, f3⟩ := h (i + 1) (by simpa using hi)
      refine ⟨fs, f1, ?_, by simpa using f3⟩
      rw [Nat.succ_mul] at f2
      rw [show o + y.size + i * y.size = o + (i * y.size + y.size) by omega]; exact f2
    refine ⟨es ++ cs, ?_, ?_, ?_⟩
    · simp only [List.length_append, List.length_cons, e1, c1, Nat.succ_mul]; omega
    · intro i hi
      simp only [List.getElem_append]
      split
      · have := e2 i (by assumption); simpa using this
      · rename_i hn
        simp only [List.length_append] at hi
        have := c2 (i - es.length) (by omega)
        rw [show o + y.size + (i - es.length) = o + i by omega] at this
        exact this
    · intro i hi
      cases i with
      | zero => simp only [Nat.zero_mul, List.drop_zero, List.getElem_cons_zero]; rw [List.take_append_of_le_length (by omega), List.take_of_length_le (by omega)]; exact e3
      | succ i =>
        simp only [List.getElem_cons_succ]
        rw [Nat.succ_mul, List.drop_append, List.drop_of_length_le (by omega), List.nil_append, show i * y.size + y.size - es.length = i * y.size by omega]
        exact c3 i (by simpa using hi)

/-- What is appended. -/
structure Src (P : Program) (w : World) (N : Nat → Prop) (y : Ty) (xs : List y.den) (size : Nat) (x : Value) (news : List Value) : Prop where
  len : ∀ w', (Builtin.lenOf x).run P w' = .ok xs.length w'
  first : ∀ w', Agr (fun _ _ => False) w w' → (Builtin.firstCells size xs.length x).run P w' = .ok news.toArray w'
  size : news.length = xs.length * y.size
  rel : ∀ i, (h : i < xs.length) → RelD w N y xs[i] ((news.drop (i * y.size)).take y.size)

theorem src_slice {N : Nat → Prop} {y : Ty} {xs : List y.den} {x : Value} (h : SlRow w N y xs x) : ∃ news, Src P w N y xs y.size x news := by
  obtain ⟨a, c, rfl, _, hr⟩ := h
  cases xs with
  | nil =>
    refine ⟨[], ⟨fun w' => by simp [Builtin.lenOf], fun w' _ => ?_, by simp, fun i hi => absurd hi (by simp)⟩⟩
    cases a <;> simp [Builtin.firstCells, loadCells, loadCellsFrom]
  | cons d l =>
    obtain ⟨g, o, rfl, hg, hrow⟩ := hr (by simp)
    obtain ⟨cs, c1, c2, c3⟩ := rows_flat (d :: l) o hrow
    refine ⟨cs, ⟨fun w' => by simp [Builtin.lenOf], fun w' hw => ?_, c1, c3⟩⟩
    have := run_cells (P := P) (hw.row (fun _ _ _ x => x) c2)
    rw [c1] at this
    simpa [Builtin.firstCells] using this

theorem src_string {N : Nat → Prop} (l : List UInt8) : ∃ news, Src P w N .u8 l 1 (.string ⟨l.toArray⟩) news := by
  refine ⟨l.map fun b => .int .u8 (b.toNat : Int), ⟨fun w' => by simp [Builtin.lenOf, ByteArray.size], fun w' _ => ?_, by simp [Ty.size], fun i hi => ?_⟩⟩
  · simp only [Builtin.firstCells, Sem.run_pure, ByteArray.extract_mk, List.drop_zero, Nat.sub_zero, List.take_length]
    refine congrArg (fun z => Result.ok z w') ?_
    apply Array.ext'; simp
  · simp only [Ty.size, Nat.mul_one, RelD]
    rw [← List.map_drop, ← List.map_take]
    have hdr : (l.drop i).take 1 = [l[i]] := by rw [List.drop_eq_getElem_cons hi]; rfl
    rw [hdr]; rfl

theorem itemsOrStr_ok (hp : Hp F μ S.H S.nx w) {t : Ty} {x : AV} {v : Value} {K : List t.den → Option α} (hx : RelV w (Not F μ S.H) μ S.H x v) (h : evEff.itemsOrStr S.H t x K = some r) :
    ∃ l, K l = some r ∧ ∃ news, Src P w (Not F μ S.H) t l t.size v news := by
  unfold evEff.itemsOrStr at h
  split at h
  · simp only [RelV] at hx; subst hx
    exact ⟨_, h, src_string _⟩
  · obtain ⟨l, hK, hrow⟩ := items_ok hp hx h
    exact ⟨l, hK, src_slice hrow⟩

/-- An append with room. -/
def inPlace (P : Program) (w : World) (base : Option Addr) (off : Nat) (news : List Value) (n c : Nat) : Result Value :=
  match base with
  | none => .ok (.slice none n c) w
  | some a => ((storeCells (a.add off) news).run P w).andThen fun _ w' => .ok (.slice (some a) n c) w'

theorem encc_ok : ∀ (t : Ty) (x : t.den), (encc t x).all okCell = true
  | .int _, _ => rfl | .u8, _ => rfl | .bool, _ => rfl | .str, _ => rfl | .sl _, _ => rfl | .unit, _ => rfl
  | .pair a b, p => by simp only [encc, List.all_append, encc_ok a, encc_ok b, Bool.and_self]

/-- The run of an append. -/
theorem run_append_gen {N : Nat → Prop} {t t2 ty e : TypeId} {y : Ty} {xs : List y.den} {x : Value} {news : List Value} {i : TypeInfo} {z : Value} (hu : P.underlying t = some (.slice e)) {d2 : TypeDesc} (h2 : P.underlying t2 = some d2) (h2' : d2 = .string ∨ ∃ e', d2 = .slice e')
    (hi : P.info? e = some i) (hz : i.zero = some z) (hsz : i.size = y.size) (hb1 : 1 ≤ i.bytes) (src : Src P w N y xs y.size x news) (base : Option Addr) (sLen sCap : Nat) (olds : List Value)
    (hold : ∀ w', Agr (fun _ _ => False) w w' → (Builtin.firstCells y.size sLen (.slice base sLen sCap)).run P w' = .ok olds.toArray w') (hroom : (sLen + xs.length) * i.bytes ≤ 140737488355328) :
    (Builtin.append_ #[t, t2] ty #[.slice base sLen sCap, x]).run P w =
      if sLen + xs.length ≤ sCap then inPlace P w base (sLen * y.size) news (sLen + xs.length) sCap
      else .ok (.slice (some ⟨w.heap.size, 0, none⟩) (sLen + xs.length) (grownCap w (sLen + xs.length) sCap e))
        (w.drew.alloc (.cells (olds.toArray ++ news.toArray ++ Builtin.zeroCells z.cells (grownCap w (sLen + xs.length) sCap e - (sLen + xs.length))) e)) := by
  have hlen := src.len w
  by_cases hc : sLen + xs.length ≤ sCap
  · rw [if_pos hc]
    unfold inPlace
    cases base with
    | none => rcases h2' with rfl | ⟨e', rfl⟩ <;> simp [Builtin.append_, run_underlying hu, run_underlying h2, run_sizeOf hi, hlen, hc, hsz, src.first w (Agr.refl w)]
    | some a => rcases h2' with rfl | ⟨e', rfl⟩ <;> simp [Builtin.append_, run_underlying hu, run_underlying h2, run_sizeOf hi, hlen, hc, hsz, src.first w (Agr.refl w)]
  · rw [if_neg hc]
    have hfit := growslice_fits (bytes := i.bytes) (need := sLen + xs.length) (old := sCap) (by omega) hroom
    have h48 : ¬ (281474976710656 < Builtin.nextslicecap (sLen + xs.length) sCap * i.bytes) := by omega
    have hb0 : ¬ i.bytes = 0 := by omega
    have hagr : Agr (fun _ _ => False) w w.drew := ⟨fun _ _ _ _ h => h⟩
    have ho := hold w.drew hagr
    have hf := src.first w.drew hagr
    rcases h2' with rfl | ⟨e', rfl⟩
    · simp [Builtin.append_, run_underlying hu, run_underlying h2, run_sizeOf hi, typeInfo, zeroValue, hi, hz, hlen, hc, hsz, h48, hb0, Question.forced, ho, hf, newRow, grownCap]
      congr 2
      apply Array.ext'
      simp [List.append_assoc]
    · simp [Builtin.append_, run_underlying hu, run_underlying h2, run_sizeOf hi, typeInfo, zeroValue, hi, hz, hlen, hc, hsz, h48, hb0, Question.forced, ho, hf, newRow, grownCap]
      congr 2
      apply Array.ext'
      simp [List.append_assoc]

/-- An append, and the block that it leaves: b, new or turned. -/
theorem eff_append_core (hp : Hp F μ S.H S.nx w) {t t2 _ty e : TypeId} {y : Ty} {xs l0 : List y.den} {sO xO : Operand} {news : List Value} {op : Op} {i : TypeInfo} {z : Value} (hu : P.underlying t = some (.slice e)) {d2 : TypeDesc} (h2 : P.underlying t2 = some d2) (h2' : d2 = .string ∨ ∃ e', d2 = .slice e')
    (hi : P.info? e = some i) (hz : i.zero = some z) (hzs : z.cells.size = y.size) (hsz : i.size = y.size) (hb1 : 1 ≤ i.bytes) (src : Src P w (Not F μ S.H) y xs y.size (ρ xO) news)
    {b nx' : Nat} {kl : List Nat} (hb : (b = S.nx ∧ kl = [] ∧ nx' = S.nx + 1 ∧ ρ sO = .slice none 0 0 ∧ l0 = []) ∨
      (S.H b ≠ .dead ∧ kl = [b] ∧ nx' = S.nx ∧ ((μ b = none ∧ ρ sO = .slice none 0 0 ∧ l0 = []) ∨ ∃ g c, μ b = some g ∧ ρ sO = .slice (some ⟨g, 0, none⟩) l0.length c ∧ l0.length ≤ c ∧ room w g (c * y.size) ∧
        ∀ i, (h : i < l0.length) → ∃ es, es.length = y.size ∧ rowAt w g (i * y.size) es ∧ RelD w (Not F μ S.H) y l0[i] es)))
    (hroom : (l0.length + xs.length) * i.bytes ≤ 140737488355328)
    (hop : ∀ o : Oper, o.op = op → (execOp ρ o).run P w = ((Builtin.append_ #[t, t2] o.type #[ρ sO, ρ xO]).run P w).andThen fun v w' => .ok (.value v) w')
    (hK : K (.wh b) ⟨killsE kl S.E, updH (killsH kl S.H) b (.data y (l0 ++ xs)), nx', S.kl ++ kl⟩ = some r) (hfn : ∀ w', Fine P ρ op w w') : EffOK P F μ S w ρ op K r := by
  have hbn : b < nx' := by
    rcases hb with ⟨rfl, _, rfl, _⟩ | ⟨hl, _, rfl, _⟩
    · omega
    · rcases Nat.lt_or_ge b S.nx with h | h
      · exact h
      · exact absurd (hp.dead b h) hl
  -- what the block's step is, whatever the world
  have mk : ∀ (g' : Option Nat) (w' : World), w'.os = w.os → w'.tape = w.tape → w'.output = w.output → w.heap.size ≤ w'.heap.size → (∀ g, g < w.heap.size → (S.H b ≠ .dead → μ b ≠ some g) → w'.heap[g]? = w.heap[g]?) →
      (∀ g, g' = some g → (S.H b ≠ .dead ∧ μ b = some g) ∨ (w.heap.size ≤ g ∧ g < w'.heap.size)) → Turned F μ S.H S.nx w kl b g' (.data y (l0 ++ xs)) nx' w' := fun g' w' e1 e2 e3 e4 e5 e6 =>
    { hp := hp, os := e1, tape := e2, output := e3, size := e4, keep := e5, at_ := e6, lt := hbn, live := by simp
      mono := by rcases hb with ⟨_, _, rfl, _⟩ | ⟨_, _, rfl, _⟩ <;> omega
      kind := fun _ => Pin.zero rfl
      self := fun hk hl => by
        rcases hb with ⟨rfl, _, _, _⟩ | ⟨_, rfl, _, _⟩
        · exact absurd (hp.dead _ (Nat.le_refl _)) hl
        · simp [hasN] at hk }
  -- the end, once the world and the value are known
  have fin : ∀ (g' : Option Nat) (w' : World) (T : Turned F μ S.H S.nx w kl b g' (.data y (l0 ++ xs)) nx' w') (val : Value),
      (∀ ty, (Builtin.append_ #[t, t2] ty #[ρ sO, ρ xO]).run P w = .ok val w') →
      RelB w' (Not F (updM μ b g') (updH (killsH kl S.H) b (.data y (l0 ++ xs)))) (updM μ b g') (updH (killsH kl S.H) b (.data y (l0 ++ xs))) b (.data y (l0 ++ xs)) →
      ((∃ g c, g' = some g ∧ val = .slice (some ⟨g, 0, none⟩) (l0 ++ xs).length c ∧ (l0 ++ xs).length ≤ c ∧ room w' g (c * y.size)) ∨ (g' = none ∧ l0 ++ xs = [] ∧ val = .slice none 0 0)) → EffOK P F μ S w ρ op K r := by
    intro g' w' T val hrun hrel hval
    refine ⟨_, _, updM μ b g', w', kl, hK, rfl, rfl, T.hp' hrel, T.pl, val, fun o ho => .inl ?_, ?_⟩
    · rw [hop o ho, hrun]; rfl
    · simp only [RelV]
      refine ⟨⟨y, l0 ++ xs, updH_same _ _ _, ?_⟩, hfn w'⟩
      rw [updM_same]
      exact hval
  have hxl : news.length = xs.length * y.size := src.size
  -- a new row
  have grow : ∀ (base : Option Addr) (sCap : Nat) (olds : List Value), ρ sO = .slice base l0.length sCap → olds.length = l0.length * y.size →
      (∀ w', Agr (fun _ _ => False) w w' → (Builtin.firstCells y.size l0.length (.slice base l0.length sCap)).run P w' = .ok olds.toArray w') →
      (∀ i, (h : i < l0.length) → RelD w (Not F μ S.H) y l0[i] ((olds.drop (i * y.size)).take y.size)) → ¬ l0.length + xs.length ≤ sCap → EffOK P F μ S w ρ op K r := by
    intro base sCap olds hs ho hold hrel hc
    let cap := grownCap w (l0.length + xs.length) sCap e
    have hcap : l0.length + xs.length ≤ cap := grownCap_ge w _ _ e
    let cells : Array Value := olds.toArray ++ news.toArray ++ Builtin.zeroCells z.cells (cap - (l0.length + xs.length))
    have hcs : cells.size = cap * y.size := by
      simp only [cells, Array.size_append, List.size_toArray, size_zeroCells, ho, hxl, hzs]
      rw [Nat.sub_mul, Nat.add_mul]
      have := Nat.mul_le_mul_right y.size hcap
      rw [Nat.add_mul] at this
      omega
    have hg : Grew w (.cells cells e) (w.drew.alloc (.cells cells e)) := Grew.drew w _
    have T := mk (some w.heap.size) (w.drew.alloc (.cells cells e)) rfl rfl rfl (by rw [hg.size]; omega) (fun g hgl _ => hg.old hgl) (fun g hgg => by cases hgg; exact .inr ⟨Nat.le_refl _, by rw [hg.size]; omega⟩)
    have hroom' := hg.room (.inl rfl)
    rw [hcs] at hroom'
    refine fin _ _ T _ (fun ty => by rw [hs, run_append_gen hu h2 h2' hi hz hsz hb1 src base l0.length sCap olds hold hroom, if_neg hc]) ?_ (.inl ⟨w.heap.size, cap, rfl, by simp [cap], by simpa using hcap, hroom'⟩)
    simp only [RelB]
    refine .inr ⟨w.heap.size, updM_same _ _ _, fun k hk => hroom' k (Nat.lt_of_lt_of_le hk (Nat.mul_le_mul_right _ (by simpa using hcap))), rows_new hg.row fun j hj => ?_⟩
    simp only [List.length_append] at hj
    have hle : j * y.size + y.size ≤ (l0.length + xs.length) * y.size := by rw [← Nat.succ_mul]; exact Nat.mul_le_mul_right _ hj
    have hle2 := Nat.mul_le_mul_right y.size hcap
    refine ⟨by rw [Array.length_toList, hcs]; omega, ?_⟩
    have hcl : cells.toList = olds ++ (news ++ (Builtin.zeroCells z.cells (cap - (l0.length + xs.length))).toList) := by simp [cells]
    rw [hcl]
    by_cases hj0 : j < l0.length
    · have h3 : j * y.size + y.size ≤ l0.length * y.size := by rw [← Nat.succ_mul]; exact Nat.mul_le_mul_right _ hj0
      rw [List.getElem_append_left hj0, List.drop_append_of_le_length (by omega), List.take_append_of_le_length (by simp; omega)]
      exact (hrel j hj0).keep T.keepN T.notN
    · have h3 : (j - l0.length) * y.size + y.size ≤ xs.length * y.size := by rw [← Nat.succ_mul]; exact Nat.mul_le_mul_right _ (by omega)
      have h4 : j * y.size = l0.length * y.size + (j - l0.length) * y.size := by rw [← Nat.add_mul]; congr 1; omega
      rw [List.getElem_append_right (by omega), List.drop_append, List.drop_of_length_le (by omega), List.nil_append, show j * y.size - olds.length = (j - l0.length) * y.size by omega,
        List.drop_append_of_le_length (by omega), List.take_append_of_le_length (by simp; omega)]
      exact (src.rel (j - l0.length) (by omega)).keep T.keepN T.notN
  -- a nil slice
  have nil : ρ sO = .slice none 0 0 → l0 = [] → (S.H b ≠ .dead → μ b = none) → EffOK P F μ S w ρ op K r := by
    intro hs hl0 hbm
    by_cases hx0 : xs.length = 0
    · have hxs : xs = [] := List.length_eq_zero_iff.1 hx0
      have T := mk none w rfl rfl rfl (Nat.le_refl _) (fun _ _ _ => rfl) (fun g hg => by cases hg)
      refine fin none w T (.slice none 0 0) (fun ty => ?_) (by simp only [RelB]; exact .inl ⟨updM_same _ _ _, by simp [hl0, hxs]⟩) (.inr ⟨rfl, by simp [hl0, hxs], rfl⟩)
      have := run_append_gen (ty := ty) hu h2 h2' hi hz hsz hb1 src none 0 0 [] (fun w' _ => by simp [Builtin.firstCells]) (by simpa [hl0] using hroom)
      rw [hs, this, if_pos (by omega)]
      simp [inPlace, hx0]
    · have hl00 : l0.length = 0 := by simp [hl0]
      refine grow none 0 [] (by rw [hs, hl00]) (by rw [hl00]; simp) (fun w' _ => by rw [hl00]; simp [Builtin.firstCells]) (fun i hi => by omega) (by omega)
  rcases hb with ⟨rfl, rfl, rfl, hs, hl0⟩ | ⟨hl, rfl, rfl, ⟨hm, hs, hl0⟩ | ⟨g, c, hm, hs, hlc, hrm, hrows⟩⟩
  · exact nil hs hl0 fun h => absurd (hp.dead _ (Nat.le_refl _)) h
  · exact nil hs hl0 fun _ => hm
  · obtain ⟨olds, o1, o2, o3⟩ := rows_flat l0 0 (by simpa using hrows)
    have hold : ∀ w', Agr (fun _ _ => False) w w' → (Builtin.firstCells y.size l0.length (.slice (some ⟨g, 0, none⟩) l0.length c)).run P w' = .ok olds.toArray w' := fun w' hw => by
      have := run_cells (P := P) (hw.row (fun _ _ _ x => x) o2)
      rw [o1] at this
      simpa [Builtin.firstCells] using this
    by_cases hc : l0.length + xs.length ≤ c
    · -- in place
      have hnb : ∀ v ∈ news, v.oneCell' = true := by
        intro v hv
        obtain ⟨j, hj⟩ := List.getElem?_of_mem hv
        obtain ⟨hjl, hjv⟩ := List.getElem?_eq_some_iff.1 hj
        have hpos : 0 < y.size := by
          rcases Nat.eq_zero_or_pos y.size with h0 | h0
          · rw [hxl, h0] at hjl; simp at hjl
          · exact h0
        have hq : j / y.size < xs.length := by rw [Nat.div_lt_iff_lt_mul hpos]; omega
        have hrel := RelVs_encc (μ := μ) (H := S.H) (src.rel (j / y.size) hq)
        have hok : (encc y xs[j / y.size]).all okCell = true := encc_ok _ _
        refine okCells_one hrel hok v ?_
        have hmod := Nat.mod_lt j hpos
        have hdm := Nat.div_add_mod j y.size
        have : ((news.drop (j / y.size * y.size)).take y.size)[j % y.size]? = some v := by
          rw [List.getElem?_take_of_lt hmod, List.getElem?_drop, Nat.mul_comm, hdm]; exact hj
        exact List.mem_of_getElem? this
      have hmul : (l0.length + xs.length) * y.size ≤ c * y.size := Nat.mul_le_mul_right _ hc
      rw [Nat.add_mul] at hmul
      obtain ⟨w', hrun, hS⟩ := run_storeCells (P := P) news w g (l0.length * y.size) 0 hnb (fun k hk => by rw [Nat.add_zero]; exact hrm _ (by omega))
      rw [Nat.add_zero] at hS
      have T := mk (some g) w' hS.os hS.tape hS.output (Nat.le_of_eq hS.size.symm) (fun k _ hne => hS.heap k fun e => hne hl (by rw [e]; exact hm)) (fun k hk => by cases hk; exact .inl ⟨hl, hm⟩)
      refine fin (some g) w' T (.slice (some ⟨g, 0, none⟩) (l0 ++ xs).length c) (fun ty => ?_) ?_ (.inl ⟨g, c, rfl, rfl, by simpa using hc, hS.room hrm⟩)
      · rw [hs, run_append_gen hu h2 h2' hi hz hsz hb1 src (some ⟨g, 0, none⟩) l0.length c olds hold hroom, if_pos hc]
        simp [inPlace, add_none, hrun]
      · simp only [RelB]
        refine .inr ⟨g, updM_same _ _ _, fun k hk => hS.room hrm k (by simp only [List.length_append, Nat.add_mul] at hk; omega), fun j hj => ?_⟩
        simp only [List.length_append] at hj
        by_cases hj0 : j < l0.length
        · obtain ⟨es, e1, e2, e3⟩ := hrows j hj0
          have h3 : j * y.size + y.size ≤ l0.length * y.size := by rw [← Nat.succ_mul]; exact Nat.mul_le_mul_right _ hj0
          refine ⟨es, e1, hS.row e2 (.inl (by omega)), ?_⟩
          rw [List.getElem_append_left hj0]
          exact e3.keep T.keepN T.notN
        · have h4 : j * y.size = l0.length * y.size + (j - l0.length) * y.size := by rw [← Nat.add_mul]; congr 1; omega
          have h3 : (j - l0.length) * y.size + y.size ≤ xs.length * y.size := by rw [← Nat.succ_mul]; exact Nat.mul_le_mul_right _ (by omega)
          refine ⟨(news.drop ((j - l0.length) * y.size)).take y.size, by simp; omega, ?_, ?_⟩
          · rw [h4]; exact rowAt_sub hS.rowNew _ _
          · rw [List.getElem_append_right (by omega)]
            exact (src.rel (j - l0.length) (by omega)).keep T.keepN T.notN
    · exact grow (some ⟨g, 0, none⟩) c olds hs o1 hold o3 hc

theorem zero_row (z : Array Value) (n i : Nat) (hi : i < n) : ((Builtin.zeroCells z n).toList.drop (i * z.size)).take z.size = z.toList := made_row z n i hi

theorem eff_clear (hp : Hp F μ S.H S.nx w) (hρ : ∀ x, RelG w (Not F μ S.H) μ S.H ρ (ρA x) (ρ x)) {C : Calling} {args : Array Operand} {ts : Array TypeId} (h : evEff P C (.call ⟨.builtin .clear, args, ts⟩) ρA S K = some r) :
    EffOK P F μ S w ρ (.call ⟨.builtin .clear, args, ts⟩) K r := by
  simp only [evEff] at h
  split at h
  · rename_i x t ha ht
    have ha' : args = #[x] := by apply Array.ext'; simpa using ha
    have ht' : ts = #[t] := by apply Array.ext'; simpa using ht
    subst ha'; subst ht'
    split at h
    · rename_i e y he
      have hu := elemTy_und he
      obtain ⟨h1, h2⟩ := cond_some h
      simp only [Bool.and_eq_true] at h1
      obtain ⟨i, hi, hsz⟩ := szOK_info h1.1
      obtain ⟨i', z, cs, hi', hz, h3, hr⟩ := zero_info (w := w) (μ := μ) (N := Not F μ S.H) (H := S.H) h2
      rw [hi] at hi'; cases hi'
      obtain ⟨d, rest, es, us, h4, h5, h6, h7⟩ := dec_ok hr h3
      cases rest with
      | cons _ _ => simp at h4
      | nil =>
        simp only [RelVs] at h7
        subst h7
        rw [List.append_nil] at h5
        have hx := (hρ x).rel
        cases hv : ρA x <;> simp only [hv, reduceCtorEq] at h4 hx
        rename_i b lo n
        simp only [RelV] at hx
        obtain ⟨t', l, hB, hle, hx⟩ := hx
        simp only [hB] at h4
        split at h4
        · rename_i hty
          subst hty
          simp only at h4
          have hzv : ∀ w', (zeroValue e).run P w' = .ok z w' := fun w' => by simp [zeroValue, typeInfo, hi, hz]
          have hzs : z.cells.size = t'.size := by have := h6.length; rw [← h5] at this; simpa using this
          have hlive : S.H b ≠ .dead := by rw [hB]; simp
          by_cases hn : n = 0
          · subst hn
            have hid : updH S.H b (.data t' (l.take lo ++ List.replicate 0 d ++ l.drop (lo + 0))) = S.H := by
              funext k
              by_cases hk : k = b
              · subst hk; rw [updH_same, hB]; simp
              · rw [updH_other hk]
            rw [hid] at h4
            refine ⟨_, _, μ, w, [], h4, rfl, by simp, hp, Pl.keep hp (Chg.refl w), .tuple #[], fun o ho => .inl ?_, by simp [RelV, RelVs], by trivial⟩
            rcases hx with ⟨g, c, o1, hg, hvv, _⟩ | ⟨_, _, hvv⟩
            · simp [execOp, ho, resolve, invoke, builtin, Builtin.clear_, run_underlying hu, hvv]
            · simp [execOp, ho, resolve, invoke, builtin, Builtin.clear_, run_underlying hu, hvv]
          · rcases hx with ⟨g, c, o1, hg, hvv, hc, hroom, hoo⟩ | ⟨_, rfl, hvv⟩
            · have ho1 : o1 = lo * t'.size := by rcases hoo with h | ⟨h, _⟩ <;> omega
              subst ho1
              have hBl := hp.blk b
              simp only [hB, RelB] at hBl
              rcases hBl with ⟨hm, _⟩ | ⟨g', hg', _, hrows⟩
              · rw [hg] at hm; cases hm
              rw [hg] at hg'; cases hg'
              have hlen : (Builtin.zeroCells z.cells n).toList.length = n * t'.size := by simp [size_zeroCells, hzs]
              have hmul : (lo + n) * t'.size ≤ c * t'.size := Nat.mul_le_mul_right _ (by omega)
              rw [Nat.add_mul] at hmul
              have hone : ∀ v ∈ z.cells.toList, v.oneCell' = true := okCells_one (μ := μ) (H := S.H) (cs := encc t' d) (by rw [h5]; exact RelVs_encc h6) (encc_ok _ _)
              have hone' : ∀ v ∈ (Builtin.zeroCells z.cells n).toList, v.oneCell' = true := fun v hv => by
                simp only [Builtin.zeroCells, Array.toList_map, List.mem_map, Array.toList_range, List.mem_range] at hv
                obtain ⟨k, hk, rfl⟩ := hv
                have hp0 : 0 < z.cells.size := by
                  rcases Nat.eq_zero_or_pos z.cells.size with h0 | h0
                  · rw [h0] at hk; simp at hk
                  · exact h0
                have hlt := Nat.mod_lt k hp0
                rw [getElem!_pos z.cells _ hlt]
                exact hone _ (Array.getElem_mem_toList hlt)
              obtain ⟨w', hrun, hS⟩ := run_storeCells (P := P) (Builtin.zeroCells z.cells n).toList w g (lo * t'.size) 0 hone' (fun k hk => by rw [Nat.add_zero]; exact hroom _ (by omega))
              rw [Nat.add_zero] at hS
              have hnl : (l.take lo ++ List.replicate n d ++ l.drop (lo + n)).length = l.length := by simp; omega
              have T := Turned.store (B := .data t' (l.take lo ++ List.replicate n d ++ l.drop (lo + n))) hp hlive hg hS (by simp) (by rw [hB]; exact ⟨rfl, hnl⟩)
              refine ⟨_, _, updM μ b (some g), w', [], h4, rfl, by simp, T.hp' ?_, T.pl, .tuple #[], fun o ho => .inl ?_, by simp [RelV, RelVs], by trivial⟩
              · simp only [RelB]
                refine .inr ⟨g, updM_same _ _ _, fun k hk => hS.room hroom k (by rw [hnl] at hk; exact Nat.lt_of_lt_of_le hk (Nat.mul_le_mul_right _ hc)), fun k hk => ?_⟩
                rw [hnl] at hk
                by_cases hk1 : k < lo
                · obtain ⟨es', e1, e2, e3⟩ := hrows k hk
                  have hm : (k + 1) * t'.size ≤ lo * t'.size := Nat.mul_le_mul_right _ hk1
                  rw [Nat.succ_mul] at hm
                  refine ⟨es', e1, hS.row e2 (.inl (by omega)), ?_⟩
                  have hge : (l.take lo ++ List.replicate n d ++ l.drop (lo + n))[k]'(by rw [hnl]; exact hk) = l[k] := by
                    rw [List.getElem_append_left (by simp; omega), List.getElem_append_left (by simp; omega), List.getElem_take]
                  rw [hge]
                  exact e3.keep T.keepN T.notN
                · by_cases hk2 : k < lo + n
                  · refine ⟨z.cells.toList, by simp [hzs], ?_, ?_⟩
                    · have hsub := rowAt_sub hS.rowNew ((k - lo) * t'.size) t'.size
                      rw [← hzs, zero_row z.cells n (k - lo) (by omega), hzs] at hsub
                      rw [← Nat.add_mul, show lo + (k - lo) = k by omega] at hsub
                      exact hsub
                    · have hge : (l.take lo ++ List.replicate n d ++ l.drop (lo + n))[k]'(by rw [hnl]; exact hk) = d := by
                        rw [List.getElem_append_left (by simp; omega), List.getElem_append_right (by simp; omega), List.getElem_replicate]
                      rw [hge, h5]
                      exact h6.keep T.keepN T.notN
                  · obtain ⟨es', e1, e2, e3⟩ := hrows k hk
                    have hm : (lo + n) * t'.size ≤ k * t'.size := Nat.mul_le_mul_right _ (by omega)
                    rw [Nat.add_mul] at hm
                    refine ⟨es', e1, hS.row e2 (.inr (by omega)), ?_⟩
                    have hge : (l.take lo ++ List.replicate n d ++ l.drop (lo + n))[k]'(by rw [hnl]; exact hk) = l[k] := by
                      rw [List.getElem_append_right (by simp; omega), List.getElem_drop]
                      congr 1
                      simp; omega
                    rw [hge]
                    exact e3.keep T.keepN T.notN
              · obtain ⟨m, rfl⟩ : ∃ m, n = m + 1 := ⟨n - 1, by omega⟩
                simp [execOp, ho, resolve, invoke, builtin, Builtin.clear_, run_underlying hu, hvv, hzv, hrun]
            · simp at hle; omega
        · cases h4
    · cases h
  · cases h

end
end Go.Ev

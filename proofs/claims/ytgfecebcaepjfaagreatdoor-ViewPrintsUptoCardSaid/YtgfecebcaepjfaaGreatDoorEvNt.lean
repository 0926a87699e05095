/- Functions of the library that read slices of the caller's own, or tell new ones that nothing writes. -/
import Derived.Test.YtgfecebcaepjfaaGreatDoorEvNs
import Derived.Shelf.Strings.FieldsFuncGrows
import Derived.Laws.OwnMore
import Derived.Lib.Join
namespace Go.Ev
open Go Go.Proofs

abbrev Pvr := List AV → (Nat → Blk) → Option (Bool × AV)

def PvrOK (P : Program) (f : FuncId) (g : Pvr) : Prop :=
  Enters P f ∧ ∀ args H nx v, g args H = some (true, v) → ∀ (F : Frm (tabsOf P)) μ w vals, Hp F μ H nx w → RelVs w (Not F μ H) μ H args vals →
    Calls P f vals.toArray w fun e w' => ∃ val, e = .returned val ∧ RelV w' (Not F μ H) μ H v val ∧ RowKit.Below w.heap.size w w'

def zPvr (g : Pvr) : Deed := fun args S => match g args S.H with
  | some (b, v) => some (b, v, S)
  | none => none

theorem zPvr_ok {P : Program} {f : FuncId} {g : Pvr} (h : PvrOK P f g) : ZOK P f (zPvr g) := by
  refine ⟨h.1, fun args S v S' hz F μ w vals hp hr => ?_⟩
  unfold zPvr at hz
  split at hz
  · rename_i b v' hg
    simp only [Option.some.injEq, Prod.mk.injEq] at hz
    obtain ⟨rfl, rfl, rfl⟩ := hz
    refine (h.2 args S.H S.nx v' hg F μ w vals hp hr).mono fun e w' ⟨val, h1, h2, bel⟩ => ?_
    exact ⟨μ, [], val, h1, rfl, by simp, hp.keep ⟨bel.size, fun g hg _ => bel.block g hg⟩ fun g ⟨b, hb, hg⟩ => bel.block g (hp.lt b g hb hg),
      Pl.keep hp ⟨⟨bel.size, fun g hg _ => bel.block g hg⟩, bel.os, bel.tape, bel.output⟩, h2⟩
  · cases hz

/-- a slice of the caller's own, and its cells -/
theorem wh_cells {T : Tb} {F : Frm T} {μ : Nat → Option Nat} {H : Nat → Blk} {nx : Nat} {w : World} (hp : Hp F μ H nx w) {b : Nat} {t : Ty} {l : List t.den} (hb : H b = .data t l) {v : Value} (hv : RelV w (Not F μ H) μ H (.wh b) v) (h0 : l ≠ []) :
    ∃ (g c : Nat), v = .slice (some ⟨g, 0, none⟩) l.length c ∧ l.length ≤ c ∧ g < w.heap.size ∧ ∀ i, (h : i < l.length) → ∃ es, es.length = t.size ∧ rowAt w g (i * t.size) es ∧ RelD w (Not F μ H) t (l[i]'h) es := by
  simp only [RelV] at hv
  obtain ⟨t', l', hb', hv⟩ := hv
  rw [hb] at hb'
  injection hb' with e1 e2
  subst e1
  have e2 := eq_of_heq e2
  subst e2
  rcases hv with ⟨g, c, h1, h2, h3, _⟩ | ⟨_, h2, _⟩
  · have hrow := hp.blk b
    simp only [hb, RelB] at hrow
    rcases hrow with ⟨hn, _⟩ | ⟨g', hm', _, hrows⟩
    · rw [h1] at hn; cases hn
    · rw [h1] at hm'
      cases hm'
      exact ⟨g, c, h2, h3, hp.lt b g (by rw [hb]; simp) h1, hrows⟩
  · exact absurd h2 h0

theorem own_bytes {T : Tb} {F : Frm T} {μ : Nat → Option Nat} {H : Nat → Blk} {nx : Nat} {w : World} (hp : Hp F μ H nx w) {b : Nat} {l : List UInt8} (hb : H b = .data .u8 l) {v : Value} (hv : RelV w (Not F μ H) μ H (.wh b) v) (h0 : l ≠ []) :
    ∃ (a : Addr) (c : Nat), v = .slice (some a) l.length c ∧ l.length ≤ c ∧ ∀ i, i < l.length → w.cell? (a.add i) = some (.int .u8 ((Lib.numsL l).getD i 0)) := by
  obtain ⟨g, c, h1, h2, _, h3⟩ := wh_cells (t := .u8) hp hb hv h0
  refine ⟨⟨g, 0, none⟩, c, h1, h2, fun i hi => ?_⟩
  obtain ⟨es, e1, e2, e3⟩ := h3 i hi
  simp only [RelD] at e3
  subst e3
  have := e2 0 (by simp)
  simp only [Ty.size, Nat.mul_one, Nat.add_zero, List.getElem_cons_zero] at this
  rw [add_none, Nat.zero_add, this]
  simp [Lib.numsL, hi]

/-- bytes.Index of data, by a separator of one's own -/
def pIndex : Pvr
  | [.sl .u8 l, .wh b], H => match H b with
    | .data .u8 p => some (!(List.isEmpty (α := UInt8) l) && decide (l.length < 4294967281) && !(List.isEmpty (α := UInt8) p) && decide (p.length ≤ 9223372036854775807), .i .i64 (Lib.index l p))
    | _ => none
  | _, _ => none

theorem pIndex_ok {P : Program} {f : FuncId} {g : Nat} (hen : Enters P f) (hg : globAt P "internal/bytealg.MaxLen" = some g)
    (hc : ∀ (a1 a2 : Addr) (n c1 k c2 : Nat) (xs ys : List Int) (m : Int) (w : World), xs.length = n → ys.length = k → (∀ x ∈ xs, 0 ≤ x ∧ x < 256) → (∀ y ∈ ys, 0 ≤ y ∧ y < 256) →
      (∀ i, i < n → w.cell? (a1.add i) = some (.int .u8 (xs.getD i 0))) → (∀ i, i < k → w.cell? (a2.add i) = some (.int .u8 (ys.getD i 0))) → n ≤ c1 → n < 4294967281 → k ≤ 9223372036854775807 → w.cell? ⟨g, 0, none⟩ = some (.int .i64 m) →
      Calls P f #[.slice (some a1) n c1, .slice (some a2) k c2] w fun e w' => e = .returned (.int .i64 (Lib.index (Lib.bytesOf xs) (Lib.bytesOf ys))) ∧ RowKit.Below w.heap.size w w') : ZOK P f (zPvr pIndex) := by
  refine zPvr_ok ⟨hen, fun args H nx v h F μ w vals hp hr => ?_⟩
  unfold pIndex at h
  split at h
  · rename_i l b
    split at h
    · rename_i p hb
      simp only [Option.some.injEq, Prod.mk.injEq, Bool.and_eq_true, decide_eq_true_eq, Bool.not_eq_true'] at h
      obtain ⟨⟨⟨⟨h1, h2⟩, h3⟩, h4⟩, rfl⟩ := h
      have l0 : l ≠ [] := fun e => by rw [e] at h1; cases h1
      have p0 : p ≠ [] := fun e => by rw [e] at h3; cases h3
      simp only [RelVs] at hr
      obtain ⟨v1, _, rfl, hl, v2, _, rfl, hw, rfl⟩ := hr
      have hl' : RelD w (Not F μ H) (.sl .u8) l [v1] := by simpa only [RelV] using hl
      obtain ⟨a, cc, rfl, hcc, hcell⟩ := sl_cells hl' l0
      obtain ⟨a2, c2, rfl, _, hcell2⟩ := own_bytes hp hb hw p0
      obtain ⟨m, hm⟩ := hp.tab.2 g hg
      refine (hc a a2 l.length cc p.length c2 (Lib.numsL l) (Lib.numsL p) m w (Lib.numsL_length l) (Lib.numsL_length p) (Lib.numsL_range l) (Lib.numsL_range p) hcell hcell2 hcc h2 h4 hm).mono fun e w' ⟨he, bel⟩ => ⟨_, he, ?_, bel⟩
      rw [Lib.bytesOf_numsL, Lib.bytesOf_numsL]
      simp [RelV]
    · cases h
  · cases h

/-- strings.Join of one's own texts -/
def pJoin : Pvr
  | [.wh b, .s sep], H => match H b with
    | .data .str l => some (decide (List.length (α := List UInt8) l ≤ 140737488355328) && decide ((Lib.join l sep).length ≤ 140737488355328), .s (Lib.join l sep))
    | _ => none
  | _, _ => none

theorem pJoin_ok {P : Program} {f : FuncId} (hen : Enters P f)
    (h0 : ∀ (a : Option Addr) (c : Nat) (sep : ByteArray) (w : World), Calls P f #[.slice a 0 c, .string sep] w fun e w' => e = .returned (.string ⟨#[]⟩) ∧ w' = w)
    (hc : ∀ (bk o c : Nat) (xs : List ByteArray) (sep : ByteArray) (w : World), (∀ (j : Nat) x, xs[j]? = some x → w.cell? ⟨bk, o + j, none⟩ = some (.string x)) → bk < w.heap.size → xs.length ≤ 140737488355328 → xs.length ≤ c →
      (Lib.join (xs.map (·.data.toList)) sep.data.toList).length ≤ 140737488355328 →
      Calls P f #[.slice (some ⟨bk, o, none⟩) xs.length c, .string sep] w fun e w' => e = .returned (.string ⟨(Lib.join (xs.map (·.data.toList)) sep.data.toList).toArray⟩) ∧ RowKit.Below w.heap.size w w') : ZOK P f (zPvr pJoin) := by
  refine zPvr_ok ⟨hen, fun args H nx v h F μ w vals hp hr => ?_⟩
  unfold pJoin at h
  split at h
  · rename_i b sep
    split at h
    · rename_i l hb
      simp only [Option.some.injEq, Prod.mk.injEq, Bool.and_eq_true, decide_eq_true_eq] at h
      obtain ⟨⟨h1, h2⟩, rfl⟩ := h
      simp only [RelVs] at hr
      obtain ⟨v1, _, rfl, hw, v2, _, rfl, hs, rfl⟩ := hr
      have hs' : v2 = .string ⟨sep.toArray⟩ := by simpa only [RelV] using hs
      subst hs'
      by_cases l0 : l = []
      · subst l0
        have : ∃ a c, v1 = .slice a 0 c := by
          simp only [RelV] at hw
          obtain ⟨t', l', hb', hv⟩ := hw
          rw [hb] at hb'
          injection hb' with e1 e2
          subst e1
          have e2 := eq_of_heq e2
          subst e2
          rcases hv with ⟨g, c, _, h2, _⟩ | ⟨_, _, h2⟩
          · exact ⟨_, _, h2⟩
          · exact ⟨_, _, h2⟩
        obtain ⟨a, c, rfl⟩ := this
        refine (h0 a c ⟨sep.toArray⟩ w).mono fun e w' ⟨he, hw'⟩ => ⟨_, he, ?_, hw' ▸ RowKit.Below.refl _ _⟩
        simp [RelV, Lib.join]
      · obtain ⟨g, c, rfl, hcc, hgl, hrows⟩ := wh_cells (t := .str) hp hb hw l0
        have hmap : (l.map fun x : List UInt8 => (⟨x.toArray⟩ : ByteArray)).map (·.data.toList) = l := by
          rw [List.map_map]
          conv => rhs; rw [← List.map_id l]
          exact List.map_congr_left fun x _ => by simp
        have := hc g 0 c (l.map fun x : List UInt8 => (⟨x.toArray⟩ : ByteArray)) ⟨sep.toArray⟩ w (fun j x hx => by
          rw [List.getElem?_map] at hx
          obtain ⟨y, hy, rfl⟩ := Option.map_eq_some_iff.mp hx
          obtain ⟨hj, rfl⟩ := List.getElem?_eq_some_iff.mp hy
          obtain ⟨es, e1, e2, e3⟩ := hrows j hj
          simp only [RelD] at e3
          subst e3
          have := e2 0 (by simp)
          simp only [Ty.size, Nat.mul_one, Nat.add_zero, List.getElem_cons_zero] at this
          rw [Nat.zero_add]
          exact this) hgl (by rw [List.length_map]; exact h1) (by rw [List.length_map]; exact hcc) (by rw [hmap]; simpa using h2)
        rw [List.length_map, hmap] at this
        refine this.mono fun e w' ⟨he, bel⟩ => ⟨_, he, ?_, bel⟩
        simp [RelV]
    · cases h
  · cases h

/-- strings.FieldsFunc: new texts, that nothing writes -/
def pFields (g : FuncId) (p : Nat → Bool) : Pvr
  | [.s l, .fn g' []], _ => cond (Nat.beq g' g) (some (decide (l.length ≤ 4294967296), .sl .str ((Lib.goFieldsP p ⟨l.toArray⟩).map fun x => x.data.toList))) none
  | _, _ => none

theorem pFields_ok {P : Program} {f g : FuncId} {p : Nat → Bool} {ts : TypeId} (hen : Enters P f) (hg : ∀ w, PredGrows P g #[] p w)
    (hc : ∀ (s : ByteArray) (w : World), s.size ≤ 4294967296 → PredGrows P g #[] p w →
      Calls P f #[.string s, .func (.func g) #[] #[]] w fun e w' => ∃ A, e = .returned (.slice (some ⟨A, 0, none⟩) (Lib.goFieldsP p s).length (Lib.goFieldsP p s).length) ∧ w.heap.size ≤ A ∧
        w'.ownsRow w.heap.size ts 1 (.slice (some ⟨A, 0, none⟩) (Lib.goFieldsP p s).length (Lib.goFieldsP p s).length) (Lib.goFieldsP p s).length ((Lib.goFieldsP p s).map Value.string) ∧ RowKit.Below w.heap.size w w') : ZOK P f (zPvr (pFields g p)) := by
  refine zPvr_ok ⟨hen, fun args H nx v h F μ w vals hp hr => ?_⟩
  unfold pFields at h
  split at h
  · rename_i l g'
    cases hgg : Nat.beq g' g with
    | false => rw [hgg] at h; cases h
    | true =>
    rw [hgg] at h
    have hgg := Nat.eq_of_beq_eq_true hgg
    subst hgg
    simp only [cond_true, Option.some.injEq, Prod.mk.injEq, decide_eq_true_eq] at h
    obtain ⟨h1, rfl⟩ := h
    simp only [RelVs, RelV] at hr
    obtain ⟨_, _, rfl, rfl, _, _, rfl, ⟨_, rfl, rfl⟩, rfl⟩ := hr
    refine (hc ⟨l.toArray⟩ w (by simpa [ByteArray.size] using h1) (hg w)).mono fun e w' ⟨A, he, hA, hown, bel⟩ => ⟨_, he, ?_, bel⟩
    generalize Lib.goFieldsP p ⟨l.toArray⟩ = fs at *
    unfold RelV RelD
    refine ⟨some ⟨A, 0, none⟩, fs.length, by rw [List.length_map], by rw [List.length_map]; exact Nat.le_refl _, fun h0 => ⟨A, 0, rfl, fun hN => ?_, ?_, fun i hi => ?_⟩⟩
    · rcases hN with hF | ⟨b, hb, hm⟩
      · exact absurd (hp.flt A hF) (by omega)
      · exact absurd (hp.lt b A hb hm) (by omega)
    · exact (hown.lt A rfl).2
    · have hi' : i < fs.length := by simpa using hi
      refine ⟨[.string fs[i]], rfl, fun k hk => ?_, ?_⟩
      · have hk0 : k = 0 := by simpa using hk
        subst hk0
        have := hown.cellAt i (by omega)
        simp only [Ty.size, Nat.mul_one, Nat.zero_add, Nat.add_zero, List.getElem_cons_zero]
        rw [this, List.getElem?_map, List.getElem?_eq_getElem hi']
        rfl
      · simp [RelD]
  · cases h

end Go.Ev

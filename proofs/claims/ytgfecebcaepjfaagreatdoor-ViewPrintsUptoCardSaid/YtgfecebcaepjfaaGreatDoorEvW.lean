/- Arguments that come in, read as plain data. -/
import Derived.Test.YtgfecebcaepjfaaGreatDoorEvV
import Derived.ProofKit
import Derived.DataReads
import Derived.ChangeOld
namespace Go.Ev
open Go Go.WideShapes

/-- Data that fit. -/
def fitD : (t : Ty) → t.den → Prop
  | .int k, n => (Lit.int k n).wf = true
  | .u8, _ => True
  | .bool, _ => True
  | .str, l => List.length l ≤ maxLen
  | .sl t, l => List.length l ≤ maxLen ∧ ∀ x ∈ l, fitD t x
  | .unit, _ => True
  | .pair a b, p => fitD a p.1 ∧ fitD b p.2

def layF (P : Program) (q : TypeId → Bool) : List Field → Nat → Nat → Bool
  | [], off, n => Nat.beq off n
  | f :: r, off, n => Nat.beq f.offset off && q f.type && layF P q r (off + P.cellsOf f.type) n

/-- The program lays values of a type out as we do. -/
def layB (P : Program) : Nat → TypeId → Bool
  | 0, _ => false
  | d + 1, t => match P.underlying t with
    | some (.int _) => true
    | some .bool => true
    | some .string => true
    | some (.slice e) => layB P d e && (match tyOf P d e with
        | some y => Nat.beq (P.cellsOf e) y.size && Nat.ble 1 y.size
        | none => false)
    | some (.struct fs) => layF P (layB P d) fs.toList 0 (P.cellsOf t)
    | _ => false

section
variable {P : Program} {w : World} {H : Type} {enc : TypeId × Value → H} {base : Nat} {spare : Nat → Bool} {held : Bool}

theorem mapM_idx {α β : Type} {f : α → Option β} : ∀ {l : List α} {r : List β}, l.mapM f = some r → ∀ (i : Nat) x, l[i]? = some x → ∃ y, r[i]? = some y ∧ f x = some y
  | [], r, h, i, x, hx => by simp at hx
  | a :: l, r, h, i, x, hx => by
    simp only [List.mapM_cons, Option.pure_def, Option.bind_eq_bind, Option.bind_eq_some_iff, Option.some.injEq] at h
    obtain ⟨b, h1, bs, h2, rfl⟩ := h
    cases i with
    | zero => simp at hx; subst hx; exact ⟨b, by simp, h1⟩
    | succ i => simp at hx; obtain ⟨y, h3, h4⟩ := mapM_idx h2 i x hx; exact ⟨y, by simpa using h3, h4⟩

/-- What the data of a type is said to be, for one fuel. -/
def Opens (P : Program) (w : World) (enc : TypeId × Value → H) (base : Nat) (spare : Nat → Bool) (held : Bool) (d : Nat) : Prop :=
  ∀ (fuel : Nat) (t : TypeId) (y : Ty) (cs : List Value) (x : DataW H × List MemPlace), tyOf P d t = some y → layB P d t = true → DataW.trod enc P w base spare held fuel t cs = some x → ∃ v : y.den, RelD w (fun _ => False) y v cs ∧ fitD y v

theorem open_fields {d : Nat} (ih : Opens P w enc base spare held d) {n : Nat} : ∀ (fs : List Field) (off : Nat) (y : Ty) (cs : List Value),
    fs.foldr (fun f r => match tyOf P d f.type, r with
        | some a, some b => some (Ty.pair a b)
        | _, _ => none) (some .unit) = some y →
    layF P (layB P d) fs off cs.length = true → (∀ f ∈ fs, ∃ x, DataW.trod enc P w base spare held n f.type ((cs.drop f.offset).take (P.cellsOf f.type)) = some x) →
    ∃ v : y.den, RelD w (fun _ => False) y v (cs.drop off) ∧ fitD y v
  | [], off, y, cs, hy, hl, _ => by
    simp only [List.foldr_nil, Option.some.injEq] at hy
    subst hy
    simp only [layF] at hl
    have := Nat.eq_of_beq_eq_true hl
    subst this
    exact ⟨(), by simp [RelD], trivial⟩
  | f :: fs, off, y, cs, hy, hl, hm => by
    simp only [List.foldr_cons] at hy
    cases ha : tyOf P d f.type with
    | none => simp [ha] at hy
    | some a =>
      cases hb : fs.foldr (fun f r => match tyOf P d f.type, r with
        | some a, some b => some (Ty.pair a b)
        | _, _ => none) (some .unit) with
      | none => rw [hb] at hy; simp [ha] at hy
      | some b =>
        rw [hb] at hy
        simp only [ha, Option.some.injEq] at hy
        subst hy
        simp only [layF, Bool.and_eq_true] at hl
        obtain ⟨⟨h1, h2⟩, h3⟩ := hl
        have h1 := Nat.eq_of_beq_eq_true h1
        obtain ⟨z, hz⟩ := hm f (by simp)
        rw [h1] at hz
        obtain ⟨v1, g1, g2⟩ := ih n f.type a _ z ha h2 hz
        obtain ⟨v2, g3, g4⟩ := open_fields ih fs (off + P.cellsOf f.type) b cs hb h3 fun f' hf' => hm f' (List.mem_cons_of_mem _ hf')
        refine ⟨(v1, v2), ?_, g2, g4⟩
        simp only [RelD]
        refine ⟨_, _, ?_, g1, g3⟩
        rw [← List.drop_drop, List.take_append_drop]

theorem pick_list {β : Type} {Q : Nat → β → Prop} : ∀ (n : Nat), (∀ i, i < n → ∃ x, Q i x) → ∃ l : List β, l.length = n ∧ ∀ i, (h : i < l.length) → Q i l[i]
  | 0, _ => ⟨[], rfl, fun i h => by simp at h⟩
  | n + 1, h => by
    obtain ⟨l, h1, h2⟩ := pick_list n fun i hi => h i (by omega)
    obtain ⟨x, hx⟩ := h n (by omega)
    refine ⟨l ++ [x], by simp [h1], fun i hi => ?_⟩
    simp only [List.length_append, List.length_cons, List.length_nil] at hi
    rcases Nat.lt_or_ge i l.length with hlt | hge
    · rw [List.getElem_append_left hlt]; exact h2 i hlt
    · have : i = n := by omega
      subst this
      rw [List.getElem_append_right hge]
      simpa [h1] using hx

theorem cells_row {a : Addr} {n : Nat} {es : List Value} (hs : a.spot = none) (h : w.cells? base a n = some es) : es.length = n ∧ rowAt w a.block a.off es := by
  obtain ⟨_, h1, h2⟩ := World.cells?_some h
  refine ⟨h1, fun i hi => ?_⟩
  have := h2 i (by omega)
  obtain ⟨b, o, s⟩ := a
  simp only at hs
  subst hs
  rw [add_none] at this
  rw [this]
  simp [hi]

theorem opens : ∀ d, Opens P w enc base spare held d
  | 0 => fun fuel t y cs x hy => by simp [tyOf] at hy
  | d + 1 => fun fuel t y cs x hy hl h => by
    have ih : Opens P w enc base spare held d := opens d
    unfold layB at hl
    unfold tyOf at hy
    cases hu : P.underlying t with
    | none => simp [hu] at hl
    | some u =>
      simp only [hu] at hl hy
      cases u <;> simp only [Bool.false_eq_true] at hl
      case int k =>
        obtain ⟨n, rfl, _, hw⟩ := DataW.trod_int hu h
        cases k <;> simp only [Option.some.injEq] at hy <;> subst hy
        case u8 =>
          have hw' : 0 ≤ n ∧ n ≤ 255 := by simpa [Lit.wf, IntKind.min, IntKind.max, IntKind.signed, IntKind.bits] using hw
          refine ⟨UInt8.ofNat n.toNat, ?_, trivial⟩
          have hn : ((UInt8.ofNat n.toNat).toNat : Int) = n := by
            simp only [UInt8.toNat_ofNat']
            omega
          simp only [RelD, hn]
        all_goals exact ⟨n, by simp [RelD], hw⟩
      case bool =>
        obtain ⟨b, rfl, _⟩ := DataW.trod_bool hu h
        simp only [Option.some.injEq] at hy
        subst hy
        exact ⟨b, by simp [RelD], trivial⟩
      case string =>
        obtain ⟨s, rfl, _, hs⟩ := DataW.trod_string hu h
        simp only [Option.some.injEq] at hy
        subst hy
        exact ⟨s.data.toList, by simp [RelD], by simpa [fitD] using hs⟩
      case slice e =>
        simp only [Bool.and_eq_true] at hl
        obtain ⟨hl1, hl2⟩ := hl
        cases ht : tyOf P d e with
        | none => simp [ht] at hy
        | some ye =>
          simp only [ht, Option.map_some, Option.some.injEq] at hy
          subst hy
          simp only [ht, Bool.and_eq_true] at hl2
          have hsz := Nat.eq_of_beq_eq_true hl2.1
          have hpos := Nat.le_of_ble_eq_true hl2.2
          rcases DataW.trod_slice hu h with ⟨rfl, _⟩ | ⟨a, len, cap, elems, rest, n, _, rfl, _, hb, hlc, hcm, hel, heach, _⟩
          · exact ⟨[], ⟨none, 0, rfl, Nat.le_refl _, fun hp => absurd hp (by simp)⟩, by simp [fitD]⟩
          · have hev : ∀ i, i < len → ∃ (x : ye.den), ∃ es, w.cells? base (a.add (i * P.cellsOf e)) (P.cellsOf e) = some es ∧ RelD w (fun _ => False) ye x es ∧ fitD ye x := fun i hi => by
              have h1 := heach i hi
              have h2 : elems[i]? = some (elems[i]'(by omega)) := List.getElem?_eq_getElem _
              rw [h2, Option.bind_eq_some_iff] at h1
              obtain ⟨es, h3, h4⟩ := h1
              obtain ⟨v, g1, g2⟩ := ih n e ye es _ ht hl1 h4
              exact ⟨v, es, h3, g1, g2⟩
            obtain ⟨l, hl3, hl4⟩ := pick_list len hev
            have hspot : 0 < len → a.spot = none ∧ a.block < w.heap.size := fun hp => by
              obtain ⟨es, h3, _⟩ := hl4 0 (by omega)
              obtain ⟨_, h5, h6⟩ := World.cells?_some h3
              have h7 := h6 0 (by omega)
              have h8 : es[0]? = some (es[0]'(by omega)) := List.getElem?_eq_getElem _
              rw [h8] at h7
              have h9 : (a.add (0 * P.cellsOf e)).add 0 = a := by simp [Addr.add]
              rw [h9] at h7
              exact ⟨World.cell?_spot h7, World.block_lt_of_cell? w _ h7⟩
            refine ⟨l, ?_, ?_⟩
            · simp only [RelD]
              refine ⟨some a, cap, by rw [hl3], by omega, fun hp => ?_⟩
              obtain ⟨h1, h2⟩ := hspot (by omega)
              refine ⟨a.block, a.off, ?_, fun h => h, h2, fun i hi => ?_⟩
              · obtain ⟨b, o, s⟩ := a
                simp only at h1
                subst h1
                rfl
              · obtain ⟨es, h3, h4, _⟩ := hl4 i hi
                have hsp : (a.add (i * P.cellsOf e)).spot = none := by
                  unfold Addr.add; split
                  · exact h1
                  · rfl
                obtain ⟨h5, h6⟩ := cells_row hsp h3
                refine ⟨es, by rw [h5, hsz], ?_, h4⟩
                have hbo : (a.add (i * P.cellsOf e)).block = a.block ∧ (a.add (i * P.cellsOf e)).off = a.off + i * ye.size := by
                  unfold Addr.add
                  split
                  · rename_i h0; rw [← hsz, h0]; exact ⟨rfl, rfl⟩
                  · rw [← hsz]; exact ⟨rfl, rfl⟩
                rw [hbo.1, hbo.2] at h6
                exact h6
            · simp only [fitD]
              refine ⟨by omega, fun x hx => ?_⟩
              obtain ⟨i, hi, rfl⟩ := List.getElem_of_mem hx
              obtain ⟨_, _, _, h5⟩ := hl4 i hi
              exact h5
      case struct fs =>
        obtain ⟨xs, n, _, _, hlen, hxl, heach⟩ := DataW.trod_struct hu h
        have := open_fields ih (n := n) fs.toList 0 y cs hy (by rw [hlen]; exact hl) fun f hf => by
          obtain ⟨i, hi, he⟩ := List.getElem_of_mem hf
          have hi' : i < fs.size := by simpa using hi
          have h1 := heach i f (by rw [Array.getElem?_eq_getElem hi']; simpa using he)
          have h2 : xs[i]? = some (xs[i]'(by omega)) := List.getElem?_eq_getElem _
          rw [h2] at h1
          exact ⟨_, h1⟩
        simpa using this

/-- An argument, as plain data. -/
theorem open_arg {t : TypeId} {v : Value} {dv : DataW H} {ps : List MemPlace} (y : Ty) (hy : tyOf P 12 t = some y) (hl : layB P 12 t = true) (h : DataW.Trod enc P w base spare held t v dv ps) : ∃ x : y.den, RelD w (fun _ => False) y x v.cells.toList ∧ fitD y x := by
  obtain ⟨fuel, h⟩ := h
  exact opens 12 fuel t y _ _ hy hl h

theorem noN {T : Tb} (g : Nat) : ¬ Not (noF : Frm T) (fun _ => none) (fun _ => .dead) g := fun h => h.elim id fun ⟨_, h, _⟩ => h rfl

/-- An argument, as cells. -/
theorem open_arg' {T : Tb} {t : TypeId} {v : Value} {dv : DataW H} {ps : List MemPlace} (y : Ty) (hy : tyOf P 12 t = some y) (hl : layB P 12 t = true) (h : DataW.Trod enc P w base spare held t v dv ps) :
    ∃ x : y.den, RelVs w (Not (noF : Frm T) (fun _ => none) fun _ => .dead) (fun _ => none) (fun _ => .dead) (encc y x) v.cells.toList ∧ fitD y x := by
  obtain ⟨x, h1, h2⟩ := open_arg y hy hl h
  exact ⟨x, RelVs_encc (h1.keep (Keep.refl w) fun g _ hn => (noN g hn).elim), h2⟩

/-- One that is no struct. -/
theorem arg_one {t : TypeId} {r : Reach} {b : Nat} {v : Value} {x : AV} {N : Nat → Prop} {μ : Nat → Option Nat} {Hh : Nat → Blk} (hs : ∀ fs, P.underlying t ≠ some (.struct fs)) (ha : ∀ n e, P.underlying t ≠ some (.array n e)) (hv : Value.okWide P w r b t v)
    (h : RelVs w N μ Hh [x] v.cells.toList) : RelV w N μ Hh x v := by
  simp only [RelVs] at h
  obtain ⟨v1, vr, h1, h2, rfl⟩ := h
  have hne : ∀ cs, v ≠ .agg cs := fun cs hc => by
    subst hc
    unfold Value.okWide at hv
    cases hu : P.underlying t with
    | none => simp [hu, Cell.okWide, Cell.ok] at hv
    | some u => cases u <;> simp_all [Cell.okWide, Cell.ok]
  have hcells : v.cells.toList = [v] := by cases v <;> first | rfl | exact absurd rfl (hne _)
  rw [hcells] at h1
  simp only [List.cons.injEq, and_true] at h1
  rw [h1]
  exact h2

/-- One that is a struct. -/
theorem arg_struct {t : TypeId} {fs : Array Field} {r : Reach} {b : Nat} {v : Value} {cs : List AV} {N : Nat → Prop} {μ : Nat → Option Nat} {Hh : Nat → Blk} (ht : P.underlying t = some (.struct fs)) (hv : Value.okWide P w r b t v)
    (h : RelVs w N μ Hh cs v.cells.toList) : RelV w N μ Hh (.agg cs) v := by
  obtain ⟨vs, rfl, _⟩ := okWide_struct ht hv
  simp only [RelV]
  exact ⟨vs.toList, by simp, h⟩

end
end Go.Ev

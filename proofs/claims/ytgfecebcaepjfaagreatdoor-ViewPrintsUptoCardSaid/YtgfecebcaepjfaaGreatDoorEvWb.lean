/- Arguments that come in, read as plain data that are no greater than what is said of them. -/
import Derived.Test.YtgfecebcaepjfaaGreatDoorEvW
namespace Go.Ev
open Go Go.WideShapes

/-- How much data hold. -/
def sizD : (t : Ty) → t.den → Nat
  | .int _, _ => 1
  | .u8, _ => 1
  | .bool, _ => 1
  | .str, l => List.length l + 1
  | .sl t, l => (List.map (sizD t) l).sum
  | .unit, _ => 0
  | .pair a b, p => sizD a p.1 + sizD b p.2

theorem sizD_u8 (l : List UInt8) : sizD (.sl .u8) l = l.length := by
  show (List.map (sizD .u8) l).sum = l.length
  induction l with
  | nil => rfl
  | cons a l ih => rw [List.map_cons, List.sum_cons, ih, List.length_cons]; show 1 + l.length = _; omega

/-- A measure of what a datum holds. -/
structure Bulk {H : Type} (bulk : DataW H → Nat) : Prop where
  str : ∀ b, b.length + 1 ≤ bulk (.lit (.string b))
  lit : ∀ l, 1 ≤ bulk (.lit l)
  sl : ∀ es sp, (List.map bulk es).sum ≤ bulk (.slice es sp)
  agg : ∀ ps, (List.map bulk ps).sum ≤ bulk (.agg ps)

section
variable {P : Program} {w : World} {H : Type} {enc : TypeId × Value → H} {base : Nat} {spare : Nat → Bool} {held : Bool} {bulk : DataW H → Nat}

def OpensB (bulk : DataW H → Nat) (P : Program) (w : World) (enc : TypeId × Value → H) (base : Nat) (spare : Nat → Bool) (held : Bool) (d : Nat) : Prop :=
  ∀ (fuel : Nat) (t : TypeId) (y : Ty) (cs : List Value) (x : DataW H × List MemPlace), tyOf P d t = some y → layB P d t = true → DataW.trod enc P w base spare held fuel t cs = some x → ∃ v : y.den, RelD w (fun _ => False) y v cs ∧ fitD y v ∧ sizD y v ≤ bulk x.1

theorem open_fieldsB {d : Nat} (ih : OpensB bulk P w enc base spare held d) {n : Nat} : ∀ (fs : List Field) (off : Nat) (y : Ty) (cs : List Value) (xs : List (DataW H × List MemPlace)),
    fs.foldr (fun f r => match tyOf P d f.type, r with
        | some a, some b => some (Ty.pair a b)
        | _, _ => none) (some .unit) = some y →
    layF P (layB P d) fs off cs.length = true → xs.length = fs.length → (∀ (i : Nat) f, fs[i]? = some f → DataW.trod enc P w base spare held n f.type ((cs.drop f.offset).take (P.cellsOf f.type)) = xs[i]?) →
    ∃ v : y.den, RelD w (fun _ => False) y v (cs.drop off) ∧ fitD y v ∧ sizD y v ≤ (List.map bulk (xs.map (·.1))).sum
  | [], off, y, cs, xs, hy, hl, hx, _ => by
    simp only [List.foldr_nil, Option.some.injEq] at hy
    subst hy
    simp only [layF] at hl
    have := Nat.eq_of_beq_eq_true hl
    subst this
    exact ⟨(), by simp [RelD], trivial, Nat.zero_le _⟩
  | f :: fs, off, y, cs, [], hy, hl, hx, hm => by simp at hx
  | f :: fs, off, y, cs, x :: xs, hy, hl, hx, hm => by
    simp only [List.foldr_cons] at hy
    cases ha : tyOf P d f.type with
    | none => simp [ha] at hy
    | some a =>
      cases hb : fs.foldr (fun f r => match tyOf P d f.type, r with
        | some a, some b => some (Ty.pair a b)
        | _, _ => none) (some .unit) with
      | none => rw [hb] at hy; simp [ha] at hy
      | some b =>
        rw [hb] at hy
        simp only [ha, Option.some.injEq] at hy
        subst hy
        simp only [layF, Bool.and_eq_true] at hl
        obtain ⟨⟨h1, h2⟩, h3⟩ := hl
        have h1 := Nat.eq_of_beq_eq_true h1
        have hz := hm 0 f (by simp)
        rw [h1, show (x :: xs)[0]? = some x by simp] at hz
        obtain ⟨v1, g1, g2, g5⟩ := ih n f.type a _ x ha h2 hz
        obtain ⟨v2, g3, g4, g6⟩ := open_fieldsB ih fs (off + P.cellsOf f.type) b cs xs hb h3 (by simpa using hx) fun i f' hf' => by
          have := hm (i + 1) f' (by simpa using hf')
          simpa using this
        refine ⟨(v1, v2), ?_, ⟨g2, g4⟩, ?_⟩
        · simp only [RelD]
          refine ⟨_, _, ?_, g1, g3⟩
          rw [← List.drop_drop, List.take_append_drop]
        · simp only [sizD, List.map_cons, List.sum_cons]
          omega

theorem sum_le_idx {α β : Type} (f : α → Nat) (g : β → Nat) : ∀ (l : List α) (r : List β), l.length = r.length → (∀ i, (h : i < l.length) → (h' : i < r.length) → f l[i] ≤ g r[i]) → (l.map f).sum ≤ (r.map g).sum
  | [], _, _, _ => Nat.zero_le _
  | a :: l, [], h, _ => by simp at h
  | a :: l, b :: r, h, hi => by
    have h0 := hi 0 (by simp) (by simp)
    have ih := sum_le_idx f g l r (by simpa using h) fun i h1 h2 => by
      have := hi (i + 1) (by simp; omega) (by simp; omega)
      simpa using this
    simp only [List.map_cons, List.sum_cons]
    simp only [List.getElem_cons_zero] at h0
    omega

theorem opensB (hB : Bulk bulk) : ∀ d, OpensB bulk P w enc base spare held d
  | 0 => fun fuel t y cs x hy => by simp [tyOf] at hy
  | d + 1 => fun fuel t y cs x hy hl h => by
    have ih : OpensB bulk P w enc base spare held d := opensB hB d
    unfold layB at hl
    unfold tyOf at hy
    cases hu : P.underlying t with
    | none => simp [hu] at hl
    | some u =>
      simp only [hu] at hl hy
      cases u <;> simp only [Bool.false_eq_true] at hl
      case int k =>
        obtain ⟨n, rfl, hx, hw⟩ := DataW.trod_int hu h
        have hb : 1 ≤ bulk x.1 := by rw [hx]; exact hB.lit _
        cases k <;> simp only [Option.some.injEq] at hy <;> subst hy
        case u8 =>
          have hw' : 0 ≤ n ∧ n ≤ 255 := by simpa [Lit.wf, IntKind.min, IntKind.max, IntKind.signed, IntKind.bits] using hw
          refine ⟨UInt8.ofNat n.toNat, ?_, trivial, hb⟩
          have hn : ((UInt8.ofNat n.toNat).toNat : Int) = n := by
            simp only [UInt8.toNat_ofNat']
            omega
          simp only [RelD, hn]
        all_goals exact ⟨n, by simp [RelD], hw, hb⟩
      case bool =>
        obtain ⟨b, rfl, hx⟩ := DataW.trod_bool hu h
        have hb : 1 ≤ bulk x.1 := by rw [hx]; exact hB.lit _
        simp only [Option.some.injEq] at hy
        subst hy
        exact ⟨b, by simp [RelD], trivial, hb⟩
      case string =>
        obtain ⟨s, rfl, hx, hs⟩ := DataW.trod_string hu h
        have hb : s.data.toList.length + 1 ≤ bulk x.1 := by rw [hx]; exact hB.str _
        simp only [Option.some.injEq] at hy
        subst hy
        exact ⟨s.data.toList, by simp [RelD], by simpa [fitD] using hs, hb⟩
      case slice e =>
        simp only [Bool.and_eq_true] at hl
        obtain ⟨hl1, hl2⟩ := hl
        cases ht : tyOf P d e with
        | none => simp [ht] at hy
        | some ye =>
          simp only [ht, Option.map_some, Option.some.injEq] at hy
          subst hy
          simp only [ht, Bool.and_eq_true] at hl2
          have hsz := Nat.eq_of_beq_eq_true hl2.1
          have hpos := Nat.le_of_ble_eq_true hl2.2
          rcases DataW.trod_slice hu h with ⟨rfl, _⟩ | ⟨a, len, cap, elems, rest, n, _, rfl, hx, hb, hlc, hcm, hel, heach, _⟩
          · exact ⟨[], ⟨none, 0, rfl, Nat.le_refl _, fun hp => absurd hp (by simp)⟩, by simp [fitD], Nat.zero_le _⟩
          · have hev : ∀ i, i < len → ∃ (x : ye.den), ∃ es, w.cells? base (a.add (i * P.cellsOf e)) (P.cellsOf e) = some es ∧ RelD w (fun _ => False) ye x es ∧ fitD ye x ∧ ∀ z, elems[i]? = some z → sizD ye x ≤ bulk z.1 := fun i hi => by
              have h1 := heach i hi
              have h2 : elems[i]? = some (elems[i]'(by omega)) := List.getElem?_eq_getElem _
              rw [h2, Option.bind_eq_some_iff] at h1
              obtain ⟨es, h3, h4⟩ := h1
              obtain ⟨v, g1, g2, g3⟩ := ih n e ye es _ ht hl1 h4
              exact ⟨v, es, h3, g1, g2, fun z hz => by rw [h2, Option.some.injEq] at hz; rw [← hz]; exact g3⟩
            obtain ⟨l, hl3, hl4⟩ := pick_list len hev
            have hspot : 0 < len → a.spot = none ∧ a.block < w.heap.size := fun hp => by
              obtain ⟨es, h3, _⟩ := hl4 0 (by omega)
              obtain ⟨_, h5, h6⟩ := World.cells?_some h3
              have h7 := h6 0 (by omega)
              have h8 : es[0]? = some (es[0]'(by omega)) := List.getElem?_eq_getElem _
              rw [h8] at h7
              have h9 : (a.add (0 * P.cellsOf e)).add 0 = a := by simp [Addr.add]
              rw [h9] at h7
              exact ⟨World.cell?_spot h7, World.block_lt_of_cell? w _ h7⟩
            refine ⟨l, ?_, ?_, ?_⟩
            · simp only [RelD]
              refine ⟨some a, cap, by rw [hl3], by omega, fun hp => ?_⟩
              obtain ⟨h1, h2⟩ := hspot (by omega)
              refine ⟨a.block, a.off, ?_, fun h => h, h2, fun i hi => ?_⟩
              · obtain ⟨b, o, s⟩ := a
                simp only at h1
                subst h1
                rfl
              · obtain ⟨es, h3, h4, _⟩ := hl4 i hi
                have hsp : (a.add (i * P.cellsOf e)).spot = none := by
                  unfold Addr.add; split
                  · exact h1
                  · rfl
                obtain ⟨h5, h6⟩ := cells_row hsp h3
                refine ⟨es, by rw [h5, hsz], ?_, h4⟩
                have hbo : (a.add (i * P.cellsOf e)).block = a.block ∧ (a.add (i * P.cellsOf e)).off = a.off + i * ye.size := by
                  unfold Addr.add
                  split
                  · rename_i h0; rw [← hsz, h0]; exact ⟨rfl, rfl⟩
                  · rw [← hsz]; exact ⟨rfl, rfl⟩
                rw [hbo.1, hbo.2] at h6
                exact h6
            · simp only [fitD]
              refine ⟨by omega, fun x hx => ?_⟩
              obtain ⟨i, hi, rfl⟩ := List.getElem_of_mem hx
              obtain ⟨_, _, _, h5, _⟩ := hl4 i hi
              exact h5
            · rw [hx]
              refine Nat.le_trans ?_ (hB.sl _ _)
              rw [List.map_map]
              exact sum_le_idx (sizD ye) (bulk ∘ fun x => x.1) l elems (by omega) fun i h1 h2 => by
                obtain ⟨_, _, _, _, h5⟩ := hl4 i h1
                exact h5 _ (List.getElem?_eq_getElem h2)
      case struct fs =>
        obtain ⟨xs, n, _, hx, hlen, hxl, heach⟩ := DataW.trod_struct hu h
        obtain ⟨v, h1, h2, h3⟩ := open_fieldsB ih (n := n) fs.toList 0 y cs xs hy (by rw [hlen]; exact hl) (by simpa using hxl) fun i f hf => heach i f (by simpa using hf)
        refine ⟨v, by simpa using h1, h2, Nat.le_trans h3 ?_⟩
        rw [hx]
        exact hB.agg _

/-- An argument, as cells. -/
theorem open_argB (hB : Bulk bulk) {T : Tb} {t : TypeId} {v : Value} {dv : DataW H} {ps : List MemPlace} (y : Ty) (hy : tyOf P 12 t = some y) (hl : layB P 12 t = true) (h : DataW.Trod enc P w base spare held t v dv ps) :
    ∃ x : y.den, RelVs w (Not (noF : Frm T) (fun _ => none) fun _ => .dead) (fun _ => none) (fun _ => .dead) (encc y x) v.cells.toList ∧ fitD y x ∧ sizD y x ≤ bulk dv := by
  obtain ⟨fuel, h⟩ := h
  obtain ⟨x, h1, h2, h3⟩ := opensB hB 12 fuel t y _ _ hy hl h
  exact ⟨x, RelVs_encc (h1.keep (Keep.refl w) fun g _ hn => (noN g hn).elim), h2, h3⟩

end
end Go.Ev

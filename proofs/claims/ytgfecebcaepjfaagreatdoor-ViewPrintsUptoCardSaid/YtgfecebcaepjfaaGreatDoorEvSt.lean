/- Sorting and pruning of texts of one's own; joining of texts that are plain data. -/
import Derived.Test.YtgfecebcaepjfaaGreatDoorEvNt
import Derived.Test.YtgfecebcaepjfaaGreatDoorGlP
namespace Go.Ev
open Go Go.Proofs Go.Sort Go.Gl

theorem heap_putRowS {α : Type} [Inhabited α] (enc : α → Value) (w : World) (blk off : Nat) (d : Array α) {k : Nat} (h : k ≠ blk) : (putRow enc w blk off d).heap[k]? = w.heap[k]? := by
  simp only [putRow, mapBlock, Array.getElem?_modify]
  rw [if_neg (fun e => h e.symm)]

/-- a slice of texts of one's own, or a window of one -/
def asWin {α : Type} (H : Nat → Blk) (x : AV) (K : Nat → List Tx → Nat → Nat → Option α) : Option α := match x with
  | .wh b => match H b with
    | .data .str l => K b l 0 (List.length (α := List UInt8) l)
    | _ => none
  | .win b lo n => match H b with
    | .data .str l => K b l lo n
    | _ => none
  | _ => none

theorem asWin_ok {α : Type} {w : World} {N : Nat → Prop} {μ : Nat → Option Nat} {H : Nat → Blk} {x : AV} {v : Value} {K : Nat → List Tx → Nat → Nat → Option α} {r : α} (hr : RelV w N μ H x v) (h : asWin H x K = some r) :
    ∃ b l lo n, H b = .data .str l ∧ K b l lo n = some r ∧ lo + n ≤ List.length (α := List UInt8) l ∧ ((∃ g c o, μ b = some g ∧ v = .slice (some ⟨g, o, none⟩) n (c - lo) ∧ List.length (α := List UInt8) l ≤ c ∧ room w g c ∧ (o = lo ∨ (c = lo ∧ o ≤ lo))) ∨ (μ b = none ∧ l = [] ∧ n = 0 ∧ v = .slice none 0 0)) := by
  unfold asWin at h
  split at h
  · rename_i b
    split at h
    · rename_i l hb
      simp only [RelV] at hr
      obtain ⟨t', l', hb', hv⟩ := hr
      rw [hb] at hb'
      injection hb' with e1 e2
      subst e1
      have e2 := eq_of_heq e2
      subst e2
      refine ⟨b, l, 0, _, hb, h, by omega, ?_⟩
      rcases hv with ⟨g, c, h1, h2, h3, h4⟩ | ⟨h1, h2, h3⟩
      · exact .inl ⟨g, c, 0, h1, by rw [h2]; rfl, h3, by simpa [Ty.size] using h4, .inl rfl⟩
      · exact .inr ⟨h1, h2, by rw [h2]; rfl, h3⟩
    · cases h
  · rename_i b lo n
    split at h
    · rename_i l hb
      simp only [RelV] at hr
      obtain ⟨t', l', hb', hle, hv⟩ := hr
      rw [hb] at hb'
      injection hb' with e1 e2
      subst e1
      have e2 := eq_of_heq e2
      subst e2
      refine ⟨b, l, lo, n, hb, h, hle, ?_⟩
      rcases hv with ⟨g, c, o, h1, h2, h3, h4, h5⟩ | ⟨h1, h2, h3⟩
      · refine .inl ⟨g, c, o, h1, h2, h3, by simpa [Ty.size] using h4, ?_⟩
        rcases h5 with h5 | ⟨h5, h6⟩
        · exact .inl (by simpa [Ty.size] using h5)
        · exact .inr ⟨h5, by simpa [Ty.size] using h6⟩
      · exact .inr ⟨h1, h2, by (have : lo + n ≤ 0 := by rw [h2] at hle; exact hle); omega, h3⟩
    · cases h
  · cases h

section
variable {T : Tb} {F : Frm T} {μ : Nat → Option Nat} {H : Nat → Blk} {nx : Nat} {w : World} {b g : Nat} {l : List Tx}

theorem rows_of (hp : Hp F μ H nx w) (hb : H b = .data .str l) (hm : μ b = some g) : ∀ i, (h : i < List.length (α := List UInt8) l) → w.cell? ⟨g, i, none⟩ = some (encStr l[i]) := fun i hi => by
  have hrow := hp.blk b
  simp only [hb, RelB] at hrow
  rcases hrow with ⟨hn, _⟩ | ⟨g', hm', _, hrows⟩
  · rw [hm] at hn; cases hn
  · rw [hm] at hm'
    cases hm'
    obtain ⟨es, e1, e2, e3⟩ := hrows i hi
    simp only [RelD] at e3
    subst e3
    have := e2 0 (by simp)
    simpa [Ty.size] using this

theorem holds_win (hp : Hp F μ H nx w) (hb : H b = .data .str l) (hm : μ b = some g) {c lo n : Nat} (hroom : room w g c) (hlc : List.length (α := List UInt8) l ≤ c) (hlo : lo + n ≤ List.length (α := List UInt8) l) :
    Holds encStr w g lo ((l.drop lo).take n).toArray := fun j hj => by
  have hj' : j < n ∧ lo + j < List.length (α := List UInt8) l := by simp at hj; omega
  refine ⟨?_, (hroom (lo + j) (by omega)).2⟩
  have e : (((l.drop lo).take n).toArray)[j]! = l[lo + j]'hj'.2 := by
    rw [getElem!_pos (((l.drop lo).take n).toArray) j hj]
    simp
  rw [rows_of hp hb hm (lo + j) hj'.2, e]

/-- A row of texts of which a window is written anew. -/
theorem row_turn (hp : Hp F μ H nx w) (hb : H b = .data .str l) (hm : μ b = some g) {c lo n : Nat} (hroom : room w g c) (hlc : List.length (α := List UInt8) l ≤ c) (hlo : lo + n ≤ List.length (α := List UInt8) l)
    {zs : List Tx} (hz : zs.length = n) {q : Nat} {os : Array Obj} {w' : World} (hw : w' = grow (putRow encStr (Go.Sort.ahead w q) g lo zs.toArray) os) {L : List Tx} (hL : L = l.take lo ++ zs ++ l.drop (lo + n)) :
    ∃ μ', Hp F μ' (updH H b (.data .str L)) nx w' ∧ Pl F μ H nx w [] μ' (updH H b (.data .str L)) nx w' ∧ μ' b = some g ∧ room w' g c ∧ List.length (α := List UInt8) L = List.length (α := List UInt8) l := by
  have hlive : H b ≠ .dead := by rw [hb]; simp
  have hlt' := hp.lt b g hlive hm
  have hH := holds_win hp hb hm hroom hlc hlo
  have hLl : L.length = List.length (α := List UInt8) l := by rw [hL]; simp [hz]; omega
  have hsz : zs.toArray.size = ((l.drop lo).take n).toArray.size := by simp [hz]; omega
  have hsize : (putRow encStr (Go.Sort.ahead w q) g lo zs.toArray).heap.size = w.heap.size := by simp [putRow, mapBlock, Go.Sort.ahead]
  have hold : ∀ k, k < w.heap.size → k ≠ g → w'.heap[k]? = w.heap[k]? := fun k hk hne => by
    rw [hw]
    have : (grow (putRow encStr (Go.Sort.ahead w q) g lo zs.toArray) os).heap[k]? = (putRow encStr (Go.Sort.ahead w q) g lo zs.toArray).heap[k]? := by
      simp only [grow]
      rw [Array.getElem?_append_left (by rw [hsize]; exact hk)]
    rw [this]
    have := heap_putRowS encStr (Go.Sort.ahead w q) g lo zs.toArray (k := k) hne
    rw [this]
    rfl
  have hsz' : w.heap.size ≤ w'.heap.size := by rw [hw, Go.Sort.size_grow, hsize]; omega
  have hH' : Holds encStr w' g lo zs.toArray := by
    rw [hw]
    exact holds_grow encStr _ os g lo zs.toArray (by rw [hsize]; exact hlt') (holds_putRow encStr _ g lo _ zs.toArray (holds_ahead encStr w q g lo _ hH) hsz)
  have hother : ∀ k, (k < lo ∨ lo + n ≤ k) → w'.cell? ⟨g, k, none⟩ = w.cell? ⟨g, k, none⟩ := fun k hk => by
    rw [hw, Go.Sort.cell?_grow _ _ _ (by rw [hsize]; exact hlt')]
    refine cell?_putRow_other _ _ _ _ _ _ (.inr ?_)
    simp [hz]; omega
  have hcell : ∀ i, (h : i < L.length) → w'.cell? ⟨g, i, none⟩ = some (encStr L[i]) := fun i hi => by
    rw [hLl] at hi
    by_cases h1 : i < lo
    · rw [hother i (.inl h1), rows_of hp hb hm i hi]
      subst hL
      rw [List.getElem_append_left (by simp; omega), List.getElem_append_left (by simp; omega), List.getElem_take]
    · by_cases h2 : i < lo + n
      · have := (hH' (i - lo) (by simp [hz]; omega)).1
        rw [show lo + (i - lo) = i by omega] at this
        rw [this, getElem!_pos _ _ (by simp [hz]; omega)]
        subst hL
        rw [List.getElem_append_left (by simp; omega), List.getElem_append_right (by simp; omega)]
        congr 2
        simp
        congr 1
        omega
      · rw [hother i (.inr (by omega)), rows_of hp hb hm i hi]
        subst hL
        rw [List.getElem_append_right (by simp; omega), List.getElem_drop]
        congr 3
        simp; omega
  have hroom' : ∀ m, room w g m → room w' g m := fun m hr k hk => by
    obtain ⟨r1, r2⟩ := hr k hk
    have hfr : w'.frozen? ⟨g, k, none⟩ = w.frozen? ⟨g, k, none⟩ := by
      rw [hw, Go.Sort.frozen?_grow _ _ _ (by rw [hsize]; exact hlt')]
      exact frozen?_putRow _ _ _ _ _ _
    refine ⟨?_, by rw [hfr]; exact r2⟩
    by_cases hkk : lo ≤ k ∧ k < lo + n
    · have := hcell k (by rw [hLl]; omega)
      rw [this]; rfl
    · rw [hother k (by omega)]; exact r1
  have Tn : Turned F μ H nx w [] b (some g) (.data .str L) nx w' := {
    hp := hp
    os := by rw [hw]; rfl
    tape := by rw [hw]; rfl
    output := by rw [hw]; rfl
    size := hsz'
    keep := fun k hk hne => hold k hk fun e => hne hlive (by rw [e]; exact hm)
    at_ := fun k hk => by cases hk; exact .inl ⟨hlive, hm⟩
    mono := Nat.le_refl _
    lt := by
      rcases Nat.lt_or_ge b nx with h | h
      · exact h
      · exact absurd (hp.dead b h) hlive
    live := by simp
    kind := fun _ => Pin.zero rfl
    self := fun _ _ => by
      refine ⟨by rw [updM_same, hm], ?_⟩
      rw [hb]
      simp only [updH_same]
      exact ⟨⟨_, rfl, hLl⟩, fun k m hk hr => by rw [hm] at hk; cases hk; exact hroom' m hr⟩ }
  refine ⟨updM μ b (some g), Tn.hp' ?_, Tn.pl, updM_same _ _ _, hroom' _ hroom, hLl⟩
  simp only [RelB]
  refine .inr ⟨g, updM_same _ _ _, ?_, fun i hi => ?_⟩
  · refine hroom' _ fun k hk => hroom k ?_
    have hk' : k < List.length (α := List UInt8) L * 1 := hk
    omega
  · refine ⟨[encStr L[i]], rfl, fun k hk => ?_, by simp [RelD]⟩
    have hk0 : k = 0 := by simpa using hk
    subst hk0
    simpa [Ty.size] using hcell i hi

end

/-- nothing is written -/
theorem updH_id {H : Nat → Blk} {b : Nat} {B : Blk} (h : H b = B) : updH H b B = H := by
  funext k
  by_cases hk : k = b
  · subst hk; rw [updH_same, h]
  · rw [updH_other hk]

theorem len_win {l : List Tx} {lo n : Nat} (h : lo + n ≤ l.length) : ((l.drop lo).take n).length = n := by simp; omega

theorem sortW_none {l : List Tx} {lo : Nat} : sortW l lo 0 = l := by simp [sortW, sortT]

theorem compN_none {l : List Tx} {lo : Nat} : compN l lo 0 = 0 := by
  have : (Lib.compact ([] : List Tx)) = [] := rfl
  simp [compN, this]
theorem compW_none {l : List Tx} {lo : Nat} : compW l lo 0 = l := by
  have : (Lib.compact ([] : List Tx)) = [] := rfl
  simp [compW, this]

/-- slices.Sort of texts -/
def zSortT : Deed := fun args S => match args with
  | [x] => asWin S.H x fun b l lo n => some (decide (List.length (α := List UInt8) l < 4611686018427387904), .tup [], ⟨S.E, updH S.H b (.data .str (sortW l lo n)), S.nx, S.kl⟩)
  | _ => none

theorem zSortT_ok {P : Program} {f : FuncId} (hen : Enters P f)
    (h0 : ∀ (p : Option Addr) (cap : Nat) (w : World), Calls P f #[.slice p 0 cap] w fun e w' => e = .returned (.tuple #[]) ∧ w' = w)
    (hc : ∀ (blk off cap : Nat) (ss : List Tx) (w : World), Holds encStr w blk off ss.toArray → blk < w.heap.size → ss.length < 4611686018427387904 →
      Calls P f #[.slice (some ⟨blk, off, none⟩) ss.length cap] w fun e w' => e = .returned (.tuple #[]) ∧ ∃ n os, w' = grow (putRow encStr (Go.Sort.ahead w n) blk off (sortT ss).toArray) os) : ZOK P f zSortT := by
  refine ⟨hen, fun args S v S' h F μ w vals hp hr => ?_⟩
  unfold zSortT at h
  split at h
  · rename_i x
    simp only [RelVs] at hr
    obtain ⟨v1, _, rfl, hx, rfl⟩ := hr
    obtain ⟨b, l, lo, n, hb, h, hlo, hv⟩ := asWin_ok hx h
    simp only [Option.some.injEq, Prod.mk.injEq, decide_eq_true_eq] at h
    obtain ⟨hlt, rfl, rfl⟩ := h
    by_cases hn : n = 0
    · subst hn
      have hcall : Calls P f #[v1] w fun e w' => e = .returned (.tuple #[]) ∧ w' = w := by
        rcases hv with ⟨g, c, o, _, rfl, _⟩ | ⟨_, _, _, rfl⟩
        · exact h0 _ _ w
        · exact h0 _ _ w
      refine hcall.mono fun e w' ⟨he, hw⟩ => ?_
      subst hw
      rw [sortW_none, updH_id hb]
      exact ⟨μ, [], _, he, rfl, by simp, hp, Pl.keep hp (Chg.refl _), by simp [RelV, RelVs]⟩
    · rcases hv with ⟨g, c, o, hm, rfl, hlc, hroom, ho⟩ | ⟨_, _, h, _⟩
      · obtain rfl : o = lo := ho.resolve_right fun h => by omega
        have := hc g o (c - o) ((l.drop o).take n) w (holds_win hp hb hm hroom hlc hlo) (hp.lt b g (by rw [hb]; simp) hm) (by rw [len_win hlo]; omega)
        rw [len_win hlo] at this
        refine this.mono fun e w' ⟨he, q, os, hw⟩ => ?_
        obtain ⟨μ', h1, h2, _, _, _⟩ := row_turn hp hb hm hroom hlc hlo (zs := sortT ((l.drop o).take n)) (by rw [len_sortT, len_win hlo]) hw rfl
        exact ⟨μ', [], _, he, rfl, by simp, h1, h2, by simp [RelV, RelVs]⟩
      · exact absurd h hn
  · cases h

/-- slices.Compact of texts -/
def zCompactT : Deed := fun args S => match args with
  | [x] => asWin S.H x fun b l lo n => some (decide (List.length (α := List UInt8) l < 4611686018427387904), .win b lo (compN l lo n), ⟨S.E, updH S.H b (.data .str (compW l lo n)), S.nx, S.kl⟩)
  | _ => none

theorem comp_le (l : List Tx) : (Lib.compact l).length ≤ l.length := by
  unfold Lib.compact Lib.compactUpTo
  rw [List.length_map]
  refine Nat.le_trans (List.length_filter_le _ _) ?_
  simp

theorem zCompactT_ok {P : Program} {f : FuncId} (hen : Enters P f)
    (h0 : ∀ (p : Option Addr) (cap : Nat) (w : World), Calls P f #[.slice p 0 cap] w fun e w' => e = .returned (.slice p 0 cap) ∧ w' = w)
    (hc : ∀ (blk off cap : Nat) (zs : List Tx) (w : World), Holds encStr w blk off zs.toArray → zs.length ≤ 9223372036854775807 → zs.length ≤ cap →
      Calls P f #[.slice (some ⟨blk, off, none⟩) zs.length cap] w fun e w' => e = .returned (.slice (some ⟨blk, off, none⟩) (Lib.compact zs).length cap) ∧ ∃ q, w' = putRow encStr (Go.Sort.ahead w q) blk off (Lib.compact zs ++ List.replicate (zs.length - (Lib.compact zs).length) []).toArray) : ZOK P f zCompactT := by
  refine ⟨hen, fun args S v S' h F μ w vals hp hr => ?_⟩
  unfold zCompactT at h
  split at h
  · rename_i x
    simp only [RelVs] at hr
    obtain ⟨v1, _, rfl, hx, rfl⟩ := hr
    obtain ⟨b, l, lo, n, hb, h, hlo, hv⟩ := asWin_ok hx h
    simp only [Option.some.injEq, Prod.mk.injEq, decide_eq_true_eq] at h
    obtain ⟨hlt, rfl, rfl⟩ := h
    by_cases hn : n = 0
    · subst hn
      rw [compW_none, compN_none, updH_id hb]
      rcases hv with ⟨g, c, o, hm, rfl, hlc, hroom, ho⟩ | ⟨hm, hl, _, rfl⟩
      · refine (h0 _ _ w).mono fun e w' ⟨he, hw⟩ => ?_
        subst hw
        refine ⟨μ, [], _, he, rfl, by simp, hp, Pl.keep hp (Chg.refl _), ?_⟩
        simp only [RelV]
        exact ⟨.str, l, hb, by simpa using hlo, .inl ⟨g, c, o, hm, rfl, hlc, by simpa [Ty.size] using hroom, by simpa [Ty.size] using ho⟩⟩
      · refine (h0 _ _ w).mono fun e w' ⟨he, hw⟩ => ?_
        subst hw
        refine ⟨μ, [], _, he, rfl, by simp, hp, Pl.keep hp (Chg.refl _), ?_⟩
        simp only [RelV]
        exact ⟨.str, l, hb, hlo, .inr ⟨hm, hl, trivial⟩⟩
    · rcases hv with ⟨g, c, o, hm, rfl, hlc, hroom, ho⟩ | ⟨_, _, h, _⟩
      · obtain rfl : o = lo := ho.resolve_right fun h => by omega
        have := hc g o (c - o) ((l.drop o).take n) w (holds_win hp hb hm hroom hlc hlo) (by rw [len_win hlo]; omega) (by rw [len_win hlo]; omega)
        rw [len_win hlo] at this
        refine this.mono fun e w' ⟨he, q, hw⟩ => ?_
        have hle := comp_le ((l.drop o).take n)
        rw [len_win hlo] at hle
        obtain ⟨μ', h1, h2, h3, h4, h5⟩ := row_turn hp hb hm hroom hlc hlo (zs := Lib.compact ((l.drop o).take n) ++ List.replicate (n - (Lib.compact ((l.drop o).take n)).length) []) (by simp; omega) (q := q) (os := #[]) (w' := w') (hw.trans (grow_empty _).symm) (L := compW l o n) rfl
        refine ⟨μ', [], _, he, rfl, by simp, h1, h2, ?_⟩
        simp only [RelV]
        refine ⟨.str, compW l o n, updH_same _ _ _, ?_, .inl ⟨g, c, o, h3, rfl, ?_, by simpa [Ty.size] using h4, .inl (by simp [Ty.size])⟩⟩
        · have : o + compN l o n ≤ List.length (α := List UInt8) (compW l o n) := by
            rw [h5]; unfold compN; omega
          exact this
        · have : List.length (α := List UInt8) (compW l o n) ≤ c := by rw [h5]; exact hlc
          exact this
      · exact absurd h hn
  · cases h

/-- strings.Join of texts that are plain data -/
def pJoinS : Pvr
  | [.sl .str l, .s sep], _ => some (decide (List.length (α := List UInt8) l ≤ 140737488355328) && decide ((Lib.join l sep).length ≤ 140737488355328), .s (Lib.join l sep))
  | _, _ => none

theorem pJoinS_ok {P : Program} {f : FuncId} (hen : Enters P f)
    (h0 : ∀ (a : Option Addr) (c : Nat) (sep : ByteArray) (w : World), Calls P f #[.slice a 0 c, .string sep] w fun e w' => e = .returned (.string ⟨#[]⟩) ∧ w' = w)
    (hc : ∀ (bk o c : Nat) (xs : List ByteArray) (sep : ByteArray) (w : World), (∀ (j : Nat) x, xs[j]? = some x → w.cell? ⟨bk, o + j, none⟩ = some (.string x)) → bk < w.heap.size → xs.length ≤ 140737488355328 → xs.length ≤ c →
      (Lib.join (xs.map (·.data.toList)) sep.data.toList).length ≤ 140737488355328 →
      Calls P f #[.slice (some ⟨bk, o, none⟩) xs.length c, .string sep] w fun e w' => e = .returned (.string ⟨(Lib.join (xs.map (·.data.toList)) sep.data.toList).toArray⟩) ∧ RowKit.Below w.heap.size w w') : ZOK P f (zPvr pJoinS) := by
  refine zPvr_ok ⟨hen, fun args H nx v h F μ w vals hp hr => ?_⟩
  unfold pJoinS at h
  split at h
  · rename_i l sep
    simp only [Option.some.injEq, Prod.mk.injEq, Bool.and_eq_true, decide_eq_true_eq] at h
    obtain ⟨⟨h1, h2⟩, rfl⟩ := h
    simp only [RelVs] at hr
    obtain ⟨v1, _, rfl, hw, v2, _, rfl, hs, rfl⟩ := hr
    have hs' : v2 = .string ⟨sep.toArray⟩ := by simpa only [RelV] using hs
    subst hs'
    have hw' : RelD w (Not F μ H) (.sl .str) l [v1] := by simpa only [RelV] using hw
    simp only [RelD] at hw'
    obtain ⟨a, c, e1, e2, e3⟩ := hw'
    injection e1 with e1 _
    subst e1
    by_cases l0 : l = []
    · subst l0
      refine (h0 a c ⟨sep.toArray⟩ w).mono fun e w' ⟨he, hw'⟩ => ⟨_, he, ?_, hw' ▸ RowKit.Below.refl _ _⟩
      simp [RelV, Lib.join_nil]
    · obtain ⟨g, o, rfl, _, hg, hrow⟩ := e3 (List.length_pos_iff.mpr l0)
      have hmap : (l.map fun x : List UInt8 => (⟨x.toArray⟩ : ByteArray)).map (·.data.toList) = l := by
        rw [List.map_map]
        conv => rhs; rw [← List.map_id l]
        exact List.map_congr_left fun x _ => by simp
      have := hc g o c (l.map fun x : List UInt8 => (⟨x.toArray⟩ : ByteArray)) ⟨sep.toArray⟩ w (fun j x hx => by
        rw [List.getElem?_map] at hx
        obtain ⟨y, hy, rfl⟩ := Option.map_eq_some_iff.mp hx
        obtain ⟨hj, rfl⟩ := List.getElem?_eq_some_iff.mp hy
        obtain ⟨es, q1, q2, q3⟩ := hrow j hj
        subst q3
        have := q2 0 (by simp)
        simpa only [Ty.size, Nat.mul_one, Nat.add_zero, List.getElem_cons_zero] using this) hg (by rw [List.length_map]; exact h1) (by rw [List.length_map]; exact e2) (by rw [hmap]; simpa using h2)
      rw [List.length_map, hmap] at this
      refine this.mono fun e w' ⟨he, bel⟩ => ⟨_, he, ?_, bel⟩
      simp [RelV]
  · cases h

end Go.Ev

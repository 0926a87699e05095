/- What the library's functions do for this seat. -/
import Derived.Test.YtjpbndlmjbmdaaaPlq1
import Derived.Test.YtjpbndlmjbmdaaaEvZ
import Derived.Sort.Walk0
import Derived.Test.YtjpbndlmjbmdaaaShP
import Derived.Laws.Cover1
import Derived.Shelf.SlMaps.Clone
import Derived.Shelf.SlSortCmp.NoneTotal
namespace Go.Pl
open Go Go.Ev Go.Proofs Go.RowKit Go.Sort
set_option maxRecDepth 100000

def cmpS (x y : List UInt8) : Int := if x < y then -1 else if y < x then 1 else 0
def cf28 (x y : ST) : Int := cmpS x.u y.u

theorem cmpS_neg (x y : List UInt8) : cmpS x y < 0 ↔ x < y := by
  unfold cmpS
  split
  · simp [*]
  · split <;> simp [*]

theorem lt28 (x y : ST) : ltOf cf28 x y = decide (x.u < y.u) := by
  simp only [ltOf, cf28, cmpS_neg]

theorem swo28 : SWO (ltOf cf28) where
  irrefl := fun x => by rw [lt28]; simp [List.lt_irrefl]
  trans := fun x y z h1 h2 => by
    rw [lt28, decide_eq_true_eq] at *
    exact List.lt_trans h1 h2
  ntrans := fun x y z h1 h2 => by
    rw [lt28, decide_eq_false_iff_not, List.not_lt] at *
    exact List.le_trans h2 h1

theorem walk29 (w : World) (x y : List UInt8) : Calls Try.prog 29 #[.string ⟨x.toArray⟩, .string ⟨y.toArray⟩] w fun e w' => e = .returned (.int .i64 (cmpS x y)) ∧ w' = w := by
  have mixed := mixedW
  have h34 : ∀ (x : List UInt8) W, Calls Try.prog 34 #[.string ⟨x.toArray⟩] W fun e w' => e = .returned (.bool false) ∧ w' = W := fun x W => by
    go_enter Try.func34, Try.ntmps34
    go_wp2
    go_ret
    exact ⟨by simp, rfl⟩
  go_enter Try.func29, Try.ntmps29
  go_wp2_with (refine (h34 _ _).mono ?_; rintro e w' ⟨rfl, rfl⟩)
  · rename_i h1
    go_ret
    refine ⟨?_, rfl⟩
    rw [bytesLess_eq, decide_eq_true_eq] at h1
    simp [cmpS, h1]
  · rename_i h1
    have h2 : Op.bytesLess x y = false := by assumption
    go_ret
    refine ⟨?_, rfl⟩
    rw [bytesLess_eq, decide_eq_false_iff_not] at h2
    have h3 : y < x := by
      rcases List.le_iff_lt_or_eq.1 (List.not_lt.1 h2) with h | h
      · exact h
      · rw [h] at h1; simp at h1
    simp [cmpS, h2, h3]
  · rename_i h2 h1
    go_ret
    refine ⟨?_, rfl⟩
    have h3 : x = y := by simpa using h1
    subst h3
    simp [cmpS, List.lt_irrefl]

theorem walk28 (w : World) (x y : ST) : Calls Try.prog 28 #[.agg (enc3 x).toArray, .agg (enc3 y).toArray] w fun e w' => e = .returned (.int .i64 (cf28 x y)) ∧ ∃ q os', w' = grow (w.drewN q) os' := by
  have mixed := mixedW
  have hc : ∀ W, Calls Try.prog 29 #[.string ⟨x.u.toArray⟩, .string ⟨y.u.toArray⟩] W fun e w' => e = .returned (.int .i64 (cmpS x.u y.u)) ∧ w' = W := fun W => walk29 W x.u y.u
  unfold enc3
  go_enter Try.func28, Try.ntmps28
  go_wp2_with (refine (hc _).mono ?_; rintro e w' ⟨rfl, rfl⟩)
  go_ret
  refine ⟨rfl, 0, #[.cells #[.string ⟨x.u.toArray⟩, .int .i64 x.s, .int .i64 x.e] 35, .cells #[.string ⟨y.u.toArray⟩, .int .i64 y.s, .int .i64 y.e] 35], ?_⟩
  rw [alloc_eq_grow, alloc_eq_grow, grow_grow]
  rfl

/-- The values of a map, in the order of their users. -/
def srt26 (l : List (List UInt8 × T3.den)) : List T3.den := (l.map (·.2)).mergeSort fun x y => !decide (y.1 < x.1)

/-- each value is its key's, and there are not too many -/
def srt26OK (l : List (List UInt8 × T3.den)) : Bool := decide (l.length ≤ 1048576) && l.all fun p => decide (p.1.length ≤ maxLen) && decide (p.1 = p.2.1)

theorem srt26_of {l : List (List UInt8 × T3.den)} (hn : (l.map (·.1)).Nodup) (hk : ∀ p ∈ l, p.1 = p.2.1) {d : List ST} (hp : d.Perm (l.map fun p => toST p.2)) (hs : d.Pairwise fun x y => ¬ y.u < x.u) : d = (srt26 l).map toST := by
  have hinj : ∀ x ∈ l.map (fun p => toST p.2), ∀ y ∈ l.map (fun p => toST p.2), x.u = y.u → x = y := fun x hx y hy e => by
    obtain ⟨p, hp, rfl⟩ := List.mem_map.1 hx
    obtain ⟨q, hq, rfl⟩ := List.mem_map.1 hy
    have hkk : p.1 = q.1 := by rw [hk p hp, hk q hq]; exact e
    have : p = q := by
      obtain ⟨i, hi, rfl⟩ := List.getElem_of_mem hp
      obtain ⟨j, hj, rfl⟩ := List.getElem_of_mem hq
      have h1 := List.pairwise_iff_getElem.1 (List.pairwise_map.1 hn)
      rcases Nat.lt_trichotomy i j with h | h | h
      · exact absurd hkk (h1 i j hi hj h)
      · subst h; rfl
      · exact absurd hkk.symm (h1 j i hj hi h)
    rw [this]
  have hperm : ((srt26 l).map toST).Perm (l.map fun p => toST p.2) := by
    have := (List.mergeSort_perm (l.map (·.2)) fun x y : T3.den => !decide (y.1 < x.1)).map toST
    simpa [srt26, List.map_map, Function.comp_def] using this
  have hs2 : ((srt26 l).map toST).Pairwise fun x y => ¬ y.u < x.u := by
    rw [List.pairwise_map]
    have tr : ∀ a b c : T3.den, (!decide (b.1 < a.1)) = true → (!decide (c.1 < b.1)) = true → (!decide (c.1 < a.1)) = true := fun a b c h1 h2 => by
      simp only [Bool.not_eq_true', decide_eq_false_iff_not, List.not_lt] at *
      exact List.le_trans h1 h2
    have tl : ∀ a b : T3.den, ((!decide (b.1 < a.1)) || (!decide (a.1 < b.1))) = true := fun a b => by
      simp only [Bool.or_eq_true, Bool.not_eq_true', decide_eq_false_iff_not, List.not_lt]
      exact List.le_total _ _
    exact (List.pairwise_mergeSort tr tl (l.map (·.2))).imp fun h => by simpa [toST] using h
  refine List.Perm.eq_of_pairwise (le := fun x y => ¬ y.u < x.u) (fun a b ha hb h1 h2 => ?_) hs hs2 (hp.trans hperm.symm)
  have e : a.u = b.u := List.le_antisymm (List.not_lt.1 h1) (List.not_lt.1 h2)
  exact hinj a (hp.mem_iff.1 ha) b (hperm.mem_iff.1 hb) e

/-! A slice that a function of the library has made. -/
theorem turned_new {T : Tb} {F : Frm T} {μ : Nat → Option Nat} {H : Nat → Blk} {nx : Nat} {w w' : World} (hp : Hp F μ H nx w) (hb : Go.RowKit.Below w.heap.size w w') {g' : Option Nat} {B : Blk} (hB : B ≠ .dead) (hg : ∀ g, g' = some g → w.heap.size ≤ g ∧ g < w'.heap.size) :
    Turned F μ H nx w [] nx g' B (nx + 1) w' where
  hp := hp
  os := hb.os
  tape := hb.tape
  output := hb.output
  size := hb.size
  keep := fun g hg _ => hb.block g hg
  at_ := fun g h => .inr (hg g h)
  mono := Nat.le_succ _
  lt := Nat.lt_succ_self _
  live := hB
  kind := fun h => absurd h (Nat.lt_irrefl _)
  self := fun _ h => absurd (hp.dead nx (Nat.le_refl _)) h

theorem new_data {P : Program} {F : Frm (tabsOf P)} {μ : Nat → Option Nat} {S : St} {w w' : World} {gb c : Nat} {t : Ty} {l : List t.den} (hp : Hp F μ S.H S.nx w) (hb : Go.RowKit.Below w.heap.size w w') (hg : w.heap.size ≤ gb) (hg' : gb < w'.heap.size) (hcl : l.length ≤ c) (hroom : room w' gb (c * t.size))
    (hrow : ∀ i (h : i < l.length), ∃ es : List Value, es.length = t.size ∧ Go.Ev.rowAt w' gb (i * t.size) es ∧ ∀ N, RelD w' N t l[i] es) :
    ∃ μ' kl, (⟨S.E, updH S.H S.nx (.data t l), S.nx + 1, S.kl⟩ : St).E = killsE kl S.E ∧ (⟨S.E, updH S.H S.nx (.data t l), S.nx + 1, S.kl⟩ : St).kl = S.kl ++ kl ∧ Hp F μ' (updH S.H S.nx (.data t l)) (S.nx + 1) w' ∧ Pl F μ S.H S.nx w kl μ' (updH S.H S.nx (.data t l)) (S.nx + 1) w' ∧ RelV w' (Not F μ' (updH S.H S.nx (.data t l))) μ' (updH S.H S.nx (.data t l)) (.wh S.nx) (.slice (some ⟨gb, 0, none⟩) l.length c) := by
  have T := turned_new hp hb (g' := some gb) (B := .data t l) (by simp) (fun g h => by cases h; exact ⟨hg, hg'⟩)
  refine ⟨updM μ S.nx (some gb), [], rfl, by simp, T.hp' ?_, T.pl, ?_⟩
  · simp only [RelB]
    refine .inr ⟨gb, updM_same _ _ _, fun k hk => hroom k (Nat.lt_of_lt_of_le hk (Nat.mul_le_mul_right _ hcl)), fun i hi => ?_⟩
    obtain ⟨es, e1, e2, e3⟩ := hrow i hi
    exact ⟨es, e1, e2, e3 _⟩
  · simp only [RelV]
    exact ⟨t, l, updH_same _ _ _, .inl ⟨gb, c, updM_same _ _ _, rfl, hcl, hroom⟩⟩

theorem new_nil {P : Program} {F : Frm (tabsOf P)} {μ : Nat → Option Nat} {S : St} {w w' : World} {t : Ty} (hp : Hp F μ S.H S.nx w) (hb : Go.RowKit.Below w.heap.size w w') :
    ∃ μ' kl, (⟨S.E, updH S.H S.nx (.data t []), S.nx + 1, S.kl⟩ : St).E = killsE kl S.E ∧ (⟨S.E, updH S.H S.nx (.data t []), S.nx + 1, S.kl⟩ : St).kl = S.kl ++ kl ∧ Hp F μ' (updH S.H S.nx (.data t [])) (S.nx + 1) w' ∧ Pl F μ S.H S.nx w kl μ' (updH S.H S.nx (.data t [])) (S.nx + 1) w' ∧ RelV w' (Not F μ' (updH S.H S.nx (.data t []))) μ' (updH S.H S.nx (.data t [])) (.wh S.nx) (.slice none 0 0) := by
  have T := turned_new hp hb (g' := none) (B := .data t []) (by simp) (fun g h => by cases h)
  refine ⟨updM μ S.nx none, [], rfl, by simp, T.hp' ?_, T.pl, ?_⟩
  · simp only [RelB]
    exact .inl ⟨updM_same _ _ _, trivial⟩
  · simp only [RelV]
    exact ⟨t, [], updH_same _ _ _, .inr ⟨updM_same _ _ _, rfl, trivial⟩⟩

/-! slices.SortedFunc(maps.Values(m), by users) -/
theorem flatS_get : ∀ (ss : List ST) (j : Nat), j < ss.length * 3 → (flatS ss)[j]? = (enc3 ss[j / 3]!)[j % 3]?
  | [], j, h => by simp at h
  | x :: r, j, h => by
    have e : flatS (x :: r) = enc3 x ++ flatS r := by simp [flatS]
    rw [e]
    by_cases hj : j < 3
    · rw [List.getElem?_append_left (by exact hj), Nat.div_eq_of_lt hj, Nat.mod_eq_of_lt hj]
      rfl
    · have hl : (enc3 x).length = 3 := rfl
      rw [List.getElem?_append_right (by rw [hl]; omega), hl, flatS_get r (j - 3) (by simp only [List.length_cons] at h; omega)]
      have h1 : j / 3 = (j - 3) / 3 + 1 := by omega
      have h2 : j % 3 = (j - 3) % 3 := by omega
      rw [h1, h2]
      rfl

theorem holds3 {W : World} {gb : Nat} {cur : Array Value} {ss : List ST} (hgb : W.heap[gb]? = some (.cells cur 35 (0, 0))) (hk : cur.toList.take (ss.length * 3) = flatS ss) : HoldsK enc3 3 W gb 0 ss.toArray := by
  intro j hj
  rw [size_flatK, List.size_toArray] at hj
  refine ⟨?_, by simp [World.frozen?, hgb]⟩
  rw [get_flatK _ _ _ _ (by simpa using hj)]
  have h1 := flatS_get ss j hj
  rw [← hk, List.getElem?_take_of_lt hj] at h1
  have h3 : j % 3 < (enc3 ss.toArray[j / 3]!).length := by
    have : (enc3 ss.toArray[j / 3]!).length = 3 := rfl
    rw [this]; omega
  have h4 : (enc3 ss.toArray[j / 3]!)[j % 3]? = some (enc3 ss.toArray[j / 3]!)[j % 3]! := by
    rw [List.getElem?_eq_getElem h3, getElem!_pos (enc3 ss.toArray[j / 3]!) (j % 3) h3]
  have h5 : ss[j / 3]! = ss.toArray[j / 3]! := by simp
  rw [h5, h4] at h1
  simp only [World.cell?, Nat.zero_add, hgb]
  simpa using h1

theorem sortedF (w : World) {Bm b : Nat} {l : List (List UInt8 × T3.den)} {es : Array MapEntry} {c : Nat} {N : Nat → Prop} (hBm : Bm < w.heap.size) (hm : w.cell? ⟨Bm, 0, none⟩ = some (.map (some b)))
    (hg : w.heap[b]? = some (.map es c)) (hs : Go.MapKept.Stamped es c) (hM : RelM w N .str T3 true l es.toList) (hOK : srt26OK l = true) :
    Calls Try.prog 26 #[.func (.func 33) #[] #[.pointer (some ⟨Bm, 0, none⟩)], .func (.func 28) #[] #[]] w fun e w' => Go.RowKit.Below w.heap.size w w' ∧
      ((e = .returned (.slice none 0 0) ∧ srt26 l = []) ∨ ∃ gb cap, e = .returned (.slice (some ⟨gb, 0, none⟩) (srt26 l).length cap) ∧ w.heap.size ≤ gb ∧ gb < w'.heap.size ∧ (srt26 l).length ≤ cap ∧ room w' gb (cap * 3) ∧ HoldsK enc3 3 w' gb 0 ((srt26 l).map toST).toArray) := by
  have mixed := mixedW
  simp only [srt26OK, Bool.and_eq_true, decide_eq_true_eq, List.all_eq_true] at hOK
  obtain ⟨hlen, hOK⟩ := hOK
  have hnd : (l.map (·.1)).Nodup := by
    have hn := hs.2.2
    obtain ⟨hl, hent⟩ := relM3 hM
    have hsz : es.size = l.length := by simpa using hl
    have : es.toList.map (·.key) = (l.map (·.1)).map encStr := by
      apply List.ext_getElem
      · simp [hsz]
      · intro i h1 h2
        simp only [List.getElem_map]
        exact (hent i (by simpa using h2) (by simpa using h1)).1
    rw [this] at hn
    rw [List.Nodup, List.pairwise_map] at hn
    exact hn.imp fun h e => h (by rw [e])
  have hmx : (1048576 : Nat) ≤ maxLen := by decide
  have hlm : l.length ≤ maxLen := by omega
  obtain ⟨D0, hown, hsize, hall⟩ := owns3 hg hs hM hlm (fun p hp => (hOK p hp).1)
  have hseq := vals_gives 4 (by omega) Bm b l.length D0 w hBm hm hown
  have e33 := Try.call33
  have hcol := callsIn_wide.1 (collect_in Fence.wide 6 trivial trivial rfl (by omega) 33 #[.pointer (some ⟨Bm, 0, none⟩)] trivial e33 (AllOf D0) (Maps.size D0) (by omega) (by omega) w hseq)
  have hnone : ∀ W, Calls Try.prog 32 #[.slice none 0 0, .func (.func 28) #[] #[]] W fun e w' => e = .returned (.tuple #[]) ∧ w' = W := fun W => AnyF.slices_SortFunc_none Try.laysSlF06_f32 none 0 _ W
  go_enter Try.func26, Try.ntmps26
  go_wp2_with (refine hcol.mono ?_; rintro e W ⟨v, ss, rfl, hS, hrow, hnil, hb⟩)
  have hperm := hall ss hS
  have hsl : ss.length = l.length := by simpa using hperm.length_eq
  have hsb : ss.length < 4611686018427387904 := by omega
  rcases hrow.2 with ⟨rfl, hz⟩ | ⟨gb, cap, cur, rfl, hbase, hgb, r1, r2, r3, r4⟩
  · have hl0 : l = [] := List.eq_nil_of_length_eq_zero (by omega)
    go_wp2_with (refine (hnone W).mono ?_; rintro e w' ⟨rfl, rfl⟩)
    go_ret
    exact ⟨hb, .inl ⟨rfl, by rw [hl0]; simp [srt26]⟩⟩
  · have hH : HoldsK enc3 3 W gb 0 ss.toArray := holds3 hgb r4
    have hgl : gb < W.heap.size := (Array.getElem?_eq_some_iff.1 hgb).1
    have hsort := AnyQ.slices_SortFunc Try.laysSlF06_f32 3 Try.isAgg35 Try.sizeOf35 enc3 (fun _ => rfl) (fun x v hv => by
      simp only [enc3, List.mem_cons, List.not_mem_nil, or_false] at hv
      rcases hv with rfl | rfl | rfl <;> rfl) cf28 swo28 28 #[] gb 0 cap ss.toArray W (fun args w => Try.call28 args w) (fun m os dk _ x y => walk28 _ x y) hH hgl (by simpa using hsb)
    simp only [List.size_toArray] at hsort
    go_wp2_with (refine hsort.mono ?_; rintro e w' ⟨rfl, d', nn, os, hp, hs', rfl⟩)
    go_ret
    have hd' : d'.toList = (srt26 l).map toST := by
      refine srt26_of hnd (fun p hp => (hOK p hp).2) ?_ ?_
      · obtain ⟨h1, _, h2⟩ := hp
        have e1 : d'.extract 0 ss.length = d' := by
          have : d'.size = ss.length := by simpa using h1
          rw [← this]; exact Array.extract_size
        have e2 : ss.toArray.extract 0 ss.length = ss.toArray := by
          have : ss.toArray.size = ss.length := by simp
          rw [← this]; exact Array.extract_size
        rw [e1, e2] at h2
        exact h2.trans hperm
      · rw [List.pairwise_iff_getElem]
        intro i j hi hj hij
        have hsz : d'.size = ss.length := by simpa using hp.1
        simp only [Array.length_toList] at hi hj
        have := hs' i j (Nat.zero_le _) hij (by omega)
        rw [lt28, decide_eq_false_iff_not, getElem!_pos d' i hi, getElem!_pos d' j hj] at this
        simpa using this
    have hsz : d'.size = ss.length := by simpa using hp.1
    have hl2 : (srt26 l).length = ss.length := by
      have := congrArg List.length hd'
      simp only [Array.length_toList, List.length_map] at this
      omega
    generalize hw : sortWorldK enc3 3 W gb 0 nn d' os = w'
    have hw := hw.symm
    have hsize : (putRowK enc3 3 (Go.Sort.ahead W nn) gb 0 d').heap.size = W.heap.size := by simp [putRowK, putRow, mapBlock, Go.Sort.ahead]
    have hold : ∀ k, k < W.heap.size → k ≠ gb → w'.heap[k]? = W.heap[k]? := fun k hk hne => by
      rw [hw]
      unfold sortWorldK
      have : (grow (putRowK enc3 3 (Go.Sort.ahead W nn) gb 0 d') os).heap[k]? = (putRowK enc3 3 (Go.Sort.ahead W nn) gb 0 d').heap[k]? := by
        simp only [grow]
        rw [Array.getElem?_append_left (by rw [hsize]; exact hk)]
      rw [this]
      exact heap_putRow_other _ _ _ _ _ hne
    have hsz' : W.heap.size ≤ w'.heap.size := by rw [hw]; unfold sortWorldK; rw [Go.Sort.size_grow, hsize]; omega
    have hH' : HoldsK enc3 3 w' gb 0 d' := by
      rw [hw]
      unfold sortWorldK
      exact holdsK_grow enc3 3 _ os gb 0 d' (by rw [hsize]; exact hgl) (holdsK_putRowK enc3 3 _ gb 0 ss.toArray d' (holdsK_ahead enc3 3 W nn gb 0 _ hH) (by rw [hsz]; simp))
    have hroom' : ∀ m, room W gb m → room w' gb m := fun m hr k hk => by
      obtain ⟨r1, r2⟩ := hr k hk
      have hcell : w'.frozen? ⟨gb, k, none⟩ = W.frozen? ⟨gb, k, none⟩ := by
        rw [hw]
        unfold sortWorldK
        rw [Go.Sort.frozen?_grow _ _ _ (by rw [hsize]; exact hgl)]
        exact frozen?_putRow _ _ _ _ _ _
      refine ⟨?_, by rw [hcell]; exact r2⟩
      by_cases hkk : k < ss.length * 3
      · have := hH' k (by rw [size_flatK, hsz]; exact hkk)
        rw [Nat.zero_add] at this
        rw [this.1]; rfl
      · have : w'.cell? ⟨gb, k, none⟩ = W.cell? ⟨gb, k, none⟩ := by
          rw [hw]
          unfold sortWorldK
          rw [Go.Sort.cell?_grow _ _ _ (by rw [hsize]; exact hgl)]
          exact cell?_putRow_other _ _ _ _ _ _ (.inr (.inr (by rw [size_flatK, hsz]; simpa using hkk)))
        rw [this]; exact r1
    have hbelow : Go.RowKit.Below w.heap.size w w' := hb.trans {
      os := by rw [hw]; rfl
      tape := by rw [hw]; rfl
      output := by rw [hw]; rfl
      size := hsz'
      block := fun k hk => hold k (Nat.lt_of_lt_of_le hk hb.size) (by omega) }
    have hroomW : room W gb (cap * 3) := fun k hk => by
      have hk' : k < cur.size := by omega
      refine ⟨?_, by simp [World.frozen?, hgb]⟩
      simp only [World.cell?, hgb]
      simp [hk']
    refine ⟨hbelow, .inr ⟨gb, cap, by rw [hl2, hsl]; rfl, hbase, Nat.lt_of_lt_of_le hgl hsz', by omega, hroom' _ hroomW, ?_⟩⟩
    rw [← hd', Array.toArray_toList]
    exact hH'

def zSortedVals : Deed := fun args S => match args with
  | [.fn f [.ptr b o], .fn g []] => cond (Nat.beq f 33 && Nat.beq g 28 && Nat.beq o 0) (match S.H b with
    | .vars [.mp m] => match S.H m with
      | .mapd kt vt true l => if h : kt = .str then (if h2 : vt = T3 then some (srt26OK (castM h h2 l), .wh S.nx, ⟨S.E, updH S.H S.nx (.data T3 (srt26 (castM h h2 l))), S.nx + 1, S.kl⟩) else none) else none
      | _ => none
    | _ => none) none
  | _ => none

theorem zSorted26 : ZOK Try.prog 26 zSortedVals := by
  refine ⟨Try.call26, fun args S v S' h F μ w vals hp hr => ?_⟩
  unfold zSortedVals at h
  split at h
  · rename_i f b o g
    obtain ⟨h1, h2⟩ := cond_some h
    simp only [Bool.and_eq_true] at h1
    obtain ⟨⟨hf, hg⟩, ho⟩ := h1
    have hf := Nat.eq_of_beq_eq_true hf
    have hg := Nat.eq_of_beq_eq_true hg
    have ho := Nat.eq_of_beq_eq_true ho
    subst hf
    subst hg
    subst ho
    split at h2
    · rename_i m hb
      split at h2
      · rename_i kt vt l hm
        split at h2
        · rename_i e1
          subst e1
          split at h2
          · rename_i e2
            subst e2
            rw [Option.some.injEq, Prod.mk.injEq, Prod.mk.injEq] at h2
            obtain ⟨hOK, rfl, rfl⟩ := h2
            simp only [castM] at hOK ⊢
            simp only [RelVs, RelV] at hr
            obtain ⟨v1, _, rfl, ⟨vs1, rfl, vp, _, rfl, ⟨hlive, gp, hgp, rfl⟩, rfl⟩, v2, _, rfl, ⟨vs2, rfl, rfl⟩, rfl⟩ := hr
            have hB := hp.blk b
            simp only [hb, RelB] at hB
            rcases hB with hB | ⟨gp', cs, hgp', hcs, hrow, hroom⟩
            · rw [hgp] at hB; cases hB
            rw [hgp] at hgp'
            cases hgp'
            simp only [RelVs, RelV] at hcs
            obtain ⟨cv, _, rfl, ⟨hml, gm, hgm, rfl⟩, rfl⟩ := hcs
            have hM := hp.blk m
            simp only [hm, RelB] at hM
            rcases hM with hM | ⟨gm', es, c, hgm', hh, hst, hrel⟩
            · rw [hgm] at hM; cases hM
            rw [hgm] at hgm'
            cases hgm'
            have hcell : w.cell? ⟨gp, 0, none⟩ = some (.map (some gm)) := hrow 0 (by simp)
            refine (sortedF w (hp.lt b gp hlive hgp) hcell hh hst hrel hOK).mono fun e w' ⟨hbl, hres⟩ => ?_
            rcases hres with ⟨rfl, hnil⟩ | ⟨gb, cap, rfl, g1, g2, g3, g4, g5⟩
            · rw [hnil]
              obtain ⟨μ', kl, r1, r2, r3, r4, r5⟩ := new_nil (S := S) (t := T3) hp hbl
              exact ⟨μ', kl, _, rfl, r1, r2, r3, r4, r5⟩
            · obtain ⟨μ', kl, r1, r2, r3, r4, r5⟩ := new_data (S := S) (t := T3) (l := srt26 l) hp hbl g1 g2 g3 g4 (fun i hi => by
                refine ⟨enc3 (toST (srt26 l)[i]), rfl, fun k hk => ?_, fun N => relT3' (toST (srt26 l)[i])⟩
                have hk3 : k < 3 := hk
                have hsz : i < ((srt26 l).map toST).toArray.size := by simpa using hi
                have := HoldsK.cell g5 (i := i) (c := k) hsz hk3
                rw [Nat.zero_add] at this
                have e1 : ((srt26 l).map toST).toArray[i]! = toST (srt26 l)[i] := by
                  rw [getElem!_pos _ i hsz]
                  simp
                have hkk : k < (enc3 (toST (srt26 l)[i])).length := hk
                show w'.cell? ⟨gb, i * 3 + k, none⟩ = _
                rw [this.1, e1, getElem!_pos (enc3 (toST (srt26 l)[i])) k hkk])
              exact ⟨μ', kl, _, rfl, r1, r2, r3, r4, r5⟩
          · cases h2
        · cases h2
      · cases h2
    · cases h2
  · cases h

/-! maps.Clone -/
theorem clone30 (w : World) {b : Nat} {es : Array MapEntry} {clock : Nat} (hb : w.heap[b]? = some (.map es clock)) :
    Calls Try.prog 30 #[.map (some b)] w fun e w' => e = .returned (.map (some w.heap.size)) ∧ w' = w.alloc (.map es clock) := by
  have mixed := mixedW
  have hq := fun w => run_eql_map_nil_sl (P := Try.prog) w 55 _ _ (some b) Try.underlying55
  go_enter Try.func30, Try.ntmps30
  go_wp2
  rw [run_callFunc_extern Try.func35 (by kernel_rfl) (by kernel_rfl) (by kernel_rfl) (e := Extern.MapsClone.clone) (by kernel_rfl), run_maps_clone_sl w 55 hb]
  simp only [Result.andThen]
  rw [Oper.upon_value]
  go_wp2
  rw [run_typeAssert_map_sl _ 55 20 _ _ _ Try.underlying55]
  simp only [Result.andThen]
  rw [Oper.upon_value]
  go_wp2
  go_ret
  exact ⟨rfl, rfl⟩

def zClone : Deed := fun args S => match args with
  | [.mp m] => match S.H m with
    | .mapd kt vt ag l => some (true, .mp S.nx, ⟨S.E, updH S.H S.nx (.mapd kt vt ag l), S.nx + 1, S.kl⟩)
    | _ => none
  | _ => none

theorem zClone_ok {P : Program} {f : FuncId} (hen : Go.Ev.Enters P f)
    (hc : ∀ (w : World) (b : Nat) (es : Array MapEntry) (clock : Nat), w.heap[b]? = some (.map es clock) → Calls P f #[.map (some b)] w fun e w' => e = .returned (.map (some w.heap.size)) ∧ w' = w.alloc (.map es clock)) : ZOK P f zClone := by
  refine ⟨hen, fun args S v S' h F μ w vals hp hr => ?_⟩
  unfold zClone at h
  split at h
  · rename_i m
    split at h
    · rename_i kt vt ag l hm
      rw [Option.some.injEq, Prod.mk.injEq, Prod.mk.injEq] at h
      obtain ⟨_, rfl, rfl⟩ := h
      simp only [RelVs, RelV] at hr
      obtain ⟨v1, _, rfl, ⟨hml, gm, hgm, rfl⟩, rfl⟩ := hr
      have hM := hp.blk m
      simp only [hm, RelB] at hM
      rcases hM with hM | ⟨gm', es, c, hgm', hh, hst, hrel⟩
      · rw [hgm] at hM; cases hM
      rw [hgm] at hgm'
      cases hgm'
      refine (hc w gm es c hh).mono fun e w' ⟨he, hw⟩ => ?_
      subst hw
      have hbl : Go.RowKit.Below w.heap.size w (w.alloc (.map es c)) := (Below.refl _ w).alloc (Nat.le_refl _) _
      have T := turned_new hp hbl (g' := some w.heap.size) (B := .mapd kt vt ag l) (by simp) (fun g h => by cases h; exact ⟨Nat.le_refl _, by simp⟩)
      refine ⟨updM μ S.nx (some w.heap.size), [], _, he, rfl, by simp, T.hp' ?_, T.pl, ?_⟩
      · simp only [RelB]
        refine .inr ⟨w.heap.size, es, c, updM_same _ _ _, World.alloc_heap_new w _, hst, ?_⟩
        exact hrel.keep T.keepN T.notN
      · simp only [RelV]
        exact ⟨by simp [updH_same], _, updM_same _ _ _, rfl⟩
    · cases h
  · cases h

theorem zClone30 : ZOK Try.prog 30 zClone := zClone_ok Try.call30 fun w b es clock hb => clone30 w hb
end Go.Pl

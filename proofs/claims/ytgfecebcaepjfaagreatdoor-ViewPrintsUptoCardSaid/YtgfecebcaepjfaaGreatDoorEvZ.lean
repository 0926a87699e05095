/- Deeds: what functions of the library do to slices of their own, told by their contracts. -/
import Derived.Test.YtgfecebcaepjfaaGreatDoorEvY
import Derived.Shelf.SlSortCmp.WholeK
import Derived.Lib.IndexMore
namespace Go.Ev
open Go Go.Proofs Go.Sort

/-- strings.Contains -/
def zContains : Deed := fun args S => match args with
  | [.s a, .s b] => some (decide (a.length < 4294967281), .b (Lib.contains a b), S)
  | _ => none

theorem zContains_ok {P : Program} {f : FuncId} {g : Nat} (hen : Enters P f) (hg : globAt P "internal/bytealg.MaxLen" = some g)
    (hc : ∀ (s sub : ByteArray) (m : Int) (w : World), s.size < 4294967281 → w.cell? ⟨g, 0, none⟩ = some (.int .i64 m) → Calls P f #[.string s, .string sub] w fun e w' => e = .returned (.bool (Lib.contains s.data.toList sub.data.toList)) ∧ w' = w) : ZOK P f zContains := by
  refine ⟨hen, fun args S v S' h F μ w vals hp hr => ?_⟩
  unfold zContains at h
  split at h
  · rename_i a b
    simp only [Option.some.injEq, Prod.mk.injEq, decide_eq_true_eq] at h
    obtain ⟨h1, rfl, rfl⟩ := h
    simp only [RelVs, RelV] at hr
    obtain ⟨_, _, rfl, rfl, _, _, rfl, rfl, rfl⟩ := hr
    obtain ⟨m, hm⟩ := hp.tab.2 g hg
    refine (hc ⟨a.toArray⟩ ⟨b.toArray⟩ m w (by simpa [ByteArray.size] using h1) hm).mono fun e w' ⟨he, hw⟩ => ?_
    subst hw
    exact ⟨μ, [], _, he, rfl, by simp, hp, Pl.keep hp (Chg.refl _), by simp [RelV]⟩
  · cases h

/-- two ints -/
@[reducible] def P2 : Ty := .pair (.int .i64) (.pair (.int .i64) .unit)

/-- Sorted as slices.SortFunc sorts. -/
def srt (cf : Int × Int × Unit → Int × Int × Unit → Int) (l : List (Int × Int × Unit)) : List (Int × Int × Unit) := (pdq (ltOf cf) l.toArray 0 l.length (Lib.bitLen l.length) true true).toList

/-- slices.SortFunc on pairs, by a function of the program -/
def zSort (g : FuncId) (cf : Int × Int × Unit → Int × Int × Unit → Int) : Deed := fun args S => match args with
  | [.wh b, .fn g' []] => match S.H b with
    | .data t l => if h : t = P2 then cond (Nat.beq g' g) (some (decide (List.length l < 4611686018427387904) && !l.isEmpty, .tup [], ⟨S.E, updH S.H b (.data P2 (srt cf (h ▸ l : List P2.den))), S.nx, S.kl⟩)) none else none
    | _ => none
  | _ => none

def enc2 (p : Int × Int × Unit) : List Value := [.int .i64 p.1, .int .i64 p.2.1]

theorem heap_putRow_other (enc : Value → Value) (w : World) (blk off : Nat) (d : Array Value) {k : Nat} (h : k ≠ blk) : (putRow enc w blk off d).heap[k]? = w.heap[k]? := by
  simp only [putRow, mapBlock, Array.getElem?_modify]
  rw [if_neg (fun e => h e.symm)]

theorem sort_core {P : Program} {f g : FuncId} {cf : Int × Int × Unit → Int × Int × Unit → Int} (hO : SWO (ltOf cf))
    (hg : ∀ w x y, Calls P g #[.agg (enc2 x).toArray, .agg (enc2 y).toArray] w fun e w' => e = .returned (.int .i64 (cf x y)) ∧ ∃ q os', w' = grow (w.drewN q) os')
    (hc : ∀ (blk cap : Nat) (d : Array (Int × Int × Unit)) (w : World), CmpLays P g #[] enc2 2 cf blk 0 d.size w → HoldsK enc2 2 w blk 0 d → blk < w.heap.size → d.size < 4611686018427387904 →
      Calls P f #[.slice (some ⟨blk, 0, none⟩) d.size cap, .func (.func g) #[] #[]] w fun e w' => e = .returned (.tuple #[]) ∧ ∃ n os, w' = sortWorldK enc2 2 w blk 0 n (pdq (ltOf cf) d 0 d.size (Lib.bitLen d.size) true true) os)
    {S : St} {F : Frm (tabsOf P)} {μ : Nat → Option Nat} {w : World} (hp : Hp F μ S.H S.nx w) {b gb c : Nat} {l : List (Int × Int × Unit)} (hb : S.H b = .data P2 l) (hlt : l.length < 4611686018427387904) (hm : μ b = some gb) (hcl : l.length ≤ c) (hroom : room w gb (c * 2)) :
    Calls P f #[.slice (some ⟨gb, 0, none⟩) l.length c, .func (.func g) #[] #[]] w fun e w' => ∃ μ' kl val, e = .returned val ∧ S.E = killsE kl S.E ∧ S.kl = S.kl ++ kl ∧ Hp F μ' (updH S.H b (.data P2 (srt cf l))) S.nx w' ∧
      Pl F μ S.H S.nx w kl μ' (updH S.H b (.data P2 (srt cf l))) S.nx w' ∧ RelV w' (Not F μ' (updH S.H b (.data P2 (srt cf l)))) μ' (updH S.H b (.data P2 (srt cf l))) (.tup []) val := by
  have hlive : S.H b ≠ .dead := by rw [hb]; simp
  have hlt' := hp.lt b gb hlive hm
  have hrow := hp.blk b
  simp only [hb, RelB] at hrow
  rcases hrow with ⟨hn, _⟩ | ⟨gb', hm', _, hrows⟩
  · rw [hm] at hn; cases hn
  · rw [hm] at hm'
    cases hm'
    have hsz2 : P2.size = 2 := rfl
    have lk : ∀ x, (enc2 x).length = 2 := fun _ => rfl
    -- the row
    have hH : HoldsK enc2 2 w gb 0 l.toArray := fun j hj => by
      rw [size_flatK] at hj
      have hj' : j < l.length * 2 := by simpa using hj
      have hd : j / 2 < l.length := by omega
      obtain ⟨es, e1, e2, e3⟩ := hrows (j / 2) hd
      have hrm := hroom j (by have := Nat.mul_le_mul_right 2 hcl; omega)
      refine ⟨?_, by rw [Nat.zero_add]; exact hrm.2⟩
      rw [get_flatK _ _ _ _ hj, Nat.zero_add]
      have hl : l.toArray[j / 2]! = l[j / 2] := by simp [hd]
      rw [hl]
      have hes : es = enc2 l[j / 2] := by
        simp only [P2, RelD] at e3
        obtain ⟨xs, ys, rfl, rfl, zs, us, rfl, rfl, rfl⟩ := e3
        rfl
      subst hes
      have := e2 (j % 2) (by rw [lk]; omega)
      rw [hsz2, show j / 2 * 2 + j % 2 = j by omega] at this
      rw [this]
      congr 1
      rw [getElem!_pos _ _ (by rw [lk]; omega)]
      rfl
    have hlen : l.toArray.size = l.length := by simp
    have := hc gb c l.toArray w (fun m os dk _ x y => hg _ x y) hH hlt' (by rw [hlen]; exact hlt)
    rw [hlen] at this
    refine this.mono fun e w' ⟨he, n, os, hw⟩ => ?_
    -- what is sorted
    generalize hd' : pdq (ltOf cf) l.toArray 0 l.length (Lib.bitLen l.length) true true = d' at hw
    have hsrt : srt cf l = d'.toList := by unfold srt; rw [hd']
    have hperm := (pdq_sorts (ltOf cf) hO l.toArray 0 l.length (Lib.bitLen l.length) true true (Nat.zero_le _) (by simp) (Or.inl rfl)).1
    rw [hd'] at hperm
    have hds : d'.size = l.length := by have := hperm.1; simpa using this
    have hl2 : d'.toList.length = l.length := by simpa using hds
    -- the world behind
    have hsize : (putRowK enc2 2 (Go.Sort.ahead w n) gb 0 d').heap.size = w.heap.size := by simp [putRowK, putRow, mapBlock, Go.Sort.ahead]
    have hold : ∀ k, k < w.heap.size → k ≠ gb → w'.heap[k]? = w.heap[k]? := fun k hk hne => by
      rw [hw]
      unfold sortWorldK
      have : (grow (putRowK enc2 2 (Go.Sort.ahead w n) gb 0 d') os).heap[k]? = (putRowK enc2 2 (Go.Sort.ahead w n) gb 0 d').heap[k]? := by
        simp only [grow]
        rw [Array.getElem?_append_left (by rw [hsize]; exact hk)]
      rw [this]
      exact heap_putRow_other _ _ _ _ _ hne
    have hsz' : w.heap.size ≤ w'.heap.size := by rw [hw]; unfold sortWorldK; rw [Go.Sort.size_grow, hsize]; omega
    have hH' : HoldsK enc2 2 w' gb 0 d' := by
      rw [hw]
      unfold sortWorldK
      exact holdsK_grow enc2 2 _ os gb 0 d' (by rw [hsize]; exact hlt') (holdsK_putRowK enc2 2 _ gb 0 l.toArray d' (holdsK_ahead enc2 2 w n gb 0 _ hH) (by rw [hds]; simp))
    have hroom' : ∀ m, room w gb m → room w' gb m := fun m hr k hk => by
      obtain ⟨r1, r2⟩ := hr k hk
      have hcell : w'.frozen? ⟨gb, k, none⟩ = w.frozen? ⟨gb, k, none⟩ := by
        rw [hw]
        unfold sortWorldK
        rw [Go.Sort.frozen?_grow _ _ _ (by rw [hsize]; exact hlt')]
        exact frozen?_putRow _ _ _ _ _ _
      refine ⟨?_, by rw [hcell]; exact r2⟩
      by_cases hkk : k < l.length * 2
      · have := hH' k (by rw [size_flatK, hds]; exact hkk)
        rw [Nat.zero_add] at this
        rw [this.1]; rfl
      · have : w'.cell? ⟨gb, k, none⟩ = w.cell? ⟨gb, k, none⟩ := by
          rw [hw]
          unfold sortWorldK
          rw [Go.Sort.cell?_grow _ _ _ (by rw [hsize]; exact hlt')]
          exact cell?_putRow_other _ _ _ _ _ _ (.inr (.inr (by rw [size_flatK, hds]; simpa using hkk)))
        rw [this]; exact r1
    have T : Turned F μ S.H S.nx w [] b (some gb) (.data P2 (srt cf l)) S.nx w' := {
      hp := hp
      os := by rw [hw]; rfl
      tape := by rw [hw]; rfl
      output := by rw [hw]; rfl
      size := hsz'
      keep := fun k hk hne => hold k hk fun e => hne hlive (by rw [e]; exact hm)
      at_ := fun k hk => by cases hk; exact .inl ⟨hlive, hm⟩
      mono := Nat.le_refl _
      lt := by
        rcases Nat.lt_or_ge b S.nx with h | h
        · exact h
        · exact absurd (hp.dead b h) hlive
      live := by simp
      kind := fun _ => Pin.zero rfl
      self := fun _ _ => by
        refine ⟨by rw [updM_same, hm], ?_⟩
        rw [hb]
        simp only [updH_same]
        exact ⟨⟨_, rfl, by rw [hsrt]; exact hl2⟩, fun k m hk hr => by rw [hm] at hk; cases hk; exact hroom' m hr⟩ }
    refine ⟨updM μ b (some gb), [], .tuple #[], he, rfl, by simp, T.hp' ?_, T.pl, by simp [RelV, RelVs]⟩
    simp only [RelB]
    refine .inr ⟨gb, updM_same _ _ _, ?_, fun i hi => ?_⟩
    · rw [hsrt, hl2]
      exact hroom' _ fun k hk => hroom k (Nat.lt_of_lt_of_le hk (Nat.mul_le_mul_right _ hcl))
    · have hi' : i < d'.size := by rw [hsrt] at hi; simpa using hi
      have hgi : (srt cf l)[i] = d'[i]! := by simp only [hsrt]; simp [hi']
      refine ⟨enc2 (d'[i]!), rfl, fun k hk => ?_, ?_⟩
      · have hk2 : k < 2 := hk
        have := HoldsK.cell hH' (i := i) (c := k) hi' hk2
        rw [Nat.zero_add] at this
        have hkk : k < (enc2 d'[i]!).length := hk
        rw [hsz2, this.1, getElem!_pos (enc2 d'[i]!) k hkk]
      · rw [hgi]
        simp only [P2, RelD]
        exact ⟨[_], [_], rfl, rfl, [_], [], rfl, rfl, rfl⟩

theorem zSort_ok {P : Program} {f g : FuncId} {cf : Int × Int × Unit → Int × Int × Unit → Int} (hen : Enters P f) (hO : SWO (ltOf cf))
    (hg : ∀ w x y, Calls P g #[.agg (enc2 x).toArray, .agg (enc2 y).toArray] w fun e w' => e = .returned (.int .i64 (cf x y)) ∧ ∃ q os', w' = grow (w.drewN q) os')
    (hc : ∀ (blk cap : Nat) (d : Array (Int × Int × Unit)) (w : World), CmpLays P g #[] enc2 2 cf blk 0 d.size w → HoldsK enc2 2 w blk 0 d → blk < w.heap.size → d.size < 4611686018427387904 →
      Calls P f #[.slice (some ⟨blk, 0, none⟩) d.size cap, .func (.func g) #[] #[]] w fun e w' => e = .returned (.tuple #[]) ∧ ∃ n os, w' = sortWorldK enc2 2 w blk 0 n (pdq (ltOf cf) d 0 d.size (Lib.bitLen d.size) true true) os) : ZOK P f (zSort g cf) := by
  refine ⟨hen, fun args S v S' h F μ w vals hp hr => ?_⟩
  unfold zSort at h
  split at h
  · rename_i b g'
    split at h
    · rename_i t l hb
      split at h
      · rename_i ht
        subst ht
        have hh := cond_some h
        clear h
        obtain ⟨hgg, h⟩ := hh
        have hgg := Nat.eq_of_beq_eq_true hgg
        subst hgg
        rw [Option.some.injEq, Prod.mk.injEq, Prod.mk.injEq, Bool.and_eq_true, decide_eq_true_eq, Bool.not_eq_true', List.isEmpty_eq_false_iff] at h
        obtain ⟨⟨hlt, hne⟩, hv, hS⟩ := h
        subst hv
        subst hS
        simp only [RelVs, RelV] at hr
        obtain ⟨v1, _, rfl, h1, v2, _, rfl, ⟨_, rfl, rfl⟩, rfl⟩ := hr
        obtain ⟨t', l', hB, h1⟩ := h1
        rw [hb] at hB
        cases hB
        rcases h1 with ⟨gb, c, hm, rfl, hcl, hroom⟩ | ⟨_, h0, _⟩
        · exact sort_core hO hg hc hp hb hlt hm hcl hroom
        · exact absurd h0 hne
      · cases h
    · cases h
  · cases h

end Go.Ev

/- The operations on maps. -/
import Derived.Test.YtgfecebcaepjfaaGreatDoorEvG
namespace Go.Ev
open Go Go.MapKept
section
variable {P : Program} {T : Tb} {F : Frm T} {μ : Nat → Option Nat} {S : St} {w : World} {α : Type} {r : α} {ρ : Operand → Value} {ρA : Operand → AV} {K : AV → St → Option α}

/-- The keys of a type are of the kind that its maps say. -/
structure MapT (P : Program) (t k e : TypeId) (kt vt : Ty) : Prop where
  und : P.underlying t = some (.map k e)
  key : (P.underlying k = some .string ∧ kt = .str) ∨ ∃ i, P.underlying k = some (.int i) ∧ kt = .int i

theorem mapTy_ok {t k e : TypeId} {kt vt : Ty} (h : mapTy P t = some (k, e, kt, vt)) : MapT P t k e kt vt := by
  unfold mapTy at h
  split at h
  · rename_i k' e' hu
    split at h
    · rename_i y hk hy
      simp only [Option.some.injEq, Prod.mk.injEq] at h
      obtain ⟨rfl, rfl, rfl, rfl⟩ := h
      exact ⟨hu, .inl ⟨hk, rfl⟩⟩
    · cases h
    · rename_i i y hne hk hy
      simp only [Option.some.injEq, Prod.mk.injEq] at h
      obtain ⟨rfl, rfl, rfl, rfl⟩ := h
      exact ⟨hu, .inr ⟨i, hk, rfl⟩⟩
    · cases h
  · cases h

/-- the value of a key -/
def encK : (t : Ty) → t.den → Value
  | .str, x => .string ⟨List.toArray x⟩
  | .int k, n => .int k n
  | _, _ => undef

def keyTy : Ty → Bool
  | .str => true
  | .int _ => true
  | _ => false

theorem MapT.kt {t k e : TypeId} {kt vt : Ty} (h : MapT P t k e kt vt) : keyTy kt = true := by
  rcases h.key with ⟨_, rfl⟩ | ⟨i, _, rfl⟩ <;> rfl

theorem relK {N : Nat → Prop} {kt : Ty} (hk : keyTy kt = true) {x : kt.den} {v : Value} (h : RelD w N kt x [v]) : v = encK kt x := by
  cases kt <;> simp only [keyTy, Bool.false_eq_true] at hk
  · simp only [RelD] at h; simpa [encK] using h
  · simp only [RelD] at h; simpa [encK] using h

theorem relK' {N : Nat → Prop} {kt : Ty} (hk : keyTy kt = true) (x : kt.den) : RelD w N kt x [encK kt x] := by
  cases kt <;> simp only [keyTy, Bool.false_eq_true] at hk
  · simp [RelD, encK]
  · simp [RelD, encK]

theorem keyEq_iff {kt : Ty} (hk : keyTy kt = true) (x y : kt.den) : keyEq kt x y = true ↔ encK kt x = encK kt y := by
  cases kt <;> simp only [keyTy, Bool.false_eq_true] at hk
  · simp [keyEq, encK]
  · simp [keyEq, encK]

theorem keyK_ok {N : Nat → Prop} {H : Nat → Blk} {kt : Ty} {x : AV} {v : Value} {K : kt.den → Option α} (hx : RelV w N μ H x v) (h : keyK kt x K = some r) : ∃ k, K k = some r ∧ v = encK kt k := by
  unfold keyK at h
  split at h
  · simp only [RelV] at hx
    exact ⟨_, h, hx⟩
  · rename_i k k' n Kc
    obtain ⟨h1, h2⟩ := cond_some h
    have := of_decide_eq_true h1
    subst this
    simp only [RelV] at hx
    exact ⟨n, h2, hx⟩
  · cases h

/-- The key of a type of maps can be looked for. -/
theorem MapT.isKey {t k e : TypeId} {kt vt : Ty} (h : MapT P t k e kt vt) : ∃ d, P.underlying k = some d ∧ ∀ x, IsKey d (encK kt x) := by
  rcases h.key with ⟨h1, rfl⟩ | ⟨i, h1, rfl⟩
  · exact ⟨_, h1, fun x => by simp [IsKey, encK]⟩
  · exact ⟨_, h1, fun x => by simp [IsKey, encK]⟩

/-- What a search among entries comes to. -/
theorem find_ok {N : Nat → Prop} {kt vt : Ty} {ag : Bool} (hk : keyTy kt = true) {d : TypeDesc} (hd : ∀ x, IsKey d (encK kt x)) (k : kt.den) : ∀ (l : List (kt.den × vt.den)) (es : List MapEntry) (n : Nat), RelM w N kt vt ag l es →
    (Instr.findNow d (encK kt k) es n = some none ∧ mapGet kt l k = none ∧ (∀ x ∈ es, x.key ≠ encK kt k)) ∨
    (∃ (j : Nat) (x : vt.den) (e : MapEntry), Instr.findNow d (encK kt k) es n = some (some (n + j, e.val)) ∧ es[j]? = some e ∧ e.key = encK kt k ∧ mapGet kt l k = some x ∧ ∃ cs, RelD w N vt x cs ∧ IsVal ag cs e.val)
  | [], es, n, h => by
    have : es = [] := List.length_eq_zero_iff.1 h.1
    subst this
    exact .inl ⟨rfl, rfl, by simp⟩
  | p :: l, [], n, h => by have := h.1; simp at this
  | p :: l, e :: es, n, h => by
    obtain ⟨h1, cs, h2, h3⟩ := h.2 0 (by simp) (by simp)
    simp only [List.getElem_cons_zero] at h1 h2 h3
    have he := relK hk h1
    have hl : RelM w N kt vt ag l es := ⟨by have := h.1; simpa using this, fun i a b => by
      have := h.2 (i + 1) (by simpa using a) (by simpa using b)
      simpa using this⟩
    obtain ⟨q, hq, hqi⟩ := sameNow_of_keys (hd k) (by rw [he]; exact hd p.1 : IsKey d e.key)
    by_cases hkk : encK kt p.1 = encK kt k
    · have hqt : q = true := hqi.2 (by rw [he, hkk])
      subst hqt
      refine .inr ⟨0, p.2, e, by simp [Instr.findNow, hq], rfl, he.trans hkk, ?_, cs, h2, h3⟩
      simp only [mapGet, (keyEq_iff hk _ _).2 hkk, cond_true]
    · have hqf : q = false := by
        cases q with
        | false => rfl
        | true => exact absurd (by rw [← he]; exact (hqi.1 rfl).symm) hkk
      subst hqf
      have hkf : keyEq kt p.1 k = false := by
        cases h : keyEq kt p.1 k with
        | false => rfl
        | true => exact absurd ((keyEq_iff hk _ _).1 h) hkk
      rcases find_ok hk hd k l es (n + 1) hl with ⟨g1, g2, g3⟩ | ⟨j, x, e', g1, g2, g3, g4, g5⟩
      · refine .inl ⟨by simp only [Instr.findNow, hq, g1], by simp only [mapGet, hkf, cond_false, g2], fun x hx => ?_⟩
        rcases List.mem_cons.1 hx with rfl | hx
        · rw [he]; exact hkk
        · exact g3 x hx
      · refine .inr ⟨j + 1, x, e', by simp only [Instr.findNow, hq, g1]; rw [show n + 1 + j = n + (j + 1) by omega], by simpa using g2, g3, by simp only [mapGet, hkf, cond_false, g4], g5⟩

/-- the map that a value is -/
theorem mapAt_ok (hp : Hp F μ S.H S.nx w) {kt vt : Ty} {ag : Bool} {x : AV} {v : Value} {K : Nat → List (kt.den × vt.den) → Option α} (hx : RelV w (Not F μ S.H) μ S.H x v) (h : mapAt kt vt ag S.H x K = some r) :
    ∃ b l g es c, K b l = some r ∧ S.H b = .mapd kt vt ag l ∧ μ b = some g ∧ v = .map (some g) ∧ w.heap[g]? = some (.map es c) ∧ Stamped es c ∧ RelM w (Not F μ S.H) kt vt ag l es.toList := by
  unfold mapAt at h
  split at h
  · rename_i b
    split at h
    · rename_i kt' vt' ag' l hb
      split at h
      · rename_i h1
        split at h
        · rename_i h2
          subst h1
          subst h2
          obtain ⟨h3, h4⟩ := cond_some h
          have := eq_of_beq h3
          subst this
          simp only [RelV] at hx
          obtain ⟨_, g, hg, rfl⟩ := hx
          have hB := hp.blk b
          simp only [hb, RelB] at hB
          rcases hB with hB | ⟨g', es, c, hg', h5, h6, h7⟩
          · rw [hg] at hB; cases hB
          rw [hg] at hg'
          cases hg'
          exact ⟨b, l, g, es, c, h4, hb, hg, rfl, h5, h6, h7⟩
        · cases h
      · cases h
    · cases h
  · cases h

theorem zeroAg_val {e : TypeId} {i : TypeInfo} {z : Value} (hi : P.info? e = some i) (hz : i.zero = some z) : IsVal (zeroAg P e) z.cells.toList z := by
  unfold zeroAg
  simp only [hi, hz]
  cases z <;> first | (refine .inr ⟨rfl, rfl, ?_⟩; rfl) | (refine .inl ⟨rfl, ?_⟩; simp [Value.cells])

theorem valK_ok {N : Nat → Prop} {H : Nat → Blk} {vt : Ty} {ag : Bool} {x : vt.den} {cs : List Value} {v : Value} {K : AV → Option α} (h1 : RelD w N vt x cs) (h2 : IsVal ag cs v) (h : valK ag (encc vt x) K = some r) : ∃ y, K y = some r ∧ RelV w N μ H y v := by
  have he := RelVs_encc (μ := μ) (H := H) h1
  unfold valK at h
  rcases h2 with ⟨rfl, rfl⟩ | ⟨rfl, _, rfl⟩
  · exact ⟨_, h, by simp only [RelV]; exact ⟨cs, rfl, he⟩⟩
  · simp only [cond_false] at h
    split at h
    · rename_i y hy
      rw [hy] at he
      simp only [RelVs] at he
      obtain ⟨v', vr, e1, e2, e3⟩ := he
      cases e1
      exact ⟨y, h, e2⟩
    · cases h

theorem agK_ok {N : Nat → Prop} {H : Nat → Blk} {ag : Bool} {x : AV} {v : Value} {K : List AV → Option α} (hx : RelV w N μ H x v) (h : agK ag x K = some r) : ∃ cs vs, K cs = some r ∧ RelVs w N μ H cs vs ∧ IsVal ag vs v := by
  unfold agK at h
  cases ag with
  | true =>
    simp only [cond_true] at h
    split at h
    · rename_i cs
      simp only [RelV] at hx
      obtain ⟨vs, rfl, h1⟩ := hx
      exact ⟨cs, vs, h, h1, .inl ⟨rfl, rfl⟩⟩
    · cases h
  | false =>
    simp only [cond_false] at h
    split at h
    · cases h
    · rename_i hna
      unfold cellsK at h
      have one : ∀ y : AV, y = x → notAgg v = true → K [y] = some r → ∃ cs vs, K cs = some r ∧ RelVs w N μ H cs vs ∧ IsVal false vs v := fun y hy hv hK => ⟨[y], [v], hK, by
        subst hy
        simp only [RelVs]
        exact ⟨v, [], rfl, hx, rfl⟩, .inr ⟨rfl, hv, rfl⟩⟩
      cases x <;> simp only [reduceCtorEq] at h
      case agg cs => exact absurd rfl (hna cs)
      case c u =>
        obtain ⟨h1, h2⟩ := cond_some h
        simp only [RelV] at hx
        exact one _ rfl (by rw [hx]; exact h1) h2
      case fn f cs => exact one _ rfl (by simp only [RelV] at hx; obtain ⟨vs, rfl, _⟩ := hx; rfl) h
      case sl t l => exact one _ rfl (by simp only [RelV, RelD] at hx; obtain ⟨a, c, hv, _⟩ := hx; simp at hv; subst hv; rfl) h
      case fp t l i f => exact one _ rfl (by simp only [RelV] at hx; obtain ⟨_, g, o, _, _, rfl, _⟩ := hx; rfl) h
      case ptr b o => exact one _ rfl (by simp only [RelV] at hx; obtain ⟨_, g, _, rfl⟩ := hx; rfl) h
      case mp b => exact one _ rfl (by simp only [RelV] at hx; obtain ⟨_, g, _, rfl⟩ := hx; rfl) h
      case ifc t x => exact one _ rfl (by simp only [RelV] at hx; obtain ⟨_, rfl, _⟩ := hx; rfl) h
      case mptr c b o => exact one _ rfl (by simp only [RelV] at hx; obtain ⟨_, ⟨_, g, _, rfl⟩ | ⟨_, rfl⟩⟩ := hx <;> rfl) h
      case ep b t i f => exact one _ rfl (by simp only [RelV] at hx; obtain ⟨_, g, _, _, _, rfl⟩ := hx; rfl) h
      case wh b => exact one _ rfl (by simp only [RelV] at hx; obtain ⟨t, l, _, ⟨g, c, _, rfl, _⟩ | ⟨_, _, rfl⟩⟩ := hx <;> rfl) h
      case win b lo n => exact one _ rfl (by simp only [RelV] at hx; obtain ⟨t, l, _, _, ⟨g, c, o, _, rfl, _⟩ | ⟨_, _, rfl⟩⟩ := hx <;> rfl) h
      all_goals exact one _ rfl (by simp only [RelV] at hx; rw [hx]; rfl) h

/-- A map is written anew. -/
theorem Turned.map (hp : Hp F μ S.H S.nx w) {b g c : Nat} {kt vt : Ty} {ag : Bool} {l l' : List (kt.den × vt.den)} {es es' : Array MapEntry} {c' : Nat} (hb : S.H b = .mapd kt vt ag l) (hm : μ b = some g) (hh : w.heap[g]? = some (.map es c)) :
    Turned F μ S.H S.nx w [] b (some g) (.mapd kt vt ag l') S.nx { w with heap := w.heap.setIfInBounds g (.map es' c') } :=
  have hl : S.H b ≠ .dead := by rw [hb]; simp
  { hp := hp, os := rfl, tape := rfl, output := rfl, size := by simp, live := by simp, mono := Nat.le_refl _
    keep := fun k hk hne => by
      have : g ≠ k := fun e => hne hl (by rw [hm, e])
      simp [this]
    at_ := fun k hk => by cases hk; exact .inl ⟨hl, hm⟩
    lt := by
      rcases Nat.lt_or_ge b S.nx with h | h
      · exact h
      · exact absurd (hp.dead b h) hl
    kind := fun _ _ => ⟨by rw [hb]; rfl, hm.symm⟩
    self := fun _ _ => ⟨by rw [updM_same, hm], by simp [hb, updH_same]⟩ }

/-- The end of an operation that writes a map. -/
theorem eff_set (hp : Hp F μ S.H S.nx w) {b g c : Nat} {kt vt : Ty} {ag : Bool} {l l' : List (kt.den × vt.den)} {es es' : Array MapEntry} {c' : Nat} (hb : S.H b = .mapd kt vt ag l) (hm : μ b = some g) (hh : w.heap[g]? = some (.map es c))
    (hs : Stamped es' c') (hr : RelM w (Not F μ S.H) kt vt ag l' es'.toList) {op : Op} {val : Value} {v : AV} (hv : ∀ w' N' μ' H', RelV w' N' μ' H' v val) (hfn : ∀ w', Fine P ρ op w w')
    (hrun : ∀ o : Oper, o.op = op → (execOp ρ o).run P w = .ok (.value val) { w with heap := w.heap.setIfInBounds g (.map es' c') } ∨ ((execOp ρ o).run P w = .ok .skip { w with heap := w.heap.setIfInBounds g (.map es' c') } ∧ val = undef))
    (hK : K v ⟨S.E, updH S.H b (.mapd kt vt ag l'), S.nx, S.kl⟩ = some r) : EffOK P F μ S w ρ op K r := by
  have Tn := Turned.map (l' := l') (es' := es') (c' := c') hp hb hm hh
  have hgl : g < w.heap.size := hp.lt b g (by rw [hb]; simp) hm
  refine ⟨_, _, updM μ b (some g), _, [], hK, rfl, by simp, Tn.hp' ?_, Tn.pl, val, hrun, hv _ _ _ _, hfn _⟩
  simp only [RelB]
  exact .inr ⟨g, es', c', updM_same _ _ _, by simp [hgl], hs, hr.keep Tn.keepN Tn.notN⟩

theorem mapSet_none {kt vt : Ty} : ∀ (l : List (kt.den × vt.den)) (k : kt.den) (x : vt.den), mapGet kt l k = none → mapSet kt l k x = l ++ [(k, x)]
  | [], k, x, _ => rfl
  | p :: l, k, x, h => by
    simp only [mapGet] at h
    cases hk : keyEq kt p.1 k with
    | true => rw [hk] at h; cases h
    | false =>
      rw [hk] at h
      simp only [mapSet, hk, cond_false, List.cons_append, mapSet_none l k x h]

theorem RelM.push {N : Nat → Prop} {kt vt : Ty} {ag : Bool} {l : List (kt.den × vt.den)} {es : List MapEntry} (h : RelM w N kt vt ag l es) {k : kt.den} {x : vt.den} {e : MapEntry} {cs : List Value} (h1 : RelD w N kt k [e.key]) (h2 : RelD w N vt x cs) (h3 : IsVal ag cs e.val) :
    RelM w N kt vt ag (l ++ [(k, x)]) (es ++ [e]) :=
  ⟨by simp [h.1], fun i a b => by
    by_cases hi : i < l.length
    · have hi' : i < es.length := by rw [h.1]; exact hi
      rw [List.getElem_append_left hi, List.getElem_append_left hi']
      exact h.2 i hi hi'
    · have hil : i = l.length := by simp at a; omega
      have hie : i = es.length := by rw [h.1]; exact hil
      rw [List.getElem_append_right (by omega), List.getElem_append_right (by omega)]
      simp only [List.getElem_singleton]
      exact ⟨h1, cs, h2, h3⟩⟩

/-- The first entry of a key is written anew. -/
theorem RelM.set {N : Nat → Prop} {kt vt : Ty} {ag : Bool} (hk : keyTy kt = true) {k : kt.den} {x : vt.den} {v : Value} {cs : List Value} (h2 : RelD w N vt x cs) (h3 : IsVal ag cs v) : ∀ {l : List (kt.den × vt.den)} {es : List MapEntry} {j : Nat} {e : MapEntry}, RelM w N kt vt ag l es → es[j]? = some e → e.key = encK kt k → es.Pairwise (fun x y => x.key ≠ y.key) →
    RelM w N kt vt ag (mapSet kt l k x) (es.modify j fun e => { e with key := encK kt k, val := v })
  | [], es, j, e, h, hj, _, _ => by
    have : es = [] := List.length_eq_zero_iff.1 h.1
    subst this; simp at hj
  | p :: l, [], j, e, h, hj, _, _ => by simp at hj
  | p :: l, e0 :: es, j, e, h, hj, he, hd => by
    obtain ⟨q1, cs1, q2, q3⟩ := h.2 0 (by simp) (by simp)
    simp only [List.getElem_cons_zero] at q1 q2 q3
    have he0 := relK hk q1
    have hl : RelM w N kt vt ag l es := ⟨by have := h.1; simpa using this, fun i a b => by
      have := h.2 (i + 1) (by simpa using a) (by simpa using b)
      simpa using this⟩
    have hd' := List.pairwise_cons.1 hd
    cases j with
    | zero =>
      simp only [List.getElem?_cons_zero, Option.some.injEq] at hj
      subst hj
      have hkk : keyEq kt p.1 k = true := (keyEq_iff hk _ _).2 (he0.symm.trans he)
      simp only [mapSet, hkk, cond_true, List.modify_zero_cons]
      refine ⟨by simp [hl.1], fun i a b => ?_⟩
      cases i with
      | zero => simp only [List.getElem_cons_zero]; exact ⟨relK' hk k, cs, h2, h3⟩
      | succ i => simpa using hl.2 i (by simpa using a) (by simpa using b)
    | succ j =>
      simp only [List.getElem?_cons_succ] at hj
      have hne : ¬ encK kt p.1 = encK kt k := fun e1 => hd'.1 e (List.mem_of_getElem? hj) (by rw [he0, e1, he])
      have hkk : keyEq kt p.1 k = false := by
        cases h : keyEq kt p.1 k with
        | false => rfl
        | true => exact absurd ((keyEq_iff hk _ _).1 h) hne
      have ih := RelM.set hk (k := k) h2 h3 hl hj he hd'.2
      simp only [mapSet, hkk, cond_false, List.modify_succ_cons]
      refine ⟨by simp [ih.1], fun i a b => ?_⟩
      cases i with
      | zero => simp only [List.getElem_cons_zero]; exact ⟨q1, cs1, q2, q3⟩
      | succ i => simpa using ih.2 i (by simpa using a) (by simpa using b)

theorem eff_makeMap (hp : Hp F μ S.H S.nx w) {t : TypeId} {n : Option Operand} (h : evMap P (.makeMap t n) ρA S K = some r) : EffOK P F μ S w ρ (.makeMap t n) K r := by
  cases n with
  | some _ => simp [evMap] at h
  | none =>
    simp only [evMap] at h
    split at h
    · rename_i k e kt vt hm
      have hg : Grew w (.map #[] 0) (w.alloc (.map #[] 0)) := Grew.alloc w _
      have Tn := hg.turned hp (.mapd kt vt (zeroAg P e) []) (by simp)
      refine ⟨_, _, updM μ S.nx (some w.heap.size), w.alloc (.map #[] 0), [], h, rfl, by simp, Tn.hp' ?_, Tn.pl, .map (some w.heap.size), fun o ho => .inl ?_, ?_, trivial⟩
      · simp only [RelB]
        exact .inr ⟨w.heap.size, #[], 0, updM_same _ _ _, (heap_alloc w _).1, stamped_empty 0, rfl, fun i a _ => by simp at a⟩
      · simp [execOp, ho, Instr.makeMap, Result.andThen]
      · simp only [RelV]
        exact ⟨by rw [updH_same]; simp, _, updM_same _ _ _, rfl⟩
    · cases h

theorem eff_lookup (hp : Hp F μ S.H S.nx w) (hρ : ∀ x, RelG w (Not F μ S.H) μ S.H ρ (ρA x) (ρ x)) {t : TypeId} {m k : Operand} {two : Bool} (h : evMap P (.lookup t m k two) ρA S K = some r) : EffOK P F μ S w ρ (.lookup t m k two) K r := by
  simp only [evMap] at h
  split at h
  · rename_i kk e kt vt hm
    have M := mapTy_ok hm
    obtain ⟨b, l, g, es, c, h, hb, hg, hmv, hh, hs, hR⟩ := mapAt_ok hp (hρ m).rel h
    obtain ⟨key, h, hkv⟩ := keyK_ok (hρ k).rel h
    obtain ⟨i, z, cs, hi, hz, h, hcs⟩ := zero_info (w := w) (μ := μ) (N := Not F μ S.H) (H := S.H) h
    obtain ⟨d, rest, es1, us, h, h5, h6, h7⟩ := dec_ok hcs h
    cases rest with
    | cons _ _ => simp at h
    | nil =>
      simp only [RelVs] at h7
      subst h7
      rw [List.append_nil] at h5
      obtain ⟨dd, hd1, hd2⟩ := M.isKey
      have hzv : (zeroValue e).run P w = .ok z w := by simp [zeroValue, typeInfo, hi, hz]
      have hck : ∀ em, (Instr.checkKey em 10000 kk (ρ k)).run P w = .ok () w := fun em => by rw [hkv]; exact run_checkKey hd1 (hd2 key) em 9999
      have fin : ∀ (f : Option (Nat × Value)) (q : Option vt.den) (x : vt.den) (vs : List Value) (v : Value), Instr.findNow dd (ρ k) es.toList 0 = some f → mapGet kt l key = q → q.getD d = x → RelD w (Not F μ S.H) vt x vs → IsVal (zeroAg P e) vs v →
          (match f with
            | some (_, v') => v' = v ∧ q.isSome = true
            | none => v = z ∧ q.isSome = false) → EffOK P F μ S w ρ (.lookup t m k two) K r := by
        intro f q x vs v hf hq hx hx1 hx2 hfq
        simp only [hq, hx] at h
        obtain ⟨y, hK, hy⟩ := valK_ok (μ := μ) (H := S.H) hx1 hx2 h
        refine ⟨_, _, μ, w, [], hK, rfl, by simp, hp, Pl.keep hp (Chg.refl w), (if two then .tuple #[v, .bool q.isSome] else v), fun o ho => .inl ?_, ?_, trivial⟩
        · have hfk := run_findKey (P := P) (w := w) (l := es.toList) hd1 hf
          cases f with
          | some p =>
            obtain ⟨p1, p2⟩ := p
            obtain ⟨rfl, hq2⟩ := hfq
            simp [execOp, ho, Instr.lookup, run_underlying M.und, hmv, MapKept.run_getObj_map hh, hck, hfk, Result.andThen, hq2]
          | none =>
            obtain ⟨rfl, hq2⟩ := hfq
            simp [execOp, ho, Instr.lookup, run_underlying M.und, hmv, MapKept.run_getObj_map hh, hck, hfk, Result.andThen, hzv, hq2]
        · cases two with
          | true =>
            simp only [if_true, cond_true, RelV, RelVs]
            exact ⟨_, rfl, _, _, rfl, hy, _, _, rfl, rfl, rfl⟩
          | false => simpa using hy
      rcases find_ok (d := dd) M.kt hd2 key l es.toList 0 hR with ⟨g1, g2, _⟩ | ⟨j, x, e', g1, g2, g3, g4, cs', g5, g6⟩
      · exact fin none none d es1 z (by rw [hkv]; exact g1) g2 rfl h6 (by rw [← h5]; exact zeroAg_val hi hz) ⟨rfl, rfl⟩
      · exact fin (some (0 + j, e'.val)) (some x) x cs' e'.val (by rw [hkv]; exact g1) g4 rfl g5 g6 ⟨rfl, rfl⟩
  · cases h

theorem eff_mapUpdate (hp : Hp F μ S.H S.nx w) (hρ : ∀ x, RelG w (Not F μ S.H) μ S.H ρ (ρA x) (ρ x)) {t : TypeId} {m k x : Operand} (h : evMap P (.mapUpdate t m k x) ρA S K = some r) : EffOK P F μ S w ρ (.mapUpdate t m k x) K r := by
  simp only [evMap] at h
  split at h
  · rename_i kk e kt vt hm
    have M := mapTy_ok hm
    refine sealing_ok hp hρ h fun S ρA hp hρ h => ?_
    obtain ⟨b, l, g, es, c, h, hb, hg, hmv, hh, hs, hR⟩ := mapAt_ok hp (hρ m).rel h
    obtain ⟨key, h, hkv⟩ := keyK_ok (hρ k).rel h
    obtain ⟨cs, vs, h, hcs, hv⟩ := agK_ok (hρ x).rel h
    obtain ⟨d, rest, es1, us, h, h5, h6, h7⟩ := dec_ok hcs h
    cases rest with
    | cons _ _ => simp at h
    | nil =>
      simp only [RelVs] at h7
      subst h7
      rw [List.append_nil] at h5
      subst h5
      obtain ⟨dd, hd1, hd2⟩ := M.isKey
      have hck : ∀ em, (Instr.checkKey em 10000 kk (encK kt key)).run P w = .ok () w := fun em => run_checkKey hd1 (hd2 key) em 9999
      rcases find_ok (d := dd) M.kt hd2 key l es.toList 0 hR with ⟨g1, g2, g3⟩ | ⟨j, x', e', g1, g2, g3, g4, _⟩
      · have hfk := run_findKey (P := P) (w := w) hd1 g1
        rw [mapSet_none _ _ _ g2] at h
        refine eff_set (es' := es.push { key := encK kt key, val := ρ x, born := c }) (c' := c + 1) hp hb hg hh (stamped_push hs (by simpa using g3)) (by rw [Array.toList_push]; exact hR.push (relK' M.kt key) h6 hv) (val := undef) (fun _ _ _ _ => by simp [RelV]) (fun _ => trivial) (fun o ho => .inr ⟨?_, rfl⟩) h
        simp [execOp, ho, Instr.mapUpdate, run_underlying M.und, hmv, MapKept.run_getObj_map hh, hck, hfk, MapKept.run_setObj_map _ hh, Result.andThen, hkv]
      · have hj : es[j]? = some e' := by simpa using g2
        have hfk := run_findKey (P := P) (w := w) hd1 g1
        have hkey : ∀ e0, es[j]? = some e0 → ({ e0 with key := encK kt key, val := ρ x } : MapEntry).key = e0.key := fun e0 he0 => by rw [hj] at he0; cases he0; exact g3.symm
        have hst : Stamped (es.modify j fun e => { e with key := encK kt key, val := ρ x }) c := stamped_modify hs _ _ (fun _ _ => rfl) (fun e' _ he' => hkey e' he')
        have hrel : RelM w (Not F μ S.H) kt vt (zeroAg P e) (mapSet kt l key d) (es.modify j fun e => { e with key := encK kt key, val := ρ x }).toList := by
          rw [Array.toList_modify]
          exact RelM.set M.kt h6 hv hR g2 g3 ((stamped_iff es c).1 hs).2.2
        refine eff_set hp hb hg hh hst hrel (val := undef) (fun _ _ _ _ => by simp [RelV]) (fun _ => trivial) (fun o ho => .inr ⟨?_, rfl⟩) h
        simp [execOp, ho, Instr.mapUpdate, run_underlying M.und, hmv, MapKept.run_getObj_map hh, hck, hfk, hj, g3, hkv, run_keyThatStays (hd2 key), MapKept.run_setObj_map _ hh, Result.andThen]
  · cases h

theorem eff_lenMap (hp : Hp F μ S.H S.nx w) (hρ : ∀ x, RelG w (Not F μ S.H) μ S.H ρ (ρA x) (ρ x)) {args : Array Operand} {ts : Array TypeId} (h : evMap P (.call ⟨.builtin .len, args, ts⟩) ρA S K = some r) : EffOK P F μ S w ρ (.call ⟨.builtin .len, args, ts⟩) K r := by
  simp only [evMap] at h
  split at h
  · rename_i m t ha ht
    have ha' : args = #[m] := by apply Array.ext'; simpa using ha
    have ht' : ts = #[t] := by apply Array.ext'; simpa using ht
    subst ha'; subst ht'
    split at h
    · rename_i kk e kt vt hm
      have M := mapTy_ok hm
      obtain ⟨b, l, g, es, c, h, hb, hg, hmv, hh, hs, hR⟩ := mapAt_ok hp (hρ m).rel h
      refine ⟨_, _, μ, w, [], h, rfl, by simp, hp, Pl.keep hp (Chg.refl w), .int .i64 (l.length : Int), fun o ho => .inl ?_, by simp [RelV], trivial⟩
      have hl : es.size = l.length := by have := hR.1; simpa using this
      simp [execOp, ho, resolve, invoke, builtin, Builtin.len_, run_underlying M.und, hmv, MapKept.run_getObj_map hh, Result.andThen, hl, goInt]
    · cases h
  · cases h

theorem RelM.del {N : Nat → Prop} {kt vt : Ty} {ag : Bool} (hk : keyTy kt = true) {k : kt.den} : ∀ {l : List (kt.den × vt.den)} {es : List MapEntry} {j : Nat} {e : MapEntry}, RelM w N kt vt ag l es → es[j]? = some e → e.key = encK kt k → es.Pairwise (fun x y => x.key ≠ y.key) →
    RelM w N kt vt ag (mapDel kt l k) (es.eraseIdx j)
  | [], es, j, e, h, hj, _, _ => by
    have : es = [] := List.length_eq_zero_iff.1 h.1
    subst this; simp at hj
  | p :: l, [], j, e, h, hj, _, _ => by simp at hj
  | p :: l, e0 :: es, j, e, h, hj, he, hd => by
    obtain ⟨q1, cs1, q2, q3⟩ := h.2 0 (by simp) (by simp)
    simp only [List.getElem_cons_zero] at q1 q2 q3
    have he0 := relK hk q1
    have hl : RelM w N kt vt ag l es := ⟨by have := h.1; simpa using this, fun i a b => by
      have := h.2 (i + 1) (by simpa using a) (by simpa using b)
      simpa using this⟩
    have hd' := List.pairwise_cons.1 hd
    cases j with
    | zero =>
      simp only [List.getElem?_cons_zero, Option.some.injEq] at hj
      subst hj
      have hkk : keyEq kt p.1 k = true := (keyEq_iff hk _ _).2 (he0.symm.trans he)
      simpa only [mapDel, hkk, cond_true, List.eraseIdx_zero, List.tail_cons] using hl
    | succ j =>
      simp only [List.getElem?_cons_succ] at hj
      have hne : ¬ encK kt p.1 = encK kt k := fun e1 => hd'.1 e (List.mem_of_getElem? hj) (by rw [he0, e1, he])
      have hkk : keyEq kt p.1 k = false := by
        cases h : keyEq kt p.1 k with
        | false => rfl
        | true => exact absurd ((keyEq_iff hk _ _).1 h) hne
      have ih := RelM.del hk (k := k) hl hj he hd'.2
      simp only [mapDel, hkk, cond_false, List.eraseIdx_cons_succ]
      refine ⟨by simp [ih.1], fun i a b => ?_⟩
      cases i with
      | zero => simp only [List.getElem_cons_zero]; exact ⟨q1, cs1, q2, q3⟩
      | succ i => simpa using ih.2 i (by simpa using a) (by simpa using b)

theorem mapDel_none {kt vt : Ty} : ∀ (l : List (kt.den × vt.den)) (k : kt.den), mapGet kt l k = none → mapDel kt l k = l
  | [], k, _ => rfl
  | p :: l, k, h => by
    simp only [mapGet] at h
    cases hk : keyEq kt p.1 k with
    | true => rw [hk] at h; cases h
    | false =>
      rw [hk] at h
      simp only [mapDel, hk, cond_false, mapDel_none l k h]

theorem eff_delete (hp : Hp F μ S.H S.nx w) (hρ : ∀ x, RelG w (Not F μ S.H) μ S.H ρ (ρA x) (ρ x)) {args : Array Operand} {ts : Array TypeId} (h : evMap P (.call ⟨.builtin .delete, args, ts⟩) ρA S K = some r) : EffOK P F μ S w ρ (.call ⟨.builtin .delete, args, ts⟩) K r := by
  simp only [evMap] at h
  split at h
  · rename_i m k t tr ha ht
    have ha' : args = #[m, k] := by apply Array.ext'; simpa using ha
    have ht' : ts[0]? = some t := by rw [← Array.getElem?_toList, ht]; rfl
    subst ha'
    split at h
    · rename_i kk e kt vt hm
      have M := mapTy_ok hm
      obtain ⟨b, l, g, es, c, h, hb, hg, hmv, hh, hs, hR⟩ := mapAt_ok hp (hρ m).rel h
      obtain ⟨key, h, hkv⟩ := keyK_ok (hρ k).rel h
      obtain ⟨dd, hd1, hd2⟩ := M.isKey
      have hck : ∀ em, (Instr.checkKey em 10000 kk (ρ k)).run P w = .ok () w := fun em => by rw [hkv]; exact run_checkKey hd1 (hd2 key) em 9999
      rcases find_ok (d := dd) M.kt hd2 key l es.toList 0 hR with ⟨g1, g2, g3⟩ | ⟨j, x', e', g1, g2, g3, g4, _⟩
      · have hfk := run_findKey (P := P) (w := w) hd1 (by rw [hkv]; exact g1 : Instr.findNow dd (ρ k) es.toList 0 = some none)
        rw [mapDel_none _ _ g2] at h
        refine eff_set (es' := es) (c' := c) hp hb hg hh hs hR (val := .tuple #[]) (fun _ _ _ _ => by simp [RelV, RelVs]) (fun _ => trivial) (fun o ho => .inl ?_) h
        simp [execOp, ho, resolve, invoke, builtin, Builtin.delete_, ht', run_underlying M.und, hmv, MapKept.run_getObj_map hh, hck, hfk, MapKept.run_setObj_map _ hh, Result.andThen]
      · have hj : es[j]? = some e' := by simpa using g2
        have hjl : j < es.size := (Array.getElem?_eq_some_iff.1 hj).1
        have hfk := run_findKey (P := P) (w := w) hd1 (by rw [hkv]; exact g1 : Instr.findNow dd (ρ k) es.toList 0 = some (some (0 + j, e'.val)))
        have hrel : RelM w (Not F μ S.H) kt vt (zeroAg P e) (mapDel kt l key) (es.eraseIdxIfInBounds j).toList := by
          have he : (es.eraseIdxIfInBounds j).toList = es.toList.eraseIdx j := by simp [Array.eraseIdxIfInBounds, hjl]
          rw [he]
          exact RelM.del M.kt hR g2 g3 ((stamped_iff es c).1 hs).2.2
        refine eff_set hp hb hg hh (stamped_erase hs j) hrel (val := .tuple #[]) (fun _ _ _ _ => by simp [RelV, RelVs]) (fun _ => trivial) (fun o ho => .inl ?_) h
        simp [execOp, ho, resolve, invoke, builtin, Builtin.delete_, ht', run_underlying M.und, hmv, MapKept.run_getObj_map hh, hck, hfk, MapKept.run_setObj_map _ hh, Result.andThen]
    · cases h
  · cases h

end
end Go.Ev

/- What abstract states say of worlds. -/
import Derived.Test.YtgfecebcaepjfaaGreatDoorEv1
import Derived.Calls
import Derived.Tactics
import Derived.Laws.NewBlocks
import Derived.MapKept
namespace Go.Ev
open Go

def rowAt (w : World) (g o : Nat) (vs : List Value) : Prop := ∀ i, (h : i < vs.length) → w.cell? ⟨g, o + i, none⟩ = some vs[i]

/-- What was there, but for the blocks of N, is as it was. -/
structure Keep (N : Nat → Prop) (w w' : World) : Prop where
  size : w.heap.size ≤ w'.heap.size
  keep : ∀ g, g < w.heap.size → ¬ N g → w'.heap[g]? = w.heap[g]?

theorem cell?_of_heap {w w' : World} {g o : Nat} (h : w'.heap[g]? = w.heap[g]?) : w'.cell? ⟨g, o, none⟩ = w.cell? ⟨g, o, none⟩ := by
  simp [World.cell?, h]
theorem frozen?_of_heap {w w' : World} {g o : Nat} (h : w'.heap[g]? = w.heap[g]?) : w'.frozen? ⟨g, o, none⟩ = w.frozen? ⟨g, o, none⟩ := by
  simp [World.frozen?, h]

theorem rowAt_of_heap {w w' : World} {g o : Nat} {vs : List Value} (h : w'.heap[g]? = w.heap[g]?) (hr : rowAt w g o vs) : rowAt w' g o vs :=
  fun i hi => by rw [cell?_of_heap h]; exact hr i hi

def RelD (w : World) (N : Nat → Prop) : (t : Ty) → t.den → List Value → Prop
  | .int k, n, vs => vs = [.int k n]
  | .u8, x, vs => vs = [.int .u8 (UInt8.toNat x : Int)]
  | .bool, x, vs => vs = [.bool x]
  | .str, x, vs => vs = [.string ⟨List.toArray x⟩]
  | .sl t, l, vs => ∃ a c, vs = [.slice a (List.length l) c] ∧ List.length l ≤ c ∧
      (0 < List.length l → ∃ g o, a = some ⟨g, o, none⟩ ∧ ¬ N g ∧ g < w.heap.size ∧
        ∀ i, (h : i < List.length l) → ∃ es, es.length = t.size ∧ rowAt w g (o + i * t.size) es ∧ RelD w N t (l[i]'h) es)
  | .unit, _, vs => vs = []
  | .pair a b, p, vs => ∃ xs ys, vs = xs ++ ys ∧ RelD w N a p.1 xs ∧ RelD w N b p.2 ys

theorem RelD.length {w : World} {N : Nat → Prop} : ∀ {t : Ty} {x : t.den} {vs : List Value}, RelD w N t x vs → vs.length = t.size
  | .int _, _, _, h => by simp only [RelD] at h; simp [h, Ty.size]
  | .u8, _, _, h => by simp only [RelD] at h; simp [h, Ty.size]
  | .bool, _, _, h => by simp only [RelD] at h; simp [h, Ty.size]
  | .str, _, _, h => by simp only [RelD] at h; simp [h, Ty.size]
  | .sl _, _, _, h => by simp only [RelD] at h; obtain ⟨_, _, h, _⟩ := h; simp [h, Ty.size]
  | .unit, _, _, h => by simp only [RelD] at h; simp [h, Ty.size]
  | .pair a b, _, _, h => by
    simp only [RelD] at h
    obtain ⟨xs, ys, rfl, h1, h2⟩ := h
    simp [RelD.length h1, RelD.length h2, Ty.size]

theorem RelD.keep {w w' : World} {N N' : Nat → Prop} (hk : Keep N w w') (hN : ∀ g, g < w.heap.size → N' g → N g) :
    ∀ {t : Ty} {x : t.den} {vs : List Value}, RelD w N t x vs → RelD w' N' t x vs
  | .int _, _, _, h => h
  | .u8, _, _, h => h
  | .bool, _, _, h => h
  | .str, _, _, h => h
  | .sl t, l, vs, h => by
    simp only [RelD] at h ⊢
    obtain ⟨a, c, h1, h2, h3⟩ := h
    refine ⟨a, c, h1, h2, fun hp => ?_⟩
    obtain ⟨g, o, ha, hn, hg, hr⟩ := h3 hp
    refine ⟨g, o, ha, fun hn' => hn (hN g hg hn'), Nat.lt_of_lt_of_le hg hk.size, fun i hi => ?_⟩
    obtain ⟨es, e1, e2, e3⟩ := hr i hi
    exact ⟨es, e1, rowAt_of_heap (hk.keep g hg hn) e2, RelD.keep hk hN e3⟩
  | .unit, _, _, h => h
  | .pair a b, _, _, h => by
    simp only [RelD] at h ⊢
    obtain ⟨xs, ys, h0, h1, h2⟩ := h
    exact ⟨xs, ys, h0, RelD.keep hk hN h1, RelD.keep hk hN h2⟩

/-- so many cells of a block are there, and may be written. -/
def room (w : World) (g n : Nat) : Prop := ∀ k, k < n → (w.cell? ⟨g, k, none⟩).isSome = true ∧ w.frozen? ⟨g, k, none⟩ = false

def live (H : Nat → Blk) (b : Nat) : Prop := H b ≠ .dead
/-- the blocks that are tracked -/
def Trk (μ : Nat → Option Nat) (H : Nat → Blk) (g : Nat) : Prop := ∃ b, H b ≠ .dead ∧ μ b = some g
/-- Variables of the program that hold tables: what they hold, and where. -/
structure Tb where
  tab : World → Prop
  out : Nat → Prop
  stays : ∀ w w', (∀ g, out g → w'.heap[g]? = w.heap[g]?) → tab w → tab w'
  lt : ∀ w g, tab w → out g → g < w.heap.size

/-- Blocks that are let alone, beside those of the tables. -/
structure Frm (T : Tb) where
  out : Nat → Prop

instance {T : Tb} : CoeFun (Frm T) fun _ => Nat → Prop := ⟨Frm.out⟩

/-- those that no plain data may lie in -/
def Not {T : Tb} (F : Frm T) (μ : Nat → Option Nat) (H : Nat → Blk) (g : Nat) : Prop := F g ∨ Trk μ H g

mutual
def RelV (w : World) (N : Nat → Prop) (μ : Nat → Option Nat) (H : Nat → Blk) : AV → Value → Prop
  | .i k n, v => v = .int k n
  | .u x, v => v = .int .u8 (x.toNat : Int)
  | .b x, v => v = .bool x
  | .kb x, v => v = .bool x
  | .s x, v => v = .string ⟨x.toArray⟩
  | .c u, v => v = u
  | .sl t l, v => RelD w N (.sl t) l [v]
  | .fp t l ix f, v => ix < l.length ∧ ∃ g o, ¬ N g ∧ g < w.heap.size ∧ v = .pointer (some ⟨g, o + ix * t.size + f, none⟩) ∧
      ∃ es, es.length = t.size ∧ rowAt w g (o + ix * t.size) es ∧ ∃ h : ix < l.length, RelD w N t l[ix] es
  | .ptr b o, v => H b ≠ .dead ∧ ∃ g, μ b = some g ∧ v = .pointer (some ⟨g, o, none⟩)
  | .ep b t ix f, v => ∃ l g, H b = .data t l ∧ ix < l.length ∧ μ b = some g ∧ v = .pointer (some ⟨g, ix * t.size + f, none⟩)
  | .wh b, v => ∃ t l, H b = .data t l ∧ ((∃ g c, μ b = some g ∧ v = .slice (some ⟨g, 0, none⟩) l.length c ∧ l.length ≤ c ∧ room w g (c * t.size)) ∨
      (μ b = none ∧ l = [] ∧ v = .slice none 0 0))
  | .win b lo n, v => ∃ t l, H b = .data t l ∧ lo + n ≤ l.length ∧ ((∃ g c o, μ b = some g ∧ v = .slice (some ⟨g, o, none⟩) n (c - lo) ∧ l.length ≤ c ∧ room w g (c * t.size) ∧
      (o = lo * t.size ∨ (c = lo ∧ o ≤ lo * t.size))) ∨ (μ b = none ∧ l = [] ∧ v = .slice none 0 0))
  | .mp b, v => H b ≠ .dead ∧ ∃ g, μ b = some g ∧ v = .map (some g)
  | .mptr c b o, v => H b ≠ .dead ∧ ((c = true ∧ ∃ g, μ b = some g ∧ v = .pointer (some ⟨g, o, none⟩)) ∨ (c = false ∧ v = .pointer none))
  | .fn f cs, v => ∃ vs : List Value, v = .func (.func f) #[] vs.toArray ∧ RelVs w N μ H cs vs
  | .agg cs, v => ∃ vs : List Value, v = .agg vs.toArray ∧ RelVs w N μ H cs vs
  | .tup cs, v => ∃ vs : List Value, v = .tuple vs.toArray ∧ RelVs w N μ H cs vs
  | .ifc t x, v => ∃ val, v = .iface t val ∧ RelV w N μ H x val
  | .pan x, v => RelV w N μ H x v
  | .gd _ _ _, _ => True
  | .bad, _ => True
def RelVs (w : World) (N : Nat → Prop) (μ : Nat → Option Nat) (H : Nat → Blk) : List AV → List Value → Prop
  | [], vs => vs = []
  | x :: r, vs => ∃ v vr, vs = v :: vr ∧ RelV w N μ H x v ∧ RelVs w N μ H r vr
end

/-- a struct or array, or a value of one cell -/
def IsVal (ag : Bool) (cs : List Value) (v : Value) : Prop := (ag = true ∧ v = .agg cs.toArray) ∨ (ag = false ∧ notAgg v = true ∧ cs = [v])

/-- Entries of a map. -/
def RelM (w : World) (N : Nat → Prop) (kt vt : Ty) (ag : Bool) (l : List (kt.den × vt.den)) (es : List MapEntry) : Prop :=
  es.length = l.length ∧ ∀ i, (h : i < l.length) → (h' : i < es.length) → RelD w N kt l[i].1 [es[i].key] ∧ ∃ cs, RelD w N vt l[i].2 cs ∧ IsVal ag cs es[i].val

theorem RelM.keep {w w' : World} {N N' : Nat → Prop} (hk : Keep N w w') (hN : ∀ g, g < w.heap.size → N' g → N g) {kt vt : Ty} {ag : Bool} {l : List (kt.den × vt.den)} {es : List MapEntry} (h : RelM w N kt vt ag l es) : RelM w' N' kt vt ag l es :=
  ⟨h.1, fun i h1 h2 => by
    obtain ⟨r1, cs, r2, r3⟩ := h.2 i h1 h2
    exact ⟨r1.keep hk hN, cs, r2.keep hk hN, r3⟩⟩

def RelB (w : World) (N : Nat → Prop) (μ : Nat → Option Nat) (H : Nat → Blk) (b : Nat) : Blk → Prop
  | .dead => True
  | .vars cs => μ b = none ∨ ∃ g vs, μ b = some g ∧ RelVs w N μ H cs vs ∧ rowAt w g 0 vs ∧ room w g vs.length
  | .data t l => (μ b = none ∧ l = []) ∨ ∃ g, μ b = some g ∧ room w g (l.length * t.size) ∧
      ∀ i, (h : i < l.length) → ∃ es, es.length = t.size ∧ rowAt w g (i * t.size) es ∧ RelD w N t (l[i]'h) es
  | .iter s pos => ∃ g, μ b = some g ∧ w.heap[g]? = some (.stringIter ⟨s.toArray⟩ pos)
  | .mapd kt vt ag l => μ b = none ∨ ∃ g es c, μ b = some g ∧ w.heap[g]? = some (.map es c) ∧ MapKept.Stamped es c ∧ RelM w N kt vt ag l es.toList

/-- A block of a kind that stays: it was there, in the same place. -/
def Pin (B' B : Blk) (m' m : Option Nat) : Prop := B'.tag ≠ 0 → B.tag = B'.tag ∧ m' = m

theorem Pin.refl (B : Blk) (m : Option Nat) : Pin B B m m := fun _ => ⟨rfl, rfl⟩
theorem Pin.zero {B' B : Blk} {m' m : Option Nat} (h : B'.tag = 0) : Pin B' B m' m := fun h' => absurd h h'
theorem Pin.trans {B'' B' B : Blk} {m'' m' m : Option Nat} (h : Pin B'' B' m'' m') (h' : Pin B' B m' m) : Pin B'' B m'' m := fun ht => by
  obtain ⟨h1, h2⟩ := h ht
  obtain ⟨h3, h4⟩ := h' (by rw [h1]; exact ht)
  exact ⟨h3.trans h1, h2.trans h4⟩
theorem Blk.tag_vars {B : Blk} (h : B.tag = 1) : ∃ cs, B = .vars cs := by
  cases B <;> simp [Blk.tag] at h ⊢
theorem Pin.vars {cs' : List AV} {B : Blk} {m' m : Option Nat} (h : Pin (.vars cs') B m' m) : (∃ cs, B = .vars cs) ∧ m' = m := by
  obtain ⟨h1, h2⟩ := h (by simp [Blk.tag])
  exact ⟨Blk.tag_vars h1, h2⟩

/-- A heap of abstract blocks, held against a world. -/
structure Hp {T : Tb} (F : Frm T) (μ : Nat → Option Nat) (H : Nat → Blk) (nx : Nat) (w : World) : Prop where
  blk : ∀ b, RelB w (Not F μ H) μ H b (H b)
  lt : ∀ b g, H b ≠ .dead → μ b = some g → g < w.heap.size
  inj : ∀ b b' g, H b ≠ .dead → H b' ≠ .dead → μ b = some g → μ b' = some g → b = b'
  dead : ∀ b, nx ≤ b → H b = .dead
  apart : ∀ b g, H b ≠ .dead → μ b = some g → ¬ F g
  flt : ∀ g, F g → g < w.heap.size
  tab : T.tab w
  tapart : ∀ b g, H b ≠ .dead → μ b = some g → ¬ T.out g

/-- A value under a guard holds if the guard does. -/
def RelG (w : World) (N : Nat → Prop) (μ : Nat → Option Nat) (H : Nat → Blk) (ρ : Operand → Value) : AV → Value → Prop
  | .gd j b x, v => ρ (.tmp j) = .bool b → RelV w N μ H x v
  | x, v => RelV w N μ H x v

def RelE (w : World) (N : Nat → Prop) (μ : Nat → Option Nat) (H : Nat → Blk) (E : Nat → AV) (tmps : Array Value) : Prop :=
  ∀ t, match E t with
    | .gd j b x => (tmps.getD j undef = .bool b ∧ RelV w N μ H x (tmps.getD t undef)) ∨ (tmps.getD j undef ≠ .bool b ∧ tmps.getD t undef = undef)
    | x => RelV w N μ H x (tmps.getD t undef)

theorem RelVs_length {w : World} {N : Nat → Prop} {μ : Nat → Option Nat} {H : Nat → Blk} : ∀ {cs : List AV} {vs : List Value}, RelVs w N μ H cs vs → vs.length = cs.length
  | [], _, h => by simp only [RelVs] at h; simp [h]
  | _ :: r, _, h => by
    simp only [RelVs] at h
    obtain ⟨v, vr, rfl, _, h2⟩ := h
    simp [RelVs_length h2]

theorem RelVs_append {w : World} {N : Nat → Prop} {μ : Nat → Option Nat} {H : Nat → Blk} : ∀ {cs ds : List AV} {vs us : List Value}, RelVs w N μ H cs vs → RelVs w N μ H ds us → RelVs w N μ H (cs ++ ds) (vs ++ us)
  | [], _, _, _, h, h' => by simp only [RelVs] at h; subst h; simpa using h'
  | _ :: r, _, _, _, h, h' => by
    simp only [RelVs] at h
    obtain ⟨v, vr, rfl, h1, h2⟩ := h
    simp only [List.cons_append, RelVs]
    exact ⟨v, _, rfl, h1, RelVs_append h2 h'⟩

theorem RelVs_drop {w : World} {N : Nat → Prop} {μ : Nat → Option Nat} {H : Nat → Blk} : ∀ (n : Nat) {cs : List AV} {vs : List Value}, RelVs w N μ H cs vs → RelVs w N μ H (cs.drop n) (vs.drop n)
  | 0, _, _, h => by simpa using h
  | n + 1, [], _, h => by simp only [RelVs] at h; subst h; simp [RelVs]
  | n + 1, _ :: r, _, h => by
    simp only [RelVs] at h
    obtain ⟨v, vr, rfl, h1, h2⟩ := h
    simpa using RelVs_drop n h2

theorem RelVs_take {w : World} {N : Nat → Prop} {μ : Nat → Option Nat} {H : Nat → Blk} : ∀ (n : Nat) {cs : List AV} {vs : List Value}, RelVs w N μ H cs vs → RelVs w N μ H (cs.take n) (vs.take n)
  | 0, _, _, h => by simp [RelVs]
  | n + 1, [], _, h => by simp only [RelVs] at h; subst h; simp [RelVs]
  | n + 1, _ :: r, _, h => by
    simp only [RelVs] at h
    obtain ⟨v, vr, rfl, h1, h2⟩ := h
    simp only [List.take_succ_cons, RelVs]
    exact ⟨v, _, rfl, h1, RelVs_take n h2⟩

theorem RelVs_get {w : World} {N : Nat → Prop} {μ : Nat → Option Nat} {H : Nat → Blk} : ∀ {cs : List AV} {vs : List Value} (n : Nat) {x : AV}, RelVs w N μ H cs vs → cs[n]? = some x → ∃ v, vs[n]? = some v ∧ RelV w N μ H x v
  | [], _, n, x, _, h => by simp at h
  | c :: r, _, 0, x, h, h' => by
    simp only [RelVs] at h
    obtain ⟨v, vr, rfl, h1, h2⟩ := h
    simp at h'; subst h'
    exact ⟨v, by simp, h1⟩
  | c :: r, _, n + 1, x, h, h' => by
    simp only [RelVs] at h
    obtain ⟨v, vr, rfl, h1, h2⟩ := h
    simp at h'
    simpa using RelVs_get n h2 h'

/-! Data as cells. -/
theorem RelVs_encc {w : World} {N : Nat → Prop} {μ : Nat → Option Nat} {H : Nat → Blk} : ∀ {t : Ty} {x : t.den} {vs : List Value}, RelD w N t x vs → RelVs w N μ H (encc t x) vs
  | .int k, n, _, h => by simp only [RelD] at h; subst h; simp [encc, RelVs, RelV]
  | .u8, n, _, h => by simp only [RelD] at h; subst h; simp [encc, RelVs, RelV]
  | .bool, n, _, h => by simp only [RelD] at h; subst h; simp [encc, RelVs, RelV]
  | .str, n, _, h => by simp only [RelD] at h; subst h; simp [encc, RelVs, RelV]
  | .sl t, l, vs, h => by
    have h' := h
    simp only [RelD] at h'
    obtain ⟨a, c, rfl, _⟩ := h'
    simp only [encc, RelVs, RelV]
    exact ⟨_, _, rfl, h, rfl⟩
  | .unit, n, _, h => by simp only [RelD] at h; subst h; simp [encc, RelVs]
  | .pair a b, p, _, h => by
    simp only [RelD] at h
    obtain ⟨xs, ys, rfl, h1, h2⟩ := h
    exact RelVs_append (RelVs_encc h1) (RelVs_encc h2)

/-- Cells that are read as data are the data's cells. -/
theorem dec_ok {w : World} {N : Nat → Prop} {μ : Nat → Option Nat} {H : Nat → Blk} {α : Type} {r : α} :
    ∀ {t : Ty} {cs : List AV} {vs : List Value} {K : t.den → List AV → Option α}, RelVs w N μ H cs vs → dec t cs K = some r →
      ∃ x rest es us, K x rest = some r ∧ vs = es ++ us ∧ RelD w N t x es ∧ RelVs w N μ H rest us
  | .int k, cs, vs, K, h, he => by
    cases cs with
    | nil => simp [dec] at he
    | cons c cs =>
      cases c <;> simp only [dec, reduceCtorEq] at he
      rename_i k' n
      simp only [RelVs, RelV] at h
      obtain ⟨v, vr, rfl, rfl, h2⟩ := h
      by_cases hk : k' = k
      · subst hk
        simp at he
        exact ⟨n, cs, [.int k' n], vr, he, rfl, rfl, h2⟩
      · simp [hk] at he
  | .u8, cs, vs, K, h, he => by
    cases cs with
    | nil => simp [dec] at he
    | cons c cs =>
      cases c <;> simp only [dec, reduceCtorEq] at he
      simp only [RelVs, RelV] at h
      obtain ⟨v, vr, rfl, rfl, h2⟩ := h
      exact ⟨_, cs, [_], vr, he, rfl, rfl, h2⟩
  | .bool, cs, vs, K, h, he => by
    cases cs with
    | nil => simp [dec] at he
    | cons c cs =>
      cases c <;> simp only [dec, reduceCtorEq] at he
      all_goals
        simp only [RelVs, RelV] at h
        obtain ⟨v, vr, rfl, rfl, h2⟩ := h
        exact ⟨_, cs, [_], vr, he, rfl, rfl, h2⟩
  | .str, cs, vs, K, h, he => by
    cases cs with
    | nil => simp [dec] at he
    | cons c cs =>
      cases c <;> simp only [dec, reduceCtorEq] at he
      simp only [RelVs, RelV] at h
      obtain ⟨v, vr, rfl, rfl, h2⟩ := h
      exact ⟨_, cs, [_], vr, he, rfl, rfl, h2⟩
  | .sl t, cs, vs, K, h, he => by
    cases cs with
    | nil => simp [dec] at he
    | cons c cs =>
      cases c with
      | sl t' l =>
        simp only [dec] at he
        split at he
        · rename_i ht
          subst ht
          simp only [RelVs, RelV] at h
          obtain ⟨v, vr, rfl, h1, h2⟩ := h
          exact ⟨l, cs, [v], vr, he, rfl, h1, h2⟩
        · cases he
      | c u =>
        simp only [RelVs, RelV] at h
        obtain ⟨v, vr, rfl, rfl, h2⟩ := h
        unfold dec at he
        split at he
        all_goals (rename_i e1 e2 e3 <;> first | (cases e1; done) | (cases e1; cases e2; done) | skip)
        all_goals first | contradiction | skip
        rename_i e1 e2 e3 _
        cases e1
        cases e2
        cases e3
        exact ⟨[], _, [.slice none 0 0], vr, he, rfl, ⟨none, 0, rfl, Nat.le_refl _, fun hp => absurd hp (by simp)⟩, h2⟩
      | _ => simp [dec] at he
  | .unit, cs, vs, K, h, he => by
    simp only [dec] at he
    exact ⟨(), cs, [], vs, he, rfl, rfl, h⟩
  | .pair a b, cs, vs, K, h, he => by
    simp only [dec] at he
    obtain ⟨x, rest, es, us, h1, h2, h3, h4⟩ := dec_ok h he
    obtain ⟨y, rest', es', us', g1, g2, g3, g4⟩ := dec_ok h4 h1
    exact ⟨(x, y), rest', es ++ es', us', g1, by rw [h2, g2, List.append_assoc], ⟨es, es', rfl, h3, g3⟩, g4⟩

end Go.Ev

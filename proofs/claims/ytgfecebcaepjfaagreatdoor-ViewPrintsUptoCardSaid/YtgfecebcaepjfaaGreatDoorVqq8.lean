/- The deferred closure of mime.Parse. -/
import Derived.Test.YtgfecebcaepjfaaGreatDoorVpZ
import Derived.Defers
import Derived.Recover
import Derived.Test.YtgfecebcaepjfaaGreatDoorProg
import Derived.KernelRfl
import Derived.Tactics
import Derived.Test.YtgfecebcaepjfaaGreatDoorVp1
import Derived.Test.YtgfecebcaepjfaaGreatDoorNewL
namespace Go.Vw
open Go Go.Proofs
set_option maxRecDepth 100000

theorem tm13 (p q : Option Addr) (x : Value) : (#[Value.pointer p, Value.pointer q] ++ ((Array.replicate 15 undef).setIfInBounds 3 x).setIfInBounds 0 x) =
    #[.pointer p, .pointer q, x, undef, undef, x, undef, undef, undef, undef, undef, undef, undef, undef, undef, undef, undef] := by rfl

theorem idle13 (p q : Addr) (w : World) :
    CallsD Tryz.prog 119 #[.pointer (some p), .pointer (some q)] .returning w fun e u' w' => e = .returned (.tuple #[]) ∧ u' = .returning ∧ w' = w.alloc (.cells #[] 154) := by
  have hta : ∀ w : World, (Instr.typeAssert .nilIface 20 154 true).run Tryz.prog w = .ok (.tuple #[.agg #[], .bool false]) w := fun w => by kernel_rfl
  refine callsD_of_wpS Tryz.func119 rfl fun c₀ cs hu => ?_
  apply wpS_seq
  apply wpS_region
  simp [wpOpsS, go_sem, recoverD, hu, Tryz.ntmps119, Exit.thenS]
  refine wpS_of_wp ?_
  rw [tm13]
  go_wp2
  cases c₀
  simp_all [bodyPostS, results, Tryz.results119]

theorem busy13 (n m : Nat) (w : World) (v1 v2 : Value) (hn : n < w.heap.size) (hm : m < w.heap.size) (hnm : n ≠ m) (h1 : w.cell? ⟨n, 0, none⟩ = some v1) (h2 : w.cell? ⟨m, 0, none⟩ = some v2) (h3 : w.frozen? ⟨n, 0, none⟩ = false) (h4 : w.frozen? ⟨m, 0, none⟩ = false) :
    CallsD Tryz.prog 119 #[.pointer (some ⟨n, 0, none⟩), .pointer (some ⟨m, 0, none⟩)] (.panicking [{ v := .iface 154 (.agg #[]), recovered := false }]) w fun e u' w' => e = .returned (.tuple #[]) ∧ u' = .panicking [{ v := .iface 154 (.agg #[]), recovered := true }] ∧ w' = ((w.setCell ⟨n, 0, none⟩ (.slice none 0 0)).setCell ⟨m, 0, none⟩ (.int .i64 6)).alloc (.cells #[] 154) := by
  have hta : ∀ w : World, (Instr.typeAssert (.iface 154 (.agg #[])) 20 154 true).run Tryz.prog w = .ok (.tuple #[.agg #[], .bool true]) w := fun w => by kernel_rfl
  have f1 : (w.alloc (.cells #[] 154)).cell? ⟨n, 0, none⟩ = some v1 := (World.cell?_alloc_past _ _ _ hn).trans h1
  have f2 : (w.alloc (.cells #[] 154)).frozen? ⟨n, 0, none⟩ = false := (World.frozen?_alloc_past _ _ _ hn).trans h3
  have f3 : ((w.alloc (.cells #[] 154)).setCell ⟨n, 0, none⟩ (.slice none 0 0)).cell? ⟨m, 0, none⟩ = some v2 := by
    rw [World.cell?_setCell_other _ _ _ _ (by simp [hnm])]
    exact (World.cell?_alloc_past _ _ _ hm).trans h2
  have f4 : ((w.alloc (.cells #[] 154)).setCell ⟨n, 0, none⟩ (.slice none 0 0)).frozen? ⟨m, 0, none⟩ = false := by
    rw [World.frozen?_setCell]
    exact (World.frozen?_alloc_past _ _ _ hm).trans h4
  refine callsD_of_wpS Tryz.func119 rfl fun c₀ cs hu => ?_
  apply wpS_seq
  apply wpS_region
  simp [wpOpsS, go_sem, recoverD, hu, Tryz.ntmps119, Exit.thenS]
  refine wpS_of_wp ?_
  rw [tm13]
  go_wp2
  cases c₀
  simp_all [bodyPostS, results, Tryz.results119]

end Go.Vw

namespace Go.Vw
open Go Go.Proofs
set_option maxRecDepth 100000

/-- the world in which the pieces are read -/
def w6 (w : World) (v : Value) : World := ((w.alloc (.cells #[.slice none 0 0] 62)).alloc (.cells #[.int .i64 0] 29)).alloc (.cells #[v, .slice none 0 0] 152)

def tooMany : Value := .iface 154 (.agg #[])

/-- what the reading of the pieces leaves -/
def R14 (w : World) (v : Value) (G : Value → World → Prop) (B : World → Prop) (e : Ending) (w' : World) : Prop :=
  w.heap.size + 3 ≤ w'.heap.size ∧ w'.heap[w.heap.size]? = (w6 w v).heap[w.heap.size]? ∧ w'.heap[w.heap.size + 1]? = (w6 w v).heap[w.heap.size + 1]? ∧
  ((e = .returned (.tuple #[]) ∧ ∃ a2 n2 c2, w'.cell? ⟨w.heap.size + 2, 1, none⟩ = some (.slice a2 n2 c2) ∧ G (.slice a2 n2 c2) w') ∨ (e = .panicked [{ v := tooMany, recovered := false }] ∧ B w'))

/-- the world behind -/
def w7 (w w' : World) (v2 : Value) (n : Int) : World := ((w'.setCell ⟨w.heap.size, 0, none⟩ v2).setCell ⟨w.heap.size + 1, 0, none⟩ (.int .i64 n)).alloc (.cells #[] 154)

theorem cell6a {w w' : World} {v : Value} (h : w'.heap[w.heap.size]? = (w6 w v).heap[w.heap.size]?) : w'.cell? ⟨w.heap.size, 0, none⟩ = some (.slice none 0 0) ∧ w'.frozen? ⟨w.heap.size, 0, none⟩ = false := by
  rw [Ev.cell?_of_heap h, Ev.frozen?_of_heap h]
  simp [w6, go_sem]

theorem cell6b {w w' : World} {v : Value} (h : w'.heap[w.heap.size + 1]? = (w6 w v).heap[w.heap.size + 1]?) : w'.cell? ⟨w.heap.size + 1, 0, none⟩ = some (.int .i64 0) ∧ w'.frozen? ⟨w.heap.size + 1, 0, none⟩ = false := by
  rw [Ev.cell?_of_heap h, Ev.frozen?_of_heap h]
  simp [w6, go_sem]

theorem cell6c (w w' : World) (v : Value) {x : Option Value} (h : w'.cell? ⟨w.heap.size + 1, 0, none⟩ = x) : (w'.setCell ⟨w.heap.size, 0, none⟩ v).cell? ⟨w.heap.size + 1, 0, none⟩ = x := by
  rw [World.cell?_setCell_other _ _ _ _ (by simp), h]

theorem frz6c (w w' : World) (v : Value) {x : Bool} (h : w'.frozen? ⟨w.heap.size + 1, 0, none⟩ = x) : (w'.setCell ⟨w.heap.size, 0, none⟩ v).frozen? ⟨w.heap.size + 1, 0, none⟩ = x := by
  rw [World.frozen?_setCell, h]

theorem end6 {w w' : World} {v2 x y : Value} {n : Int} (hs : w.heap.size + 3 ≤ w'.heap.size) (h1 : w'.cell? ⟨w.heap.size, 0, none⟩ = some x) (h2 : w'.cell? ⟨w.heap.size + 1, 0, none⟩ = some y) :
    (((w'.setCell ⟨w.heap.size, 0, none⟩ v2).setCell ⟨w.heap.size + 1, 0, none⟩ (.int .i64 n)).alloc (.cells #[] 154)).cell? ⟨w.heap.size, 0, none⟩ = some v2 ∧
    (((w'.setCell ⟨w.heap.size, 0, none⟩ v2).setCell ⟨w.heap.size + 1, 0, none⟩ (.int .i64 n)).alloc (.cells #[] 154)).cell? ⟨w.heap.size + 1, 0, none⟩ = some (.int .i64 n) := by
  rw [World.cell?_alloc_past _ _ _ (by simp [World.setCell]; omega), World.cell?_alloc_past _ _ _ (by simp [World.setCell]; omega)]
  refine ⟨?_, World.cell?_setCell_same _ _ _ (cell6c w w' v2 h2)⟩
  rw [World.cell?_setCell_other _ _ _ _ (by simp), World.cell?_setCell_same _ _ _ h1]

theorem walk6 (w : World) (a : Option Addr) (n c : Nat) (G : Value → World → Prop) (B : World → Prop)
    (hc : Calls Tryz.prog 120 #[.pointer (some ⟨w.heap.size + 2, 0, none⟩), .agg #[.string ⟨#[]⟩, .slice none 0 0, .slice none 0 0, .int .i64 0, .int .i64 0, .int .i64 n, .int .i64 (-1), .int .i64 0, .int .i64 0]] (w6 w (.slice a n c)) (R14 w (.slice a n c) G B)) :
    Calls Tryz.prog 86 #[.slice a n c] w fun e w'' => (∃ w' v2, G v2 w' ∧ e = .returned (.tuple #[v2, .int .i64 0]) ∧ w'' = w7 w w' v2 0) ∨ (∃ w', B w' ∧ e = .returned (.tuple #[.slice none 0 0, .int .i64 6]) ∧ w'' = w7 w w' (.slice none 0 0) 6) := by
  have hmf : ∀ (fn : Fn) (first cap : Array Value) (w : World), (Instr.makeFunc fn first cap).run Tryz.prog w = .ok (.func fn first cap) w := fun _ _ _ _ => rfl
  have hc' : Calls Tryz.prog 120 #[.pointer (some ⟨w.heap.size + 2, 0, none⟩), .agg #[.string ⟨#[]⟩, .slice none 0 0, .slice none 0 0, .int .i64 0, .int .i64 0, .int .i64 n, .int .i64 (-1), .int .i64 0, .int .i64 0]] (((w.alloc (.cells #[.slice none 0 0] 62)).alloc (.cells #[.int .i64 0] 29)).alloc (.cells #[.slice a n c, .slice none 0 0] 152)) (R14 w (.slice a n c) G B) := hc
  clear hc
  go_enter_defers Tryz.func86, Tryz.ntmps86
  go_wp2_with (refine hc'.mono ?_; rintro e w' ⟨hs, k1, k2, ⟨rfl, a2, n2, q2, k3, k4⟩ | ⟨rfl, k4⟩⟩
    <;> (obtain ⟨c1, f1⟩ := cell6a k1; obtain ⟨c2, f2⟩ := cell6b k2) <;> (have c3 := fun v => cell6c w w' v c2; have f3 := fun v => frz6c w w' v f2))
  · refine leaves_cons (f := 119) (args := #[.pointer (some ⟨w.heap.size, 0, none⟩), .pointer (some ⟨w.heap.size + 1, 0, none⟩)]) (by simp) (by simp [go_sem]) ?_
    refine (idle13 _ _ _).mono ?_
    rintro e u' w'' ⟨rfl, rfl, rfl⟩
    obtain ⟨d1, d2⟩ := end6 (v2 := .slice a2 n2 q2) (n := 0) hs c1 c2
    simp [Leaves, settle, results, Tryz.results86, go_sem, d1, d2]
    exact ⟨w', _, k4, rfl, rfl⟩
  · refine leaves_cons (f := 119) (args := #[.pointer (some ⟨w.heap.size, 0, none⟩), .pointer (some ⟨w.heap.size + 1, 0, none⟩)]) (by simp) (by simp [go_sem]) ?_
    refine (busy13 w.heap.size (w.heap.size + 1) w' _ _ (by omega) (by omega) (by omega) c1 c2 f1 f2).mono ?_
    rintro e u' w'' ⟨rfl, rfl, rfl⟩
    obtain ⟨d1, d2⟩ := end6 (v2 := .slice none 0 0) (n := 6) hs c1 c2
    simp [Leaves, settle, results, Tryz.results86, go_sem, d1, d2]
    exact ⟨w', k4, rfl⟩

end Go.Vw

namespace Go.Vw
open Go Go.Ev Go.Proofs
set_option maxRecDepth 100000

abbrev PT : Ty := (.pair .str (.pair (.sl (.pair .str (.pair .str .unit))) (.pair (.sl (.pair .str (.pair .str (.pair (.int .i64) .unit)))) (.pair (.int .i64) (.pair (.int .i64) (.pair (.int .i64) (.pair (.int .i64) (.pair (.int .i64) (.pair (.int .i64) .unit)))))))))

noncomputable def parseR (l : List UInt8) :=
  F120d (((), (([], [], [], 0, 0, (l.length : Int), -1, 0, 0, ()), ())), ((l, (), ()), [], ()))

noncomputable def parseOK (l : List UInt8) : Bool :=
  match parseR l with
  | some _ => true
  | none => false

noncomputable def parseL (l : List UInt8) : List PT.den :=
  match parseR l with
  | some (Sum.inl _, q) => q.2.1
  | _ => []

noncomputable def parseE (l : List UInt8) : Int :=
  match parseR l with
  | some (Sum.inr _, _) => 6
  | _ => 0

noncomputable def zParseV (ok : List UInt8 → Bool) (pl : List UInt8 → List PT.den) (pe : List UInt8 → Int) : Deed := fun args S =>
  match args with
  | [.sl .u8 l] => some (ok l, .tup [.wh S.nx, .i .i64 (pe l)], ⟨S.E, updH S.H S.nx (.data PT (pl l)), S.nx + 1, S.kl⟩)
  | _ => none

noncomputable def zParse : Deed := zParseV parseOK parseL parseE

/-- what the reading leaves, where it ends well -/
def GP {P : Program} (F : Frm (tabsOf P)) (μ : Nat → Option Nat) (H : Nat → Blk) (w : World) (L : List PT.den) (v2 : Value) (w' : World) : Prop :=
  (v2 = .slice none 0 0 ∧ L = []) ∨ ∃ g c, v2 = .slice (some ⟨g, 0, none⟩) L.length c ∧ w.heap.size + 2 ≤ g ∧ g < w'.heap.size ∧ L.length ≤ c ∧ room w' g (c * PT.size) ∧
    ∀ i (h : i < L.length), ∃ es : List Value, es.length = PT.size ∧ Ev.rowAt w' g (i * PT.size) es ∧ ∃ N : Nat → Prop, (∀ g', F g' ∨ Trk μ H g' ∨ g' = g ∨ g' = w.heap.size ∨ g' = w.heap.size + 1 → N g') ∧ RelD w' N PT L[i] es

theorem w6_size (w : World) (v : Value) : (w6 w v).heap.size = w.heap.size + 3 := by
  show (((w.heap.push _).push _).push _).size = _
  simp only [Array.size_push]

theorem w6_old (w : World) (v : Value) {g : Nat} (h : g < w.heap.size) : (w6 w v).heap[g]? = w.heap[g]? := by
  show (((w.heap.push _).push _).push _)[g]? = _
  rw [Array.getElem?_push, if_neg (by simp only [Array.size_push]; omega), Array.getElem?_push, if_neg (by simp only [Array.size_push]; omega), Array.getElem?_push, if_neg (by omega)]

theorem w6_cell (w : World) (v : Value) (i : Nat) : (w6 w v).cell? ⟨w.heap.size + 2, i, none⟩ = #[v, Value.slice none 0 0][i]? := by
  unfold w6
  rw [World.cell?_alloc_at _ _ _ _ (by show _ = ((w.heap.push _).push _).size; simp only [Array.size_push])]

theorem w6_frozen (w : World) (v : Value) (i : Nat) : (w6 w v).frozen? ⟨w.heap.size + 2, i, none⟩ = false := by
  unfold w6
  rw [World.frozen?_alloc_at _ _ _ _ (by show _ = ((w.heap.push _).push _).size; simp only [Array.size_push])]

def F6' {P : Program} (F : Frm (tabsOf P)) (μ : Nat → Option Nat) (H : Nat → Blk) (w : World) : Frm (tabsOf P) := ⟨fun g => F g ∨ Trk μ H g ∨ g = w.heap.size ∨ g = w.heap.size + 1⟩
def μ6 (w : World) : Nat → Option Nat := fun b => if b = 0 then some (w.heap.size + 2) else none

theorem in6 {F : Frm (tabsOf Tryz.prog)} {μ : Nat → Option Nat} {H : Nat → Blk} {nx : Nat} {w : World} (hp : Hp F μ H nx w) {l : List UInt8} {v : Value} (hv : RelD w (Not F μ H) (.sl .u8) l [v]) :
    Hp (F6' F μ H w) (μ6 w) (unBlks O120d.blks ((l, (), ()), [], ())) O120d.blks.length (w6 w v) := by
  have hH : ∀ b, unBlks O120d.blks ((l, (), ()), [], ()) b ≠ .dead → b = 0 ∨ b = 1 := fun b h => by
    by_cases h0 : b = 0
    · exact .inl h0
    · by_cases h1 : b = 1
      · exact .inr h1
      · exact absurd (by show updH (updH (fun _ => .dead) 1 _) 0 _ b = .dead; rw [updH_other h0, updH_other h1]) h
  have hμ : ∀ b g, μ6 w b = some g → b = 0 ∧ g = w.heap.size + 2 := fun b g h => by
    unfold μ6 at h
    split at h
    · cases h; exact ⟨by assumption, rfl⟩
    · cases h
  have hN : ∀ g, g < w.heap.size → Not (F6' F μ H w) (μ6 w) (unBlks O120d.blks ((l, (), ()), [], ())) g → Not F μ H g := fun g hg h => by
    rcases h with (h | h | h | h) | ⟨b, _, h⟩
    · exact .inl h
    · exact .inr h
    · omega
    · omega
    · have := (hμ b g h).2; omega
  refine ⟨fun b => ?_, fun b g h1 h2 => ?_, fun b b' g h1 h2 h3 h4 => ?_, fun b hb => ?_, fun b g h1 h2 => ?_, fun g h => ?_, ?_, fun b g h1 h2 => ?_⟩
  · by_cases h0 : b = 0
    · subst h0
      show RelB _ _ _ _ 0 (.vars [.sl .u8 l, .wh 1])
      simp only [RelB]
      refine .inr ⟨w.heap.size + 2, [v, .slice none 0 0], rfl, ?_, fun i hi => ?_, fun k hk => ?_⟩
      · simp only [RelVs, RelV]
        refine ⟨v, _, rfl, hv.keep ⟨by rw [w6_size]; omega, fun g hg _ => w6_old w v hg⟩ hN, _, _, rfl, ⟨PT, [], rfl, .inr ⟨rfl, rfl, rfl⟩⟩, rfl⟩
      · rw [Nat.zero_add, w6_cell]
        match i, hi with
        | 0, _ => rfl
        | 1, _ => rfl
      · refine ⟨?_, w6_frozen _ _ _⟩
        rw [w6_cell]
        match k, hk with
        | 0, _ => rfl
        | 1, _ => rfl
    · by_cases h1 : b = 1
      · subst h1
        show RelB _ _ _ _ 1 (.data PT [])
        simp only [RelB]
        exact .inl ⟨rfl, trivial⟩
      · have : unBlks O120d.blks ((l, (), ()), [], ()) b = .dead := by
          show updH (updH (fun _ => .dead) 1 _) 0 _ b = .dead
          rw [updH_other h0, updH_other h1]
        rw [this]
        simp only [RelB]
  · have := (hμ b g h2).2
    rw [w6_size]; omega
  · rw [(hμ b g h3).1, (hμ b' g h4).1]
  · have hb : 2 ≤ b := hb
    show updH (updH (fun _ => .dead) 1 _) 0 _ b = .dead
    rw [updH_other (by omega), updH_other (by omega)]
  · have hg := (hμ b g h2).2
    subst hg
    rintro (h | h | h | h)
    · have := hp.flt _ h; omega
    · obtain ⟨b', hb, hm⟩ := h
      have := hp.lt b' _ hb hm; omega
    · omega
    · omega
  · rw [w6_size]
    rcases h with h | h | h | h
    · have := hp.flt _ h; omega
    · obtain ⟨b', hb, hm⟩ := h
      have := hp.lt b' _ hb hm; omega
    · omega
    · omega
  · exact (tabsOf Tryz.prog).stays w _ (fun g hg => w6_old w v ((tabsOf Tryz.prog).lt w g hp.tab hg)) hp.tab
  · have hg := (hμ b g h2).2
    intro ho
    have := (tabsOf Tryz.prog).lt w g hp.tab ho
    omega

theorem call14 {F : Frm (tabsOf Tryz.prog)} {μ : Nat → Option Nat} {H : Nat → Blk} {nx : Nat} {w : World} (hp : Hp F μ H nx w) {l : List UInt8} {v : Value} (hv : RelD w (Not F μ H) (.sl .u8) l [v]) (hok : parseOK l = true) :
    Calls Tryz.prog 120 #[.pointer (some ⟨w.heap.size + 2, 0, none⟩), .agg #[.string ⟨#[]⟩, .slice none 0 0, .slice none 0 0, .int .i64 0, .int .i64 0, .int .i64 l.length, .int .i64 (-1), .int .i64 0, .int .i64 0]] (w6 w v)
      (R14 w v (fun v2 w' => parseE l = 0 ∧ GP F μ H w (parseL l) v2 w' ∧ RowKit.Below w.heap.size w w') fun w' => parseE l = 6 ∧ parseL l = [] ∧ RowKit.Below w.heap.size w w') := by
  cases hr : parseR l with
  | none => simp [parseOK, hr] at hok
  | some r =>
    have hargs : RelVs (w6 w v) (Not (F6' F μ H w) (μ6 w) (unBlks O120d.blks ((l, (), ()), [], ()))) (μ6 w) (unBlks O120d.blks ((l, (), ()), [], ())) (unL O120d.args ((), (([], [], [], 0, 0, (l.length : Int), -1, 0, 0, ()), ()))) [.pointer (some ⟨w.heap.size + 2, 0, none⟩), .agg #[.string ⟨#[]⟩, .slice none 0 0, .slice none 0 0, .int .i64 0, .int .i64 0, .int .i64 l.length, .int .i64 (-1), .int .i64 0, .int .i64 0]] := by
      show RelVs _ _ _ _ [.ptr 0 0, .agg [.s [], .sl (.pair .str (.pair .str .unit)) [], .sl (.pair .str (.pair .str (.pair (.int .i64) .unit))) [], .i .i64 0, .i .i64 0, .i .i64 (l.length : Int), .i .i64 (-1), .i .i64 0, .i .i64 0]] _
      simp only [RelVs, RelV, RelD]
      refine ⟨_, _, rfl, ⟨(fun h => by cases h), _, rfl, rfl⟩, _, _, rfl, ⟨_, rfl, _, _, rfl, rfl, _, _, rfl, ⟨none, 0, rfl, Nat.le_refl _, fun h => absurd h (by simp)⟩, _, _, rfl, ⟨none, 0, rfl, Nat.le_refl _, fun h => absurd h (by simp)⟩, _, _, rfl, rfl, _, _, rfl, rfl, _, _, rfl, rfl, _, _, rfl, rfl, _, _, rfl, rfl, _, _, rfl, rfl, rfl⟩, rfl⟩
    refine (ok120d.run (((), (([], [], [], 0, 0, (l.length : Int), -1, 0, 0, ()), ())), ((l, (), ()), [], ())) r hr (F6' F μ H w) (μ6 w) (w6 w v) _ (in6 hp hv) hargs).mono fun e w' ⟨val, μ', nx', h1, h2, h3, hch, hnew, hpin⟩ => ?_
    have htrk : ∀ g, Trk (μ6 w) (unBlks O120d.blks ((l, (), ()), [], ())) g → g = w.heap.size + 2 := fun g ⟨b, _, h⟩ => by
      unfold μ6 at h
      split at h
      · cases h; rfl
      · cases h
    have hsz : w.heap.size + 3 ≤ w'.heap.size := by
      have := hch.size
      rwa [w6_size] at this
    have hkeep : ∀ g, g < w.heap.size + 3 → g ≠ w.heap.size + 2 → w'.heap[g]? = (w6 w v).heap[g]? := fun g hg hne => hch.keep g (by rw [w6_size]; exact hg) fun h => hne (htrk g h)
    have below : RowKit.Below w.heap.size w w' := ⟨hch.os, hch.tape, hch.output, by omega, fun k hk => (hkeep k (by omega) (by omega)).trans (w6_old w v hk)⟩
    refine ⟨hsz, hkeep _ (by omega) (by omega), hkeep _ (by omega) (by omega), ?_⟩
    obtain ⟨x | x, q⟩ := r
    · left
      have h1 : e = .returned val := h1
      have h3 : RelV w' _ μ' _ (.tup []) val := h3
      simp only [RelV, RelVs] at h3
      obtain ⟨vs, hvs, rfl⟩ := h3
      have hm0 : μ' 0 = some (w.heap.size + 2) := (hpin 0 (by show 0 < 2; omega) (by show (Blk.vars _).tag ≠ 0; simp [Blk.tag])).2
      have hB0 : RelB w' (Not (F6' F μ H w) μ' (unBlks O120d.oblks q)) μ' (unBlks O120d.oblks q) 0 (.vars [.sl .u8 q.1.1, .wh 1]) := h2.blk 0
      have hB1 : RelB w' (Not (F6' F μ H w) μ' (unBlks O120d.oblks q)) μ' (unBlks O120d.oblks q) 1 (.data PT q.2.1) := h2.blk 1
      have hl1 : unBlks O120d.oblks q 1 = .data PT q.2.1 := rfl
      simp only [RelB] at hB0 hB1
      rcases hB0 with hB0 | ⟨g, vs, hg, hvs', hrow, _⟩
      · rw [hm0] at hB0; cases hB0
      rw [hm0] at hg
      cases hg
      simp only [RelVs, RelV] at hvs'
      obtain ⟨x1, _, rfl, _, x2, _, rfl, ⟨t, l', hl', hx2⟩, rfl⟩ := hvs'
      rw [hl1] at hl'
      cases hl'
      have hcell := hrow 1 (by simp)
      have hL : parseL l = q.2.1 := by simp [parseL, hr]
      have hE : parseE l = 0 := by simp [parseE, hr]
      rcases hx2 with ⟨g, c, hm1, rfl, hc, hroom⟩ | ⟨hm1, hnil, rfl⟩
      · refine ⟨by rw [h1, hvs], _, _, _, by simpa using hcell, hE, ?_, below⟩
        rw [hL]
        refine .inr ⟨g, c, rfl, ?_, h2.lt 1 g (by rw [hl1]; simp) hm1, hc, hroom, fun i hi => ?_⟩
        · rcases hnew g ⟨1, by rw [hl1]; simp, hm1⟩ with h | h
          · exact Nat.le_of_eq (htrk g h).symm
          · rw [w6_size] at h; omega
        · rcases hB1 with ⟨h, _⟩ | ⟨g', hg', _, hrows⟩
          · rw [hm1] at h; cases h
          rw [hm1] at hg'
          cases hg'
          obtain ⟨es, e1, e2, e3⟩ := hrows i hi
          refine ⟨es, e1, e2, _, fun g' h => ?_, e3⟩
          rcases h with h | h | h | h | h
          · exact .inl (.inl h)
          · exact .inl (.inr (.inl h))
          · exact .inr ⟨1, by rw [hl1]; simp, by rw [h]; exact hm1⟩
          · exact .inl (.inr (.inr (.inl h)))
          · exact .inl (.inr (.inr (.inr h)))
      · refine ⟨by rw [h1, hvs], _, _, _, by simpa using hcell, hE, ?_, below⟩
        rw [hL]
        exact .inl ⟨rfl, hnil⟩
    · right
      have h1 : e = .panicked [{ v := val, recovered := false }] := h1
      have h3 : RelV w' _ μ' _ (.ifc 154 (.agg [])) val := h3
      simp only [RelV, RelVs] at h3
      obtain ⟨u, rfl, vs, rfl, rfl⟩ := h3
      exact ⟨h1, by simp [parseE, hr], by simp [parseL, hr], below⟩

theorem w7_at (w w' : World) (v2 : Value) (n : Int) {g : Nat} (hg : g < w'.heap.size) (h1 : g ≠ w.heap.size) (h2 : g ≠ w.heap.size + 1) : (w7 w w' v2 n).heap[g]? = w'.heap[g]? := by
  unfold w7
  show ((World.setCell _ _ _).heap.push _)[g]? = _
  simp only [World.setCell]
  rw [Array.getElem?_push, if_neg (by simp only [Array.size_modify]; omega), Array.getElem?_modify, if_neg (fun h => h2 h.symm), Array.getElem?_modify, if_neg (fun h => h1 h.symm)]

theorem w7_size (w w' : World) (v2 : Value) (n : Int) : (w7 w w' v2 n).heap.size = w'.heap.size + 1 := by
  unfold w7
  show ((World.setCell _ _ _).heap.push _).size = _
  simp only [World.setCell, Array.size_push, Array.size_modify]

theorem w7_below {w w' : World} (v2 : Value) (n : Int) (h : RowKit.Below w.heap.size w w') : RowKit.Below w.heap.size w (w7 w w' v2 n) :=
  ⟨h.os, h.tape, h.output, by rw [w7_size]; exact Nat.le_succ_of_le h.size, fun k hk => (w7_at w w' v2 n (Nat.lt_of_lt_of_le hk h.size) (by omega) (by omega)).trans (h.block k hk)⟩

theorem zParse86 : ZOK Tryz.prog 86 zParse := by
  refine ⟨Tryz.call86, fun args S v S' h F μ w vals hp hr => ?_⟩
  unfold zParse zParseV at h
  split at h
  · rename_i l
    rw [Option.some.injEq, Prod.mk.injEq, Prod.mk.injEq] at h
    obtain ⟨hok, rfl, rfl⟩ := h
    simp only [RelVs] at hr
    obtain ⟨v1, _, rfl, hv, rfl⟩ := hr
    have hv : RelD w (Not F μ S.H) (.sl .u8) l [v1] := by simpa only [RelV] using hv
    have hv1 : ∃ a c, v1 = .slice a l.length c := by
      simp only [RelD] at hv
      obtain ⟨a, c, h1, _⟩ := hv
      cases h1
      exact ⟨a, c, rfl⟩
    obtain ⟨a, c, rfl⟩ := hv1
    refine (walk6 w a l.length c _ _ (call14 hp hv hok)).mono fun e w'' h => ?_
    rcases h with ⟨w', v2, ⟨hE, hG, hb⟩, rfl, rfl⟩ | ⟨w', ⟨hE, hL, hb⟩, rfl, rfl⟩
    · rcases hG with ⟨rfl, hL⟩ | ⟨g, c2, rfl, hg1, hg2, hc2, hroom, hrows⟩
      · obtain ⟨μ', kl, r1, r2, r3, r4, r5⟩ := new_nilN (t := PT) hp (w7_below (.slice none 0 0) 0 hb)
        rw [hL, hE]
        refine ⟨μ', kl, _, rfl, r1, r2, r3, r4, ?_⟩
        simp only [RelVs, RelV]
        exact ⟨_, rfl, _, _, rfl, by simpa only [RelV] using r5, _, _, rfl, rfl, rfl⟩
      · have hat : (w7 w w' (.slice (some ⟨g, 0, none⟩) (parseL l).length c2) 0).heap[g]? = w'.heap[g]? := w7_at _ _ _ _ hg2 (by omega) (by omega)
        obtain ⟨μ', kl, r1, r2, r3, r4, r5⟩ := new_dataN (gb := g) (c := c2) (t := PT) (l := parseL l) hp (w7_below (.slice (some ⟨g, 0, none⟩) (parseL l).length c2) 0 hb) (by omega) (by rw [w7_size]; omega) hc2
          (fun k hk => by
            obtain ⟨k1, k2⟩ := hroom k hk
            exact ⟨by rw [Ev.cell?_of_heap hat]; exact k1, by rw [Ev.frozen?_of_heap hat]; exact k2⟩)
          (fun i hi => by
            obtain ⟨es, e1, e2, N, hN, e3⟩ := hrows i hi
            refine ⟨es, e1, rowAt_of_heap hat e2, e3.keep ⟨by rw [w7_size]; omega, fun k hk hn => w7_at _ _ _ _ hk (fun h => hn (hN k (by simp [h]))) (fun h => hn (hN k (by simp [h])))⟩ fun k hk h => hN k ?_⟩
            rcases h with h | ⟨b, hb1, hb2⟩
            · exact .inl h
            · by_cases hbn : b = S.nx
              · subst hbn
                rw [updM_same] at hb2
                cases hb2
                exact .inr (.inr (.inl rfl))
              · rw [updH_other hbn] at hb1
                rw [updM_other hbn] at hb2
                exact .inr (.inl ⟨b, hb1, hb2⟩))
        rw [hE]
        refine ⟨μ', kl, _, rfl, r1, r2, r3, r4, ?_⟩
        simp only [RelVs, RelV]
        exact ⟨_, rfl, _, _, rfl, by simpa only [RelV] using r5, _, _, rfl, rfl, rfl⟩
    · obtain ⟨μ', kl, r1, r2, r3, r4, r5⟩ := new_nilN (t := PT) hp (w7_below (.slice none 0 0) 6 hb)
      rw [hL, hE]
      refine ⟨μ', kl, _, rfl, r1, r2, r3, r4, ?_⟩
      simp only [RelVs, RelV]
      exact ⟨_, rfl, _, _, rfl, by simpa only [RelV] using r5, _, _, rfl, rfl, rfl⟩
  · cases h

end Go.Vw

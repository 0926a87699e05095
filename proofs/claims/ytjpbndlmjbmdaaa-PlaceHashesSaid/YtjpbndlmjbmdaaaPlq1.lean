/- maps.Values over seats, walked. -/
import Derived.Shelf.SlIter.Collect
import Derived.Shelf.SlIter.AllValuesS
import Derived.Test.YtjpbndlmjbmdaaaProg
import Derived.KernelRfl
import Derived.Test.YtjpbndlmjbmdaaaEvY
namespace Go.Pl
open Go Go.Proofs Go.RowKit Go.Maps Go.Sort

/-- An element: its cells. -/
structure ST where
  u : List UInt8
  s : Int
  e : Int
  deriving Inhabited
def enc3 (p : ST) : List Value := [.string ⟨p.u.toArray⟩, .int .i64 p.s, .int .i64 p.e]
def encA (p : ST) : Value := .agg #[.string ⟨p.u.toArray⟩, .int .i64 p.s, .int .i64 p.e]

theorem encA_inj {x y : ST} (h : encA x = encA y) : x = y := by
  obtain ⟨a, b, c⟩ := x
  obtain ⟨a', b', c'⟩ := y
  simp [encA] at h
  obtain ⟨rfl, rfl, rfl⟩ := h
  rfl

open Classical in
/-- How an element is read: as itself. -/
noncomputable def RdA (v : Value) : Option (DataW Value × List MemPlace) := if ∃ x : ST, v = encA x then some (.held v, []) else none

theorem RdA_inv {v : Value} {y : DataW Value × List MemPlace} (h : RdA v = some y) : ∃ c : ST, v = encA c := by
  unfold RdA at h
  split at h
  · assumption
  · cases h
theorem RdA_enc (x : ST) : RdA (encA x) = some (.held (encA x), []) := by
  unfold RdA
  rw [if_pos ⟨x, rfl⟩]

def ValAt (D0 : DataW Value) (p : List UInt8 × ST) : Prop := ∀ zd, D0.atKey (.string p.1) zd = .held (encA p.2)

theorem mixedW : Try.prog.follows .mixedOrders = true := by kernel_rfl

set_option maxRecDepth 100000 in
set_option maxHeartbeats 1000000 in
theorem vals33_in (n : Nat) (hn : 1 ≤ n) (l Bm b nn : Nat) (D0 : DataW Value) (J : List ST → World → Prop)
    (hY : ∀ pre x W, J pre W → pre.length < Maps.size D0 → YieldAt Fence.wide (n - 1) Try.prog l #[encA x] W fun e W' => e = .returned (.bool true) ∧ J (pre ++ [x]) W' ∧ KeepsWalks W W')
    (W : World) (hJ : AbidesFrom W.heap.size J) (hm : W.cell? ⟨Bm, 0, none⟩ = some (.map (some b))) (hown : W.ownsMap Try.prog 9 RdA b nn D0) (h0 : J [] W) :
    CallsIn Fence.wide n Try.prog 33 #[.func (.yield l) #[] #[], .pointer (some ⟨Bm, 0, none⟩)] W fun e W' => (∃ v, e = .returned v) ∧
      ∃ ps : List (List UInt8 × ST), (ps.map (·.1)).Perm (strKeys D0) ∧ (∀ p ∈ ps, ValAt D0 p) ∧ J (ps.map (·.2)) W' := by
  have mixed := mixedW
  have a35 := Try.isAgg35; have z35 := Try.sizeOf35; have v35 := Try.zeroValue35; have a55 := Try.isAgg55; have z55 := Try.sizeOf55; have a9 := Try.isAgg9; have z9 := Try.sizeOf9; have a4 := Try.isAgg4; have z4 := Try.sizeOf4; have a3 := Try.isAgg3; have z3 := Try.sizeOf3; have t3 := Try.underlying3
  have t9 := Try.underlying9; have t55 := Try.underlying55; have t35 := Try.underlying35; have t4 := Try.underlying4
  have u0 := run_underlying Try.underlying0; have u4 := run_underlying Try.underlying4; have u9 := run_underlying Try.underlying9; have u35 := run_underlying Try.underlying35; have u55 := run_underlying Try.underlying55; have u69 := run_underlying Try.underlying69
  refine callsIn_of_wp Try.func33 rfl trivial ?_ rfl
  simp only [Try.ntmps33, List.size_toArray, List.length_cons, List.length_nil, Nat.reduceAdd, Nat.reduceSub, Array.replicate_succ, Array.replicate_zero, List.push_toArray, List.append_toArray, List.nil_append, List.cons_append]
  gi_wp2_with (first
    | (gi_at_range; refine wpListIn_range_own _ rfl _ 55 rfl 9 35 (string_keyed Try.underlying9) Try.underlying55 _ b nn _ rfl hown ?_; intro w0 hrg0 hg0 hs0)
    | gi_in)
  go_frame
  gi_loopw [4] (fun _ wr => ∃ (left : Lit → Bool) (cnt : Nat) (ps : List (List UInt8 × ST)), wr.ranges Try.prog 9 RdA b W.heap.size nn D0 left cnt ∧ ps.length + cnt ≤ Maps.size D0 ∧ Collected D0 left (ps.map (·.1)) ∧ (∀ p ∈ ps, ValAt D0 p) ∧ J (ps.map (·.2)) wr)
    (fun _ wr => wr.rangeLeft b W.heap.size)
  case atStart =>
    exact ⟨_, _, [], hrg0, by simp, Collected.start D0, by simp, hJ [] W w0 none h0 hg0 (fun r e => by cases e)⟩
  case round =>
    obtain ⟨left, cnt, ps, hrg, hcs, hC, hV, hJs⟩ := hrel
    gi_wp2_with (first
      | (gi_at_next; refine wpListIn_next_ranges _ rfl _ rfl 9 (string_keyed Try.underlying9) RdA encStr encA (fun key kl hk => by obtain ⟨x, hx, _⟩ := Maps.keyOf_str Try.underlying9 hk; exact ⟨x, hx⟩) (fun v y hv => RdA_inv hv) b W.heap.size nn _ _ _ rfl hrg ?_ ?_)
      | gi_in)
    · intro hc0 hl0
      gi_wp2
      go_end0
      exact ⟨⟨_, rfl⟩, ps, hC.perm hown (string_keyed Try.underlying9) Try.underlying9 hl0, hV, hJs⟩
    · intro x c kl yd yp w2 cnt2 hkey hlk hv hat hrg2 hlt hg2 hs2 hen
      obtain ⟨x', ex, rfl, _⟩ := Maps.keyOf_str Try.underlying9 hkey
      obtain rfl : x = x' := encStr_inj ex
      have hJ2 : J (ps.map (·.2)) w2 := hJ _ wr w2 (some W.heap.size) hJs hg2 (fun r e => by cases e; exact ⟨Nat.le_refl _, hrg.iter_walk⟩)
      have hg3 : w2.grownBy (w2.alloc (.cells #[.string ⟨c.u.toArray⟩, .int .i64 c.s, .int .i64 c.e] 35)) none := ⟨rfl, rfl, rfl, by simp, fun k hk _ => Below.heap_alloc _ _ k hk⟩
      have hJ3 := hJ _ w2 _ none hJ2 hg3 (fun r e => by cases e)
      obtain ⟨fn, tmps, assign, body, hy, hR⟩ := hY _ c _ hJ3 (by simp; omega)
      have hrg3 := hrg2.of_walks (KeepsWalks.alloc w2 (.cells #[.string ⟨c.u.toArray⟩, .int .i64 c.s, .int .i64 c.e] 35))
      unfold encA at hen hy
      clear hs2 hg3
      gi_wp2
      refine hR.mono ?_
      rintro e W3 ⟨rfl, hJ4, hk3⟩
      gi_wp2
      have hrg4 := hrg3.of_walks hk3
      go_roundw
      case rel =>
        refine ⟨_, cnt2, ps ++ [(x, c)], hrg4, by simp; omega, by simpa using hC.step hlk hat, fun p hp => ?_, by simpa using hJ4⟩
        rcases List.mem_append.1 hp with h | h
        · exact hV p h
        · rw [List.mem_singleton] at h
          subst h
          intro zd
          rw [hat zd]
          rw [RdA_enc c] at hv
          cases hv
          rfl
      case measure => rw [hrg4.left_eq, hrg.left_eq]; exact hlt

/-- What has come when all has come. -/
def AllOf (D0 : DataW Value) (xs : List ST) : Prop := ∃ ps : List (List UInt8 × ST), (ps.map (·.1)).Perm (strKeys D0) ∧ (∀ p ∈ ps, ValAt D0 p) ∧ xs = ps.map (·.2)

theorem vals_gives (n : Nat) (hn : 1 ≤ n) (Bm b nn : Nat) (D0 : DataW Value) (w : World) (hBm : Bm < w.heap.size)
    (hm : w.cell? ⟨Bm, 0, none⟩ = some (.map (some b))) (hown : w.ownsMap Try.prog 9 RdA b nn D0) :
    SeqGives Fence.wide n Try.prog 33 #[.pointer (some ⟨Bm, 0, none⟩)] encA (AllOf D0) (Maps.size D0) w := fun l J W hW hJ hY h0 => by
  have hown' : W.ownsMap Try.prog 9 RdA b nn D0 := by
    have hbl := hown.lt
    obtain ⟨es, clock, hb, Ft, hs, hD⟩ := hown
    exact ⟨es, clock, (hW.block b hbl).trans hb, Ft, hs, hD⟩
  refine (vals33_in n hn l Bm b nn D0 J hY W hJ ((hW.cell (p := ⟨Bm, 0, none⟩) hBm).trans hm) hown' h0).mono ?_
  rintro e W' ⟨hv, ps, h1, h2, h3⟩
  exact ⟨hv, _, ⟨ps, h1, h2, rfl⟩, h3⟩

/-! slices.AppendSeq(nil, seq) -/
end Go.Pl

namespace Go.Pl
open Go Go.Proofs Go.RowKit Go.Maps Go.Sort

def apAssign : Code := (Code.region 2 #[{ dst := some 5, op := Op.alloc 35, type := 0, pos := "iter.go:51", after := #[], guard := none }, { dst := none, op := Op.store 35 (Operand.tmp 5) (Operand.tmp 7), type := 0, pos := "iter.go:51", after := #[{ on := 0, ground := Ground.data }, { on := 0, ground := Ground.phase }], guard := none }] false)
def apBody : Code := (Code.block 1 (Code.region 3 #[{ dst := some 8, op := Op.load 29 (Operand.tmp 2), type := 29, pos := "iter.go:52", after := #[], guard := none }, { dst := some 9, op := Op.load 35 (Operand.tmp 5), type := 35, pos := "iter.go:52", after := #[], guard := none }, { dst := some 10, op := Op.buildSlice 29 1 #[(0, Operand.tmp 9)], type := 29, pos := "iter.go:52", after := #[{ on := 1, ground := Ground.data }], guard := none }, { dst := some 11, op := Op.call { callee := Callee.builtin Builtin.append, args := #[Operand.tmp 8, Operand.tmp 10], argTypes := #[29, 29] }, type := 29, pos := "iter.go:52", after := #[{ on := 0, ground := Ground.data }, { on := 2, ground := Ground.data }], guard := none }, { dst := none, op := Op.store 29 (Operand.tmp 2) (Operand.tmp 11), type := 0, pos := "iter.go:52", after := #[{ on := 3, ground := Ground.data }, { on := 3, ground := Ground.chain }, { on := 0, ground := Ground.phase }, { on := 1, ground := Ground.phase }, { on := 2, ground := Ground.phase }, { on := 3, ground := Ground.phase }], guard := none }] false))
/-- The loop's record. -/
def apRec (fn : FuncId) (sv : Value) (Bs D : Nat) (st : LoopState) (pend : Option Code) : Loop :=
  { state := st, pending := pend, fn, tmps := #[.slice none 0 0, sv, .pointer (some ⟨Bs, 0, none⟩), undef, .slice none 0 0, undef, sv, undef, undef, undef, undef, undef, undef], params := #[7], assign := apAssign, body := apBody, defers := D }

/-- the cells of what has come -/
def flatS (ss : List ST) : List Value := (ss.map enc3).flatten

theorem flatS_append (a b : List ST) : flatS (a ++ b) = flatS a ++ flatS b := by simp [flatS]

/-- Between two rounds. -/
structure ApAt (w0 : World) (fn : FuncId) (sv : Value) (Bs l D : Nat) (ss : List ST) (W : World) : Prop where
  box : ∃ v, W.heap[Bs]? = some (.cells #[v] 29 (0, 0)) ∧ W.ownsRow w0.heap.size 35 3 v ss.length (flatS ss) ∧ (v = .slice none 0 0 ↔ ss = [])
  L : W.heap[l]? = some (.loop (apRec fn sv Bs D .ready none))
  K : W.heap[D]? = some (.deferred (some []))
  below : Below w0.heap.size w0 W

theorem ap_abides (w0 : World) (fn : FuncId) (sv : Value) (Bs l D B : Nat) (hB : w0.heap.size ≤ B) : AbidesFrom B (ApAt w0 fn sv Bs l D) := fun s W W' row h hg hrow => by
  have hrow' : ∀ r, row = some r → ∃ o : Obj, W.heap[r]? = some o ∧ o.isWalk = true := fun r e => (hrow r e).2
  obtain ⟨v, hv, hr, hn⟩ := h.box
  exact ⟨⟨v, (grownBy_keeps hg hrow' hv rfl).trans hv, ownsRow_abides_a hr hg hrow', hn⟩, (grownBy_keeps hg hrow' h.L rfl).trans h.L, (grownBy_keeps hg hrow' h.K rfl).trans h.K,
    h.below.grown hg h.below.size (fun k e => Nat.le_trans hB (hrow k e).1)⟩

theorem cell3_new (w : World) (a b c : Value) : ∀ (j : Nat) (u : Value), [a, b, c][j]? = some u → (w.alloc (.cells #[a, b, c] 35)).cell? (Addr.add ⟨w.heap.size, 0, none⟩ j) = some u := by
  intro j u h
  have hj : j < 3 := by
    have := (List.getElem?_eq_some_iff.1 h).1
    simpa using this
  have e : (w.alloc (.cells #[a, b, c] 35)).heap[w.heap.size]? = some (.cells #[a, b, c] 35 (0, 0)) := World.alloc_heap_new w _
  have hk : ∀ k, (w.alloc (.cells #[a, b, c] 35)).cell? ⟨w.heap.size, k, none⟩ = #[a, b, c][k]? := fun k => by
    unfold World.cell?
    simp only [e]
    rfl
  match j, hj with
  | 0, _ => exact (hk 0).trans (by simpa using h)
  | 1, _ => exact (hk 1).trans (by simpa using h)
  | 2, _ => exact (hk 2).trans (by simpa using h)

set_option maxRecDepth 100000 in
set_option maxHeartbeats 4000000 in
theorem apYield (F : Fence) (m : Nat) (w0 : World) (fn : FuncId) (hfn : F.fn fn) (sv : Value) (Bs l D : Nat) (hBl : Bs ≠ l) (hDl : D ≠ l) (hDB : D ≠ Bs) (h0B : w0.heap.size ≤ Bs) (h0l : w0.heap.size ≤ l)
    (N : Nat) (hN : N ≤ maxLen) (hNb : N * 32 ≤ 140737488355328) (ss : List ST) (x : ST) (W : World) (h : ApAt w0 fn sv Bs l D ss W) (hlen : ss.length < N) :
    YieldAt F m Try.prog l #[encA x] W fun e W' => e = .returned (.bool true) ∧ ApAt w0 fn sv Bs l D (ss ++ [x]) W' ∧ KeepsWalks W W' := by
  have mixed := mixedW
  have a35 := Try.isAgg35; have z35 := Try.sizeOf35; have v35 := Try.zeroValue35; have a29 := Try.isAgg29; have z29 := Try.sizeOf29; have a0 := Try.isAgg0; have z0 := Try.sizeOf0
  have t29 := Try.underlying29; have t35 := Try.underlying35
  have u0 := run_underlying Try.underlying0; have u29 := run_underlying Try.underlying29; have u35 := run_underlying Try.underlying35
  obtain ⟨i0, hi, hz0, hz1, hz2⟩ : ∃ i, Try.prog.info? 35 = some i ∧ i.zero = some (.agg #[.string ⟨#[]⟩, .int .i64 0, .int .i64 0]) ∧ i.size = 3 ∧ i.bytes = 32 := ⟨_, rfl, rfl, rfl, rfl⟩
  obtain ⟨v, hv, hrow, _⟩ := h.box
  refine ⟨fn, #[.slice none 0 0, sv, .pointer (some ⟨Bs, 0, none⟩), undef, .slice none 0 0, undef, sv, encA x, undef, undef, undef, undef, undef], apAssign, apBody, by simpa [apRec] using run_yield (P := Try.prog) (args := #[encA x]) h.L rfl, roundIn_of_wpIn hfn ?_⟩
  obtain ⟨W1, hW1⟩ : ∃ W1, W.alloc (.cells #[.string ⟨x.u.toArray⟩, .int .i64 x.s, .int .i64 x.e] 35) = W1 := ⟨_, rfl⟩
  have hsz1 : W1.heap.size = W.heap.size + 1 := by rw [← hW1]; simp
  have hx1 : W1.heap[W.heap.size]? = some (.cells #[.string ⟨x.u.toArray⟩, .int .i64 x.s, .int .i64 x.e] 35 (0, 0)) := by rw [← hW1]; exact World.alloc_heap_new W _
  have hold1 : ∀ k, k < W.heap.size → W1.heap[k]? = W.heap[k]? := fun k hk => by rw [← hW1]; exact Below.heap_alloc _ _ k hk
  have hl : l < W.heap.size := (Array.getElem?_eq_some_iff.1 h.L).1
  have hBsl : Bs < W.heap.size := (Array.getElem?_eq_some_iff.1 hv).1
  have hDl0 : D < W.heap.size := (Array.getElem?_eq_some_iff.1 h.K).1
  have hv1 : W1.heap[Bs]? = some (.cells #[v] 29 (0, 0)) := (hold1 _ hBsl).trans hv
  have hL1 : W1.heap[l]? = some (.loop (apRec fn sv Bs D .ready none)) := (hold1 _ hl).trans h.L
  have hK1 : W1.heap[D]? = some (.deferred (some [])) := (hold1 _ hDl0).trans h.K
  have hrow1 : W1.ownsRow w0.heap.size 35 3 v ss.length (flatS ss) := by rw [← hW1]; exact hrow.alloc _
  have hb1 : Below w0.heap.size w0 W1 := by rw [← hW1]; exact h.below.alloc h.below.size _
  have hk1 : KeepsWalks W W1 := by rw [← hW1]; exact KeepsWalks.alloc _ _
  have hbr := run_beginRound (P := Try.prog) hL1 rfl
  obtain ⟨W2, hW2⟩ : ∃ W2, W1.putObj l (.loop { apRec fn sv Bs D .ready none with state := .busy }) = W2 := ⟨_, rfl⟩
  rw [hW2] at hbr
  have hg2 : W1.grownBy W2 (some l) := by rw [← hW2]; exact grownBy_putObj_a _ _ _
  have hk2 : KeepsWalks W W2 := hk1.trans (by rw [← hW2]; exact KeepsWalks.putObj _ hL1 rfl)
  have hv2 : W2.heap[Bs]? = some (.cells #[v] 29 (0, 0)) := by rw [← hW2]; exact (World.putObj_heap_other hBl).trans hv1
  have hK2 : W2.heap[D]? = some (.deferred (some [])) := by rw [← hW2]; exact (World.putObj_heap_other hDl).trans hK1
  have hx2 : W2.heap[W.heap.size]? = some (.cells #[.string ⟨x.u.toArray⟩, .int .i64 x.s, .int .i64 x.e] 35 (0, 0)) := by rw [← hW2]; exact (World.putObj_heap_other (by omega)).trans hx1
  have hL2 : W2.heap[l]? = some (.loop { apRec fn sv Bs D .ready none with state := .busy }) := by rw [← hW2]; exact World.putObj_heap_same (by omega)
  have hrow2 : W2.ownsRow w0.heap.size 35 3 v ss.length (flatS ss) := hrow1.kept hg2 (ownsRow_ne_a hrow1 hL1 (fun cur e => by cases e))
  have hb2 : Below w0.heap.size w0 W2 := hb1.grown hg2 hb1.size (fun k e => by cases e; exact h0l)
  obtain ⟨hc2, hf2⟩ := cell_of_box_a hv2
  have hBlt : Bs < W2.heap.size := (Array.getElem?_eq_some_iff.1 hv2).1
  have hl2 : l < W2.heap.size := (Array.getElem?_eq_some_iff.1 hL2).1
  have hDlt : D < W2.heap.size := (Array.getElem?_eq_some_iff.1 hK2).1
  have hxc : W2.cell? ⟨W.heap.size, 0, none⟩ = some (.string ⟨x.u.toArray⟩) ∧ W2.cell? ⟨W.heap.size, 1, none⟩ = some (.int .i64 x.s) ∧ W2.cell? ⟨W.heap.size, 2, none⟩ = some (.int .i64 x.e) := by
    refine ⟨?_, ?_, ?_⟩ <;> simp [World.cell?, hx2]
  obtain ⟨hxc0, hxc1, hxc2⟩ := hxc
  have ne_of : ∀ {j : Nat} {o : Obj}, W2.heap[j]? = some o → (∀ cur, o ≠ .cells cur 35 (0, 0)) → some j ≠ v.ownBlock := fun hj hno => by
    rcases ownsRow_ne_a hrow2 hj hno with e | e
    · rw [e]; simp
    · exact fun e' => e e'.symm
  clear hW2
  unfold apAssign encA
  gi_wp2_with gi_round_op_a
  unfold apBody
  gi_wp2_with (first
    | (gi_at_builtin; refine wpListIn_append_own _ rfl _ _ 29 rfl w0.heap.size 35 i0 (.agg #[.string ⟨#[]⟩, .int .i64 0, .int .i64 0]) 3 32 Try.underlying29 hi hz0 hz1 hz2 rfl (by decide) _ _ _ rfl (hrow2.alloc _) ⟨W2.heap.size, 0, none⟩ 1 1 [.string ⟨x.u.toArray⟩, .int .i64 x.s, .int .i64 x.e] rfl rfl (cell3_new _ _ _ _) (by simp [Value.oneCell']) (by omega) (by omega) (by have := hb2.size; simp; omega) ?_; intro v' w3 hown' hg3 hnil3
       have hv3 : w3.heap[Bs]? = some (.cells #[v] 29 (0, 0)) := (hg3.block Bs (by simp; omega) (ne_of hv2 (fun cur e => by cases e))).trans ((Below.heap_alloc _ _ Bs hBlt).trans hv2)
       obtain ⟨hc3, hf3⟩ := cell_of_box_a hv3
       obtain ⟨g', cap', cur', rfl, hbase', hgb', hr1, hr2, hr3, hr4⟩ : ∃ g' cap' cur', v' = .slice (some ⟨g', 0, none⟩) (ss.length + 1) cap' ∧ w0.heap.size ≤ g' ∧ w3.heap[g']? = some (.cells cur' 35 (0, 0)) ∧ ss.length + 1 ≤ cap' ∧ cap' ≤ maxLen ∧ cur'.size = cap' * 3 ∧ cur'.toList.take ((ss.length + 1) * 3) = flatS ss ++ [.string ⟨x.u.toArray⟩, .int .i64 x.s, .int .i64 x.e] := by
         rcases hown'.2 with ⟨_, h0⟩ | h'
         · exact absurd h0 (by omega)
         · exact h'
       go_frame)
    | gi_round_op_a)
  have hg3' : (W2.alloc (.cells #[.string ⟨x.u.toArray⟩, .int .i64 x.s, .int .i64 x.e] 35)).grownBy w3 v.ownBlock := hg3
  have hL3 : w3.heap[l]? = some (.loop { apRec fn sv Bs D .ready none with state := .busy }) := (hg3'.block l (by simp; omega) (ne_of hL2 (fun cur e => by cases e))).trans ((Below.heap_alloc _ _ l hl2).trans hL2)
  have hK3 : w3.heap[D]? = some (.deferred (some [])) := (hg3'.block D (by simp; omega) (ne_of hK2 (fun cur e => by cases e))).trans ((Below.heap_alloc _ _ D hDlt).trans hK2)
  obtain ⟨w4, hw4⟩ : ∃ w4, w3.setCell ⟨Bs, 0, none⟩ (.slice (some ⟨g', 0, none⟩) (ss.length + 1) cap') = w4 := ⟨_, rfl⟩
  rw [hw4]
  have hg4 : w3.grownBy w4 (some Bs) := by rw [← hw4]; exact grownBy_setCell0_a _ _ _
  have hv4 : w4.heap[Bs]? = some (.cells #[.slice (some ⟨g', 0, none⟩) (ss.length + 1) cap'] 29 (0, 0)) := by rw [← hw4]; exact heap_setCell_box_a _ hv3
  have hL4 : w4.heap[l]? = some (.loop { apRec fn sv Bs D .ready none with state := .busy }) := (hg4.block l (Array.getElem?_eq_some_iff.1 hL3).1 (fun e => hBl (by cases e; rfl))).trans hL3
  have hK4 : w4.heap[D]? = some (.deferred (some [])) := (hg4.block D (Array.getElem?_eq_some_iff.1 hK3).1 (fun e => hDB (by cases e; rfl))).trans hK3
  have hrow4 := hown'.kept hg4 (ownsRow_ne_a hown' hv3 (fun cur e => by cases e))
  have hl4 : l < w4.heap.size := (Array.getElem?_eq_some_iff.1 hL4).1
  have hb3 : Below w0.heap.size w0 w3 := (hb2.alloc hb2.size _).grown hg3' (by have := hb2.size; simp; omega) (fun k e => (hrow2.lt k e).1)
  have hb4 : Below w0.heap.size w0 w4 := hb3.grown hg4 hb3.size (fun k e => by cases e; exact h0B)
  have hk4 : KeepsWalks W w4 := ((hk2.trans (KeepsWalks.alloc _ _)).trans (KeepsWalks.of_grownBy hg3' (ownsRow_not_walk_a (hrow2.alloc _)))).trans (by rw [← hw4]; exact KeepsWalks.setCell _ _ _)
  clear hw4
  refine ⟨_, _, run_endRound none hL4, rfl, ⟨⟨_, (World.putObj_heap_other hBl).trans hv4, ?_, by simp⟩, World.putObj_heap_same hl4, (World.putObj_heap_other hDl).trans hK4, hb4.grown (grownBy_putObj_a _ _ _) hb4.size (fun k e => by cases e; exact h0l)⟩, hk4.trans (KeepsWalks.putObj _ hL4 rfl)⟩
  have := hrow4.kept (grownBy_putObj_a w4 l (.loop { { apRec fn sv Bs D .ready none with state := .busy } with state := if (none : Option Code).isNone then .ready else .done, pending := none })) (ownsRow_ne_a hrow4 hL4 (fun cur e => by cases e))
  simpa [flatS, enc3] using this

set_option maxRecDepth 100000 in
set_option maxHeartbeats 2000000 in
theorem appendSeq_in (F : Fence) (n : Nat) (h36 : F.fn 36) (hro : F.round = none) (hn : 2 ≤ n) (g : Nat) (lb : Array Value) (hFg : F.fn g) (eg : ∀ args w, (callFunc g args).run Try.prog w = .ok (.enter g args) w)
    (S : List ST → Prop) (N : Nat) (hN : N ≤ maxLen) (hNb : N * 32 ≤ 140737488355328) (w : World) (hseq : SeqGives F (n - 1) Try.prog g lb encA S N w) :
    CallsIn F n Try.prog 36 #[.slice none 0 0, .func (.func g) #[] lb] w fun e w' => ∃ (v : Value) (ss : List ST), e = .returned v ∧ S ss ∧ w'.ownsRow w.heap.size 35 3 v ss.length (flatS ss) ∧ (v = .slice none 0 0 ↔ ss = []) ∧ Below w.heap.size w w' := by
  have h1 : 1 ≤ n := by omega
  have mixed := mixedW
  have a35 := Try.isAgg35; have z35 := Try.sizeOf35; have v35 := Try.zeroValue35; have a29 := Try.isAgg29; have z29 := Try.sizeOf29; have a0 := Try.isAgg0; have z0 := Try.sizeOf0
  have t29 := Try.underlying29; have t35 := Try.underlying35
  have u0 := run_underlying Try.underlying0; have u29 := run_underlying Try.underlying29; have u35 := run_underlying Try.underlying35
  refine callsIn_of_wp_marks Try.func36 rfl h36 ?_ hro
  simp only [Try.ntmps36, List.size_toArray, List.length_cons, List.length_nil, Nat.reduceAdd, Nat.reduceSub, Array.replicate_succ, Array.replicate_zero, List.push_toArray, List.append_toArray, List.nil_append, List.cons_append]
  gi_wp2
  refine wpIn_rangeFunc ?_
  intro fn hfn
  rw [hro]
  obtain ⟨W0, hW0⟩ : ∃ W0, w.alloc (.cells #[.slice none 0 0] 29) = W0 := ⟨_, rfl⟩
  have hs0 : W0.heap.size = w.heap.size + 1 := by rw [← hW0]; simp
  have hv0 : W0.heap[w.heap.size]? = some (.cells #[.slice none 0 0] 29 (0, 0)) := by rw [← hW0]; exact World.alloc_heap_new w _
  have hb0 : Below w.heap.size w W0 := by rw [← hW0]; exact (Below.refl _ w).alloc (Nat.le_refl _) _
  rw [hW0]
  obtain ⟨W1, hW1⟩ : ∃ W1, (W0.alloc (.deferred (some []))).alloc (.loop (apRec fn (.func (.func g) #[] lb) w.heap.size W0.heap.size .ready none)) = W1 := ⟨_, rfl⟩
  have hold : ∀ k, k < W0.heap.size → W1.heap[k]? = W0.heap[k]? := fun k hk => by
    rw [← hW1]; exact (Below.heap_alloc _ _ k (by simp; omega)).trans (Below.heap_alloc _ _ k hk)
  have hb1 : Below w.heap.size w W1 := by rw [← hW1]; exact (hb0.alloc hb0.size _).alloc (by have := hb0.size; simp; omega) _
  have hs1 : W1.heap.size = W0.heap.size + 2 := by rw [← hW1]; simp
  have hM : ApAt w fn (.func (.func g) #[] lb) w.heap.size (W0.heap.size + 1) W0.heap.size [] W1 :=
    ⟨⟨_, (hold w.heap.size (by omega)).trans hv0, ⟨rfl, .inl ⟨rfl, rfl⟩⟩, by simp⟩,
     by rw [← hW1]; have := World.alloc_heap_new (W0.alloc (.deferred (some []))) (.loop (apRec fn (.func (.func g) #[] lb) w.heap.size W0.heap.size .ready none)); rwa [World.size_alloc] at this,
     by rw [← hW1]; exact (Below.heap_alloc _ _ _ (by simp)).trans (World.alloc_heap_new W0 _), hb1⟩
  refine ⟨W0.heap.size + 1, [{ target := .collected W0.heap.size, args := #[] }], W1, { target := .fn (.func g) lb, args := #[.func (.yield (W0.heap.size + 1)) #[] #[]] }, W1, g,
    #[.func (.yield (W0.heap.size + 1)) #[] #[]] ++ lb, W1, ?_, ?_, ?_, ?_, fun _ => h1, ?_⟩
  · rw [← hW1]; exact run_enterLoop_outer _ _ _ _ _
  · simp [resolve, go_sem]
  · intro f' hf'; simp [Target.leads] at hf'; subst hf'; exact hFg
  · simp [invoke, go_sem, eg]
  · refine (hseq (W0.heap.size + 1) (ApAt w fn (.func (.func g) #[] lb) w.heap.size (W0.heap.size + 1) W0.heap.size) W1 hb1 (ap_abides _ _ _ _ _ _ _ hb1.size)
      (fun pre x W hJ hl => apYield F (n - 1 - 1) w fn hfn _ w.heap.size (W0.heap.size + 1) W0.heap.size (by omega) (by omega) (by omega) (Nat.le_refl _) (by omega) N hN hNb pre x W hJ hl) hM).mono ?_
    rintro e W2 ⟨⟨v0, rfl⟩, ss, hS, h2⟩
    obtain ⟨v, hv, hrow, hnil⟩ := h2.box
    have hend := run_endLoop (P := Try.prog) h2.L (by simp [apRec])
    obtain ⟨W3, hW3⟩ : ∃ W3, W2.putObj (W0.heap.size + 1) (.loop { apRec fn (.func (.func g) #[] lb) w.heap.size W0.heap.size .ready none with state := .exhausted }) = W3 := ⟨_, rfl⟩
    rw [hW3] at hend
    have hg3 : W2.grownBy W3 (some (W0.heap.size + 1)) := by rw [← hW3]; exact grownBy_putObj_a _ _ _
    have hv3 : W3.heap[w.heap.size]? = some (.cells #[v] 29 (0, 0)) := by rw [← hW3]; exact (World.putObj_heap_other (by omega)).trans hv
    have hK3 : W3.heap[W0.heap.size]? = some (.deferred (some [])) := by rw [← hW3]; exact (World.putObj_heap_other (by omega)).trans h2.K
    have hrow3 := hrow.kept hg3 (ownsRow_ne_a hrow h2.L (fun cur e => by cases e))
    have hb3 : Below w.heap.size w W3 := h2.below.grown hg3 h2.below.size (fun k e => by cases e; omega)
    obtain ⟨hc3, hf3⟩ := cell_of_box_a hv3
    clear hW3
    refine ⟨none, W3, hend, ?_⟩
    gi_wp2
    rw [← hs0]
    refine ⟨by simp, .inl ⟨_, _, rfl, run_takeDeferred hK3, ?_⟩⟩
    exact ⟨_, results_tmp rfl _ _ _, v, ss, rfl, hS, hrow3.kept (grownBy_putObj_a _ _ _) (ownsRow_ne_a hrow3 hK3 (fun cur e => by cases e)), hnil, hb3.grown (grownBy_putObj_a _ _ _) hb3.size (fun k e => by cases e; omega)⟩

set_option maxHeartbeats 1000000 in
theorem collect_in (F : Fence) (n : Nat) (h31 : F.fn 31) (h36 : F.fn 36) (hro : F.round = none) (hn : 3 ≤ n) (g : Nat) (lb : Array Value) (hFg : F.fn g) (eg : ∀ args w, (callFunc g args).run Try.prog w = .ok (.enter g args) w)
    (S : List ST → Prop) (N : Nat) (hN : N ≤ maxLen) (hNb : N * 32 ≤ 140737488355328) (w : World) (hseq : SeqGives F (n - 1 - 1) Try.prog g lb encA S N w) :
    CallsIn F n Try.prog 31 #[.func (.func g) #[] lb] w fun e w' => ∃ (v : Value) (ss : List ST), e = .returned v ∧ S ss ∧ w'.ownsRow w.heap.size 35 3 v ss.length (flatS ss) ∧ (v = .slice none 0 0 ↔ ss = []) ∧ Below w.heap.size w w' := by
  have h1 : 1 ≤ n := by omega
  have e36 : ∀ args w, (callFunc 36 args).run Try.prog w = .ok (.enter 36 args) w := Try.call36
  have mixed := mixedW
  have u0 := run_underlying Try.underlying0; have u29 := run_underlying Try.underlying29; have u35 := run_underlying Try.underlying35
  refine callsIn_of_wp Try.func31 rfl h31 ?_ hro
  simp only [Try.ntmps31, List.size_toArray, List.length_cons, List.length_nil, Nat.reduceAdd, Nat.reduceSub, Array.replicate_succ, Array.replicate_zero, List.push_toArray, List.append_toArray, List.nil_append, List.cons_append]
  gi_wp2_with (gi_at_fn 36; refine (appendSeq_in F (n - 1) h36 hro (by omega) g lb hFg eg S N hN hNb _ hseq).mono ?_; rintro e w' ⟨v, ss, rfl, hS, hrow, hnil, hb⟩)
  go_ret
  exact ⟨v, ss, rfl, hS, hrow, hnil, hb⟩
end Go.Pl

namespace Go.Pl
open Go Go.Ev Go.Proofs Go.RowKit Go.Maps Go.Sort Go.MapKept Go.ChangeMaps Go.WideShapes
open Go.WideElems (Fit rd rg pl rd_val rd_mk rg_of)

@[reducible] def T3 : Ty := .pair .str (.pair (.int .i64) (.pair (.int .i64) .unit))
def toST (x : T3.den) : ST := ⟨x.1, x.2.1, x.2.2.1⟩
def ofST (x : ST) : T3.den := (x.u, x.s, x.e, ())

theorem toST_inj {x y : T3.den} (h : toST x = toST y) : x = y := by
  obtain ⟨a, b, c, d⟩ := x
  obtain ⟨a', b', c', d'⟩ := y
  simp [toST] at h
  obtain ⟨rfl, rfl, rfl⟩ := h
  rfl

theorem relT3 {w : World} {N : Nat → Prop} {x : T3.den} {cs : List Value} (h : RelD w N T3 x cs) : cs = enc3 (toST x) := by
  simp only [T3, RelD] at h
  obtain ⟨_, _, rfl, rfl, _, _, rfl, rfl, _, _, rfl, rfl, rfl⟩ := h
  rfl
theorem relT3' {w : World} {N : Nat → Prop} (x : ST) : RelD w N T3 (ofST x) (enc3 x) := by
  simp only [T3, RelD]
  exact ⟨[_], [_, _], rfl, rfl, [_], [_], rfl, rfl, [_], [], rfl, rfl, rfl⟩

/-- an entry, and what it holds -/
theorem relM3 {w : World} {N : Nat → Prop} {l : List (List UInt8 × T3.den)} {es : List MapEntry} (h : RelM w N .str T3 true l es) : es.length = l.length ∧ ∀ i, (h1 : i < l.length) → (h2 : i < es.length) → es[i].key = encStr l[i].1 ∧ es[i].val = encA (toST l[i].2) := by
  refine ⟨h.1, fun i h1 h2 => ?_⟩
  obtain ⟨r1, cs, r2, r3⟩ := h.2 i h1 h2
  simp only [RelD] at r1
  have := relT3 r2
  subst this
  refine ⟨by simpa [encStr] using r1, ?_⟩
  rcases r3 with ⟨_, r3⟩ | ⟨r3, _⟩
  · exact r3
  · cases r3

/-- A map of ours as the shelf has maps. -/
theorem owns3 {w : World} {N : Nat → Prop} {l : List (List UInt8 × T3.den)} {es : Array MapEntry} {c g : Nat} (hg : w.heap[g]? = some (.map es c)) (hs : Stamped es c) (h : RelM w N .str T3 true l es.toList) (hn : l.length ≤ maxLen) (hk : ∀ p ∈ l, p.1.length ≤ maxLen) :
    ∃ D0 : DataW Value, w.ownsMap Try.prog 9 RdA g l.length D0 ∧ Maps.size D0 = l.length ∧ ∀ xs, AllOf D0 xs → xs.Perm (l.map fun p => toST p.2) := by
  obtain ⟨hl, hent⟩ := relM3 h
  have hsz : es.size = l.length := by simpa using hl
  have hread : ∀ x ∈ es.toList, ∃ p ∈ l, x.key = encStr p.1 ∧ x.val = encA (toST p.2) := fun x hx => by
    obtain ⟨i, hi, rfl⟩ := List.getElem_of_mem hx
    have hi' : i < l.length := by omega
    exact ⟨l[i], List.getElem_mem _, hent i hi' hi⟩
  have hread' : ∀ p ∈ l, ∃ x ∈ es.toList, x.key = encStr p.1 ∧ x.val = encA (toST p.2) := fun p hp => by
    obtain ⟨i, hi, rfl⟩ := List.getElem_of_mem hp
    have hi' : i < es.toList.length := by omega
    exact ⟨es.toList[i], List.getElem_mem _, hent i hi hi'⟩
  have hkey : ∀ p ∈ l, keyOf Try.prog 9 (encStr p.1) = some (.string p.1) := fun p hp => by
    have := Go.WideMaps.keyOf_string_mk Try.underlying9 (s := ⟨p.1.toArray⟩) (by have := hk p hp; show p.1.toArray.size ≤ maxLen; rw [List.size_toArray]; exact this)
    simpa [encStr] using this
  have hrd : ∀ p ∈ l, ∀ x : MapEntry, x.key = encStr p.1 → x.val = encA (toST p.2) → rd Try.prog 9 RdA x = some (.string p.1, .held (encA (toST p.2))) := fun p hp x h1 h2 => by
    have := rd_mk (P := Try.prog) (k := 9) (R := RdA) (key := x.key) (val := x.val) (born := x.born) (by rw [h1]; exact hkey p hp) (by rw [h2]; exact RdA_enc _)
    exact this
  have F : Fit Try.prog 9 RdA es c := ⟨by omega, hs, fun x hx => by
    obtain ⟨p, hp, h1, h2⟩ := hread x hx
    exact ⟨_, hrd p hp x h1 h2⟩⟩
  have K := string_keyed Try.underlying9
  have hown : w.ownsMap Try.prog 9 RdA g l.length (.map ((es.toList.map (rg Try.prog 9 RdA)).foldr DataW.insert [])) := ⟨es, c, hg, F, by omega, rfl⟩
  refine ⟨_, hown, by simp [Maps.size, length_sorted, hsz], fun xs hxs => ?_⟩
  obtain ⟨ps, hp1, hp2, rfl⟩ := hxs
  -- keys
  have hnodk : (l.map (·.1)).Nodup := by
    have hn := hs.2.2
    have : es.toList.map (·.key) = (l.map (·.1)).map encStr := by
      apply List.ext_getElem
      · simp [hsz]
      · intro i h1 h2
        simp only [List.getElem_map]
        exact (hent i (by simpa using h2) (by simpa using h1)).1
    rw [this] at hn
    rw [List.Nodup, List.pairwise_map] at hn
    exact hn.imp fun h e => h (by rw [e])
  have hat : ∀ p ∈ l, ∀ zd, (DataW.map ((es.toList.map (rg Try.prog 9 RdA)).foldr DataW.insert [])).atKey (.string p.1) zd = .held (encA (toST p.2)) := fun p hp zd => by
    obtain ⟨x, hx, h1, h2⟩ := hread' p hp
    have hr := hrd p hp x h1 h2
    have := (atKey_sorted (es.toList.map (rg Try.prog 9 RdA)) (Maps.fit_rising K F) (.string p.1) (K.key (hkey p hp))).2 _ (List.mem_map.2 ⟨x, hx, rfl⟩) (by rw [rg_of hr]) zd
    rw [this, rg_of hr]
  have hkeys : ∀ x, x ∈ strKeys (DataW.map ((es.toList.map (rg Try.prog 9 RdA)).foldr DataW.insert []) : DataW Value) ↔ x ∈ l.map (·.1) := fun x => by
    simp only [strKeys, List.mem_map]
    constructor
    · rintro ⟨q, hq, rfl⟩
      obtain ⟨y, hy, rfl⟩ := List.mem_map.1 (mem_sorted.1 hq)
      obtain ⟨p, hp, h1, h2⟩ := hread y hy
      rw [rg_of (hrd p hp y h1 h2)]
      exact ⟨p, hp, rfl⟩
    · rintro ⟨p, hp, rfl⟩
      obtain ⟨y, hy, h1, h2⟩ := hread' p hp
      refine ⟨rg Try.prog 9 RdA y, mem_sorted.2 (List.mem_map.2 ⟨y, hy, rfl⟩), ?_⟩
      rw [rg_of (hrd p hp y h1 h2)]
      rfl
  have hnl : (l.map fun p => (p.1, toST p.2)).Nodup := by
    rw [List.Nodup, List.pairwise_map]
    rw [List.Nodup, List.pairwise_map] at hnodk
    exact hnodk.imp fun h e => h (by rw [Prod.mk.injEq] at e; exact e.1)
  have hsub : ∀ p ∈ ps, p ∈ l.map fun p => (p.1, toST p.2) := fun p hp => by
    have h1 := (hkeys p.1).1 (hp1.mem_iff.1 (List.mem_map.2 ⟨p, hp, rfl⟩))
    obtain ⟨q, hq, hqp⟩ := List.mem_map.1 h1
    have h2 := hp2 p hp .nil
    rw [← hqp, hat q hq] at h2
    have : toST q.2 = p.2 := encA_inj (DataW.held.inj h2)
    exact List.mem_map.2 ⟨q, hq, by rw [hqp, this]⟩
  have hkn : (strKeys (DataW.map ((es.toList.map (rg Try.prog 9 RdA)).foldr DataW.insert []) : DataW Value)).Perm (l.map (·.1)) := by
    refine (List.perm_ext_iff_of_nodup ?_ hnodk).2 hkeys
    obtain ⟨es', e1, e2, e3⟩ := hown.entries K
    cases e1
    show (List.map (fun (p : Lit × DataW Value) => strOf p.1) _).Nodup
    rw [List.Nodup, List.pairwise_map]
    refine e2.imp_of_mem fun {p q} hp hq hne e => hne ?_
    obtain ⟨y, hy, rfl⟩ := List.mem_map.1 (mem_sorted.1 hp)
    obtain ⟨z, hz, rfl⟩ := List.mem_map.1 (mem_sorted.1 hq)
    obtain ⟨p', hp', h1, h2⟩ := hread y hy
    obtain ⟨q', hq', h3, h4⟩ := hread z hz
    rw [rg_of (hrd p' hp' y h1 h2), rg_of (hrd q' hq' z h3 h4)] at e ⊢
    simpa [strOf] using e
  have hpn : ps.Nodup := by
    have := (hp1.trans hkn).nodup_iff.2 hnodk
    rw [List.Nodup, List.pairwise_map] at this
    exact this.imp fun h e => h (by rw [e])
  have hperm : ps.Perm (l.map fun p => (p.1, toST p.2)) := by
    refine (List.perm_ext_iff_of_nodup hpn hnl).2 fun e => ⟨hsub e, fun he => ?_⟩
    obtain ⟨q, hq, rfl⟩ := List.mem_map.1 he
    obtain ⟨p, hp, hpq⟩ := List.mem_map.1 ((hp1.trans hkn).mem_iff.2 (List.mem_map.2 ⟨q, hq, rfl⟩))
    have h2 := hp2 p hp .nil
    rw [hpq, hat q hq] at h2
    have h3 : toST q.2 = p.2 := encA_inj (DataW.held.inj h2)
    have : p = (q.1, toST q.2) := by
      obtain ⟨p1, p2⟩ := p
      simp only at hpq h3
      rw [hpq, h3]
    exact this ▸ hp
  have := hperm.map (·.2)
  simpa [List.map_map, Function.comp_def] using this
end Go.Pl

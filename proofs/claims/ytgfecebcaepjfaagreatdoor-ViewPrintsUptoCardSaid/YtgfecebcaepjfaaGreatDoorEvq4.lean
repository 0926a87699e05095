/- One step, and what stays true behind it. -/
import Derived.Test.YtgfecebcaepjfaaGreatDoorEvq3
namespace Go.Ev
open Go

structure Chg (N : Nat → Prop) (w w' : World) : Prop extends Keep N w w' where
  os : w'.os = w.os
  tape : w'.tape = w.tape
  output : w'.output = w.output

theorem Chg.refl {N : Nat → Prop} (w : World) : Chg N w w := ⟨⟨Nat.le_refl _, fun _ _ _ => rfl⟩, rfl, rfl, rfl⟩

theorem Chg.trans {N N' : Nat → Prop} {a b c : World} (h : Chg N a b) (h' : Chg N' b c) (hn : ∀ g, g < a.heap.size → N' g → N g) : Chg N a c where
  size := Nat.le_trans h.size h'.size
  keep := fun g hg hN => by
    rw [h'.keep g (Nat.lt_of_lt_of_le hg h.size) (fun x => hN (hn g hg x)), h.keep g hg hN]
  os := h'.os.trans h.os
  tape := h'.tape.trans h.tape
  output := h'.output.trans h.output

def updM (μ : Nat → Option Nat) (b : Nat) (v : Option Nat) : Nat → Option Nat := fun t => if t = b then v else μ t

theorem updH_same (H : Nat → Blk) (b : Nat) (v : Blk) : updH H b v b = v := by simp [updH]
theorem updH_other {H : Nat → Blk} {b t : Nat} {v : Blk} (h : t ≠ b) : updH H b v t = H t := by
  have : Nat.beq t b = false := Bool.eq_false_iff.2 fun e => h (Nat.eq_of_beq_eq_true e)
  simp [updH, this]
theorem upd_same (E : Nat → AV) (b : Nat) (v : AV) : upd E b v b = v := by simp [upd]
theorem upd_other {E : Nat → AV} {b t : Nat} {v : AV} (h : t ≠ b) : upd E b v t = E t := by
  have : Nat.beq t b = false := Bool.eq_false_iff.2 fun e => h (Nat.eq_of_beq_eq_true e)
  simp [upd, this]
theorem updM_same (μ : Nat → Option Nat) (b : Nat) (v : Option Nat) : updM μ b v b = v := by simp [updM]
theorem updM_other {μ : Nat → Option Nat} {b t : Nat} {v : Option Nat} (h : t ≠ b) : updM μ b v t = μ t := by simp [updM, h]

/-- References to some blocks, struck out of a value (if there are any to strike). -/
def kv (kl : List Nat) (x : AV) : AV :=
  match kl with
  | [] => x
  | _ :: _ => killV kl x

theorem killsE_eq (kl : List Nat) (E : Nat → AV) (t : Nat) : killsE kl E t = kv kl (E t) := by cases kl <;> rfl

def kb (kl : List Nat) (x : Blk) : Blk :=
  match kl with
  | [] => x
  | _ :: _ => killB kl x
theorem killsH_eq (kl : List Nat) (H : Nat → Blk) (t : Nat) : killsH kl H t = kb kl (H t) := by cases kl <;> rfl

def kL (kl : List Nat) (x : List AV) : List AV :=
  match kl with
  | [] => x
  | _ :: _ => killL kl x

theorem kb_vars (kl : List Nat) (cs : List AV) : kb kl (.vars cs) = .vars (kL kl cs) := by cases kl <;> rfl
theorem kb_data (kl : List Nat) (t : Ty) (l : List t.den) : kb kl (.data t l) = .data t l := by cases kl <;> rfl
theorem kb_iter (kl : List Nat) (s : List UInt8) (p : Nat) : kb kl (.iter s p) = .iter s p := by cases kl <;> rfl
theorem kb_mapd (kl : List Nat) (kt vt : Ty) (ag : Bool) (l : List (kt.den × vt.den)) : kb kl (.mapd kt vt ag l) = .mapd kt vt ag l := by cases kl <;> rfl
theorem kb_dead (kl : List Nat) : kb kl .dead = .dead := by cases kl <;> rfl
theorem tag_kb (kl : List Nat) (x : Blk) : (kb kl x).tag = x.tag := by
  cases x <;> simp [kb_vars, kb_data, kb_iter, kb_mapd, kb_dead, Blk.tag]
theorem kb_live (kl : List Nat) {x : Blk} (h : x ≠ .dead) : kb kl x ≠ .dead := by
  cases x <;> simp_all [kb_vars, kb_data, kb_iter, kb_mapd]

theorem hasN_append (a b : List Nat) (n : Nat) : hasN (a ++ b) n = (hasN a n || hasN b n) := by simp [hasN]

mutual
theorem killV_killV (k1 k2 : List Nat) : ∀ x, killV k2 (killV k1 x) = killV (k1 ++ k2) x
  | .ptr b o => by simp only [killV, hasN_append]; cases h : hasN k1 b <;> simp [killV]
  | .ep b t i f => by simp only [killV, hasN_append]; cases h : hasN k1 b <;> simp [killV]
  | .wh b => by simp only [killV, hasN_append]; cases h : hasN k1 b <;> simp [killV]
  | .win b lo n => by simp only [killV, hasN_append]; cases h : hasN k1 b <;> simp [killV]
  | .mp b => by simp only [killV, hasN_append]; cases h : hasN k1 b <;> simp [killV]
  | .mptr c b o => by simp only [killV, hasN_append]; cases h : hasN k1 b <;> simp [killV]
  | .fn f cs => by simp only [killV, killL_killL k1 k2 cs]
  | .agg cs => by simp only [killV, killL_killL k1 k2 cs]
  | .tup cs => by simp only [killV, killL_killL k1 k2 cs]
  | .ifc _ x => by simp only [killV, killV_killV k1 k2 x]
  | .pan x => by simp only [killV, killV_killV k1 k2 x]
  | .gd _ _ _ => by simp [killV]
  | .i _ _ => rfl | .u _ => rfl | .b _ => rfl | .kb _ => rfl | .s _ => rfl | .c _ => rfl | .sl _ _ => rfl | .fp _ _ _ _ => rfl | .bad => rfl
theorem killL_killL (k1 k2 : List Nat) : ∀ xs, killL k2 (killL k1 xs) = killL (k1 ++ k2) xs
  | [] => rfl
  | x :: r => by simp only [killL, killV_killV k1 k2 x, killL_killL k1 k2 r]
end

theorem kv_kv (k1 k2 : List Nat) (x : AV) : kv k2 (kv k1 x) = kv (k1 ++ k2) x := by
  cases k1 with
  | nil => rfl
  | cons a k1 =>
    cases k2 with
    | nil => simp [kv]
    | cons b k2 => exact killV_killV _ _ _

/-- A block that is not struck out is the same, or has new contents of the same kind and length. -/
def Compat (w w' : World) (μ μ' : Nat → Option Nat) (H H' : Nat → Blk) (b : Nat) : Prop :=
  μ' b = μ b ∧ match H b with
    | .dead => True
    | .data t l => (∃ l', H' b = .data t l' ∧ l'.length = l.length) ∧ ∀ g n, μ b = some g → room w g n → room w' g n
    | _ => H' b ≠ .dead

section
variable {w w' : World} {N N' : Nat → Prop} {μ μ' : Nat → Option Nat} {H H' : Nat → Blk} {kl : List Nat}

theorem relSl {t : Ty} {l : List t.den} {v : Value} (hk : Keep N w w') (hN : ∀ g, g < w.heap.size → N' g → N g) (h : RelV w N μ H (.sl t l) v) : RelV w' N' μ' H' (.sl t l) v := by
  simp only [RelV] at h ⊢
  exact h.keep hk hN

mutual
theorem RelV_kill (hk : Keep N w w') (hN : ∀ g, g < w.heap.size → N' g → N g) (hb : ∀ b, hasN kl b = false → H b ≠ .dead → Compat w w' μ μ' H H' b) :
    ∀ (x : AV) (v : Value), RelV w N μ H x v → RelV w' N' μ' H' (killV kl x) v
  | .i _ _, _, h => h | .u _, _, h => h | .b _, _, h => h | .kb _, _, h => h | .s _, _, h => h | .c _, _, h => h
  | .sl t l, v, h => relSl hk hN h
  | .fp t l ix f, v, h => by
    simp only [killV, RelV] at h ⊢
    obtain ⟨h1, g, o, h2, h3, h4, es, h5, h6, h7, h8⟩ := h
    exact ⟨h1, g, o, fun hn => h2 (hN g h3 hn), Nat.lt_of_lt_of_le h3 hk.size, h4, es, h5, rowAt_of_heap (hk.keep g h3 h2) h6, h7, h8.keep hk hN⟩
  | .ptr b o, v, h => by
    simp only [killV]
    cases hkb : hasN kl b with
    | true => simp [RelV]
    | false =>
      simp only [RelV, cond_false] at h ⊢
      obtain ⟨h1, g, hg, hv⟩ := h
      obtain ⟨c1, c2⟩ := hb b hkb h1
      refine ⟨?_, g, by rw [c1]; exact hg, hv⟩
      cases hB : H b <;> simp only [hB] at c2 <;> first | exact absurd hB h1 | exact c2 | (obtain ⟨⟨l', hl, _⟩, _⟩ := c2; simp [hl])
  | .mp b, v, h => by
    simp only [killV]
    cases hkb : hasN kl b with
    | true => simp [RelV]
    | false =>
      simp only [RelV, cond_false] at h ⊢
      obtain ⟨h1, g, hg, hv⟩ := h
      obtain ⟨c1, c2⟩ := hb b hkb h1
      refine ⟨?_, g, by rw [c1]; exact hg, hv⟩
      cases hB : H b <;> simp only [hB] at c2 <;> first | exact absurd hB h1 | exact c2 | (obtain ⟨⟨l', hl, _⟩, _⟩ := c2; simp [hl])
  | .mptr c b o, v, h => by
    simp only [killV]
    cases hkb : hasN kl b with
    | true => simp [RelV]
    | false =>
      simp only [RelV, cond_false] at h ⊢
      obtain ⟨h1, h2⟩ := h
      obtain ⟨c1, c2⟩ := hb b hkb h1
      refine ⟨?_, by rw [c1]; exact h2⟩
      cases hB : H b <;> simp only [hB] at c2 <;> first | exact absurd hB h1 | exact c2 | (obtain ⟨⟨l', hl, _⟩, _⟩ := c2; simp [hl])
  | .ep b t ix f, v, h => by
    simp only [killV]
    cases hkb : hasN kl b with
    | true => simp [RelV]
    | false =>
      simp only [RelV, cond_false] at h ⊢
      obtain ⟨l, g, h1, h2, hg, hv⟩ := h
      obtain ⟨c1, c2⟩ := hb b hkb (by simp [h1])
      simp only [h1] at c2
      obtain ⟨⟨l', hl, hlen⟩, _⟩ := c2
      exact ⟨l', g, hl, by omega, by rw [c1]; exact hg, hv⟩
  | .wh b, v, h => by
    simp only [killV]
    cases hkb : hasN kl b with
    | true => simp [RelV]
    | false =>
      simp only [RelV, cond_false] at h ⊢
      obtain ⟨t, l, h1, hv⟩ := h
      obtain ⟨c1, c2⟩ := hb b hkb (by simp [h1])
      simp only [h1] at c2
      obtain ⟨⟨l', hl, hlen⟩, hroom⟩ := c2
      refine ⟨t, l', hl, ?_⟩
      rcases hv with ⟨g, c, hg, hv, hc, hr⟩ | ⟨hg, hl0, hv⟩
      · exact .inl ⟨g, c, by rw [c1]; exact hg, by rw [hlen]; exact hv, by omega, hroom g _ hg hr⟩
      · subst hl0
        exact .inr ⟨by rw [c1]; exact hg, by simpa using hlen, hv⟩
  | .win b lo n, v, h => by
    simp only [killV]
    cases hkb : hasN kl b with
    | true => simp [RelV]
    | false =>
      simp only [RelV, cond_false] at h ⊢
      obtain ⟨t, l, h1, hle, hv⟩ := h
      obtain ⟨c1, c2⟩ := hb b hkb (by simp [h1])
      simp only [h1] at c2
      obtain ⟨⟨l', hl, hlen⟩, hroom⟩ := c2
      refine ⟨t, l', hl, by omega, ?_⟩
      rcases hv with ⟨g, c, o, hg, hv, hc, hr, ho⟩ | ⟨hg, hl0, hv⟩
      · exact .inl ⟨g, c, o, by rw [c1]; exact hg, hv, by omega, hroom g _ hg hr, ho⟩
      · subst hl0
        exact .inr ⟨by rw [c1]; exact hg, by simpa using hlen, hv⟩
  | .fn f cs, v, h => by
    simp only [killV, RelV] at h ⊢
    obtain ⟨vs, hv, hr⟩ := h
    exact ⟨vs, hv, RelVs_kill hk hN hb cs vs hr⟩
  | .agg cs, v, h => by
    simp only [killV, RelV] at h ⊢
    obtain ⟨vs, hv, hr⟩ := h
    exact ⟨vs, hv, RelVs_kill hk hN hb cs vs hr⟩
  | .tup cs, v, h => by
    simp only [killV, RelV] at h ⊢
    obtain ⟨vs, hv, hr⟩ := h
    exact ⟨vs, hv, RelVs_kill hk hN hb cs vs hr⟩
  | .ifc t x, v, h => by
    simp only [killV, RelV] at h ⊢
    obtain ⟨val, hv, hr⟩ := h
    exact ⟨val, hv, RelV_kill hk hN hb x val hr⟩
  | .pan x, v, h => by
    simp only [killV, RelV] at h ⊢
    exact RelV_kill hk hN hb x v h
  | .gd _ _ _, _, _ => by simp [killV, RelV]
  | .bad, _, _ => by simp [killV, RelV]
theorem RelVs_kill (hk : Keep N w w') (hN : ∀ g, g < w.heap.size → N' g → N g) (hb : ∀ b, hasN kl b = false → H b ≠ .dead → Compat w w' μ μ' H H' b) :
    ∀ (xs : List AV) (vs : List Value), RelVs w N μ H xs vs → RelVs w' N' μ' H' (killL kl xs) vs
  | [], vs, h => h
  | x :: r, vs, h => by
    simp only [killL, RelVs] at h ⊢
    obtain ⟨v, vr, rfl, h1, h2⟩ := h
    exact ⟨v, vr, rfl, RelV_kill hk hN hb x v h1, RelVs_kill hk hN hb r vr h2⟩
end

mutual
/-- Nothing is struck out: values stay as they are. -/
theorem killV_nil : ∀ x : AV, (∀ j b y, x ≠ .gd j b y) → RelV w N μ H (killV [] x) = RelV w N μ H x
  | .i _ _, _ => rfl | .u _, _ => rfl | .b _, _ => rfl | .kb _, _ => rfl | .s _, _ => rfl | .c _, _ => rfl | .sl _ _, _ => rfl | .fp _ _ _ _, _ => rfl
  | .ptr _ _, _ => rfl | .ep _ _ _ _, _ => rfl | .wh _, _ => rfl | .win _ _ _, _ => rfl | .mp _, _ => rfl | .mptr _ _ _, _ => rfl
  | .fn f cs, _ => by funext v; simp only [killV, RelV, killL_nil cs]
  | .agg cs, _ => by funext v; simp only [killV, RelV, killL_nil cs]
  | .tup cs, _ => by funext v; simp only [killV, RelV, killL_nil cs]
  | .ifc t x, _ => by
    funext v
    simp only [killV, RelV]
    by_cases hx : ∃ j b y, x = .gd j b y
    · obtain ⟨j, b, y, rfl⟩ := hx
      simp [killV, RelV]
    · rw [killV_nil x fun j b y e => hx ⟨j, b, y, e⟩]
  | .pan x, _ => by
    funext v
    simp only [killV, RelV]
    by_cases hx : ∃ j b y, x = .gd j b y
    · obtain ⟨j, b, y, rfl⟩ := hx
      simp [killV, RelV]
    · rw [killV_nil x fun j b y e => hx ⟨j, b, y, e⟩]
  | .gd j b y, h => absurd rfl (h j b y)
  | .bad, _ => rfl
theorem killL_nil : ∀ xs : List AV, RelVs w N μ H (killL [] xs) = RelVs w N μ H xs
  | [] => rfl
  | x :: r => by
    funext vs
    simp only [killL, RelVs, killL_nil r]
    by_cases hx : ∃ j b y, x = .gd j b y
    · obtain ⟨j, b, y, rfl⟩ := hx
      simp [killV, RelV]
    · rw [killV_nil x fun j b y e => hx ⟨j, b, y, e⟩]
end

theorem RelV_kv (hk : Keep N w w') (hN : ∀ g, g < w.heap.size → N' g → N g) (hb : ∀ b, hasN kl b = false → H b ≠ .dead → Compat w w' μ μ' H H' b)
    (x : AV) (v : Value) (h : RelV w N μ H x v) : RelV w' N' μ' H' (kv kl x) v := by
  have h1 := RelV_kill hk hN hb x v h
  cases kl with
  | cons a r => exact h1
  | nil =>
    show RelV w' N' μ' H' x v
    by_cases hx : ∃ j b y, x = .gd j b y
    · obtain ⟨j, b, y, rfl⟩ := hx; simp [RelV]
    · rw [killV_nil x fun j b y e => hx ⟨j, b, y, e⟩] at h1; exact h1

theorem RelVs_kL (hk : Keep N w w') (hN : ∀ g, g < w.heap.size → N' g → N g) (hb : ∀ b, hasN kl b = false → H b ≠ .dead → Compat w w' μ μ' H H' b)
    (xs : List AV) (vs : List Value) (h : RelVs w N μ H xs vs) : RelVs w' N' μ' H' (kL kl xs) vs := by
  have h1 := RelVs_kill hk hN hb xs vs h
  cases kl with
  | cons a r => exact h1
  | nil => rw [killL_nil xs] at h1; exact h1

end
end Go.Ev

namespace Go.Ev
open Go

/-- A plain step: nothing that is known is lost, but for references to the blocks of kl. -/
structure Pl {T : Tb} (F : Frm T) (μ : Nat → Option Nat) (H : Nat → Blk) (nx : Nat) (w : World) (kl : List Nat) (μ' : Nat → Option Nat) (H' : Nat → Blk) (nx' : Nat) (w' : World) : Prop where
  chg : Chg (Trk μ H) w w'
  new : ∀ g, Trk μ' H' g → Trk μ H g ∨ w.heap.size ≤ g
  mono : nx ≤ nx'
  tr : ∀ x v, RelV w (Not F μ H) μ H x v → RelV w' (Not F μ' H') μ' H' (kv kl x) v
  pin : ∀ b, b < nx → Pin (H' b) (H b) (μ' b) (μ b)

section
variable {T : Tb} {F : Frm T} {μ μ' μ'' : Nat → Option Nat} {H H' H'' : Nat → Blk} {nx nx' nx'' : Nat} {w w' w'' : World} {kl kl' : List Nat}

theorem Pl.trans (h : Pl F μ H nx w kl μ' H' nx' w') (h' : Pl F μ' H' nx' w' kl' μ'' H'' nx'' w'') : Pl F μ H nx w (kl ++ kl') μ'' H'' nx'' w'' where
  chg := h.chg.trans h'.chg fun g hg ht => (h.new g ht).resolve_right (by omega)
  new := fun g hg => by
    rcases h'.new g hg with h1 | h1
    · exact h.new g h1
    · exact .inr (Nat.le_trans h.chg.size h1)
  mono := Nat.le_trans h.mono h'.mono
  tr := fun x v hx => by rw [← kv_kv]; exact h'.tr _ _ (h.tr x v hx)
  pin := fun b hb => (h'.pin b (Nat.lt_of_lt_of_le hb h.mono)).trans (h.pin b hb)

/-- The world has new blocks, and draws: nothing else. -/
theorem Hp.keep (hp : Hp F μ H nx w) (hk : Keep (Trk μ H) w w') (hin : ∀ g, Trk μ H g → w'.heap[g]? = w.heap[g]?) : Hp F μ H nx w' where
  blk := fun b => by
    have hall : ∀ g, g < w.heap.size → w'.heap[g]? = w.heap[g]? := fun g hg => by
      by_cases ht : Trk μ H g
      · exact hin g ht
      · exact hk.keep g hg ht
    have hk' : Keep (Not F μ H) w w' := ⟨hk.size, fun g hg _ => hall g hg⟩
    have hroom : ∀ g n, room w g n → room w' g n := fun g n h k hkn => by
      obtain ⟨h1, h2⟩ := h k hkn
      obtain ⟨v, hv⟩ := Option.isSome_iff_exists.1 h1
      have hlt := World.block_lt_of_cell? w _ hv
      exact ⟨by rw [cell?_of_heap (hall g hlt)]; exact h1, by rw [frozen?_of_heap (hall g hlt)]; exact h2⟩
    have hB := hp.blk b
    have hc : ∀ b, hasN [] b = false → H b ≠ .dead → Compat w w' μ μ H H b := fun b _ hd => by
      refine ⟨rfl, ?_⟩
      cases hb : H b with
      | dead => trivial
      | data t l => exact ⟨⟨l, rfl, rfl⟩, fun g n _ hr => hroom g n hr⟩
      | vars cs => simp
      | iter s p => simp
      | mapd kt vt ag l => simp
    cases hb : H b with
    | dead => simp [RelB]
    | vars cs =>
      simp only [hb, RelB] at hB ⊢
      rcases hB with hB | ⟨g, vs, h1, h2, h3, h4⟩
      · exact .inl hB
      have hg := hp.lt b g (by simp [hb]) h1
      exact .inr ⟨g, vs, h1, RelVs_kL (kl := []) hk' (fun _ _ h => h) hc _ _ h2, rowAt_of_heap (hall g hg) h3, hroom _ _ h4⟩
    | data t l =>
      simp only [hb, RelB] at hB ⊢
      rcases hB with h | ⟨g, h1, h2, h3⟩
      · exact .inl h
      · have hg := hp.lt b g (by simp [hb]) h1
        refine .inr ⟨g, h1, hroom _ _ h2, fun i hi => ?_⟩
        obtain ⟨es, e1, e2, e3⟩ := h3 i hi
        exact ⟨es, e1, rowAt_of_heap (hall g hg) e2, e3.keep hk' fun _ _ h => h⟩
    | iter s p =>
      simp only [hb, RelB] at hB ⊢
      obtain ⟨g, h1, h2⟩ := hB
      exact ⟨g, h1, by rw [hall g (hp.lt b g (by simp [hb]) h1)]; exact h2⟩
    | mapd kt vt ag l =>
      simp only [hb, RelB] at hB ⊢
      rcases hB with hB | ⟨g, es, c, h1, h2, h3, h4⟩
      · exact .inl hB
      exact .inr ⟨g, es, c, h1, by rw [hall g (hp.lt b g (by simp [hb]) h1)]; exact h2, h3, h4.keep hk' fun _ _ h => h⟩
  lt := fun b g hl hg => Nat.lt_of_lt_of_le (hp.lt b g hl hg) hk.size
  inj := hp.inj
  dead := hp.dead
  apart := hp.apart
  flt := fun g hg => Nat.lt_of_lt_of_le (hp.flt g hg) hk.size
  tab := T.stays w w' (fun g hg => Classical.byCases (p := Trk μ H g) (fun ht => hin g ht) fun ht => hk.keep g (T.lt w g hp.tab hg) ht) hp.tab
  tapart := hp.tapart

theorem Pl.keep (_hp : Hp F μ H nx w) (hk : Chg (fun _ => False) w w') : Pl F μ H nx w [] μ H nx w' where
  chg := ⟨⟨hk.size, fun g hg _ => hk.keep g hg (fun x => x)⟩, hk.os, hk.tape, hk.output⟩
  new := fun g hg => .inl hg
  mono := Nat.le_refl _
  tr := fun x v hx => by
    have hroom : ∀ g n, room w g n → room w' g n := fun g n h k hkn => by
      obtain ⟨h1, h2⟩ := h k hkn
      obtain ⟨v, hv⟩ := Option.isSome_iff_exists.1 h1
      have hlt := World.block_lt_of_cell? w _ hv
      exact ⟨by rw [cell?_of_heap (hk.keep g hlt (fun x => x))]; exact h1, by rw [frozen?_of_heap (hk.keep g hlt (fun x => x))]; exact h2⟩
    refine RelV_kv (kl := []) (N := Not F μ H) ⟨hk.size, fun g hg _ => hk.keep g hg (fun x => x)⟩ (fun _ _ h => h) (fun b _ hd => ⟨rfl, ?_⟩) x v hx
    cases hb : H b with
    | dead => trivial
    | data t l => exact ⟨⟨l, rfl, rfl⟩, fun g n _ hr => hroom g n hr⟩
    | vars cs => simp
    | iter s p => simp
    | mapd kt vt ag l => simp
  pin := fun b _ => Pin.refl _ _

/-- One block is made, or has new contents. -/
structure Turned {T : Tb} (F : Frm T) (μ : Nat → Option Nat) (H : Nat → Blk) (nx : Nat) (w : World) (kl : List Nat) (b : Nat) (g' : Option Nat) (B : Blk) (nx' : Nat) (w' : World) : Prop where
  hp : Hp F μ H nx w
  os : w'.os = w.os
  tape : w'.tape = w.tape
  output : w'.output = w.output
  size : w.heap.size ≤ w'.heap.size
  keep : ∀ g, g < w.heap.size → (H b ≠ .dead → μ b ≠ some g) → w'.heap[g]? = w.heap[g]?
  at_ : ∀ g, g' = some g → (H b ≠ .dead ∧ μ b = some g) ∨ (w.heap.size ≤ g ∧ g < w'.heap.size)
  mono : nx ≤ nx'
  lt : b < nx'
  live : B ≠ .dead
  kind : b < nx → Pin B (H b) g' (μ b)
  self : hasN kl b = false → H b ≠ .dead → Compat w w' μ (updM μ b g') H (updH (killsH kl H) b B) b

variable {b : Nat} {g' : Option Nat} {B : Blk}

theorem Turned.notN (h : Turned F μ H nx w kl b g' B nx' w') :
    ∀ g, g < w.heap.size → Not F (updM μ b g') (updH (killsH kl H) b B) g → Not F μ H g := by
  intro g hg hN
  rcases hN with hF | ⟨b0, hl, hm⟩
  · exact .inl hF
  · by_cases hb : b0 = b
    · subst hb
      rw [updM_same] at hm
      rcases h.at_ g hm with ⟨h1, h2⟩ | ⟨h1, _⟩
      · exact .inr ⟨b0, h1, h2⟩
      · omega
    · rw [updH_other hb, killsH_eq] at hl
      rw [updM_other hb] at hm
      exact .inr ⟨b0, fun e => hl (by rw [e, kb_dead]), hm⟩

theorem Turned.notB (h : Turned F μ H nx w kl b g' B nx' w') {b0 g : Nat} (hb : b0 ≠ b) (hl : H b0 ≠ .dead) (hg : μ b0 = some g) : w'.heap[g]? = w.heap[g]? :=
  h.keep g (h.hp.lt b0 g hl hg) fun hl' hg' => hb (h.hp.inj b0 b g hl hl' hg hg')

theorem room_of_heap {w w' : World} {g n : Nat} (h : w'.heap[g]? = w.heap[g]?) (hr : room w g n) : room w' g n := fun k hk => by
  obtain ⟨h1, h2⟩ := hr k hk
  exact ⟨by rw [cell?_of_heap h]; exact h1, by rw [frozen?_of_heap h]; exact h2⟩

theorem Turned.compat (h : Turned F μ H nx w kl b g' B nx' w') (b0 : Nat) (hk : hasN kl b0 = false) (hl : H b0 ≠ .dead) :
    Compat w w' μ (updM μ b g') H (updH (killsH kl H) b B) b0 := by
  by_cases hb : b0 = b
  · subst hb; exact h.self hk hl
  · refine ⟨updM_other hb, ?_⟩
    cases hB : H b0 with
    | dead => trivial
    | data t l =>
      refine ⟨⟨l, by rw [updH_other hb, killsH_eq, hB, kb_data], rfl⟩, fun g n hg hr => room_of_heap (h.notB hb hl hg) hr⟩
    | vars cs => rw [updH_other hb, killsH_eq, hB, kb_vars]; simp
    | iter s p => rw [updH_other hb, killsH_eq, hB, kb_iter]; simp
    | mapd kt vt ag l => rw [updH_other hb, killsH_eq, hB, kb_mapd]; simp

theorem Turned.keepN (h : Turned F μ H nx w kl b g' B nx' w') : Keep (Not F μ H) w w' :=
  ⟨h.size, fun g hg hn => h.keep g hg fun hl hm => hn (.inr ⟨b, hl, hm⟩)⟩

theorem Turned.tr (h : Turned F μ H nx w kl b g' B nx' w') (x : AV) (v : Value) (hx : RelV w (Not F μ H) μ H x v) :
    RelV w' (Not F (updM μ b g') (updH (killsH kl H) b B)) (updM μ b g') (updH (killsH kl H) b B) (kv kl x) v :=
  RelV_kv h.keepN h.notN h.compat x v hx

theorem Turned.trs (h : Turned F μ H nx w kl b g' B nx' w') (xs : List AV) (vs : List Value) (hx : RelVs w (Not F μ H) μ H xs vs) :
    RelVs w' (Not F (updM μ b g') (updH (killsH kl H) b B)) (updM μ b g') (updH (killsH kl H) b B) (kL kl xs) vs :=
  RelVs_kL h.keepN h.notN h.compat xs vs hx

theorem Turned.hp' (h : Turned F μ H nx w kl b g' B nx' w') (hrel : RelB w' (Not F (updM μ b g') (updH (killsH kl H) b B)) (updM μ b g') (updH (killsH kl H) b B) b B) : Hp F (updM μ b g') (updH (killsH kl H) b B) nx' w' where
  blk := fun b0 => by
    by_cases hb : b0 = b
    · subst hb; rw [updH_same]; exact hrel
    · rw [updH_other hb, killsH_eq]
      have hB := h.hp.blk b0
      cases hv : H b0 with
      | dead => rw [kb_dead]; simp [RelB]
      | vars cs =>
        rw [kb_vars]
        simp only [hv, RelB] at hB ⊢
        rw [updM_other hb]
        rcases hB with hB | ⟨g, vs, h1, h2, h3, h4⟩
        · exact .inl hB
        have hg := h.notB hb (by simp [hv]) h1
        exact .inr ⟨g, vs, h1, RelVs_kL h.keepN h.notN h.compat _ _ h2, rowAt_of_heap hg h3, room_of_heap hg h4⟩
      | data t l =>
        rw [kb_data]
        simp only [hv, RelB] at hB ⊢
        rw [updM_other hb]
        rcases hB with hB | ⟨g, h1, h2, h3⟩
        · exact .inl hB
        · have hg := h.notB hb (by simp [hv]) h1
          refine .inr ⟨g, h1, room_of_heap hg h2, fun i hi => ?_⟩
          obtain ⟨es, e1, e2, e3⟩ := h3 i hi
          exact ⟨es, e1, rowAt_of_heap hg e2, e3.keep h.keepN h.notN⟩
      | iter s p =>
        rw [kb_iter]
        simp only [hv, RelB] at hB ⊢
        rw [updM_other hb]
        obtain ⟨g, h1, h2⟩ := hB
        exact ⟨g, h1, by rw [h.notB hb (by simp [hv]) h1]; exact h2⟩
      | mapd kt vt ag l =>
        rw [kb_mapd]
        simp only [hv, RelB] at hB ⊢
        rw [updM_other hb]
        rcases hB with hB | ⟨g, es, c, h1, h2, h3, h4⟩
        · exact .inl hB
        exact .inr ⟨g, es, c, h1, by rw [h.notB hb (by simp [hv]) h1]; exact h2, h3, h4.keep h.keepN h.notN⟩
  lt := fun b0 g hl hg => by
    by_cases hb : b0 = b
    · subst hb
      rw [updM_same] at hg
      rcases h.at_ g hg with ⟨h1, h2⟩ | ⟨_, h2⟩
      · exact Nat.lt_of_lt_of_le (h.hp.lt b0 g h1 h2) h.size
      · exact h2
    · rw [updH_other hb, killsH_eq] at hl
      rw [updM_other hb] at hg
      exact Nat.lt_of_lt_of_le (h.hp.lt b0 g (fun e => hl (by rw [e, kb_dead])) hg) h.size
  inj := fun b1 b2 g hl1 hl2 hg1 hg2 => by
    have key : ∀ b0, updH (killsH kl H) b B b0 ≠ .dead → updM μ b g' b0 = some g → b0 ≠ b → H b0 ≠ .dead ∧ μ b0 = some g := fun b0 hl hg hb => by
      rw [updH_other hb, killsH_eq] at hl
      rw [updM_other hb] at hg
      exact ⟨fun e => hl (by rw [e, kb_dead]), hg⟩
    have other : ∀ b0, H b0 ≠ .dead → μ b0 = some g → b0 ≠ b → g' = some g → False := fun b0 hl hg hb hg' => by
      rcases h.at_ g hg' with ⟨h1, h2⟩ | ⟨h1, _⟩
      · exact hb (h.hp.inj b0 b g hl h1 hg h2)
      · have := h.hp.lt b0 g hl hg; omega
    by_cases e1 : b1 = b
    · by_cases e2 : b2 = b
      · rw [e1, e2]
      · obtain ⟨k1, k2⟩ := key b2 hl2 hg2 e2
        rw [e1, updM_same] at hg1
        exact (other b2 k1 k2 e2 hg1).elim
    · obtain ⟨k1, k2⟩ := key b1 hl1 hg1 e1
      by_cases e2 : b2 = b
      · rw [e2, updM_same] at hg2
        exact (other b1 k1 k2 e1 hg2).elim
      · obtain ⟨k3, k4⟩ := key b2 hl2 hg2 e2
        exact h.hp.inj b1 b2 g k1 k3 k2 k4
  dead := fun b0 hb0 => by
    have hb : b0 ≠ b := fun e => by have := h.lt; omega
    rw [updH_other hb, killsH_eq, h.hp.dead b0 (Nat.le_trans h.mono hb0), kb_dead]
  apart := fun b0 g hl hg hF => by
    by_cases hb : b0 = b
    · subst hb
      rw [updM_same] at hg
      rcases h.at_ g hg with ⟨h1, h2⟩ | ⟨h1, _⟩
      · exact h.hp.apart b0 g h1 h2 hF
      · have := h.hp.flt g hF; omega
    · rw [updH_other hb, killsH_eq] at hl
      rw [updM_other hb] at hg
      exact h.hp.apart b0 g (fun e => hl (by rw [e, kb_dead])) hg hF
  flt := fun g hF => Nat.lt_of_lt_of_le (h.hp.flt g hF) h.size
  tab := T.stays w w' (fun g hg => h.keep g (T.lt w g h.hp.tab hg) fun hl hm => h.hp.tapart b g hl hm hg) h.hp.tab
  tapart := fun b0 g hl hg hF => by
    by_cases hb : b0 = b
    · subst hb
      rw [updM_same] at hg
      rcases h.at_ g hg with ⟨h1, h2⟩ | ⟨h1, _⟩
      · exact h.hp.tapart b0 g h1 h2 hF
      · have := T.lt w g h.hp.tab hF; omega
    · rw [updH_other hb, killsH_eq] at hl
      rw [updM_other hb] at hg
      exact h.hp.tapart b0 g (fun e => hl (by rw [e, kb_dead])) hg hF

theorem Turned.pl (h : Turned F μ H nx w kl b g' B nx' w') : Pl F μ H nx w kl (updM μ b g') (updH (killsH kl H) b B) nx' w' where
  chg := ⟨⟨h.size, fun g hg hn => h.keep g hg fun hl hm => hn ⟨b, hl, hm⟩⟩, h.os, h.tape, h.output⟩
  new := fun g ⟨b0, hl, hg⟩ => by
    by_cases hb : b0 = b
    · subst hb
      rw [updM_same] at hg
      rcases h.at_ g hg with ⟨h1, h2⟩ | ⟨h1, _⟩
      · exact .inl ⟨b0, h1, h2⟩
      · exact .inr h1
    · rw [updH_other hb, killsH_eq] at hl
      rw [updM_other hb] at hg
      exact .inl ⟨b0, fun e => hl (by rw [e, kb_dead]), hg⟩
  mono := h.mono
  tr := h.tr
  pin := fun b0 hb0 => by
    by_cases hb : b0 = b
    · subst hb
      rw [updH_same, updM_same]
      exact h.kind hb0
    · rw [updH_other hb, killsH_eq, updM_other hb]
      exact fun _ => ⟨(tag_kb kl _).symm, rfl⟩

/-- What is held against the frame's slots, behind a step. -/
theorem RelE.kill {N N' : Nat → Prop} {E : Nat → AV} {tmps : Array Value} (h : RelE w N μ H E tmps) (ht : ∀ x v, RelV w N μ H x v → RelV w' N' μ' H' (kv kl x) v) :
    RelE w' N' μ' H' (killsE kl E) tmps := by
  intro t
  have h1 := h t
  rw [killsE_eq]
  cases hE : E t <;> simp only [hE] at h1
  case gd j b y =>
    cases kl with
    | nil =>
      simp only [kv]
      rcases h1 with ⟨h2, h3⟩ | h2
      · exact .inl ⟨h2, ht y _ h3⟩
      · exact .inr h2
    | cons a r => simp [kv, killV, RelV]
  all_goals
    have h2 := ht _ _ h1
    cases kl with
    | nil => simp only [kv] at h2 ⊢; exact h2
    | cons a r =>
      simp only [kv, killV] at h2 ⊢
      first
        | exact h2
        | (split <;> simp_all [RelV]; done)
        | (cases hh : hasN (a :: r) _ <;> simp only [hh, cond_true, cond_false] at h2 ⊢ <;> exact h2)

end
end Go.Ev

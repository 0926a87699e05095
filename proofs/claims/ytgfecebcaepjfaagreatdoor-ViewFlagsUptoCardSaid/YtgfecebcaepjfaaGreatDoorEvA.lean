/- One step, and what stays true behind it. -/
import Derived.Test.YtgfecebcaepjfaaGreatDoorEv9
namespace Go.Ev
open Go

structure Chg (N : Nat → Prop) (w w' : World) : Prop extends Keep N w w' where
  os : w'.os = w.os
  tape : w'.tape = w.tape
  output : w'.output = w.output

theorem Chg.refl {N : Nat → Prop} (w : World) : Chg N w w := ⟨⟨Nat.le_refl _, fun _ _ _ => rfl⟩, rfl, rfl, rfl⟩

theorem Chg.trans {N N' : Nat → Prop} {a b c : World} (h : Chg N a b) (h' : Chg N' b c) (hn : ∀ g, g < a.heap.size → N' g → N g) : Chg N a c where
  size := Nat.le_trans h.size h'.size
  keep := fun g hg hN => by
    rw [h'.keep g (Nat.lt_of_lt_of_le hg h.size) (fun x => hN (hn g hg x)), h.keep g hg hN]
  os := h'.os.trans h.os
  tape := h'.tape.trans h.tape
  output := h'.output.trans h.output

def updM (μ : Nat → Option Nat) (b : Nat) (v : Option Nat) : Nat → Option Nat := fun t => if t = b then v else μ t

theorem updH_same (H : Nat → Blk) (b : Nat) (v : Blk) : updH H b v b = v := by simp [updH]
theorem updH_other {H : Nat → Blk} {b t : Nat} {v : Blk} (h : t ≠ b) : updH H b v t = H t := by
  have : Nat.beq t b = false := Bool.eq_false_iff.2 fun e => h (Nat.eq_of_beq_eq_true e)
  simp [updH, this]
theorem upd_same (E : Nat → AV) (b : Nat) (v : AV) : upd E b v b = v := by simp [upd]
theorem upd_other {E : Nat → AV} {b t : Nat} {v : AV} (h : t ≠ b) : upd E b v t = E t := by
  have : Nat.beq t b = false := Bool.eq_false_iff.2 fun e => h (Nat.eq_of_beq_eq_true e)
  simp [upd, this]
theorem updM_same (μ : Nat → Option Nat) (b : Nat) (v : Option Nat) : updM μ b v b = v := by simp [updM]
theorem updM_other {μ : Nat → Option Nat} {b t : Nat} {v : Option Nat} (h : t ≠ b) : updM μ b v t = μ t := by simp [updM, h]

/-- References to some blocks, struck out of a value (if there are any to strike). -/
def kv (kl : List Nat) (x : AV) : AV :=
  match kl with
  | [] => x
  | _ :: _ => killV kl x

theorem killsE_eq (kl : List Nat) (E : Nat → AV) (t : Nat) : killsE kl E t = kv kl (E t) := by cases kl <;> rfl

def kb (kl : List Nat) (x : Blk) : Blk :=
  match kl with
  | [] => x
  | _ :: _ => killB kl x
theorem killsH_eq (kl : List Nat) (H : Nat → Blk) (t : Nat) : killsH kl H t = kb kl (H t) := by cases kl <;> rfl

def kL (kl : List Nat) (x : List AV) : List AV :=
  match kl with
  | [] => x
  | _ :: _ => killL kl x

theorem kb_vars (kl : List Nat) (cs : List AV) : kb kl (.vars cs) = .vars (kL kl cs) := by cases kl <;> rfl
theorem kb_data (kl : List Nat) (t : Ty) (l : List t.den) : kb kl (.data t l) = .data t l := by cases kl <;> rfl
theorem kb_iter (kl : List Nat) (s : List UInt8) (p : Nat) : kb kl (.iter s p) = .iter s p := by cases kl <;> rfl
theorem kb_mapd (kl : List Nat) (kt vt : Ty) (ag : Bool) (l : List (kt.den × vt.den)) : kb kl (.mapd kt vt ag l) = .mapd kt vt ag l := by cases kl <;> rfl
theorem kb_dead (kl : List Nat) : kb kl .dead = .dead := by cases kl <;> rfl
theorem tag_kb (kl : List Nat) (x : Blk) : (kb kl x).tag = x.tag := by
  cases x <;> simp [kb_vars, kb_data, kb_iter, kb_mapd, kb_dead, Blk.tag]
theorem kb_live (kl : List Nat) {x : Blk} (h : x ≠ .dead) : kb kl x ≠ .dead := by
  cases x <;> simp_all [kb_vars, kb_data, kb_iter, kb_mapd]

theorem hasN_append (a b : List Nat) (n : Nat) : hasN (a ++ b) n = (hasN a n || hasN b n) := by simp [hasN]

mutual
theorem killV_killV (k1 k2 : List Nat) : ∀ x, killV k2 (killV k1 x) = killV (k1 ++ k2) x
  | .ptr b o => by simp only [killV, hasN_append]; cases h : hasN k1 b <;> simp [killV]
  | .ep b t i f => by simp only [killV, hasN_append]; cases h : hasN k1 b <;> simp [killV]
  | .wh b => by simp only [killV, hasN_append]; cases h : hasN k1 b <;> simp [killV]
  | .win b lo n => by simp only [killV, hasN_append]; cases h : hasN k1 b <;> simp [killV]
  | .mp b => by simp only [killV, hasN_append]; cases h : hasN k1 b <;> simp [killV]
  | .mptr c b o => by simp only [killV, hasN_append]; cases h : hasN k1 b <;> simp [killV]
  | .fn f cs => by simp only [killV, killL_killL k1 k2 cs]
  | .agg cs => by simp only [killV, killL_killL k1 k2 cs]
  | .tup cs => by simp only [killV, killL_killL k1 k2 cs]
  | .ifc _ x => by simp only [killV, killV_killV k1 k2 x]
  | .pan x => by simp only [killV, killV_killV k1 k2 x]
  | .gd _ _ _ => by simp [killV]
  | .i _ _ => rfl | .u _ => rfl | .b _ => rfl | .kb _ => rfl | .s _ => rfl | .c _ => rfl | .sl _ _ => rfl | .fp _ _ _ _ => rfl | .bad => rfl
theorem killL_killL (k1 k2 : List Nat) : ∀ xs, killL k2 (killL k1 xs) = killL (k1 ++ k2) xs
  | [] => rfl
  | x :: r => by simp only [killL, killV_killV k1 k2 x, killL_killL k1 k2 r]
end

theorem kv_kv (k1 k2 : List Nat) (x : AV) : kv k2 (kv k1 x) = kv (k1 ++ k2) x := by
  cases k1 with
  | nil => rfl
  | cons a k1 =>
    cases k2 with
    | nil => simp [kv]
    | cons b k2 => exact killV_killV _ _ _

/-- A block that is not struck out is the same, or has new contents of the same kind and length. -/
def Compat (w w' : World) (μ μ' : Nat → Option Nat) (H H' : Nat → Blk) (b : Nat) : Prop :=
  μ' b = μ b ∧ match H b with
    | .dead => True
    | .data t l => (∃ l', H' b = .data t l' ∧ l'.length = l.length) ∧ ∀ g n, μ b = some g → room w g n → room w' g n
    | _ => H' b ≠ .dead

section
variable {w w' : World} {N N' : Nat → Prop} {μ μ' : Nat → Option Nat} {H H' : Nat → Blk} {kl : List Nat}

theorem relSl {t : Ty} {l : List t.den} {v : Value} (hk : Keep N w w') (hN : ∀ g, g < w.heap.size → N' g → N g) (h : RelV w N μ H (.sl t l) v) : RelV w' N' μ' H' (.sl t l) v := by
  simp only [RelV] at h ⊢
  exact h.keep hk hN

mutual
theorem RelV_kill (hk : Keep N w w') (hN : ∀ g, g < w.heap.size → N' g → N g) (hb : ∀ b, hasN kl b = false → H b ≠ .dead → Compat w w' μ μ' H H' b) :
    ∀ (x : AV) (v : Value), RelV w N μ H x v → RelV w' N' μ' H' (killV kl x) v
  | .i _ _, _, h => h | .u _, _, h => h | .b _, _, h => h | .kb _, _, h => h | .s _, _, h => h | .c _, _, h => h
  | .sl t l, v, h => relSl hk hN h
  | .fp t l ix f, v, h => by
    simp only [killV, RelV] at h ⊢
    obtain ⟨h1, g, o, h2, h3, h4, es, h5, h6, h7, h8⟩ := h
    exact ⟨h1, g, o, fun hn => h2 (hN g h3 hn), Nat.lt_of_lt_of_le h3 hk.size, h4, es, h5, rowAt_of_heap (hk.keep g h3 h2) h6, h7, h8.keep hk hN⟩
  | .ptr b o, v, h => by
    simp only [killV]
    cases hkb : hasN kl b with
    | true => simp [RelV]
    | false =>
      simp only [RelV, cond_false] at h ⊢
      obtain ⟨h1, g, hg, hv⟩ := h
      obtain ⟨c1, c2⟩ := hb b hkb h1
      refine ⟨?_, g, by rw [c1]; exact hg, hv⟩
      cases hB : H b <;> simp only [hB] at c2 <;> first | exact absurd hB h1 | exact c2 | (obtain ⟨⟨l', hl, _⟩, _⟩ := c2; simp [hl])
  | .mp b, v, h => by
    simp only [killV]
    cases hkb : hasN kl b with
    | true => simp [RelV]
    | false =>
      simp only [RelV, cond_false] at h ⊢
      obtain ⟨h1, g, hg, hv⟩ := h
      obtain ⟨c1, c2⟩ := hb b hkb h1
      refine ⟨?_, g, by rw [c1]; exact hg, hv⟩
      cases hB : H b <;> simp only [hB] at c2 <;> first | exact absurd hB h1 | exact c2 | (obtain ⟨⟨l', hl, _⟩, _⟩ := c2; simp [hl])
  | .mptr c b o, v, h => by
    simp only [killV]
    cases hkb : hasN kl b with
    | true => simp [RelV]
    | false =>
      simp only [RelV, cond_false] at h ⊢
      obtain ⟨h1, h2⟩ := h
      obtain ⟨c1, c2⟩ := hb b hkb h1
      refine ⟨?_, by rw [c1]; exact h2⟩
      cases hB : H b <;> simp only [hB] at c2 <;> first | exact absurd hB h1 | exact c2 | (obtain ⟨⟨l', hl, _⟩, _⟩ := c2; simp [hl])
  | .ep b t ix f, v, h => by
    simp only [killV]
    cases hkb : hasN kl b with
    | true => simp [RelV]
    | false =>
      simp only [RelV, cond_false] at h ⊢
      obtain ⟨l, g, h1, h2, hg, hv⟩ := h
      obtain ⟨c1, c2⟩ := hb b hkb (by simp [h1])
      simp only [h1] at c2
      obtain ⟨⟨l', hl, hlen⟩, _⟩ := c2
      exact ⟨l', g, hl, by omega, by rw [c1]; exact hg, hv⟩
  | .wh b, v, h => by
    simp only [killV]
    cases hkb : hasN kl b with
    | true => simp [RelV]
    | false =>
      simp only [RelV, cond_false] at h ⊢
      obtain ⟨t, l, h1, hv⟩ := h
      obtain ⟨c1, c2⟩ := hb b hkb (by simp [h1])
      simp only [h1] at c2
      obtain ⟨⟨l', hl, hlen⟩, hroom⟩ := c2
      refine ⟨t, l', hl, ?_⟩
      rcases hv with ⟨g, c, hg, hv, hc, hr⟩ | ⟨hg, hl0, hv⟩
      · exact .inl ⟨g, c, by rw [c1]; exact hg, by rw [hlen]; exact hv, by omega, hroom g _ hg hr⟩
      · subst hl0
        exact .inr ⟨by rw [c1]; exact hg, by simpa using hlen, hv⟩
  | .win b lo n, v, h => by
    simp only [killV]
    cases hkb : hasN kl b with
    | true => simp [RelV]
    | false =>
      simp only [RelV, cond_false] at h ⊢
      obtain ⟨t, l, h1, hle, hv⟩ := h
      obtain ⟨c1, c2⟩ := hb b hkb (by simp [h1])
      simp only [h1] at c2
      obtain ⟨⟨l', hl, hlen⟩, hroom⟩ := c2
      refine ⟨t, l', hl, by omega, ?_⟩
      rcases hv with ⟨g, c, o, hg, hv, hc, hr, ho⟩ | ⟨hg, hl0, hv⟩
      · exact .inl ⟨g, c, o, by rw [c1]; exact hg, hv, by omega, hroom g _ hg hr, ho⟩
      · subst hl0
        exact .inr ⟨by rw [c1]; exact hg, by simpa using hlen, hv⟩
  | .fn f cs, v, h => by
    simp only [killV, RelV] at h ⊢
    obtain ⟨vs, hv, hr⟩ := h
    exact ⟨vs, hv, RelVs_kill hk hN hb cs vs hr⟩
  | .agg cs, v, h => by
    simp only [killV, RelV] at h ⊢
    obtain ⟨vs, hv, hr⟩ := h
    exact ⟨vs, hv, RelVs_kill hk hN hb cs vs hr⟩
  | .tup cs, v, h => by
    simp only [killV, RelV] at h ⊢
    obtain ⟨vs, hv, hr⟩ := h
    exact ⟨vs, hv, RelVs_kill hk hN hb cs vs hr⟩
  | .ifc t x, v, h => by
    simp only [killV, RelV] at h ⊢
    obtain ⟨val, hv, hr⟩ := h
    exact ⟨val, hv, RelV_kill hk hN hb x val hr⟩
  | .pan x, v, h => by
    simp only [killV, RelV] at h ⊢
    exact RelV_kill hk hN hb x v h
  | .gd _ _ _, _, _ => by simp [killV, RelV]
  | .bad, _, _ => by simp [killV, RelV]
theorem RelVs_kill (hk : Keep N w w') (hN : ∀ g, g < w.heap.size → N' g → N g) (hb : ∀ b, hasN kl b = false → H b ≠ .dead → Compat w w' μ μ' H H' b) :
    ∀ (xs : List AV) (vs : List Value), RelVs w N μ H xs vs → RelVs w' N' μ' H' (killL kl xs) vs
  | [], vs, h => h
  | x :: r, vs, h => by
    simp only [killL, RelVs] at h ⊢
    obtain ⟨v, vr, rfl, h1, h2⟩ := h
    exact ⟨v, vr, rfl, RelV_kill hk hN hb x v h1, RelVs_kill hk hN hb r vr h2⟩
end

mutual
/-- Nothing is struck out: values stay as they are. -/
theorem killV_nil : ∀ x : AV, (∀ j b y, x ≠ .gd j b y) → RelV w N μ H (killV [] x) = RelV w N μ H x
  | .i _ _, _ => rfl | .u _, _ => rfl | .b _, _ => rfl | .kb _, _ => rfl | .s _, _ => rfl | .c _, _ => rfl | .sl _ _, _ => rfl | .fp _ _ _ _, _ => rfl
  | .ptr _ _, _ => rfl | .ep _ _ _ _, _ => rfl | .wh _, _ => rfl | .win _ _ _, _ => rfl | .mp _, _ => rfl | .mptr _ _ _, _ => rfl
  | .fn f cs, _ => by funext v; simp only [killV, RelV, killL_nil cs]
  | .agg cs, _ => by funext v; simp only [killV, RelV, killL_nil cs]
  | .tup cs, _ => by funext v; simp only [killV, RelV, killL_nil cs]
  | .ifc t x, _ => by
    funext v
    simp only [killV, RelV]
    by_cases hx : ∃ j b y, x = .gd j b y
    · obtain ⟨j, b, y, rfl⟩ := hx
      simp [killV, RelV]
    · rw [killV_nil x fun j b y e => hx ⟨j, b, y, e⟩]
  | .pan x, _ => by
    funext v
    simp only [killV, RelV]
    by_cases hx : ∃ j b y, x = .gd j b y
    · obtain ⟨j, b, y, rfl⟩ := hx
      simp [killV, RelV]
    · rw [killV_nil x fun j b y e => hx ⟨j, b, y, e⟩]
  | .gd j b y, h => absurd rfl (h j b y)
  | .bad, _ => rfl
theorem killL_nil : ∀ xs : List AV, RelVs w N μ H (killL [] xs) = RelVs w N μ H xs
  | [] => rfl
  | x :: r => by
    funext vs
    simp only [killL, RelVs, killL_nil r]
    by_cases hx : ∃ j b y, x = .gd j b y
    · obtain ⟨j, b, y, rfl⟩ := hx
      simp [killV, RelV]
    · rw [killV_nil x fun j b y e => hx ⟨j, b, y, e⟩]
end

theorem RelV_kv (hk : Keep N w w') (hN : ∀ g, g < w.heap.size → N' g → N g) (hb : ∀ b, hasN kl b = false → H b ≠ .dead → Compat w w' μ μ' H H' b)
    (x : AV) (v : Value) (h : RelV w N μ H x v) : RelV w' N' μ' H' (kv kl x) v := by
  have h1 := RelV_kill hk hN hb x v h
  cases kl with
  | cons a r => exact h1
  | nil =>
    show RelV w' N' μ' H' x v
    by_cases hx : ∃ j b y, x = .gd j b y
    · obtain ⟨j, b, y, rfl⟩ := hx; simp [RelV]
    · rw [killV_nil x fun j b y e => hx ⟨j, b, y, e⟩] at h1; exact h1

theorem RelVs_kL (hk : Keep N w w') (hN : ∀ g, g < w.heap.size → N' g → N g) (hb : ∀ b, hasN kl b = false → H b ≠ .dead → Compat w w' μ μ' H H' b)
    (xs : List AV) (vs : List Value) (h : RelVs w N μ H xs vs) : RelVs w' N' μ' H' (kL kl xs) vs := by
  have h1 := RelVs_kill hk hN hb xs vs h
  cases kl with
  | cons a r => exact h1
  | nil => rw [killL_nil xs] at h1; exact h1

end
end Go.Ev

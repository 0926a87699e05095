/- The operations that make or write memory, 2. -/
import Derived.Test.YtgfecebcaepjfaaGreatDoorEvE
namespace Go.Ev
open Go
section
variable {P : Program} {T : Tb} {F : Frm T} {μ : Nat → Option Nat} {S : St} {w : World} {α : Type} {r : α} {ρ : Operand → Value} {ρA : Operand → AV} {K : AV → St → Option α}

theorem made_row (z : Array Value) (c i : Nat) (hi : i < c) : ((madeCells z (c * z.size)).toList.drop (i * z.size)).take z.size = z.toList := by
  have hle : i * z.size + z.size ≤ c * z.size := by rw [← Nat.succ_mul]; exact Nat.mul_le_mul_right _ hi
  apply List.ext_getElem
  · simp [size_madeCells]; omega
  · intro k h1 h2
    simp only [List.length_take, List.length_drop, Array.length_toList] at h1 h2
    simp only [List.getElem_take, List.getElem_drop, Array.getElem_toList]
    have hk : k < z.size := by omega
    simp only [madeCells, Array.getElem_map, Array.getElem_range]
    have : (i * z.size + k) % z.size = k := by rw [Nat.mul_comm, Nat.mul_add_mod, Nat.mod_eq_of_lt hk]
    rw [this, getElem!_pos z k hk]

theorem eff_makeSlice (hp : Hp F μ S.H S.nx w) (hρ : ∀ x, RelG w (Not F μ S.H) μ S.H ρ (ρA x) (ρ x)) {C : Calling} {t : TypeId} {n c : Operand} (h : evEff P C (.makeSlice t n c) ρA S K = some r) :
    EffOK P F μ S w ρ (.makeSlice t n c) K r := by
  simp only [evEff] at h
  cases he : elemTy P t with
  | none => simp [he] at h
  | some q =>
    obtain ⟨e, y⟩ := q
    simp only [he] at h
    have hu := elemTy_und he
    obtain ⟨h1, h2⟩ := cond_some h
    simp only [Bool.and_eq_true] at h1
    obtain ⟨kn, vn, hn, h3⟩ := natOf_ok (hρ n).rel h2
    obtain ⟨kc, vc, hc, h4⟩ := natOf_ok (hρ c).rel h3
    obtain ⟨i, z, cs, hi, hz, h5, hr⟩ := zero_info (w := w) (μ := μ) (N := Not F μ S.H) (H := S.H) h4
    obtain ⟨d, rest, es, us, h6, h7, h8, h9⟩ := dec_ok hr h5
    cases rest with
    | cons _ _ => simp at h6
    | nil =>
      simp only [RelVs] at h9
      subst h9
      rw [List.append_nil] at h7
      simp only [need] at h6
      obtain ⟨h10, hK⟩ := cond_some h6
      simp only [Bool.and_eq_true, decide_eq_true_eq, bytesOK] at h10
      obtain ⟨⟨g1, g2⟩, g3⟩ := h10
      obtain ⟨i', hi', hsz⟩ := szOK_info h1.1
      rw [hi] at hi'; cases hi'
      have hby : P.bytesOf e = i.bytes := by simp [Program.bytesOf, hi]
      rw [hby] at g3
      have h1b : 1 ≤ i.bytes := by have := Nat.le_of_ble_eq_true h1.2; rwa [hby] at this
      have hc63 : vc.toNat ≤ 140737488355328 := Nat.le_trans (Nat.le_mul_of_pos_right _ h1b) g3
      have hzs : z.cells.size = y.size := by have := h8.length; rw [← h7] at this; simpa using this
      have hrun := run_make (P := P) w t e i z hu hi hz kn kc vn vc g1 g2 (by
        have : (vc.toNat * i.bytes : Nat) ≤ 140737488355328 := g3
        have e1 : (i.bytes : Int) * vc = ((vc.toNat * i.bytes : Nat) : Int) := by
          rw [Int.natCast_mul, Int.toNat_of_nonneg (by omega), Int.mul_comm]
        rw [e1]; omega) (by omega)
      have hlen : (List.replicate vn.toNat d).length = vn.toNat := by simp
      refine eff_data (e := e) (fr := (0, 0)) (c := vc.toNat) (t := y) (l := List.replicate vn.toNat d) (cs := (madeCells z.cells (vc.toNat * i.size)).toList) hp
        (by simpa using Grew.alloc w (.cells (madeCells z.cells (vc.toNat * i.size)) e)) (.inl rfl) (by rw [hlen]; omega) (by simp [size_madeCells, hsz]) (fun k hk => ?_) hK fun o ho => ?_
      · rw [hlen] at hk
        rw [hsz, ← hzs, made_row _ _ _ (by omega), List.getElem_replicate, h7]
        exact h8
      · simp [execOp, ho, hn, hc, hrun]

/-- A block that is marked beyond its end. -/
structure Marked (w w' : World) (g : Nat) : Prop where
  heap : ∀ k, k ≠ g → w'.heap[k]? = w.heap[k]?
  size : w'.heap.size = w.heap.size
  os : w'.os = w.os
  tape : w'.tape = w.tape
  output : w'.output = w.output
  cell : ∀ k, w'.cell? ⟨g, k, none⟩ = w.cell? ⟨g, k, none⟩

theorem run_mark {g o : Nat} (h : (w.cell? ⟨g, 0, none⟩).isSome = true) : ∃ w', (markStringish ⟨g, o, none⟩).run P w = .ok () w' ∧ Marked w w' g := by
  obtain ⟨cs, e, lo, hi, hg⟩ : ∃ cs e lo hi, w.heap[g]? = some (.cells cs e (lo, hi)) := by
    unfold World.cell? at h
    simp only at h
    split at h
    · rename_i c e fr hh
      exact ⟨c, e, fr.1, fr.2, hh⟩
    · cases h
  have hsh : w.shape? g = some (e, cs.size) := by unfold World.shape?; rw [hg]
  refine ⟨w.freeze ⟨g, cs.size, none⟩ 1, ?_, ?_⟩
  · simp only [markStringish, Sem.run_bind, run_shape, Result.andThen_ok, hsh, run_freeze]
  · have hself : (w.freeze ⟨g, cs.size, none⟩ 1).heap[g]? = some (.cells cs e (if (lo == hi) = true then (cs.size, cs.size + 1) else (min lo cs.size, max hi (cs.size + 1)))) := by
      unfold World.freeze
      rw [if_neg (by decide)]
      simp only [Array.getElem?_modify, if_pos, hg, Option.map_some]
    refine ⟨fun k hk => ?_, ?_, ?_, ?_, ?_, fun k => ?_⟩
    · unfold World.freeze
      rw [if_neg (by decide)]
      simp only [Array.getElem?_modify]
      rw [if_neg (fun h => hk h.symm)]
    · unfold World.freeze
      rw [if_neg (by decide)]
      simp
    · unfold World.freeze; rw [if_neg (by decide)]
    · unfold World.freeze; rw [if_neg (by decide)]
    · unfold World.freeze; rw [if_neg (by decide)]
    · simp only [World.cell?, hself, hg]

/-- Bytes of one's own that are converted to their own type: plain data from there on. -/
theorem eff_mark (hp : Hp F μ S.H S.nx w) (hρ : ∀ x, RelG w (Not F μ S.H) μ S.H ρ (ρA x) (ρ x)) {src dst e e' : TypeId} {x : Operand} {b : Nat} {l : List UInt8} (hs : P.underlying src = some (.slice e')) (hd : P.underlying dst = some (.slice e)) (he : P.underlying e = some (.int .u8))
    (hv : ρA x = .wh b) (hb : S.H b = .data .u8 l) (hsd : src = dst) (hne : l ≠ []) (hK : K (.sl .u8 l) (S.seal [b]) = some r) : EffOK P F μ S w ρ (.convert src dst x) K r := by
  have hx := (hρ x).rel
  rw [hv] at hx
  simp only [RelV] at hx
  obtain ⟨t, l', hB, hx⟩ := hx
  rw [hb] at hB
  cases hB
  rcases hx with ⟨g, c, hm, hvv, hc, hroom⟩ | ⟨_, hl0, _⟩
  · have hlive : S.H b ≠ .dead := by rw [hb]; simp
    have hpos : 0 < l.length := List.length_pos_iff.2 hne
    have hc0 : (w.cell? ⟨g, 0, none⟩).isSome = true := (hroom 0 (by simp [Ty.size]; omega)).1
    obtain ⟨w', hrun, hM⟩ := run_mark (P := P) (o := 0) hc0
    have hother : ∀ b' g', b' ≠ b → S.H b' ≠ .dead → μ b' = some g' → w'.heap[g']? = w.heap[g']? := fun b' g' hbb hl' hm' =>
      hM.heap g' fun h => hbb (hp.inj b' b g' hl' hlive hm' (by rw [h]; exact hm))
    have hkeep : Keep (Not F μ S.H) w w' := ⟨Nat.le_of_eq hM.size.symm, fun g' _ hn => hM.heap g' fun h => hn (.inr ⟨b, hlive, by rw [h]; exact hm⟩)⟩
    have hcompat : ∀ b', hasN [b] b' = false → S.H b' ≠ .dead → Compat w w' μ μ S.H (S.seal [b]).H b' := fun b' hk hl' => by
      have hbb : b' ∉ [b] := fun h => by rw [hasN_mem.2 h] at hk; cases hk
      have hbne : b' ≠ b := fun h => hbb (by simp [h])
      refine ⟨rfl, ?_⟩
      rw [seal_out hbb]
      cases hB : S.H b' with
      | dead => trivial
      | data t l => exact ⟨⟨l, by rw [kb_data], rfl⟩, fun g' n hm' hr => room_of_heap (hother b' g' hbne hl' hm') hr⟩
      | vars cs => rw [kb_vars]; simp
      | iter s p => rw [kb_iter]; simp
      | mapd kt vt ag l => rw [kb_mapd]; simp
    have hsub : ∀ g', g' < w.heap.size → Not F μ (S.seal [b]).H g' → Not F μ S.H g' := fun _ _ h => seal_notN h
    have hp' : Hp F μ (S.seal [b]).H S.nx w' := {
      blk := fun b' => by
        by_cases hbb : b' ∈ [b]
        · rw [seal_in hbb]; simp [RelB]
        · have hbne : b' ≠ b := fun h => hbb (by simp [h])
          rw [seal_out hbb]
          have hB := hp.blk b'
          cases hv : S.H b' with
          | dead => rw [kb_dead]; simp [RelB]
          | vars cs =>
            rw [kb_vars]
            simp only [hv, RelB] at hB ⊢
            rcases hB with hB | ⟨g', vs, h1, h2, h3, h4⟩
            · exact .inl hB
            have hh := hother b' g' hbne (by rw [hv]; simp) h1
            exact .inr ⟨g', vs, h1, RelVs_kL hkeep hsub hcompat _ _ h2, rowAt_of_heap hh h3, room_of_heap hh h4⟩
          | data t l =>
            rw [kb_data]
            simp only [hv, RelB] at hB ⊢
            rcases hB with hB | ⟨g', h1, h2, h3⟩
            · exact .inl hB
            · have hh := hother b' g' hbne (by rw [hv]; simp) h1
              refine .inr ⟨g', h1, room_of_heap hh h2, fun i hi => ?_⟩
              obtain ⟨es, e1, e2, e3⟩ := h3 i hi
              exact ⟨es, e1, rowAt_of_heap hh e2, e3.keep hkeep hsub⟩
          | iter s p =>
            rw [kb_iter]
            simp only [hv, RelB] at hB ⊢
            obtain ⟨g', h1, h2⟩ := hB
            exact ⟨g', h1, by rw [hother b' g' hbne (by rw [hv]; simp) h1]; exact h2⟩
          | mapd kt vt ag l =>
            rw [kb_mapd]
            simp only [hv, RelB] at hB ⊢
            rcases hB with hB | ⟨g', es, c, h1, h2, h3, h4⟩
            · exact .inl hB
            exact .inr ⟨g', es, c, h1, by rw [hother b' g' hbne (by rw [hv]; simp) h1]; exact h2, h3, h4.keep hkeep hsub⟩
      lt := fun b' g' hl hg => by rw [hM.size]; exact hp.lt b' g' (seal_live hl).1 hg
      inj := (seal_hp (ks := [b]) hp).inj
      dead := (seal_hp (ks := [b]) hp).dead
      apart := (seal_hp (ks := [b]) hp).apart
      flt := fun g' hF => by rw [hM.size]; exact hp.flt g' hF
      tab := T.stays w w' (fun g' hg => hM.heap g' fun h => hp.tapart b g' hlive (by rw [h]; exact hm) hg) hp.tab
      tapart := (seal_hp (ks := [b]) hp).tapart }
    refine ⟨_, _, μ, w', [b], hK, rfl, rfl, hp', ?_, .slice (some ⟨g, 0, none⟩) l.length c, fun o ho => .inl ?_, ?_, fun h => by rw [hs] at h; cases h⟩
    · exact {
        chg := ⟨⟨Nat.le_of_eq hM.size.symm, fun g' _ hn => hM.heap g' fun h => hn ⟨b, hlive, by rw [h]; exact hm⟩⟩, hM.os, hM.tape, hM.output⟩
        new := (seal_pl (F := F) (w := w) (ks := [b])).new
        mono := Nat.le_refl _
        tr := fun x v hx => RelV_kv hkeep hsub hcompat x v hx
        pin := (seal_pl (F := F) (w := w) (ks := [b])).pin }
    · subst hsd
      have hee : e' = e := by rw [hs] at hd; cases hd; rfl
      subst hee
      simp only [execOp, ho, convert, Sem.run_bind, run_underlying hs, run_underlying hd, Result.andThen_ok, hvv, beq_self_eq_true, run_underlying he]
      simp only [hrun, Result.andThen_ok, Sem.run_pure]
    · simp only [RelV, RelD]
      have hrow := hp.blk b
      simp only [hb, RelB] at hrow
      rcases hrow with ⟨_, h0⟩ | ⟨g', hm', _, hrows⟩
      · exact absurd h0 hne
      · rw [hm] at hm'
        cases hm'
        refine ⟨some ⟨g, 0, none⟩, c, rfl, hc, fun _ => ⟨g, 0, rfl, fun hN => ?_, ?_, fun i hi => ?_⟩⟩
        · rcases hN with hF | ⟨b', hl', hm'⟩
          · exact hp.apart b g hlive hm hF
          · obtain ⟨h1, h2⟩ := seal_live hl'
            have := hp.inj b b' g hlive h1 hm hm'
            subst this
            exact h2 (by simp)
        · rw [hM.size]; exact hp.lt b g hlive hm
        · obtain ⟨es, e1, e2, e3⟩ := hrows i hi
          refine ⟨es, e1, fun k hk => ?_, ?_⟩
          · rw [hM.cell, Nat.zero_add]; exact e2 k hk
          · simp only [RelD] at e3 ⊢; exact e3
  · exact absurd hl0 hne

theorem eff_toBytes (hp : Hp F μ S.H S.nx w) (hρ : ∀ x, RelG w (Not F μ S.H) μ S.H ρ (ρA x) (ρ x)) {C : Calling} {src dst : TypeId} {x : Operand} (h : evEff P C (.convert src dst x) ρA S K = some r) :
    EffOK P F μ S w ρ (.convert src dst x) K r := by
  simp only [evEff] at h
  split at h
  · rename_i e l hs hd hv
    cases he : P.underlying e with
    | none => simp [he] at h
    | some d =>
      simp only [he] at h
      split at h
      · rename_i heq
        cases heq
        have hx := (hρ x).rel
        rw [hv] at hx
        simp only [RelV] at hx
        have hsz : (⟨l.toArray⟩ : ByteArray).size = l.length := by simp [ByteArray.size]
        let cap := (Question.appendCap l.length 0 e).cut (w.tape w.drawn (.appendCap l.length 0 e))
        have hcap : l.length ≤ cap := by simp only [cap, Question.cut]; omega
        let cs : List Value := l.map (fun b => Value.int .u8 (b.toNat : Int)) ++ List.replicate (cap - l.length) (.int .u8 0)
        have hcl : cs.length = cap := by simp [cs]; omega
        let w' : World := w.drew.alloc (.cells cs.toArray e (cap, cap + 1))
        have hK : K (.wh S.nx) ⟨S.E, updH S.H S.nx (.data .u8 l), S.nx + 1, S.kl⟩ = some r := h
        refine eff_data (e := e) (fr := (cap, cap + 1)) (c := cap) (t := .u8) (l := l) (cs := cs) (w' := w') hp (Grew.drew w _) (.inr (by rw [hcl]; exact Nat.le_refl _)) hcap (by simp [Ty.size, hcl]) (fun i hi => ?_) hK fun o ho => ?_
        · simp only [Ty.size, Nat.mul_one, RelD, cs]
          rw [List.drop_append_of_le_length (by simp; omega), List.take_append_of_le_length (by simp; omega), ← List.map_drop, ← List.map_take]
          have hdr : (l.drop i).take 1 = [l[i]] := by rw [List.drop_eq_getElem_cons hi]; rfl
          rw [hdr]; rfl
        · have e1 : ((⟨l.toArray⟩ : ByteArray).data.map (fun b : UInt8 => Value.int .u8 (b.toNat : Int)) ++ Array.replicate (cap - l.length) (Value.int .u8 0)) = cs.toArray := by
            apply Array.ext'; simp [cs]
          have hst : (Conv.stringToBytes e ⟨l.toArray⟩).run P w = .ok (.slice (some ⟨w.heap.size, 0, none⟩) l.length cap) w' := by
            simp only [Conv.stringToBytes, Sem.run_bind, run_choose, Question.forced, Bool.false_eq_true, if_false, Result.andThen_ok, hsz, newRow, run_newObj, Sem.run_pure]
            have e2 : (Question.appendCap l.length 0 e).cut (w.tape w.drawn (.appendCap l.length 0 e)) = cap := rfl
            rw [e2, e1]
            simp only [markStringish, Sem.run_bind, run_shape, Result.andThen_ok]
            have hsh : World.shape? { heap := w.heap.push (.cells cs.toArray e), tape := w.tape, drawn := w.drawn + 1, os := w.os, output := w.output } w.heap.size = some (e, cap) := by
              simp [World.shape?, hcl]
            rw [hsh]
            simp only [run_freeze, World.freeze, Result.andThen_ok]
            simp only [w', World.alloc, World.drew]
            congr 1
            simp only [Nat.succ_ne_self, if_false, World.mk.injEq, and_true]
            apply Array.ext
            · simp
            · intro k hk1 hk2
              simp only [Array.getElem_modify, Array.getElem_push]
              by_cases hk : k = w.heap.size
              · subst hk; simp
              · have : k < w.heap.size := by simp at hk2; omega
                simp [this]; intro hh; omega
          simp [execOp, ho, convert, run_underlying hs, run_underlying hd, hx, run_underlying he, hst]
      · cases h
  · rename_i e' e b hs hd hv
    cases he : P.underlying e with
    | none => simp [he] at h
    | some d =>
      simp only [he] at h
      split at h
      · rename_i heq
        cases heq
        split at h
        · rename_i l hb
          simp only [need] at h
          obtain ⟨h1, hK⟩ := cond_some h
          simp only [Bool.and_eq_true, beq_iff_eq, Bool.not_eq_true', List.isEmpty_eq_false_iff] at h1
          exact eff_mark hp hρ hs hd he hv hb h1.1 h1.2 hK
        · cases h
      · cases h
  · cases h

theorem eff_next (hp : Hp F μ S.H S.nx w) (hρ : ∀ x, RelG w (Not F μ S.H) μ S.H ρ (ρA x) (ρ x)) {C : Calling} {x : Operand} {str : Bool} (h : evEff P C (.next x str) ρA S K = some r) :
    EffOK P F μ S w ρ (.next x str) K r := by
  cases str with
  | false => simp [evEff] at h
  | true =>
    simp only [evEff] at h
    have hx := (hρ x).rel
    split at h
    · rename_i b hv
      rw [hv] at hx
      simp only [RelV] at hx
      obtain ⟨hl, g, hg, hxv⟩ := hx
      have hB := hp.blk b
      cases hb : S.H b <;> simp only [hb, reduceCtorEq] at h
      rename_i l pos
      simp only [hb, RelB] at hB
      obtain ⟨g', hg', hobj⟩ := hB
      rw [hg] at hg'; cases hg'
      have hget : (getObj g).run P w = .ok (.stringIter ⟨l.toArray⟩ pos) w := by simp [getObj, Sem.run, hobj]
      have hsz : (⟨l.toArray⟩ : ByteArray).size = l.length := by simp [ByteArray.size]
      by_cases hlt : pos < l.length
      · simp only [hlt, decide_true, cond_true] at h
        let c := (Utf8.decode ⟨l.toArray⟩ pos).1
        let wd := (Utf8.decode ⟨l.toArray⟩ pos).2
        let w' : World := { w with heap := w.heap.setIfInBounds g (.stringIter ⟨l.toArray⟩ (pos + wd)) }
        have hgl : g < w.heap.size := hp.lt b g hl hg
        have T : Turned F μ S.H S.nx w [] b (some g) (.iter l (pos + wd)) S.nx w' :=
          { hp := hp, os := rfl, tape := rfl, output := rfl, size := by simp [w'], live := by simp, mono := Nat.le_refl _
            keep := fun k hk hne => by
              have : g ≠ k := fun e => hne hl (by rw [hg, e])
              simp [w', this]
            at_ := fun k hk => by cases hk; exact .inl ⟨hl, hg⟩
            lt := by
              rcases Nat.lt_or_ge b S.nx with h | h
              · exact h
              · exact absurd (hp.dead b h) hl
            kind := fun _ => Pin.zero rfl
            self := fun _ _ => ⟨by rw [updM_same, hg], by simp [hb, updH_same]⟩ }
        have hp' := T.hp' (by simp only [RelB]; exact ⟨g, updM_same _ _ _, by simp [w', hgl]⟩)
        have hM : updM μ b (some g) = μ := by funext t; unfold updM; split <;> simp_all
        refine ⟨_, _, updM μ b (some g), w', [], h, rfl, by simp, hp', T.pl, .tuple #[.bool true, .int .i64 (pos : Int), .int .i32 (c : Int)], fun o ho => .inl ?_, ?_⟩
        · have hset : (setObj g (.stringIter ⟨l.toArray⟩ (pos + wd))).run P w = .ok () w' := by simp [setObj, Sem.run, hobj, w']
          simp [execOp, ho, Instr.next, hxv, hget, hsz, hlt, hset, c, wd, goInt]
        · simp only [RelV, RelVs]
          exact ⟨⟨_, rfl, _, _, rfl, rfl, _, _, rfl, rfl, _, _, rfl, rfl, rfl⟩, trivial⟩
      · simp only [hlt, decide_false, cond_false] at h
        refine ⟨_, _, μ, w, [], h, rfl, by simp, hp, Pl.keep hp (Chg.refl w), .tuple #[.bool false], fun o ho => .inl ?_, ?_⟩
        · simp [execOp, ho, Instr.next, hxv, hget, hsz, hlt]
        · simp only [RelV, RelVs]
          exact ⟨⟨_, rfl, _, _, rfl, rfl, rfl⟩, trivial⟩
    · cases h

theorem eff_storeAV (hp : Hp F μ S.H S.nx w) (hρ : ∀ x, RelG w (Not F μ S.H) μ S.H ρ (ρA x) (ρ x)) {t : TypeId} {a x : Operand} (h : storeAV P t (ρA a) (ρA x) S (K .bad) = some r) :
    EffOK P F μ S w ρ (.store t a x) K r := by
  simp only [storeAV] at h
  obtain ⟨vs, h1, hvs⟩ := cellsK_ok (hρ x).rel h
  obtain ⟨h2, h3⟩ := cond_some h1
  simp only [Bool.and_eq_true] at h2
  obtain ⟨⟨hi, hn⟩, hok⟩ := h2
  have hn' : vs.length = P.cellsOf t := Nat.eq_of_beq_eq_true hn
  have hvl := RelVs_length hvs
  have hone := okCells_one hvs hok
  have ha := (hρ a).rel
  have fin : ∀ {b g o : Nat} {B : Blk}, S.H b ≠ .dead → μ b = some g → ρ a = .pointer (some ⟨g, o, none⟩) →
      (∀ k, k < (ρ x).cells.toList.length → (w.cell? ⟨g, o + k, none⟩).isSome = true ∧ w.frozen? ⟨g, o + k, none⟩ = false) → B ≠ .dead →
      SameKind (S.H b) B →
      (∀ w', SetMany w w' g o (ρ x).cells.toList → Turned F μ S.H S.nx w [] b (some g) B S.nx w' → RelB w' (Not F (updM μ b (some g)) (updH S.H b B)) (updM μ b (some g)) (updH S.H b B) b B) →
      K .bad ⟨S.E, updH S.H b B, S.nx, S.kl⟩ = some r → EffOK P F μ S w ρ (.store t a x) K r := by
    intro b g o B hl hg hav hroom hB hkind hrel hK
    obtain ⟨w', hrun, hS⟩ := run_storeAt (P := P) hi (by rw [hvl, hn']) hone hroom
    have T := Turned.store hp hl hg hS hB hkind
    refine ⟨_, _, updM μ b (some g), w', [], hK, rfl, by simp, T.hp' (hrel w' hS T), T.pl, undef, fun op hop => .inr ⟨?_, rfl⟩, by simp [RelV], fun X hX => ⟨Nat.le_of_eq hS.size.symm, fun k _ hk => hS.heap k fun e => hk (e ▸ hX g o hav)⟩⟩
    rw [← hav] at hrun
    simp [execOp, hop, hrun]
  cases hav : ρA a <;> simp only [hav, reduceCtorEq] at h3 ha
  case ptr b o =>
    simp only [RelV] at ha
    obtain ⟨hl, g, hg, hae⟩ := ha
    cases hb : S.H b <;> simp only [hb, reduceCtorEq] at h3
    rename_i cs
    obtain ⟨hle, hK⟩ := cond_some h3
    have hle' : o + vs.length ≤ cs.length := Nat.le_of_ble_eq_true hle
    have hB := hp.blk b
    simp only [hb, RelB] at hB
    rcases hB with hB | ⟨g', us, hg', hr, hrow, hroom⟩
    · rw [hg] at hB; cases hB
    rw [hg] at hg'; cases hg'
    have hul := RelVs_length hr
    refine fin hl hg hae (fun k hk => hroom _ (by omega)) (by simp) (by simp [hb, SameKind]) (fun w' hS T => ?_) hK
    simp only [RelB]
    refine .inr ⟨g, us.take o ++ (ρ x).cells.toList ++ us.drop (o + (ρ x).cells.toList.length), updM_same _ _ _, ?_, ?_, ?_⟩
    · have := T.trs _ _ (splice_ok (o := o) hr hvs)
      exact this
    · have hS' : SetMany w w' g (0 + o) (ρ x).cells.toList := by simpa using hS
      exact hS'.splice hrow (by omega)
    · have : (us.take o ++ (ρ x).cells.toList ++ us.drop (o + (ρ x).cells.toList.length)).length = us.length := by
        simp only [List.length_append, List.length_take, List.length_drop]; omega
      rw [this]; exact hS.room hroom
  case ep b y ix f =>
    simp only [RelV] at ha
    obtain ⟨l, g, hb, hix, hg, hae⟩ := ha
    simp only [hb, decide_true, cond_true] at h3
    obtain ⟨hle, h4⟩ := cond_some h3
    have hle' : f + vs.length ≤ y.size := Nat.le_of_ble_eq_true hle
    have hgd : l.getD ix y.dflt = l[ix] := by simp [List.getD, List.getElem?_eq_getElem hix]
    rw [hgd] at h4
    have hB := hp.blk b
    simp only [hb, RelB] at hB
    rcases hB with ⟨_, rfl⟩ | ⟨g', hg', hroom, hrows⟩
    · simp at hix
    rw [hg] at hg'; cases hg'
    obtain ⟨es, e1, e2, e3⟩ := hrows ix hix
    obtain ⟨d, rest, es', us, h5, h6, h7, h8⟩ := dec_ok (splice_ok (o := f) (RelVs_encc e3) hvs) h4
    cases rest with
    | cons _ _ => simp at h5
    | nil =>
      simp only [RelVs] at h8
      subst h8
      rw [List.append_nil] at h6
      have hmul : ix * y.size + y.size ≤ l.length * y.size := by rw [← Nat.succ_mul]; exact Nat.mul_le_mul_right _ hix
      refine fin (by simp [hb]) hg hae (fun k hk => hroom _ (by omega)) (by simp) (by simp [hb, SameKind]) (fun w' hS T => ?_) h5
      simp only [RelB]
      refine .inr ⟨g, updM_same _ _ _, by rw [List.length_set]; exact hS.room hroom, fun i hi => ?_⟩
      rw [List.length_set] at hi
      by_cases hii : i = ix
      · subst hii
        refine ⟨es', h7.length, ?_, ?_⟩
        · rw [← h6]; exact hS.splice e2 (by omega)
        · rw [List.getElem_set_self]; exact h7.keep T.keepN T.notN
      · obtain ⟨ds, d1, d2, d3⟩ := hrows i hi
        refine ⟨ds, d1, hS.row d2 ?_, ?_⟩
        · rw [d1]
          rcases Nat.lt_or_ge i ix with hlt | hge
          · left
            have : (i + 1) * y.size ≤ ix * y.size := Nat.mul_le_mul_right _ hlt
            rw [Nat.succ_mul] at this; omega
          · right
            have : (ix + 1) * y.size ≤ i * y.size := Nat.mul_le_mul_right _ (by omega)
            rw [Nat.succ_mul] at this; omega
        · rw [List.getElem_set_ne (by omega)]; exact d3.keep T.keepN T.notN

theorem eff_store (hp : Hp F μ S.H S.nx w) (hρ : ∀ x, RelG w (Not F μ S.H) μ S.H ρ (ρA x) (ρ x)) {C : Calling} {t : TypeId} {a x : Operand} (h : evEff P C (.store t a x) ρA S K = some r) :
    EffOK P F μ S w ρ (.store t a x) K r := by
  simp only [evEff] at h
  split at h
  · exact sealing_ok hp hρ h fun S ρA hp hρ h => eff_storeAV hp hρ h
  · exact eff_storeAV hp hρ h

end
end Go.Ev

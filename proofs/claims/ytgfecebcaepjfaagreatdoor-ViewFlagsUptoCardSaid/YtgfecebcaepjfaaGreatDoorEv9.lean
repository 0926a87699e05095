/- The operations that only yield a value: the theorem. -/
import Derived.Test.YtgfecebcaepjfaaGreatDoorEv8
namespace Go.Ev
open Go
section
variable {P : Program} {X : Nat → Nat → Prop} {w : World} {T : Tb} {F : Frm T} {μ : Nat → Option Nat} {H : Nat → Blk} {nx : Nat} {α : Type} {r : α}

def VOK (P : Program) (X : Nat → Nat → Prop) (w : World) {T : Tb} (F : Frm T) (μ : Nat → Option Nat) (H : Nat → Blk) (ρ : Operand → Value) (op : Op) {α : Type} (K : Bool → AV → Option α) (r : α) : Prop :=
  ∃ side v, K side v = some r ∧ (side = true → ∃ val, RelV w (Not F μ H) μ H v val ∧ Yields P X w ρ op val)

theorem VOK.of {ρ : Operand → Value} {op : Op} {K : Bool → AV → Option α} {v : AV} {val : Value} (h : K true v = some r) (hv : RelV w (Not F μ H) μ H v val)
    (hy : ∀ o : Oper, o.op = op → ∀ w', Agr X w w' → (execOp ρ o).run P w' = .ok (.value val) w') : VOK P X w F μ H ρ op K r :=
  ⟨true, v, h, fun _ => ⟨val, hv, hy⟩⟩

theorem pick_and {ρ : Operand → Value} {c a : Operand} {x : AV} {cv q : Bool} {w' : World} (hc : ρ c = .bool cv) (hu : ∀ b, ρ c = .bool b → b = true → RelV w (Not F μ H) μ H x (ρ a)) (hx : x = .b q ∨ x = .kb q)
    (hk : ∀ v, ρ (.const v) = v) {o : Oper} (ho : o.op = .pick c a (.const (.bool false))) : (execOp ρ o).run P w' = .ok (.value (.bool (cv && q))) w' := by
  cases cv
  · simp [execOp, ho, hc, asBool, hk]
  · have := hu true hc rfl
    rcases hx with rfl | rfl <;> simp only [RelV] at this <;> simp [execOp, ho, hc, asBool, this]

theorem pick_or {ρ : Operand → Value} {c b : Operand} {x : AV} {cv q : Bool} {w' : World} (hc : ρ c = .bool cv) (hu : ∀ b', ρ c = .bool b' → b' = false → RelV w (Not F μ H) μ H x (ρ b)) (hx : x = .b q ∨ x = .kb q)
    (hk : ∀ v, ρ (.const v) = v) {o : Oper} (ho : o.op = .pick c (.const (.bool true)) b) : (execOp ρ o).run P w' = .ok (.value (.bool (cv || q))) w' := by
  cases cv
  · have := hu false hc rfl
    rcases hx with rfl | rfl <;> simp only [RelV] at this <;> simp [execOp, ho, hc, asBool, this]
  · simp [execOp, ho, hc, asBool, hk]

theorem wrap_small {k : IntKind} {x : UInt8} (h8 : k ≠ .u8) (hi : k ≠ .i8) : k.wrap (x.toNat : Int) = (x.toNat : Int) := by
  have hx := u8_toNat x
  cases k <;> first | exact absurd rfl h8 | exact absurd rfl hi | (simp [IntKind.wrap, IntKind.bits, IntKind.signed]; try omega)

theorem sides {a z l : Int} (h : (decide (0 ≤ a) && decide (a ≤ z) && decide (z ≤ l)) = true) : 0 ≤ a ∧ a ≤ z ∧ z ≤ l := by
  simp only [Bool.and_eq_true, decide_eq_true_eq] at h
  exact ⟨h.1.1, h.1.2, h.2⟩

theorem sides2 {i l : Int} (h : (decide (0 ≤ i) && decide (i < l)) = true) : 0 ≤ i ∧ i < l := by
  simpa using h

theorem cellsAg_ok {N : Nat → Prop} {cs : List AV} {vs : List Value} {o n : Nat} {ag : Bool} {K : AV → Option α}
    (hr : RelVs w N μ H cs vs) (h : cellsAt cs o n ag K = some r) :
    ∃ v val, K v = some r ∧ RelV w N μ H v val ∧ ((ag = true ∧ val = .agg (vs.toArray.extract o (o + n))) ∨ (ag = false ∧ vs[o]? = some val)) := by
  unfold cellsAt at h
  cases ag with
  | true =>
    simp only [cond_true] at h
    obtain ⟨hb, hK⟩ := cond_some h
    refine ⟨_, .agg ((vs.drop o).take n).toArray, hK, ?_, .inl ⟨rfl, ?_⟩⟩
    · simp only [RelV]
      exact ⟨_, rfl, RelVs_take n (RelVs_drop o hr)⟩
    · congr 1
      simp [List.extract_eq_take_drop]
  | false =>
    simp only [cond_false] at h
    have hd := RelVs_drop o hr
    cases hx : cs.drop o with
    | nil => simp [hx] at h
    | cons x rest =>
      simp only [hx] at h hd
      simp only [RelVs] at hd
      obtain ⟨v, vr, hv, h1, _⟩ := hd
      refine ⟨x, v, h, h1, .inr ⟨rfl, ?_⟩⟩
      have h2 : (vs.drop o)[0]? = some v := by rw [hv]; rfl
      simpa using h2

set_option maxHeartbeats 2000000 in
theorem evVal_ok {op : Op} {ρ : Operand → Value} {ρA : Operand → AV} {K : Bool → AV → Option α} (hp : Hp F μ H nx w) (hρ : ∀ x, RelG w (Not F μ H) μ H ρ (ρA x) (ρ x)) (hk : ∀ v, ρ (.const v) = v)
    (hX : FreeOp P X ρ op) (h : evVal P op ρA H K = some r) : VOK P X w F μ H ρ op K r := by
  cases op <;> simp only [evVal, reduceCtorEq] at h
  case move x => exact .of h (hρ x).rel fun o ho w' _ => by simp [execOp, ho]
  case assign x => exact .of h (hρ x).rel fun o ho w' _ => by simp [execOp, ho]
  case pick c a b =>
    have hc := (hρ c).rel
    cases hcv : ρA c <;> simp only [hcv, reduceCtorEq] at h hc
    case kb x =>
      simp only [RelV] at hc
      cases x
      · exact .of h (unGx_ok (hρ b) hc) fun o ho w' _ => by simp [execOp, ho, hc, asBool]
      · exact .of h (unGx_ok (hρ a) hc) fun o ho w' _ => by simp [execOp, ho, hc, asBool]
    case b cv =>
      simp only [RelV] at hc
      split at h
      · have hu : ∀ b, ρ c = .bool b → b = true → RelV w (Not F μ H) μ H (unGx c true (ρA a)) (ρ a) := fun b hb h1 => by subst h1; exact unGx_ok (hρ a) hb
        cases hx : unGx c true (ρA a) <;> simp only [hx, reduceCtorEq] at h hu
        case b q => exact .of (val := .bool (cv && q)) h rfl fun o ho w' _ => pick_and hc hu (.inl rfl) hk ho
        case kb q => exact .of (val := .bool (cv && q)) h rfl fun o ho w' _ => pick_and hc hu (.inr rfl) hk ho
      · have hu : ∀ b', ρ c = .bool b' → b' = false → RelV w (Not F μ H) μ H (unGx c false (ρA b)) (ρ b) := fun b' hb h1 => by subst h1; exact unGx_ok (hρ b) hb
        cases hx : unGx c false (ρA b) <;> simp only [hx, reduceCtorEq] at h hu
        case b q => exact .of (val := .bool (cv || q)) h rfl fun o ho w' _ => pick_or hc hu (.inl rfl) hk ho
        case kb q => exact .of (val := .bool (cv || q)) h rfl fun o ho w' _ => pick_or hc hu (.inr rfl) hk ho
      · cases h
  case makeInterface t x =>
    obtain ⟨h1, h2⟩ := cond_some h
    have hx := (hρ x).rel
    have hn : RelV w (Not F μ H) μ H (noGd (ρA x)) (ρ x) := by
      cases hx' : ρA x <;> rw [hx'] at hx <;> first | exact hx | simp [noGd, RelV]
    refine .of (val := .iface t (ρ x)) h2 ⟨_, rfl, hn⟩ fun o ho w' _ => ?_
    have hmi : (Instr.makeInterface t (ρ x)).run P w' = .ok (.iface t (ρ x)) w' := by
      unfold concreteB at h1
      cases hd : P.underlying t with
      | none => simp [hd] at h1
      | some d => cases d <;> first | (simp [hd] at h1; done) | simp [Instr.makeInterface, run_underlying hd]
    simp [execOp, ho, hmi]
  case build t parts =>
    cases hu : P.underlying t with
    | none => simp [hu] at h
    | some d =>
      cases d <;> simp only [hu, reduceCtorEq] at h
      case array n e =>
        obtain ⟨h1, h2⟩ := cond_some h
        obtain ⟨i, hi⟩ := Option.isSome_iff_exists.1 h1
        obtain ⟨cs, z, h3, hz, hrun⟩ := zeroCells_ok (w := w) (N := Not F μ H) (μ := μ) (H := H) h2
        obtain ⟨cs', X', hK, hr, hfill⟩ := fillAr_ok hz (parts_rel hρ parts.toList) h3
        refine .of (val := .agg X'.toArray) hK ⟨X', rfl, hr⟩ fun o ho w' _ => ?_
        have hparts : (parts.map fun (x : Nat × Operand) => match x with | (i, x) => (i, ρ x)).toList = parts.toList.map fun (i, x) => (i, ρ x) := by simp
        have hsz : P.cellsOf e = i.size := by simp [Program.cellsOf, hi]
        rw [hsz] at hfill
        simp only [execOp, ho, Instr.build, Sem.run_bind, hrun, Result.andThen_ok, run_underlying hu, run_sizeOf hi, hparts]
        have hz' : z.cells = z.cells.toList.toArray := by simp
        rw [hz', hfill]
        simp
      rename_i fs
      obtain ⟨h1, h2⟩ := cond_some h
      obtain ⟨cs, z, h3, hz, hrun⟩ := zeroCells_ok (w := w) (N := Not F μ H) (μ := μ) (H := H) h2
      obtain ⟨cs', X', hK, hr, hfill⟩ := fillAV_ok hz (parts_rel hρ parts.toList) h3
      refine .of (val := .agg X'.toArray) hK ⟨X', rfl, hr⟩ fun o ho w' _ => ?_
      have hpl := run_places (P := P) fs.toList (fun f hf => (List.all_eq_true.1 h1) f hf) w'
      have hm : (fs.mapM fun f => do pure (f.offset, ← sizeOf f.type) : Sem (Array (Nat × Nat))).run P w' = .ok (fs.map fun f => (f.offset, P.cellsOf f.type)) w' := by
        rw [Array.mapM_eq_mapM_toList]
        simp only [Sem.run_map, hpl, Result.andThen_ok]
        exact congrArg (fun z => Result.ok z w') (by apply Array.ext'; simp)
      have hparts : (parts.map fun (x : Nat × Operand) => match x with | (i, x) => (i, ρ x)).toList = parts.toList.map fun (i, x) => (i, ρ x) := by simp
      simp only [execOp, ho, Instr.build, Sem.run_bind, hrun, Result.andThen_ok, run_underlying hu, hm, hparts]
      have hz' : z.cells = z.cells.toList.toArray := by simp
      rw [hz', hfill]
      simp
  case load t x =>
    obtain ⟨y, val, hK, hy, hrun⟩ := loadAV_ok hp (hρ x).rel hX h
    exact .of hK hy fun o ho w' hw => by simp [execOp, ho, hrun w' hw]
  case nilCheck x =>
    have hx := (hρ x).rel
    cases hv : ρA x <;> simp only [hv, reduceCtorEq] at h hx
    case ptr b o' =>
      have hx' := hx
      simp only [RelV] at hx'
      obtain ⟨_, g, _, he⟩ := hx'
      exact .of h hx fun o ho w' _ => by simp [execOp, ho, he]
    case mptr c b o' =>
      refine ⟨_, _, h, fun hc => ?_⟩
      subst hc
      simp only [RelV] at hx
      obtain ⟨hl, ⟨_, g, hg, he⟩ | ⟨hc, _⟩⟩ := hx
      · exact ⟨ρ x, by simp only [RelV]; exact ⟨hl, g, hg, he⟩, fun o ho w' _ => by simp [execOp, ho, he]⟩
      · cases hc
    case ep b t i f =>
      have hx' := hx
      simp only [RelV] at hx'
      obtain ⟨_, g, _, _, _, he⟩ := hx'
      exact .of h hx fun o ho w' _ => by simp [execOp, ho, he]
    case fp t l i f =>
      have hx' := hx
      simp only [RelV] at hx'
      obtain ⟨_, g, _, _, _, he, _⟩ := hx'
      exact .of h hx fun o ho w' _ => by simp [execOp, ho, he]
    case fn f cs =>
      have hx' := hx
      simp only [RelV] at hx'
      obtain ⟨vs, he, _⟩ := hx'
      exact .of h hx fun o ho w' _ => by simp [execOp, ho, he]
  case binOp op t x y ty =>
    obtain ⟨side, v, hK, hs⟩ := evBinS_ok (hρ x).rel (hρ y).rel h
    exact ⟨side, v, hK, fun hside => let ⟨val, hv, hb⟩ := hs hside; ⟨val, hv, yields_bin hb⟩⟩
  case unOp op t x =>
    obtain ⟨v, val, hK, hv, hrun⟩ := evUn_ok (P := P) (hρ x).rel h
    exact .of hK hv fun o ho w' _ => by simp [execOp, ho, hrun w']
  case convert src dst x =>
    have hx := (hρ x).rel
    split at h
    · rename_i k n hs hd hv
      rw [hv] at hx
      simp only [RelV] at hx
      refine .of h (val := .int .u8 (n.toNat : Int)) rfl fun o ho w' _ => ?_
      have := u8_toNat n
      have hw : IntKind.u8.wrap (n.toNat : Int) = (n.toNat : Int) := by rw [wrap_u8]; omega
      simp [execOp, ho, convert, run_underlying hs, run_underlying hd, hx, Conv.intToInt, hw]
    · rename_i k k' n hs hd hv
      rw [hv] at hx
      simp only [RelV] at hx
      refine .of h (val := .int .u8 ((u8of n).toNat : Int)) rfl fun o ho w' _ => ?_
      simp [execOp, ho, convert, run_underlying hs, run_underlying hd, hx, Conv.intToInt, u8of_toNat]
    · cases h
    · rename_i k k' n h8 hi8 hs hd hv
      rw [hv] at hx
      simp only [RelV] at hx
      refine .of h (val := .int k' (n.toNat : Int)) rfl fun o ho w' _ => ?_
      have hw : k'.wrap (n.toNat : Int) = (n.toNat : Int) := wrap_small (fun e => by subst e; simp_all) (fun e => by subst e; simp_all)
      simp [execOp, ho, convert, run_underlying hs, run_underlying hd, hx, Conv.intToInt, hw]
    · rename_i k k' k'' n h8 hs hd hv
      rw [hv] at hx
      simp only [RelV] at hx
      refine .of h wr_ok fun o ho w' _ => ?_
      simp [execOp, ho, convert, run_underlying hs, run_underlying hd, hx, Conv.intToInt]
    · rename_i l hs hd hv
      rw [hv] at hx
      refine .of h hx fun o ho w' _ => ?_
      simp only [RelV] at hx
      simp [execOp, ho, convert, run_underlying hs, run_underlying hd, hx]
    · rename_i k k' n hs hd hv
      rw [hv] at hx
      simp only [RelV] at hx
      refine .of h (val := .string ⟨(Utf8.encode n).data.toList.toArray⟩) rfl fun o ho w' _ => ?_
      simp [execOp, ho, convert, run_underlying hs, run_underlying hd, hx, Conv.intToString]
    · rename_i v e hs hd
      cases he : P.underlying e with
      | none => simp [he] at h
      | some d =>
        simp only [he] at h
        split at h
        · rename_i heq
          cases heq
          obtain ⟨l, hK, hrow⟩ := items_ok hp hx h
          refine .of hK (val := .string ⟨l.toArray⟩) rfl fun o ho w' hw => ?_
          have hr := run_bytes (P := P) hrow hX hw
          obtain ⟨a, c, hvv, _⟩ := hrow
          rw [hvv] at hr
          simp [execOp, ho, convert, run_underlying hs, run_underlying hd, hvv, run_underlying he, hr]
        · cases h
    · cases h
  case makeFunc fn first caps =>
    cases fn <;> simp only [reduceCtorEq] at h
    obtain ⟨h1, h2⟩ := cond_some h
    have hf : first = #[] := by simpa using h1
    subst hf
    refine .of h2 (val := .func (.func _) #[] (caps.toList.map ρ).toArray) ⟨_, rfl, RelVs_map hρ _⟩ fun o ho w' _ => ?_
    have he : caps.map ρ = (caps.toList.map ρ).toArray := by apply Array.ext'; simp
    simp [execOp, ho, Instr.makeFunc, he]
  case fieldAddr t x f =>
    have hx := (hρ x).rel
    cases hf : fieldOff P t f with
    | none => simp [hf] at h
    | some q =>
      obtain ⟨o', ft⟩ := q
      simp only [hf] at h
      cases hv : ρA x <;> simp only [hv, reduceCtorEq] at h hx
      case ptr b o'' =>
        simp only [RelV] at hx
        obtain ⟨h1, g, hg, he⟩ := hx
        exact .of h (val := .pointer (some ⟨g, o'' + o', none⟩)) ⟨h1, g, hg, rfl⟩ fun o ho w' _ => by simp [execOp, ho, he, run_fieldAt hf]
      case ep b ty i fo =>
        simp only [RelV] at hx
        obtain ⟨l, g, h1, h2, hg, he⟩ := hx
        exact .of h (val := .pointer (some ⟨g, i * ty.size + fo + o', none⟩)) ⟨l, g, h1, h2, hg, by rw [Nat.add_assoc]⟩ fun o ho w' _ => by simp [execOp, ho, he, run_fieldAt hf]
      case fp ty l i fo =>
        simp only [RelV] at hx
        obtain ⟨h1, g, o1, h2, h3, he, h4⟩ := hx
        exact .of h (val := .pointer (some ⟨g, o1 + i * ty.size + fo + o', none⟩)) ⟨h1, g, o1, h2, h3, by rw [Nat.add_assoc (o1 + i * ty.size)], h4⟩ fun o ho w' _ => by simp [execOp, ho, he, run_fieldAt hf]
  case field t x f =>
    have hx := (hρ x).rel
    cases hf : fieldOff P t f with
    | none => simp [hf] at h
    | some q =>
      obtain ⟨o', ft⟩ := q
      simp only [hf] at h
      cases hv : ρA x <;> simp only [hv, reduceCtorEq] at h hx
      rename_i cs
      simp only [RelV] at hx
      obtain ⟨vs, hvv, hr⟩ := hx
      obtain ⟨fs, fd, hu, hfd, ho1, ho2⟩ := fieldOff_field hf
      cases hft : P.underlying ft with
      | none => simp [hft] at h
      | some d =>
        simp only [hft] at h
        obtain ⟨v, val, hK, hvr, hc⟩ := cellsAg_ok hr h
        refine .of hK hvr fun o ho w' _ => ?_
        have hpart : (part ft vs.toArray o').run P w' = .ok val w' := by
          unfold part
          rw [Sem.run_bind, run_isAgg hft]
          rcases hc with ⟨h1, rfl⟩ | ⟨h1, h2⟩
          · simp [h1, run_sizeOf' hft]
          · simp [h1, h2]
        simp [execOp, ho, Instr.field, run_underlying hu, hfd, hvv, asAgg, ho1, ho2, hpart]
  case slice t x lo hi mx =>
    have hx := (hρ x).rel
    cases mx with
    | some m => simp at h
    | none =>
      simp only at h
      cases hu : P.underlying t with
      | none => simp [hu] at h
      | some d =>
        cases d <;> simp only [hu, reduceCtorEq] at h
        case string =>
          cases hv : ρA x <;> simp only [hv, reduceCtorEq] at h hx
          rename_i s
          simp only [RelV] at hx
          obtain ⟨a, h1, ba⟩ := boundOf_ok hρ h
          obtain ⟨z, h2, bz⟩ := boundOf_ok hρ h1
          refine ⟨_, _, h2, fun hs => ?_⟩
          obtain ⟨s0, s1, s2⟩ := sides hs
          refine ⟨.string ⟨((s.drop a.toNat).take (z.toNat - a.toNat)).toArray⟩, rfl, fun o ho w' _ => ?_⟩
          simp [execOp, ho, hx, run_sliceStr hu ba bz s0 s1 s2]
        case slice e =>
          cases hv : ρA x <;> simp only [hv, reduceCtorEq] at h hx
          case sl ty l =>
            obtain ⟨hsz, h⟩ := cond_some h
            obtain ⟨a, h1, ba⟩ := boundOf_ok hρ h
            obtain ⟨z, h2, bz⟩ := boundOf_ok hρ h1
            refine ⟨_, _, h2, fun hs => ?_⟩
            obtain ⟨s0, s1, s2⟩ := sides hs
            simp only [RelV, RelD] at hx
            obtain ⟨ad, c, hvv, hc, hrow⟩ := hx
            simp only [List.cons.injEq, and_true] at hvv
            have hlen : ((l.drop a.toNat).take (z.toNat - a.toNat)).length = z.toNat - a.toNat := by clear hrow; simp; omega
            have l1 : z.toNat - a.toNat ≤ c - a.toNat := by clear hrow; omega
            have l2 : 0 < z.toNat - a.toNat → 0 < l.length ∧ ¬ c = a.toNat := by clear hrow; omega
            have l3 : ∀ i, i < z.toNat - a.toNat → a.toNat + i < l.length := by clear hrow; intro i hi; omega
            refine ⟨.slice (if c = a.toNat then ad else ad.map (·.add (a.toNat * ty.size))) (z.toNat - a.toNat) (c - a.toNat), ?_, fun o ho w' _ => ?_⟩
            · simp only [RelV, RelD]
              refine ⟨if c = a.toNat then ad else ad.map (·.add (a.toNat * ty.size)), c - a.toNat, by rw [hlen], by rw [hlen]; exact l1, fun hp0 => ?_⟩
              rw [hlen] at hp0
              obtain ⟨g, o, rfl, hn, hg, hr⟩ := hrow (l2 hp0).1
              have hne : ¬ c = a.toNat := (l2 hp0).2
              refine ⟨g, o + a.toNat * ty.size, by simp [hne, add_none], hn, hg, fun i hi => ?_⟩
              rw [hlen] at hi
              obtain ⟨es, e1, e2, e3⟩ := hr (a.toNat + i) (l3 i hi)
              refine ⟨es, e1, ?_, ?_⟩
              · rw [Nat.add_assoc, ← Nat.add_mul]; exact e2
              · have : ((l.drop a.toNat).take (z.toNat - a.toNat))[i]'(by rw [hlen]; exact hi) = l[a.toNat + i]'(l3 i hi) := by simp
                rw [this]; exact e3
            · simp [execOp, ho, hvv, run_sliceOf hu hsz ba bz s0 s1 s2 hc]
          case wh b =>
            simp only [RelV] at hx
            obtain ⟨ty, l, hb, hvv⟩ := hx
            simp only [hb] at h
            obtain ⟨hsz, h⟩ := cond_some h
            obtain ⟨a, h1, ba⟩ := boundOf_ok hρ h
            obtain ⟨z, h2, bz⟩ := boundOf_ok hρ h1
            refine ⟨_, _, h2, fun hs => ?_⟩
            obtain ⟨s0, s1, s2⟩ := sides hs
            rcases hvv with ⟨g, c, hg, hvv, hc, hroom⟩ | ⟨hg, rfl, hvv⟩
            · refine ⟨.slice (if c = a.toNat then some ⟨g, 0, none⟩ else (some ⟨g, 0, none⟩ : Option Addr).map (·.add (a.toNat * ty.size))) (z.toNat - a.toNat) (c - a.toNat), ?_, fun o ho w' _ => ?_⟩
              · simp only [RelV]
                refine ⟨ty, l, hb, by omega, .inl ⟨g, c, if c = a.toNat then 0 else a.toNat * ty.size, hg, ?_, hc, hroom, ?_⟩⟩
                · split <;> simp [add_none]
                · split
                  · right; exact ⟨by assumption, Nat.zero_le _⟩
                  · left; rfl
              · simp [execOp, ho, hvv, run_sliceOf hu hsz ba bz s0 s1 s2 hc]
            · have ha0 : a = 0 ∧ z = 0 := by simp at s2; omega
              obtain ⟨rfl, rfl⟩ := ha0
              refine ⟨.slice none 0 0, ?_, fun o ho w' _ => ?_⟩
              · simp only [RelV]
                exact ⟨ty, [], hb, by simp, .inr ⟨hg, by simp, by simp⟩⟩
              · simp [execOp, ho, hvv, run_sliceOf (len := 0) hu hsz ba (by simpa using bz) s0 s1 (by simp) (Nat.le_refl 0)]
          case win b lo' n =>
            simp only [RelV] at hx
            obtain ⟨ty, l, hb, hle, hvv⟩ := hx
            simp only [hb] at h
            obtain ⟨hsz, h⟩ := cond_some h
            obtain ⟨a, h1, ba⟩ := boundOf_ok hρ h
            obtain ⟨z, h2, bz⟩ := boundOf_ok hρ h1
            refine ⟨_, _, h2, fun hs => ?_⟩
            obtain ⟨s0, s1, s2⟩ := sides hs
            rcases hvv with ⟨g, c, o1, hg, hvv, hc, hroom, hoo⟩ | ⟨hg, rfl, hvv⟩
            · refine ⟨.slice (if c - lo' = a.toNat then some ⟨g, o1, none⟩ else (some ⟨g, o1, none⟩ : Option Addr).map (·.add (a.toNat * ty.size))) (z.toNat - a.toNat) (c - lo' - a.toNat), ?_, fun o ho w' _ => ?_⟩
              · simp only [RelV]
                refine ⟨ty, l, hb, by omega, .inl ⟨g, c, if c - lo' = a.toNat then o1 else o1 + a.toNat * ty.size, hg, ?_, hc, hroom, ?_⟩⟩
                · rw [Nat.sub_sub]; split <;> simp [add_none]
                · split
                  · right
                    refine ⟨by omega, ?_⟩
                    rw [Nat.add_mul]
                    rcases hoo with rfl | ⟨_, hoo⟩
                    · omega
                    · omega
                  · left
                    rcases hoo with rfl | ⟨rfl, _⟩
                    · rw [Nat.add_mul]
                    · omega
              · simp [execOp, ho, hvv, run_sliceOf (cap := c - lo') hu hsz ba bz s0 s1 s2 (by omega)]
            · have h0 : lo' = 0 ∧ n = 0 := by simp at hle; omega
              obtain ⟨rfl, rfl⟩ := h0
              have ha0 : a = 0 ∧ z = 0 := by simp at s2; omega
              obtain ⟨rfl, rfl⟩ := ha0
              refine ⟨.slice none 0 0, ?_, fun o ho w' _ => ?_⟩
              · simp only [RelV]
                exact ⟨ty, [], hb, by simp, .inr ⟨hg, by simp, by simp⟩⟩
              · simp [execOp, ho, hvv, run_sliceOf (len := 0) hu hsz ba (by simpa using bz) s0 s1 (by simp) (Nat.le_refl 0)]
  case indexAddr t x ix =>
    have hx := (hρ x).rel
    cases hu : P.underlying t with
    | none => simp [hu] at h
    | some d =>
      cases d <;> simp only [hu, reduceCtorEq] at h
      case array n e =>
        obtain ⟨k, i, hi, h⟩ := natOf_ok (hρ ix).rel h
        obtain ⟨h1, h⟩ := cond_some h
        obtain ⟨ie, hie⟩ := Option.isSome_iff_exists.1 h1
        have hsz : P.cellsOf e = ie.size := by simp [Program.cellsOf, hie]
        have hrun : 0 ≤ i → i < (n : Int) → ∀ (g o : Nat) (w' : World), (Instr.indexAt t (.pointer (some ⟨g, o, none⟩)) (.int k i)).run P w' = .ok (.pointer (some ⟨g, o + i.toNat * P.cellsOf e, none⟩)) w' := fun s0 s1 g o w' => by
          simp [Instr.indexAt, asIntOf, run_underlying hu, Instr.sureAddr, s0, s1, run_sizeOf hie, add_none, hsz]
        cases hv : ρA x <;> simp only [hv, reduceCtorEq] at h hx
        case ptr b o'' =>
          obtain ⟨s0, s1, h⟩ := pickIx_ok h
          refine ⟨_, _, h, fun _ => ?_⟩
          simp only [RelV] at hx
          obtain ⟨h1, g, hg, he⟩ := hx
          exact ⟨.pointer (some ⟨g, o'' + i.toNat * P.cellsOf e, none⟩), ⟨h1, g, hg, rfl⟩, fun o ho w' _ => by
            simp only [execOp, ho, he, hi, Sem.run_bind, hrun s0 s1, Result.andThen_ok, Sem.run_pure]⟩
        case ep b ty j fo =>
          obtain ⟨s0, s1, h⟩ := pickIx_ok h
          refine ⟨_, _, h, fun _ => ?_⟩
          simp only [RelV] at hx
          obtain ⟨l, g, h1, h2, hg, he⟩ := hx
          exact ⟨.pointer (some ⟨g, j * ty.size + fo + i.toNat * P.cellsOf e, none⟩), ⟨l, g, h1, h2, hg, by rw [Nat.add_assoc]⟩, fun o ho w' _ => by
            simp only [execOp, ho, he, hi, Sem.run_bind, hrun s0 s1, Result.andThen_ok, Sem.run_pure]⟩
        case fp ty l j fo =>
          obtain ⟨s0, s1, h⟩ := pickIx_ok h
          refine ⟨_, _, h, fun _ => ?_⟩
          simp only [RelV] at hx
          obtain ⟨h1, g, o1, h2, h3, he, h4⟩ := hx
          exact ⟨.pointer (some ⟨g, o1 + j * ty.size + fo + i.toNat * P.cellsOf e, none⟩), ⟨h1, g, o1, h2, h3, by rw [Nat.add_assoc (o1 + j * ty.size)], h4⟩, fun o ho w' _ => by
            simp only [execOp, ho, he, hi, Sem.run_bind, hrun s0 s1, Result.andThen_ok, Sem.run_pure]⟩
      rename_i e
      obtain ⟨k, i, hi, h⟩ := natOf_ok (hρ ix).rel h
      cases hv : ρA x <;> simp only [hv, reduceCtorEq] at h hx
      case sl ty l =>
        obtain ⟨hsz, h⟩ := cond_some h
        refine ⟨_, _, h, fun hs => ?_⟩
        obtain ⟨s0, s1⟩ := sides2 hs
        simp only [RelV, RelD] at hx
        obtain ⟨ad, c, hvv, hc, hrow⟩ := hx
        simp only [List.cons.injEq, and_true] at hvv
        obtain ⟨g, o, rfl, hn, hg, hr⟩ := hrow (by omega)
        have hlt : i.toNat < l.length := by omega
        obtain ⟨es, e1, e2, e3⟩ := hr i.toNat hlt
        refine ⟨.pointer (some ⟨g, o + i.toNat * ty.size, none⟩), ?_, fun o' ho w' _ => ?_⟩
        · simp only [RelV]
          exact ⟨hlt, g, o, hn, hg, rfl, es, e1, e2, hlt, e3⟩
        · simp [execOp, ho, hvv, hi, run_indexAt hu hsz s0 s1]
      case wh b =>
        simp only [RelV] at hx
        obtain ⟨ty, l, hb, hvv⟩ := hx
        simp only [hb] at h
        obtain ⟨hsz, h⟩ := cond_some h
        refine ⟨_, _, h, fun hs => ?_⟩
        obtain ⟨s0, s1⟩ := sides2 hs
        rcases hvv with ⟨g, c, hg, hvv, hc, hroom⟩ | ⟨hg, rfl, hvv⟩
        · have hlt : i.toNat < l.length := by omega
          refine ⟨.pointer (some ⟨g, 0 + i.toNat * ty.size, none⟩), ?_, fun o' ho w' _ => ?_⟩
          · simp only [RelV]
            exact ⟨l, g, hb, hlt, hg, by simp⟩
          · simp only [execOp, ho, hvv, hi, Sem.run_bind, run_indexAt hu hsz s0 s1, Result.andThen_ok, Sem.run_pure]
        · simp at s1; omega
      case win b lo n =>
        simp only [RelV] at hx
        obtain ⟨ty, l, hb, hle, hvv⟩ := hx
        simp only [hb] at h
        obtain ⟨hsz, h⟩ := cond_some h
        refine ⟨_, _, h, fun hs => ?_⟩
        obtain ⟨s0, s1⟩ := sides2 hs
        rcases hvv with ⟨g, c, o1, hg, hvv, hc, hroom, hoo⟩ | ⟨hg, rfl, hvv⟩
        · have hlt : lo + i.toNat < l.length := by omega
          have ho1 : o1 = lo * ty.size := by rcases hoo with rfl | ⟨rfl, _⟩ <;> omega
          refine ⟨.pointer (some ⟨g, o1 + i.toNat * ty.size, none⟩), ?_, fun o' ho w' _ => ?_⟩
          · simp only [RelV]
            exact ⟨l, g, hb, hlt, hg, by rw [ho1, Nat.add_mul, Nat.add_zero]⟩
          · simp only [execOp, ho, hvv, hi, Sem.run_bind, run_indexAt hu hsz s0 s1, Result.andThen_ok, Sem.run_pure]
        · simp at hle; omega
  case index t x ix =>
    have hx := (hρ x).rel
    split at h
    · rename_i l hu hv
      obtain ⟨k, i, hi, h⟩ := natOf_ok (hρ ix).rel h
      rw [hv] at hx
      simp only [RelV] at hx
      refine ⟨_, _, h, fun hs => ?_⟩
      obtain ⟨s0, s1⟩ := sides2 hs
      have hlt : i.toNat < l.length := by omega
      refine ⟨.int .u8 ((l.getD i.toNat 0).toNat : Int), rfl, fun o ho w' _ => ?_⟩
      have hget : (⟨l.toArray⟩ : ByteArray)[i.toNat]? = some l[i.toNat] := by
        rw [ByteArray.getElem?_lt' _ _ (by simpa [ByteArray.size] using hlt)]
        rfl
      have hgd : l.getD i.toNat 0 = l[i.toNat] := by simp [List.getD, List.getElem?_eq_getElem hlt]
      simp only [execOp, ho, hi, hx, Instr.index, Sem.run_bind, asIntOf, Sem.run_pure, Result.andThen_ok, run_underlying hu, s0, if_true, hget, hgd]
    · rename_i n e cs hu hv
      cases hue : P.underlying e with
      | none => simp [hue] at h
      | some d =>
        simp only [hue] at h
        obtain ⟨k, i, hi, h⟩ := natOf_ok (hρ ix).rel h
        obtain ⟨s0, s1, h⟩ := pickIx_ok h
        rw [hv] at hx
        simp only [RelV] at hx
        obtain ⟨vs, hvv, hr⟩ := hx
        obtain ⟨v, val, hK, hvr, hc⟩ := cellsAg_ok hr h
        refine ⟨_, _, hK, fun hs => ⟨val, hvr, fun o ho w' _ => ?_⟩⟩
        have hpart : (part e vs.toArray (i.toNat * P.cellsOf e)).run P w' = .ok val w' := by
          unfold part
          rw [Sem.run_bind, run_isAgg hue]
          rcases hc with ⟨h1, rfl⟩ | ⟨h1, h2⟩
          · simp [h1, run_sizeOf' hue]
          · simp [h1, h2]
        simp [execOp, ho, hi, hvv, Instr.index, asIntOf, run_underlying hu, s0, s1, run_sizeOf' hue, hpart]
    · cases h
  case extract x n =>
    have hx := (hρ x).rel
    cases hv : ρA x <;> simp only [hv, reduceCtorEq] at h hx
    rename_i vs
    simp only [RelV] at hx
    obtain ⟨us, hvv, hr⟩ := hx
    cases hn : vs[n]? with
    | none => simp [hn] at h
    | some v =>
      simp only [hn] at h
      obtain ⟨val, hval, hvr⟩ := RelVs_get n hr hn
      exact .of h hvr fun o ho w' _ => by simp [execOp, ho, Instr.extract, hvv, hval]
  case call c =>
    obtain ⟨callee, args, argTypes⟩ := c
    cases callee <;> first | (cases h; done) | skip
    rename_i b
    cases b <;> first | (cases h; done) | skip
    case len =>
      simp only at h
      split at h
      · rename_i x t ha ht
        have ha' : args = #[x] := by apply Array.ext'; simpa using ha
        have ht' : argTypes = #[t] := by apply Array.ext'; simpa using ht
        subst ha'; subst ht'
        have hx := (hρ x).rel
        cases hu : P.underlying t with
        | none => simp [hu] at h
        | some d =>
          cases d <;> simp only [hu, reduceCtorEq] at h
          case string =>
            cases hv : ρA x <;> simp only [hv, reduceCtorEq] at h hx
            rename_i l
            simp only [RelV] at hx
            refine .of (val := .int .i64 (l.length : Int)) h rfl fun o ho w' _ => ?_
            have hsz : (⟨l.toArray⟩ : ByteArray).size = l.length := by simp [ByteArray.size]
            simp [execOp, ho, resolve, invoke, builtin, Builtin.len_, run_underlying hu, hx, goInt, hsz]
          case slice e =>
            obtain ⟨n, hK, a, c, hvv⟩ := lenOf_ok hx h
            refine .of (val := .int .i64 (n : Int)) hK rfl fun o ho w' _ => ?_
            simp [execOp, ho, resolve, invoke, builtin, Builtin.len_, run_underlying hu, hvv, goInt]
      · cases h
    case min =>
      simp only at h
      split at h
      · rename_i x y ha
        have ha' : args = #[x, y] := by apply Array.ext'; simpa using ha
        subst ha'
        have hx := (hρ x).rel
        have hy := (hρ y).rel
        cases hv : ρA x <;> simp only [hv, least, reduceCtorEq] at h hx
        cases hv2 : ρA y <;> simp only [hv2, reduceCtorEq] at h hy
        rename_i k a k' b
        obtain ⟨h1, hK⟩ := cond_some h
        have h1 := of_decide_eq_true h1
        subst h1
        simp only [RelV] at hx hy
        refine .of (val := .int k (cond (decide (b < a)) b a)) hK rfl fun o ho w' _ => ?_
        by_cases hlt : b < a <;> simp [execOp, ho, resolve, invoke, builtin, Builtin.min_, Builtin.min2, hx, hy, hlt]
      · cases h
    case max =>
      simp only at h
      split at h
      · rename_i x y ha
        have ha' : args = #[x, y] := by apply Array.ext'; simpa using ha
        subst ha'
        have hx := (hρ x).rel
        have hy := (hρ y).rel
        cases hv : ρA x <;> simp only [hv, most, reduceCtorEq] at h hx
        cases hv2 : ρA y <;> simp only [hv2, reduceCtorEq] at h hy
        rename_i k a k' b
        obtain ⟨h1, hK⟩ := cond_some h
        have h1 := of_decide_eq_true h1
        subst h1
        simp only [RelV] at hx hy
        refine .of (val := .int k (cond (decide (a < b)) b a)) hK rfl fun o ho w' _ => ?_
        by_cases hlt : a < b <;> simp [execOp, ho, resolve, invoke, builtin, Builtin.max_, Builtin.max2, hx, hy, hlt]
      · cases h
end
end Go.Ev

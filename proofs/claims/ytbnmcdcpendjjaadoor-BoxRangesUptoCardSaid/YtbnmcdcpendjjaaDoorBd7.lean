/- What always is; the law BoxSets. -/
import Derived.Test.YtbnmcdcpendjjaaDoorBd6
namespace Go.Bd
open Go Go.Ev
set_option maxRecDepth 100000

theorem live38 : F38 (([], ()), ()) = some ((), ([], ())) := by
  have hb : bytesOK (([] : List (Int × (UInt8 × ((List UInt8) × Unit)))).length + ([] : List (Int × (UInt8 × ((List UInt8) × Unit)))).length) 40 = true := bytes_ok (by simp)
  simp only [F38, List.isEmpty_nil, cond_true, hb, List.append_nil, agr_self]

theorem live27 : F27 (([72, 105], ()), ()) = some ((), ([72, 105], ())) := by kernel_rfl
theorem live25 : F25 ((([], 1, 5, [], ()), ()), ()) = some (0, ()) := by kernel_rfl
theorem live26l : L26_0 (((), (), (((([] : List (Int × (UInt8 × ((List UInt8) × Unit)))).length : Nat)) : Int), (0:Int), ()), (([], 1, 5, (), ()), ((), (), (), (), ()), [], [], ())) = some (((), (), ()), (([], 1, 5, (), ()), ((), (), (), (), ()), [], [], ())) := by kernel_rfl
theorem live26 : F26 ((([], 1, 5, [], ()), ()), ()) = some (([], 1, 5, (), ()), ([], ())) := by
  simp only [F26, live38, Option.bind_some, live26l]
theorem live15 : F15 ((([], 1, 5, [], ()), 1, [72, 105], ()), ()) = some ((([], 1, 6, [(5, 1, [72, 105], ())], ()), 5, 0, ()), ()) := by
  have hb : bytesOK (([] : List (Int × (UInt8 × ((List UInt8) × Unit)))).length + [((5 : Int), ((1 : UInt8), (([72, 105] : List UInt8), ())))].length) 40 = true := bytes_ok (by simp)
  have h1 : decide (UInt8.toNat 32 ≤ UInt8.toNat 1) = false := rfl
  have h2 : decide ((600:Int) < ((([72, 105] : List UInt8).length : Nat) : Int)) = false := rfl
  have h3 : (decide (((([] : List (Int × (UInt8 × ((List UInt8) × Unit)))).length : Nat) : Int) = 32) || decide ((5:Int) = 4294967295)) = false := rfl
  simp only [F15, live25, live26, live27, Option.bind_some, decide_true, Bool.not_true, cond_false, h1, h2, h3, hb, cond_true, List.nil_append]
  rfl
theorem live16 : F16 ((([], 1, 6, [(5, 1, [72, 105], ())], ()), ([(6, (0, (0, (0, ([104, 73], ()))))), (2, (1, (0, (0, ([], ())))))]), ()), ()) = some (((), 0, ()), ([5], ())) := by kernel_rfl
theorem live5 : F5 (([53, 58, 51, 44, 42], 9, ()), ()) = some (([(3, 5, ()), (9, 9, ())], 0, 0, ()), ()) := by kernel_rfl

theorem live7 : F7 ((), ()) = some (true, ()) := by
  simp only [F7, live15, Option.bind_some, live16, live5]
  rfl

theorem astep_len : ∀ (l : List Pr) (st : Pr × List Pr), (l.foldl astep st).2.length ≤ l.length + st.2.length
  | [], st => by simp
  | a :: t, st => by
    have h := astep_len t (astep st a)
    have : (astep st a).2.length ≤ st.2.length + 1 := by
      unfold astep
      split
      · simp
      · simp
    rw [List.foldl_cons]
    simp only [List.length_cons]
    omega

theorem lays_len (out : List Pr) (p : Pr) : (lays out p).length ≤ out.length + 1 := by
  have := astep_len out (p, [])
  simp only [List.length_nil, Nat.add_zero] at this
  unfold lays
  rw [insR_len]
  omega

theorem layall_len : ∀ (l out : List Pr), (l.foldl lays out).length ≤ out.length + l.length
  | [], out => by simp
  | p :: t, out => by
    have h := layall_len t (lays out p)
    have := lays_len out p
    rw [List.foldl_cons]
    simp only [List.length_cons]
    omega

theorem joined_len (P : List Pr) : (joined P).length ≤ P.length := by
  have := layall_len (P.map nrm) []
  rw [List.length_map] at this
  simpa [joined] using this

theorem set_len (s : List UInt8) (most : Int) : (set s most).1.length ≤ 32 := by
  unfold set
  split
  · exact Nat.zero_le _
  · unfold resR
    split
    · exact Nat.zero_le _
    · split
      · exact Nat.zero_le _
      · split
        · exact Nat.zero_le _
        · have := joined_len ((prs (lets s.length s).length ((lets s.length s).length + 1) (lets s.length s) []).2.1.map (subs most))
          rw [List.length_map] at this
          simp only
          omega

theorem foldS_const {α τ : Type} (r : τ) : ∀ (l : List α), foldS (fun _ (_ : Unit) => (.inl () : Unit ⊕ τ)) (fun _ => r) () l = r
  | [] => rfl
  | _ :: t => foldS_const r t

theorem F8_eq (l : List Pr) (hl : l.length ≤ 32) : F8 ((l, l, ()), ()) = some (true, ()) := by
  have hF := FUEL_big
  have h := walk_list (f := B8_0) (fun (_ : Unit) i => ((l, l, (i : Int), ()), ())) l (fun _ _ => .inl ()) (fun _ => .inl ((), ())) (b := ()) (fun b i a hi ha => by
      simp only [B8_0, nat_lt, nat_nn, hi, decide_true, Bool.and_true, cond_true, Int.toNat_natCast, Bool.not_true, cond_false, w64_nat (show i < 9223372036854775807 by omega)])
    (fun b => by simp only [B8_0, Int.lt_irrefl, decide_false, cond_false]) (by omega)
  rw [foldS_const] at h
  have h' : L8_0 ((l, l, (0:Int), ()), ()) = some (.inl ((), ())) := h
  simp only [F8, decide_true, Bool.not_true, cond_false, h', Option.bind_some]

theorem law3 (s : List UInt8) (most : Int) (hs : s.length ≤ 1100000) : F3 ((s, most, ()), ()) = some (true, ()) := by
  have e5 := F5_set s most hs
  have e6 := F6_set s most hs
  have hl := set_len s most
  generalize set s most = r at *
  obtain ⟨l, a, b, u⟩ := r
  cases u
  simp only [F3, e5, e6, live7, Option.bind_some, cond_true, F8_eq l hl, decide_true, Bool.and_true]

end Go.Bd

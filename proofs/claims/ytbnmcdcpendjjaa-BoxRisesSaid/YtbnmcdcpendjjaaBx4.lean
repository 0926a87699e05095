/- Boxes: what always is, sameness; the laws BoxChecks and BoxAdds. -/
import Derived.Test.YtbnmcdcpendjjaaBx3
namespace Go.Bx
open Go Go.Ev
set_option maxRecDepth 100000

theorem live14 : F14 ((([], 1, 6, [(5, 1, [72, 105], ())], ()), ([(6, (0, (0, (0, ([104, 73], ()))))), (2, (1, (0, (0, ([], ())))))]), ()), ()) = some (((), 0, ()), ([5], ())) := by kernel_rfl
theorem live26 : F26 (([53, 58, 51, 44, 42], 9, ()), ()) = some (([(3, 5, ()), (9, 9, ())], 0, 0, ()), ()) := by kernel_rfl
theorem live10 : add ([], 1, 5, [], ()) 1 [72, 105] = (([], 1, 6, [(5, 1, [72, 105], ())], ()), 5, 0, ()) := by kernel_rfl

theorem live12 : F12 ((), ()) = some (true, ()) := by
  simp only [F12, F10_eq, live10, Option.bind_some, live14, live26]
  rfl

theorem F13_self (b : Box) (hl : b.2.2.2.1.length ≤ maxLen) : F13 ((b, b, ()), ()) = some (true, ()) := by
  obtain ⟨nm, v, n, ls, u⟩ := b
  cases u
  have hF : maxLen < FUEL := by unfold maxLen FUEL; omega
  have hm : maxLen = 9223372036854775807 := rfl
  change ls.length ≤ maxLen at hl
  have h := walk_list (f := B13_0) (fun (_ : Unit) i => (((), (), (i : Int), ()), ((nm, v, n, ls, ()), (nm, v, n, ls, ()), ()))) ls (fun _ _ => .inl ()) (fun _ => .inl ((), ())) (b := ()) (fun b i a hi ha => by
      simp only [B13_0, nat_lt, nat_nn, hi, decide_true, Bool.and_true, cond_true, Option.bind_some, Int.toNat_natCast, ha, w64_nat (show i < 9223372036854775807 by omega), Bool.true_or, Bool.not_true, Bool.or_false, cond_false, Bool.or_self])
    (fun b => by simp only [B13_0, Int.lt_irrefl, decide_false, cond_false]) (by omega)
  rw [foldS_const] at h
  have h' : L13_0 (((), (), (0:Int), ()), ((nm, v, n, ls, ()), (nm, v, n, ls, ()), ())) = some (.inl ((), ())) := h
  simp only [F13, h', decide_true, Bool.not_true, Bool.or_false, cond_false, Option.bind_some, Bool.or_self]

theorem law5 (b : Box) (hl : b.2.2.2.1.length ≤ maxLen) : F5 ((b, ()), ()) = some (true, ()) := by
  have e16 := F16_eq b
  have e17 := F17_eq b
  have e18 := F18_eq b hl
  have e19 := F19_eq b hl
  obtain ⟨nm, v, n, ls, u⟩ := b
  cases u
  simp only [F5, live12, e16, e17, e18, e19, Option.bind_some, cond_true, decide_true]

theorem add_len (b : Box) (f : UInt8) (p : List UInt8) : (add b f p).1.2.2.2.1.length ≤ 32 := by
  unfold add
  by_cases h0 : check b = 0
  · have R := check_zero.mp h0
    have := R.few
    rw [if_neg (not_not_intro h0)]
    split
    · exact Nat.zero_le _
    · split
      · exact Nat.zero_le _
      · split
        · exact Nat.zero_le _
        · rename_i h
          simp only [List.length_append, List.length_cons, List.length_nil]
          omega
  · rw [if_pos h0]
    exact Nat.zero_le _

theorem law3 (b : Box) (f : UInt8) (p : List UInt8) : F3 ((b, f, p, ()), ()) = some (true, ()) := by
  have e10 := F10_eq b f p
  have e11 := F11_eq b f p
  have hl := add_len b f p
  have hm : maxLen = 9223372036854775807 := rfl
  have e13 := F13_self (add b f p).1 (by omega)
  generalize add b f p = r at *
  obtain ⟨⟨nm', v', n', ls', u'⟩, x, y, u''⟩ := r
  cases u'
  cases u''
  obtain ⟨nm, v, n, ls, u⟩ := b
  cases u
  simp only [F3, e10, e11, live12, e13, Option.bind_some, cond_true, decide_true, Bool.and_true]

end Go.Bx

/- A reader's steps, in plain Lean. -/
import Derived.Test.YtbaocindligcmaaDoorEvV
namespace Go.Dt
open Go Go.Ev

abbrev Ls := List (List UInt8)

def peek (l : Ls) (a : Nat) : List UInt8 := l.getD a []

/-- One letter is taken. -/
def tk (f : List UInt8 → Bool) (l : Ls) (a : Nat) (w : Int) : List UInt8 × Nat × Int :=
  if w = 0 ∧ peek l a ≠ [] ∧ f (peek l a) = true then (peek l a, a + 1, 0) else ([], a, if w = 0 then (if a = l.length then 3 else 4) else w)

def isdig (c : List UInt8) : Bool := decide (c.length = 1) && decide (48 ≤ (c.getD 0 0).toNat) && decide ((c.getD 0 0).toNat ≤ 57)

def dval (c : List UInt8) : Int := (((c.getD 0 0) - 48).toNat : Int)

/-- A number of some more digits. -/
def nm (below : Int) (l : Ls) : Nat → Int → Nat → Int → Int × Nat × Int
  | 0, v, a, w => (v, a, w)
  | j + 1, v, a, w =>
    let t := tk (fun c => isdig c && decide ((v * 10 + dval c) * 10 ^ j < below)) l a w
    nm below l j (if t.1 = [] then v else v * 10 + dval t.1) t.2.1 t.2.2

def low1 (b : UInt8) : UInt8 := if 65 ≤ b.toNat ∧ b.toNat ≤ 90 then b + 32 else b

def low (s : List UInt8) : List UInt8 := s.map low1

def hit (names : Ls) (k : Nat) (got : List UInt8) : Option Nat := names.findIdx? fun x => decide (x.length = k) && decide (low x = low got)

def goes (names : Ls) (k : Nat) (got c : List UInt8) : Bool := names.any fun x => decide (k < x.length) && decide (low (x.take k) = low got) && decide (low ((x.drop k).take 1) = low c)

/-- A word, of which `k` letters are read. -/
def wd (names l : Ls) : Nat → Nat → List UInt8 → Nat → Int → Int × Nat × Int
  | 0, _, _, a, w => (0, a, w)
  | f + 1, k, got, a, w =>
    match hit names k got with
    | some i => ((i : Int), a, w)
    | none =>
      let t := tk (goes names k got) l a w
      if t.1 = [] then (0, t.2.1, t.2.2) else wd names l f (k + 1) (got ++ t.1) t.2.1 t.2.2

theorem tk_le (f : List UInt8 → Bool) {l : Ls} {a : Nat} {w : Int} (h : a ≤ l.length) : (tk f l a w).2.1 ≤ l.length := by
  unfold tk
  split
  · next hc =>
    have : a < l.length := by
      rcases Nat.lt_or_ge a l.length with h1 | h1
      · exact h1
      · exact absurd (by rw [peek, List.getD_eq_getElem?_getD, List.getElem?_eq_none h1]; rfl) hc.2.1
    show a + 1 ≤ _
    omega
  · exact h

end Go.Dt

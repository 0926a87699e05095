/- The days of an era, each looked at. -/
import Derived.Test.YtbaocindligcmaaD3
namespace Go.Dt

def chk (doe : Nat) : Bool :=
  let yoe := (doe - doe / 1460 + doe / 36524 - doe / 146096) / 365
  let s := 365 * yoe + yoe / 4 - yoe / 100
  Nat.ble s doe && Nat.ble yoe 399 && (Nat.ble (doe - s) 364 || (Nat.beq (doe - s) 365 && ((Nat.beq ((yoe + 1) % 4) 0 && !Nat.beq ((yoe + 1) % 100) 0) || Nat.beq ((yoe + 1) % 400) 0)))

def all2 (f : Nat → Bool) : Nat → Nat → Bool
  | 0, lo => f lo
  | k + 1, lo => all2 f k lo && all2 f k (lo + 2 ^ k)

theorem all2_ok {f : Nat → Bool} : ∀ (k lo : Nat), all2 f k lo = true → ∀ i, lo ≤ i → i < lo + 2 ^ k → f i = true
  | 0, lo, h, i, h1, h2 => by
    have : i = lo := by omega
    subst this; exact h
  | k + 1, lo, h, i, h1, h2 => by
    simp only [all2, Bool.and_eq_true] at h
    have hp : 2 ^ (k + 1) = 2 ^ k + 2 ^ k := by rw [Nat.pow_succ]; omega
    rcases Nat.lt_or_ge i (lo + 2 ^ k) with hi | hi
    · exact all2_ok k lo h.1 i h1 hi
    · exact all2_ok k (lo + 2 ^ k) h.2 i hi (by omega)

def chk' (doe : Nat) : Bool := Nat.ble 146097 doe || chk doe

set_option maxRecDepth 100000 in
theorem era_all : all2 chk' 18 0 = true := by kernel_rfl

theorem era_nat {doe : Nat} (h : doe ≤ 146096) : chk doe = true := by
  have := all2_ok 18 0 era_all doe (Nat.zero_le _) (by omega)
  unfold chk' at this
  have hb : Nat.ble 146097 doe = false := by
    cases hh : Nat.ble 146097 doe with
    | false => rfl
    | true => have := Nat.le_of_ble_eq_true hh; omega
  simpa [hb] using this

/-- The year of an era that a day of it lies in. -/
theorem era {doe : Int} (h : 0 ≤ doe) (h2 : doe ≤ 146096) {yoe : Int} (hy : yoe = (doe - doe / 1460 + doe / 36524 - doe / 146096) / 365) :
    0 ≤ yoe ∧ yoe ≤ 399 ∧ 0 ≤ doe - (365 * yoe + yoe / 4 - yoe / 100) ∧
    (doe - (365 * yoe + yoe / 4 - yoe / 100) ≤ 364 ∨ (doe - (365 * yoe + yoe / 4 - yoe / 100) = 365 ∧ (((yoe + 1) % 4 = 0 ∧ ¬ (yoe + 1) % 100 = 0) ∨ (yoe + 1) % 400 = 0))) := by
  obtain ⟨n, rfl⟩ : ∃ n : Nat, doe = (n : Int) := ⟨doe.toNat, by omega⟩
  have hc := era_nat (doe := n) (by omega)
  unfold chk at hc
  simp only [Bool.and_eq_true, Bool.or_eq_true, Bool.not_eq_true'] at hc
  obtain ⟨⟨a1, a2⟩, a3⟩ := hc
  have a1 := Nat.le_of_ble_eq_true a1
  have a2 := Nat.le_of_ble_eq_true a2
  generalize hyn : (n - n / 1460 + n / 36524 - n / 146096) / 365 = yn at a1 a2 a3
  have hyy : yoe = (yn : Int) := by omega
  subst hyy
  refine ⟨by omega, by omega, by omega, ?_⟩
  rcases a3 with a3 | ⟨a3, a4⟩
  · left; have a3 := Nat.le_of_ble_eq_true a3; omega
  · right
    have a3 := Nat.eq_of_beq_eq_true a3
    refine ⟨by omega, ?_⟩
    rcases a4 with ⟨a4, a5⟩ | a4
    · left
      have a4 := Nat.eq_of_beq_eq_true a4
      have a5 : ¬ (yn + 1) % 100 = 0 := fun e => by rw [e] at a5; cases a5
      omega
    · right
      have a4 := Nat.eq_of_beq_eq_true a4
      omega

end Go.Dt

/-
  Whole roots, and which origins fit an arrival: plain facts. Conditions: none.
-/
import Derived.Test.YtjdfmhjgboomcaaB2
import Derived.Test.YtjdfmhjgboomcaaTArrival
import Derived.Test.YtjdfmhjgboomcaaTOrigin
set_option linter.unusedSimpArgs false
set_option linter.unusedVariables false
namespace Go.Proofs
open Go.Lv
/-- The whole root, rounded down. -/
def isq : Nat → Nat
  | 0 => 0
  | n + 1 => if (isq n + 1) * (isq n + 1) ≤ n + 1 then isq n + 1 else isq n
theorem isq_spec : ∀ n, isq n * isq n ≤ n ∧ n < (isq n + 1) * (isq n + 1)
  | 0 => by simp [isq]
  | n + 1 => by
    have ih := isq_spec n
    unfold isq
    split
    · rename_i h
      refine ⟨h, ?_⟩
      have e : (isq n + 1 + 1) * (isq n + 1 + 1) = (isq n + 1) * (isq n + 1) + 2 * (isq n + 1) + 1 := by
        simp only [Nat.add_mul, Nat.mul_add]; omega
      omega
    · rename_i h
      omega
theorem isq_le {n m : Nat} : m ≤ isq n ↔ m * m ≤ n := by
  have h := isq_spec n
  constructor
  · intro g; exact Nat.le_trans (Nat.mul_self_le_mul_self g) h.1
  · intro g
    by_cases c : m ≤ isq n
    · exact c
    · have := Nat.mul_self_le_mul_self (show isq n + 1 ≤ m by omega)
      omega
/-- The square of the distance, 400-fold. -/
def sqD (a : Arrival) (x y : Int) : Int := 400 * ((a.X - x) * (a.X - x) + (a.Y - y) * (a.Y - y))
theorem sqD_nonneg (a : Arrival) (x y : Int) : 0 ≤ sqD a x y := by
  have h1 := mul_self_nonneg' (a.X - x)
  have h2 := mul_self_nonneg' (a.Y - y)
  unfold sqD; omega
theorem sqD_le {a : Arrival} {x y : Int} (hx : 0 ≤ x ∧ x ≤ 999) (hy : 0 ≤ y ∧ y ≤ 999) (ax : 0 ≤ a.X ∧ a.X ≤ 999) (ay : 0 ≤ a.Y ∧ a.Y ≤ 999) : sqD a x y ≤ 798400800 := by
  have h1 := sq_le (x := a.X - x) (b := 999) (by omega)
  have h2 := sq_le (x := a.Y - y) (b := 999) (by omega)
  unfold sqD; omega
def rootD (a : Arrival) (x y : Int) : Nat := isq (sqD a x y).toNat
theorem rootD_le {a : Arrival} {x y : Int} (hx : 0 ≤ x ∧ x ≤ 999) (hy : 0 ≤ y ∧ y ≤ 999) (ax : 0 ≤ a.X ∧ a.X ≤ 999) (ay : 0 ≤ a.Y ∧ a.Y ≤ 999) : rootD a x y ≤ 28300 := by
  have h := sqD_le hx hy ax ay
  have h2 := sqD_nonneg a x y
  have h1 := (isq_spec (sqD a x y).toNat).1
  by_cases c : rootD a x y ≤ 28300
  · exact c
  · have := Nat.mul_self_le_mul_self (show 28301 ≤ isq (sqD a x y).toNat by unfold rootD at c; omega)
    omega
def exactD (a : Arrival) (x y : Int) : Bool := decide ((rootD a x y : Int) * (rootD a x y : Int) = sqD a x y)
def upD (a : Arrival) (x y : Int) : Int := if exactD a x y = true then (rootD a x y : Int) else (rootD a x y : Int) + 1
def lowD (a : Arrival) (x y : Int) : Int := max 0 (a.Tick - a.Error - rootD a x y)
def highD (a : Arrival) (x y : Int) : Int := min 1000000 (a.Tick + a.Error - upD a x y)
def fitB (a : Arrival) (o : Origin) : Bool := inB' o.Tick (lowD a o.X o.Y) (highD a o.X o.Y)
theorem int_sq_le {s : Int} (hs : 0 ≤ s) {d : Int} (hd : 0 ≤ d) : d * d ≤ s ↔ d ≤ (isq s.toNat : Int) := by
  obtain ⟨n, rfl⟩ := Int.eq_ofNat_of_zero_le hs
  obtain ⟨m, rfl⟩ := Int.eq_ofNat_of_zero_le hd
  have h := isq_le (n := n) (m := m)
  have e : ((m * m : Nat) : Int) = (m : Int) * (m : Int) := Int.natCast_mul m m
  simp only [Int.toNat_natCast]
  omega
theorem sqD_up {a : Arrival} {x y d : Int} (hd : 0 ≤ d) : sqD a x y ≤ d * d ↔ upD a x y ≤ d := by
  have hs := sqD_nonneg a x y
  have h1 := int_sq_le hs hd
  have h0 := int_sq_le hs (d := (rootD a x y : Int)) (by omega)
  have hr : (rootD a x y : Int) * (rootD a x y : Int) ≤ sqD a x y := h0.2 (Int.le_refl _)
  have hr1 : ((isq (sqD a x y).toNat : Nat) : Int) = (rootD a x y : Int) := rfl
  rw [hr1] at h1
  unfold upD exactD
  by_cases e : (rootD a x y : Int) * (rootD a x y : Int) = sqD a x y
  · rw [if_pos (by simpa using e)]
    constructor
    · intro g
      by_cases c : (rootD a x y : Int) ≤ d
      · exact c
      · exfalso
        obtain ⟨m, rfl⟩ := Int.eq_ofNat_of_zero_le hd
        have := Nat.mul_self_lt_mul_self (show m < rootD a x y by omega)
        have e1 : ((m * m : Nat) : Int) = (m : Int) * (m : Int) := Int.natCast_mul m m
        have e2 : ((rootD a x y * rootD a x y : Nat) : Int) = (rootD a x y : Int) * (rootD a x y : Int) := Int.natCast_mul _ _
        omega
    · intro g
      rw [← e]
      obtain ⟨m, rfl⟩ := Int.eq_ofNat_of_zero_le hd
      have := Nat.mul_self_le_mul_self (show rootD a x y ≤ m by omega)
      have e1 : ((m * m : Nat) : Int) = (m : Int) * (m : Int) := Int.natCast_mul m m
      have e2 : ((rootD a x y * rootD a x y : Nat) : Int) = (rootD a x y : Int) * (rootD a x y : Int) := Int.natCast_mul _ _
      omega
  · rw [if_neg (by simpa using e)]
    constructor
    · intro g
      by_cases c : d * d ≤ sqD a x y
      · have ee : d * d = sqD a x y := by omega
        have c1 := h1.1 c
        exfalso
        obtain ⟨m, rfl⟩ := Int.eq_ofNat_of_zero_le hd
        have := Nat.mul_self_le_mul_self (show m ≤ rootD a x y by omega)
        have e1 : ((m * m : Nat) : Int) = (m : Int) * (m : Int) := Int.natCast_mul m m
        have e2 : ((rootD a x y * rootD a x y : Nat) : Int) = (rootD a x y : Int) * (rootD a x y : Int) := Int.natCast_mul _ _
        omega
      · have : ¬ d ≤ (rootD a x y : Int) := fun k => c (h1.2 k)
        omega
    · intro g
      have : ¬ d * d ≤ sqD a x y := fun k => by have := h1.1 k; omega
      omega
/-- What the reference asks is whether the tick lies within the bounds. -/
theorem fitB_spec {a : Arrival} {o : Origin} (ht : 0 ≤ o.Tick ∧ o.Tick ≤ 1000000) :
    (decide (0 ≤ a.Tick + a.Error - o.Tick) && (decide (sqD a o.X o.Y ≤ (a.Tick + a.Error - o.Tick) * (a.Tick + a.Error - o.Tick)) && (decide (a.Tick - a.Error - o.Tick ≤ 0) || decide ((a.Tick - a.Error - o.Tick) * (a.Tick - a.Error - o.Tick) ≤ sqD a o.X o.Y)))) = fitB a o := by
  have hs := sqD_nonneg a o.X o.Y
  have hu0 : 0 ≤ upD a o.X o.Y := by unfold upD; split <;> omega
  rw [Bool.eq_iff_iff]
  simp only [Bool.and_eq_true, Bool.or_eq_true, decide_eq_true_eq]
  unfold fitB lowD highD
  rw [inB'_iff]
  constructor
  · rintro ⟨h1, h2, h3⟩
    have g := (sqD_up h1).1 h2
    have k : a.Tick - a.Error - o.Tick ≤ (rootD a o.X o.Y : Int) := by
      rcases h3 with h3 | h3
      · omega
      · by_cases c : 0 ≤ a.Tick - a.Error - o.Tick
        · exact (int_sq_le hs c).1 h3
        · omega
    omega
  · rintro ⟨h1, h2⟩
    have h0 : 0 ≤ a.Tick + a.Error - o.Tick := by omega
    refine ⟨h0, (sqD_up h0).2 (by omega), ?_⟩
    by_cases c : a.Tick - a.Error - o.Tick ≤ 0
    · exact .inl c
    · exact .inr ((int_sq_le hs (by omega)).2 (by show _ ≤ (rootD a o.X o.Y : Int); omega))
end Go.Proofs

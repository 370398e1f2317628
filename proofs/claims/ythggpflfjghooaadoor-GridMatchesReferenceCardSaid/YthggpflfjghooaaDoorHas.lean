/- has of the law's package, and what a tile's box says of a point. -/
import Derived.Test.YthggpflfjghooaaDoorBase
import Derived.Test.YthggpflfjghooaaDoorPure
namespace Go.Proofs.YthggpflfjghooaaDoor
open Go.RowKit Go.Sort

def hasB (a b c d x y : Int) : Bool := decide (a ≤ x ∧ x ≤ c ∧ b ≤ y ∧ y ≤ d)

set_option maxHeartbeats 1000000 in
theorem has_any (a b c d x y : Int) (w : World) : Calls Tryd.prog 14 #[.agg #[.int .i64 a, .int .i64 b, .int .i64 c, .int .i64 d], .agg #[.int .i64 x, .int .i64 y]] w (RetB w (.bool (hasB a b c d x y))) := by
  have HB : Hid (hasB a b c d x y = decide (a ≤ x ∧ x ≤ c ∧ b ≤ y ∧ y ≤ d)) := Lib.hid rfl
  by_cases h0 : a ≤ x
  all_goals by_cases h1 : x ≤ c
  all_goals by_cases h2 : b ≤ y
  all_goals
    go_enter Tryd.func14, Tryd.ntmps14
    go_wp2
  all_goals
    go_ret
    refine RetB.mk' (congrArg Value.bool ?_) (((Below.refl _ _).alloc (Nat.le_refl _) _).alloc (by simp) _)
    rw [HB.out, Bool.eq_iff_iff]
    simp
    try omega

theorem div_iff {s : Int} (hs : 0 < s) (p x : Int) : p / s = x ↔ x * s ≤ p ∧ p ≤ x * s + s - 1 := by
  have h1 := Int.mul_ediv_add_emod p s
  have h2 := Int.emod_nonneg p (by omega : s ≠ 0)
  have h3 := Int.emod_lt_of_pos p hs
  constructor
  · rintro rfl
    rw [Int.mul_comm]
    omega
  · rintro ⟨h4, h5⟩
    have h6 : p / s * s + p % s = p := by rw [Int.mul_comm]; exact h1
    rcases Int.lt_trichotomy (p / s) x with h | h | h
    · have : (p / s + 1) * s ≤ x * s := Int.mul_le_mul_of_nonneg_right (by omega) (by omega)
      rw [Int.add_mul, Int.one_mul] at this
      omega
    · exact h
    · have : (x + 1) * s ≤ p / s * s := Int.mul_le_mul_of_nonneg_right (by omega) (by omega)
      rw [Int.add_mul, Int.one_mul] at this
      omega

/-- A valid tile's box has a point exactly if it is the tile of that point. -/
theorem has_box {z x y : Int} (h : validB z x y = true) (px py : Int) :
    hasB (boxF z x y).a (boxF z x y).b (boxF z x y).c (boxF z x y).d px py = decide (px / side z = x ∧ py / side z = y) := by
  obtain ⟨h0, h1, -⟩ := valid_spec h
  have hs := side_bd z h0 h1
  unfold boxF hasB
  rw [if_pos h]
  simp only
  rw [Bool.eq_iff_iff]
  simp only [decide_eq_true_eq, div_iff (by omega : 0 < side z)]
  constructor
  · rintro ⟨a, b, c, d⟩; exact ⟨⟨a, b⟩, c, d⟩
  · rintro ⟨⟨a, b⟩, c, d⟩; exact ⟨a, b, c, d⟩

/-- The tile of a point is valid. -/
theorem of_valid {z px py : Int} (hl : levelB z = true) (hi : insideB px py = true) : validB z (px / side z) (py / side z) = true := by
  have hz : 0 ≤ z ∧ z ≤ 17 := by simpa [levelB] using hl
  have hi' : 0 ≤ px ∧ px < 1048576 ∧ 0 ≤ py ∧ py < 1048576 := by simpa [insideB] using hi
  have hs := side_bd z hz.1 hz.2
  have hp := side_pow z hz.1 hz.2
  obtain ⟨a, b, c, d⟩ := hi'
  unfold validB
  refine decide_eq_true ⟨hz, Int.ediv_nonneg a (by omega), Int.ediv_lt_of_lt_mul (by omega) (by rw [Int.mul_comm]; omega), Int.ediv_nonneg c (by omega), Int.ediv_lt_of_lt_mul (by omega) (by rw [Int.mul_comm]; omega)⟩

theorem side_up {z : Int} (h0 : 0 < z) (h1 : z ≤ 17) : side (z - 1) = side z * 2 := by
  rcases lev17 (by omega) h1 with rfl | rfl | rfl | rfl | rfl | rfl | rfl | rfl | rfl | rfl | rfl | rfl | rfl | rfl | rfl | rfl | rfl | rfl <;> first | omega | decide

theorem div_up {z : Int} (h0 : 0 < z) (h1 : z ≤ 17) (p : Int) : p / side z / 2 = p / side (z - 1) := by
  have hs := side_bd z (by omega) h1
  rw [side_up h0 h1, Int.ediv_ediv, if_neg (by omega), Int.sub_zero]
end Go.Proofs.YthggpflfjghooaaDoor

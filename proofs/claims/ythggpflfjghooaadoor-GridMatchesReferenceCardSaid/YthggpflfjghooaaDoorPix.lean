/- What a pixel's numbers are: in plain numbers; and half of the law's package. -/
import Derived.Test.YthggpflfjghooaaDoorHas
namespace Go.Proofs.YthggpflfjghooaaDoor
open Go.RowKit Go.Sort

theorem half_any (n : Int) (h0 : -9223372036854775808 ≤ n) (h1 : n ≤ 9223372036854775807) (w : World) : Calls Tryd.prog 17 #[.int .i64 n] w (RetB w (.int .i64 (n / 2))) := by
  go_enter Tryd.func17, Tryd.ntmps17
  go_wp2
  go_ret
  exact RetB.mk' rfl (Below.refl _ _)

theorem scale_mono {z m n : Int} (h0 : 0 ≤ z) (h1 : z ≤ 17) (h : m ≤ n) : scaleF z m ≤ scaleF z n := by
  have hs := side_bd z h0 h1
  exact Int.ediv_le_ediv (by omega) (by omega)

theorem scale_nonneg {z n : Int} (h0 : 0 ≤ z) (h1 : z ≤ 17) : 0 ≤ scaleF z n ↔ 0 ≤ n := by
  have hs := side_bd z h0 h1
  unfold scaleF
  rw [Int.le_ediv_iff_mul_le (by omega)]
  omega

theorem scale_lt {z n : Int} (h0 : 0 ≤ z) (h1 : z ≤ 17) : scaleF z n < 256 ↔ n < side z := by
  have hs := side_bd z h0 h1
  unfold scaleF
  rw [Int.ediv_lt_iff_lt_mul (by omega)]
  omega

theorem scale_bd {z n : Int} (h0 : 0 ≤ z) (h1 : z ≤ 17) (ha : -4000000 ≤ n) (hb : n ≤ 4000000) : -1024000000 ≤ scaleF z n ∧ scaleF z n ≤ 1024000000 := by
  have hs := side_bd z h0 h1
  unfold scaleF
  constructor
  · rw [Int.le_ediv_iff_mul_le (by omega)]
    omega
  · have : n * 256 / side z < 1024000001 := by
      rw [Int.ediv_lt_iff_lt_mul (by omega)]
      omega
    omega

/-- A pixel lies in its tile exactly if the point lies in the tile's box. -/
theorem pixel_in {z x y : Int} (h : validB z x y = true) (px py : Int) :
    hasB (x * side z) (y * side z) (x * side z + side z - 1) (y * side z + side z - 1) px py =
      decide (0 ≤ scaleF z (px - x * side z) ∧ scaleF z (px - x * side z) < 256 ∧ 0 ≤ scaleF z (py - y * side z) ∧ scaleF z (py - y * side z) < 256) := by
  obtain ⟨h0, h1, -⟩ := valid_spec h
  unfold hasB
  rw [Bool.eq_iff_iff]
  simp only [decide_eq_true_eq, scale_nonneg h0 h1, scale_lt h0 h1]
  constructor <;> (intro; omega)

theorem pow_up {z : Int} (h0 : 0 < z) (h1 : z ≤ 17) : (2 : Int) ^ z.toNat = 2 * 2 ^ (z - 1).toNat := by
  rcases lev17 (by omega) h1 with rfl | rfl | rfl | rfl | rfl | rfl | rfl | rfl | rfl | rfl | rfl | rfl | rfl | rfl | rfl | rfl | rfl | rfl <;> first | omega | decide

theorem up_valid {z x y : Int} (h : validB z x y = true) (hz : 0 < z) : validB (z - 1) (x / 2) (y / 2) = true := by
  have h' : (0 ≤ z ∧ z ≤ 17) ∧ 0 ≤ x ∧ x < 2 ^ z.toNat ∧ 0 ≤ y ∧ y < 2 ^ z.toNat := by simpa [validB] using h
  obtain ⟨⟨h0, h1⟩, a, b, c, d⟩ := h'
  have hp := pow_up hz h1
  unfold validB
  exact decide_eq_true ⟨⟨by omega, by omega⟩, by omega, by omega, by omega, by omega⟩

/-- The pixel of the tile above. -/
theorem up_scale {z : Int} (h0 : 0 < z) (h1 : z ≤ 17) (p x : Int) : scaleF (z - 1) (p - x / 2 * side (z - 1)) = (scaleF z (p - x * side z) + 256 * (x % 2)) / 2 := by
  have hs := side_bd z (by omega) h1
  have e1 : scaleF z (p - x * side z) + 256 * (x % 2) = (p - x / 2 * (side z * 2)) * 256 / side z := by
    unfold scaleF
    rw [← Int.add_mul_ediv_right _ _ (by omega : side z ≠ 0)]
    congr 1
    have e2 : x * side z = 2 * (x / 2) * side z + x % 2 * side z := by rw [← Int.add_mul, Int.mul_ediv_add_emod]
    have e3 : x / 2 * (side z * 2) = 2 * (x / 2) * side z := by rw [Int.mul_comm (side z) 2, ← Int.mul_assoc, Int.mul_comm (x / 2) 2]
    have e4 : 256 * (x % 2) * side z = 256 * (x % 2 * side z) := Int.mul_assoc _ _ _
    rw [e2, e3, e4]
    generalize x % 2 * side z = A
    generalize 2 * (x / 2) * side z = B
    omega
  rw [e1, Int.ediv_ediv, if_neg (by omega), Int.sub_zero]
  unfold scaleF
  rw [side_up h0 h1]
end Go.Proofs.YthggpflfjghooaaDoor

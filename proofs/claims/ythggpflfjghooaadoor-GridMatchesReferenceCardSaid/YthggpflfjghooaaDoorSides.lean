/- grid.sides returns the eighteen sides. No condition. -/
import Derived.Test.YthggpflfjghooaaDoorBase
namespace Go.Proofs.YthggpflfjghooaaDoor
open Go.RowKit Go.Sort

def sidesV : Array Value := #[.int .i64 1048576, .int .i64 524288, .int .i64 262144, .int .i64 131072, .int .i64 65536, .int .i64 32768, .int .i64 16384, .int .i64 8192, .int .i64 4096, .int .i64 2048, .int .i64 1024, .int .i64 512, .int .i64 256, .int .i64 128, .int .i64 64, .int .i64 32, .int .i64 16, .int .i64 8]
/-- The first k sides, then noughts. -/
def sidesUp (k : Nat) : Array Value := ((sidesV.toList.take k) ++ List.replicate (18 - k) (Value.int .i64 0)).toArray
theorem sidesUp_set (k : Nat) (h : k < 18) : (sidesUp k).setIfInBounds k (.int .i64 (1048576 / 2 ^ k)) = sidesUp (k + 1) := by
  have : k = 0 ∨ k = 1 ∨ k = 2 ∨ k = 3 ∨ k = 4 ∨ k = 5 ∨ k = 6 ∨ k = 7 ∨ k = 8 ∨ k = 9 ∨ k = 10 ∨ k = 11 ∨ k = 12 ∨ k = 13 ∨ k = 14 ∨ k = 15 ∨ k = 16 ∨ k = 17 := by omega
  rcases this with rfl | rfl | rfl | rfl | rfl | rfl | rfl | rfl | rfl | rfl | rfl | rfl | rfl | rfl | rfl | rfl | rfl | rfl <;> rfl

theorem sidesUp_get (k : Nat) (h : k < 18) : (sidesUp k)[k]? = some (.int .i64 0) := by
  have : k = 0 ∨ k = 1 ∨ k = 2 ∨ k = 3 ∨ k = 4 ∨ k = 5 ∨ k = 6 ∨ k = 7 ∨ k = 8 ∨ k = 9 ∨ k = 10 ∨ k = 11 ∨ k = 12 ∨ k = 13 ∨ k = 14 ∨ k = 15 ∨ k = 16 ∨ k = 17 := by omega
  rcases this with rfl | rfl | rfl | rfl | rfl | rfl | rfl | rfl | rfl | rfl | rfl | rfl | rfl | rfl | rfl | rfl | rfl | rfl <;> rfl

set_option maxHeartbeats 1000000 in
set_option maxRecDepth 100000 in
theorem sides_any (w : World) : Calls Tryd.prog 34 #[] w (RetB w (.agg sidesV)) := by
  go_enter Tryd.func34, Tryd.ntmps34
  go_wp2
  go_loopw [3] (fun v wr => ∃ k : Nat, k ≤ 18 ∧ v = .int .i64 k ∧ Below w.heap.size w wr ∧ Box wr w.heap.size (sidesUp 0) 62 ∧ Box wr (w.heap.size + 1) (sidesUp k) 62) (fun v _ => 18 - (intOf v).toNat)
  case atStart => exact ⟨0, by omega, rfl, (((Below.refl _ _).alloc (Nat.le_refl _) _).alloc (by simp) _), (Box.new _ _ _).alloc _, Box.new' (by simp) _ _⟩
  case round =>
    obtain ⟨k, hk, rfl, hB, b0, b1⟩ := hrel
    by_cases hlt : k < 18
    · have hc := b1.cell k
      have hf := b1.frozen k
      rw [sidesUp_get k hlt] at hc
      have H1 := Lib.hid b1
      go_wp2
      go_roundw
      case rel =>
        refine ⟨k + 1, by omega, by go_num, hB.setCell (by simp) _, b0.set_other (by omega) _ _, ?_⟩
        have := b1.set k (.int .i64 (1048576 / 2 ^ k))
        rwa [sidesUp_set k hlt] at this
      case measure => simp [intOf]; omega
    · obtain rfl : k = 18 := by omega
      go_wp2_with (first
        | refine wpList_load_row rfl 62 (.tmp 1) rfl (w.heap.size + 1) (by rfl) 62 (sidesUp 18) (0, 0) _ b1 Tryd.underlying62 rfl (by kernel_rfl) ?_
        | refine wpList_store_mid rfl 62 (.tmp 0) (.tmp 11) rfl w.heap.size 0 (sidesUp 18) (by rfl) (by rfl) b0.there (by kernel_rfl) (by kernel_rfl) ?_)
      have b2 := b0.setAll (vs := sidesUp 18) rfl
      exact ret_box (by rfl) (by rfl) b2 Tryd.underlying62 rfl (by kernel_rfl) rfl (RetB.mk' rfl (Below.setCells' (Nat.le_refl _) _ _ _ hB))
end Go.Proofs.YthggpflfjghooaaDoor

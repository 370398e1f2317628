/- Pixel of package grid. No condition. -/
import Derived.Test.YthggpflfjghooaaDoorB
namespace Go.Proofs.YthggpflfjghooaaDoor
open Go.RowKit Go.Sort

theorem boxF_ok {z x y : Int} (h : validB z x y = true) : boxF z x y = ⟨x * side z, y * side z, x * side z + side z - 1, y * side z + side z - 1, 0⟩ := by unfold boxF; rw [if_pos h]
theorem boxF_no {z x y : Int} (h : validB z x y = false) : boxF z x y = ⟨0, 0, 0, 0, 1⟩ := by unfold boxF; rw [h]; rfl

set_option maxRecDepth 100000 in
set_option maxHeartbeats 2000000 in
theorem pixel_any (z x y px py : Int) (w : World) : Calls Tryd.prog 16 #[.agg #[.int .i64 z, .int .i64 x, .int .i64 y], .agg #[.int .i64 px, .int .i64 py]] w (RetB w (pixelF z x y px py).v) := by
  go_enter Tryd.func16, Tryd.ntmps16
  go_wp2_with fail
  refine calls_abs (fun W => Below w.heap.size w W ∧ Box W w.heap.size #[.int .i64 z, .int .i64 x, .int .i64 y] 23 ∧ Box W (w.heap.size + 1) #[.int .i64 px, .int .i64 py] 31 ∧ Box W (w.heap.size + 1 + 1) #[.int .i64 0, .int .i64 0] 31)
    ⟨(((Below.refl _ _).alloc (Nat.le_refl _) _).alloc (by simp) _).alloc (by simp; omega) _, ((Box.new _ _ _).alloc _).alloc _, (Box.new' (by simp) _ _).alloc _, Box.new' (by simp) _ _⟩ ?_
  rintro W ⟨hW, b0, b1, b2⟩
  refine (box_any z x y W).mono ?_
  rintro e w1 ⟨rfl, hb_⟩
  replace hW := hW.trans (hb_.mono hW.size)
  replace b0 := b0.below hb_ b0.lt
  replace b1 := b1.below hb_ b1.lt
  replace b2 := b2.below hb_ b2.lt
  clear hb_
  have r2 := b2.cell
  have f2 := b2.frozen
  have l0 := b0.lt
  have l1 := b1.lt
  have l2 := b2.lt
  cases hl : validB z x y with
  | false =>
    have HR : Hid (pixelF z x y px py = ⟨0, 0, 1⟩) := Lib.hid (by unfold pixelF; rw [hl]; rfl)
    rw [boxF_no hl]
    clear hl
    unfold BE.v
    go_wp2
    exact ret_box2 (by rfl) (by rfl) (by rfl) ((b2.set2 _ _).alloc _) Tryd.underlying31 rfl (by kernel_rfl) rfl (RetB.mk' (by rw [HR.out]; rfl) (by repeat (first | assumption | exact Below.refl _ _ | refine Below.setCell ?_ (by first | (simp; done) | (simp; omega) | omega) _ | refine Below.alloc ?_ (by first | (simp; done) | (simp; omega) | omega) _)))
  | true =>
    have HL := Lib.hid hl
    have hv := valid_spec hl
    obtain ⟨hz0, hz17, hx0, hxs, hy0, hys⟩ := hv
    have hsd := side_bd z hz0 hz17
    obtain ⟨hs8, hs20⟩ := hsd
    have m1 : 0 ≤ x * side z := Int.mul_nonneg hx0 (by omega)
    have m2 : 0 ≤ y * side z := Int.mul_nonneg hy0 (by omega)
    rw [boxF_ok hl]
    clear hl
    unfold BE.v
    have r1 := b1.cell
    by_cases c0 : px < -2097152
    all_goals by_cases c1 : py < -2097152
    all_goals by_cases c2 : 2097152 < px
    all_goals by_cases c3 : 2097152 < py
    all_goals first | (exfalso; omega) | skip
    all_goals by_cases hpy : py < px
    all_goals first | (exfalso; omega) | skip
    all_goals go_wp2_with fail
    all_goals first
      | (have HR : Hid (pixelF z x y px py = ⟨0, 0, 10⟩) := Lib.hid (by unfold pixelF; rw [if_pos HL.out, if_pos (by simp [farB]; omega)])
         exact ret_box2 (by rfl) (by rfl) (by rfl) ((b2.set2 _ _).alloc _) Tryd.underlying31 rfl (by kernel_rfl) rfl (RetB.mk' (by rw [HR.out]; rfl) (by repeat (first | assumption | exact Below.refl _ _ | refine Below.setCell ?_ (by first | (simp; done) | (simp; omega) | omega) _ | refine Below.alloc ?_ (by first | (simp; done) | (simp; omega) | omega) _))))
      | skip
    all_goals
      have HR : Hid (pixelF z x y px py = ⟨scaleF z (px - x * side z), scaleF z (py - y * side z), 0⟩) := Lib.hid (by unfold pixelF; rw [if_pos HL.out, if_neg (by simp [farB]; omega)])
      clear r1 r2 f2
      refine wp_abs (fun W2 => Below w.heap.size w W2 ∧ Box W2 w.heap.size #[.int .i64 z, .int .i64 x, .int .i64 y] 23 ∧ Box W2 (w.heap.size + 1) #[.int .i64 px, .int .i64 py] 31 ∧ Box W2 (w.heap.size + 1 + 1) #[.int .i64 0, .int .i64 0] 31 ∧
        Box W2 w1.heap.size #[.int .i64 (x * side z), .int .i64 (y * side z), .int .i64 (x * side z + side z - 1), .int .i64 (y * side z + side z - 1)] 33)
        ⟨hW.alloc (by omega) _, b0.alloc _, b1.alloc _, b2.alloc _, Box.new _ _ _⟩ ?_
      clear hW b0 b1 b2
      rintro W2 ⟨hW, b0, b1, b2, b3⟩
      have q1 := cell_regrown (b1.cell 0)
      have q2 := cell_regrown (b1.cell 1)
      have q3 := cell_regrown (b3.cell 0)
      have q4 := cell_regrown (b3.cell 1)
      have cX := quietC (W := W2) (fun w' hb => scale_any z (px - x * side z) w.heap.size w' hz0 hz17 (by omega) (by omega) ((b0.below hb b0.lt).cell 0))
      have cY := quietC (W := W2) (fun w' hb => scale_any z (py - y * side z) w.heap.size w' hz0 hz17 (by omega) (by omega) ((b0.below hb b0.lt).cell 0))
    all_goals
      refine wp_region_below_tail 17 (by kernel_rfl) (by kernel_rfl) ?_
      simp only [List.take_succ_cons, List.take_zero, List.drop_succ_cons, List.drop_zero]
      repeat (go_big_quiet_step (first | (with_reducible exact cX _ _) | (with_reducible exact cY _ _)))
      refine wpQuiet_nil ?_
      rintro W3 hb3
      replace hW := hW.trans (hb3.mono hW.size)
      replace b2 := b2.below hb3 b2.lt
      have r2 := b2.cell
      have f2 := b2.frozen
      clear q1 q2 q3 q4 cX cY
      go_wp2
      exact ret_box2 (by rfl) (by rfl) (by rfl) (b2.set2 _ _) Tryd.underlying31 rfl (by kernel_rfl) rfl (RetB.mk' (by rw [HR.out]; rfl) (by repeat (first | assumption | exact Below.refl _ _ | refine Below.setCell ?_ (by first | (simp; done) | (simp; omega) | omega) _ | refine Below.alloc ?_ (by first | (simp; done) | (simp; omega) | omega) _)))
end Go.Proofs.YthggpflfjghooaaDoor

/- The walk of GridPixels: it returns true. -/
import Derived.Test.YthggpflfjghooaaDoorHead
import Derived.Test.YthggpflfjghooaaDoorPix
import Derived.Test.YthggpflfjghooaaDoorEq
namespace Go.Proofs.YthggpflfjghooaaDoor
open Go.RowKit Go.Sort

theorem pixelF_no {z x y px py : Int} (h : validB z x y = false) : pixelF z x y px py = ⟨0, 0, 1⟩ := by unfold pixelF; rw [h]; rfl
theorem pixelF_far {z x y px py : Int} (h : validB z x y = true) (hf : farB px py = true) : pixelF z x y px py = ⟨0, 0, 10⟩ := by unfold pixelF; rw [if_pos h, if_pos hf]
theorem pixelF_ok {z x y px py : Int} (h : validB z x y = true) (hf : farB px py = false) : pixelF z x y px py = ⟨scaleF z (px - x * side z), scaleF z (py - y * side z), 0⟩ := by unfold pixelF; rw [if_pos h, hf]; rfl

theorem five (X Y : Int) : (0 ≤ X ∧ X < 256 ∧ 0 ≤ Y ∧ Y < 256) ∨ X < 0 ∨ (0 ≤ X ∧ 256 ≤ X) ∨ (0 ≤ X ∧ X < 256 ∧ Y < 0) ∨ (0 ≤ X ∧ X < 256 ∧ 0 ≤ Y ∧ 256 ≤ Y) := by omega

set_option maxRecDepth 100000 in
set_option maxHeartbeats 16000000 in
theorem pixels_walk (z x y px py qx qy : Int) (w : World) (hG : Gw w) : Calls Tryd.prog 5 #[.agg #[.int .i64 z, .int .i64 x, .int .i64 y], .agg #[.int .i64 px, .int .i64 py], .agg #[.int .i64 qx, .int .i64 qy]] w (RetB w (.bool true)) := by
  have l0 := hG.size
  go_enter Tryd.func5, Tryd.ntmps5
  go_wp2_with fail
  refine calls_abs (fun W => Below w.heap.size w W ∧ Box W w.heap.size #[.int .i64 z, .int .i64 x, .int .i64 y] 23 ∧ Box W (w.heap.size + 1) #[.int .i64 px, .int .i64 py] 31 ∧ Box W (w.heap.size + 1 + 1) #[.int .i64 qx, .int .i64 qy] 31)
    ⟨(((Below.refl _ _).alloc (Nat.le_refl _) _).alloc (by simp) _).alloc (by simp; omega) _, ((Box.new _ _ _).alloc _).alloc _, (Box.new' (by simp) _ _).alloc _, Box.new' (by simp) _ _⟩ ?_
  rintro W ⟨hW, b0, b1, b2⟩
  refine (head_any _ (hG.below hW l0)).mono ?_
  rintro e w1 ⟨rfl, hb_⟩
  replace hW := hW.trans (hb_.mono hW.size)
  replace b0 := b0.below hb_ b0.lt
  replace b1 := b1.below hb_ b1.lt
  replace b2 := b2.below hb_ b2.lt
  clear hb_
  have r0 := b0.cell
  have k0 := b0.lt
  go_wp2_with fail
  clear r0 k0
  refine (box_any z x y _).mono ?_
  rintro e w2 ⟨rfl, hb_⟩
  replace hW := hW.trans (hb_.mono hW.size)
  replace b0 := b0.below hb_ b0.lt
  replace b1 := b1.below hb_ b1.lt
  replace b2 := b2.below hb_ b2.lt
  clear hb_
  cases hv : validB z x y with
  | false =>
    have HP := @pixelF_no z x y px py hv
    have HQ := @pixelF_no z x y qx qy hv
    rw [boxF_no hv]
    clear hv
    unfold BE.v
    have r0 := b0.cell
    have k0 := b0.lt
    have r1 := b1.cell
    have k1 := b1.lt
    go_wp2_with fail
    clear r0 k0 r1 k1
    refine (pixel_any z x y px py _).mono ?_
    rintro e w3 ⟨rfl, hb_⟩
    have b3 := (Box.new _ _ _).below hb_ (Box.new _ _ _).lt
    replace b0 := (b0.alloc _).below hb_ (b0.alloc _).lt
    replace b1 := (b1.alloc _).below hb_ (b1.alloc _).lt
    replace b2 := (b2.alloc _).below hb_ (b2.alloc _).lt
    replace hW := (hW.alloc hW.size _).trans (hb_.mono (hW.alloc hW.size _).size)
    clear hb_
    rw [HP]
    unfold PE.v
    have r0 := b0.cell
    have k0 := b0.lt
    have r2 := b2.cell
    have k2 := b2.lt
    go_wp2_with fail
    clear r0 k0 r2 k2
    refine (pixel_any z x y qx qy _).mono ?_
    rintro e w4 ⟨rfl, hb_⟩
    have b4 := (Box.new _ _ _).below hb_ (Box.new _ _ _).lt
    replace hW := (hW.alloc hW.size _).trans (hb_.mono (hW.alloc hW.size _).size)
    clear hb_
    rw [HQ]
    unfold PE.v
    go_wp2
    go_ret
    exact RetB.mk' rfl (hW.alloc hW.size _)
  | true =>
    rw [boxF_ok hv]
    unfold BE.v
    have r0 := b0.cell
    have k0 := b0.lt
    have r1 := b1.cell
    have k1 := b1.lt
    go_wp2_with fail
    clear r0 k0 r1 k1
    refine (pixel_any z x y px py _).mono ?_
    rintro e w3 ⟨rfl, hb_⟩
    have b3 := (Box.new _ _ _).below hb_ (Box.new _ _ _).lt
    replace b0 := (b0.alloc _).below hb_ (b0.alloc _).lt
    replace b1 := (b1.alloc _).below hb_ (b1.alloc _).lt
    replace b2 := (b2.alloc _).below hb_ (b2.alloc _).lt
    replace hW := (hW.alloc hW.size _).trans (hb_.mono (hW.alloc hW.size _).size)
    clear hb_
    cases hp : farB px py with
    | true =>
      rw [pixelF_far hv hp]
      clear hp hv
      unfold PE.v
      have r0 := b0.cell
      have k0 := b0.lt
      have r2 := b2.cell
      have k2 := b2.lt
      go_wp2_with fail
      clear r0 k0 r2 k2
      refine (pixel_any z x y qx qy _).mono ?_
      rintro e w4 ⟨rfl, hb_⟩
      have b4 := (Box.new _ _ _).below hb_ (Box.new _ _ _).lt
      replace hW := (hW.alloc hW.size _).trans (hb_.mono (hW.alloc hW.size _).size)
      clear hb_
      generalize pixelF z x y qx qy = R
      unfold PE.v
      go_wp2
      go_ret
      exact RetB.mk' rfl (hW.alloc hW.size _)
    | false =>
      rw [pixelF_ok hv hp]
      unfold PE.v
      have r0 := b0.cell
      have k0 := b0.lt
      have r2 := b2.cell
      have k2 := b2.lt
      go_wp2_with fail
      clear r0 k0 r2 k2
      refine (pixel_any z x y qx qy _).mono ?_
      rintro e w4 ⟨rfl, hb_⟩
      have b4 := (Box.new _ _ _).below hb_ (Box.new _ _ _).lt
      replace b0 := (b0.alloc _).below hb_ (b0.alloc _).lt
      replace b1 := (b1.alloc _).below hb_ (b1.alloc _).lt
      replace b2 := (b2.alloc _).below hb_ (b2.alloc _).lt
      replace b3 := (b3.alloc _).below hb_ (b3.alloc _).lt
      replace hW := (hW.alloc hW.size _).trans (hb_.mono (hW.alloc hW.size _).size)
      clear hb_
      cases hq : farB qx qy with
      | true =>
        rw [pixelF_far hv hq]
        clear hp hv hq
        unfold PE.v
        go_wp2
        go_ret
        exact RetB.mk' rfl (hW.alloc hW.size _)
      | false =>
        rw [pixelF_ok hv hq]
        unfold PE.v
        obtain ⟨h0, h1, hx0, -, hy0, -⟩ := valid_spec hv
        have fp : (-2097152 ≤ px ∧ px ≤ 2097152) ∧ (-2097152 ≤ py ∧ py ≤ 2097152) := by simp [farB] at hp; omega
        have hs := side_bd z h0 h1
        obtain ⟨h2, h3, hx0, hxs, hy0, hys⟩ := valid_spec hv
        have m1 : 0 ≤ x * side z := Int.mul_nonneg hx0 (by omega)
        have m2 : 0 ≤ y * side z := Int.mul_nonneg hy0 (by omega)
        have BX := @scale_bd z (px - x * side z) h0 h1 (by omega) (by omega)
        have BY := @scale_bd z (py - y * side z) h0 h1 (by omega) (by omega)
        have HI := pixel_in hv px py
        have XL : px ≤ qx → scaleF z (px - x * side z) ≤ scaleF z (qx - x * side z) := fun h => scale_mono h0 h1 (by omega)
        have YL : py ≤ qy → scaleF z (py - y * side z) ≤ scaleF z (qy - y * side z) := fun h => scale_mono h0 h1 (by omega)
        have US : Hid (0 < z → pixelF (z - 1) (x / 2) (y / 2) px py = ⟨(scaleF z (px - x * side z) + 256 * (x % 2)) / 2, (scaleF z (py - y * side z) + 256 * (y % 2)) / 2, 0⟩) :=
          Lib.hid (fun h => by rw [pixelF_ok (up_valid hv h) hp, up_scale h h1, up_scale h h1])
        have HU : Hid (upF z x y = if z = 0 then ⟨0, 0, 0, 11⟩ else ⟨z - 1, x / 2, y / 2, 0⟩) := Lib.hid (by unfold upF; rw [if_pos hv])
        generalize scaleF z (px - x * side z) = X1 at *
        generalize scaleF z (py - y * side z) = Y1 at *
        generalize scaleF z (qx - x * side z) = X2 at *
        generalize scaleF z (qy - y * side z) = Y2 at *
        have vx := valid_le hv
        clear hv hp hq fp hxs hys h2 h3
        obtain ⟨BX0, BX1⟩ := BX
        obtain ⟨BY0, BY1⟩ := BY
        obtain ⟨vx0, vx1⟩ := vx
        rcases five X1 Y1 with ⟨c0, c1, c2, c3⟩ | c0 | ⟨c0, c1⟩ | ⟨c0, c1, c2⟩ | ⟨c0, c1, c2, c3⟩
        all_goals by_cases a0 : px ≤ qx
        all_goals by_cases a1 : py ≤ qy
        all_goals first | replace HI := HI.trans (decide_eq_true (by omega)) | replace HI := HI.trans (decide_eq_false (by omega))
        all_goals try have xl := XL a0
        all_goals try have yl := YL a1
        all_goals try have d0 := decide_eq_false (show ¬ (0 ≤ X1) by omega)
        all_goals try have d1 := decide_eq_false (show ¬ (X1 < 256) by omega)
        all_goals try have d2 := decide_eq_false (show ¬ (0 ≤ Y1) by omega)
        all_goals try have d3 := decide_eq_false (show ¬ (Y1 < 256) by omega)
        all_goals try have e0 := decide_eq_false a0
        all_goals try have e1 := decide_eq_false a1
        all_goals try have g0 := decide_eq_false (show ¬ (X2 < X1) by omega)
        all_goals try have g1 := decide_eq_false (show ¬ (Y2 < Y1) by omega)
        all_goals
          have r1 := b1.cell
          have k1 := b1.lt
          have r2 := b2.cell
          have k2 := b2.lt
          have r3 := b3.cell
          have k3 := b3.lt
          have r4 := b4.cell
          have k4 := b4.lt
        all_goals go_wp2_with fail
        all_goals
          clear r1 r2 r3 r4 k1 k2 k3 k4
          have n1 := b1.lt
          refine (has_any _ _ _ _ px py _).mono ?_
          rintro e w5 ⟨rfl, hb_⟩
          have b5 := (Box.new _ _ _).below hb_ (Box.new _ _ _).lt
          replace b0 := (b0.alloc _).below hb_ (b0.alloc _).lt
          replace b1 := (b1.alloc _).below hb_ (b1.alloc _).lt
          replace b2 := (b2.alloc _).below hb_ (b2.alloc _).lt
          replace b4 := (b4.alloc _).below hb_ (b4.alloc _).lt
          replace hW := (hW.alloc hW.size _).trans (hb_.mono (hW.alloc hW.size _).size)
          clear hb_
          rw [HI]
          clear HI b3
          have r0 := b0.cell
          have k0 := b0.lt
          have r1 := b1.cell
          have k1 := b1.lt
          have r2 := b2.cell
          have k2 := b2.lt
          have r4 := b4.cell
          have k4 := b4.lt
          have r5 := b5.cell
          have k5 := b5.lt
        all_goals go_wp2_with fail
        all_goals
          clear r0 r1 r2 r4 r5 k0 k1 k2 k4 k5 b2 b5
          refine (up_any z x y _).mono ?_
          rintro e w6 ⟨rfl, hb_⟩
          replace hW := hW.trans (hb_.mono hW.size)
          replace b0 := b0.below hb_ b0.lt
          replace b1 := b1.below hb_ b1.lt
          replace b4 := b4.below hb_ b4.lt
          clear hb_
          rw [HU.out]
          by_cases hz : z = 0
        all_goals first
          | (rw [if_pos hz]
             subst hz
             unfold TE.v
             have r0 := b0.cell
             have k0 := b0.lt
             go_wp2
             go_ret
             exact RetB.mk' rfl (hW.alloc hW.size _))
          | skip
        all_goals
          rw [if_neg hz]
          have US' := US.out (by omega)
          clear US HU
          unfold TE.v
          have r0 := b0.cell
          have k0 := b0.lt
          have r1 := b1.cell
          have k1 := b1.lt
        all_goals go_wp2_with fail
        all_goals
          clear r0 r1 k0 k1
          refine (pixel_any (z - 1) (x / 2) (y / 2) px py _).mono ?_
          rintro e w7 ⟨rfl, hb_⟩
          have b6 := (Box.new _ _ _).below hb_ (Box.new _ _ _).lt
          replace b0 := (b0.alloc _).below hb_ (b0.alloc _).lt
          replace b1 := (b1.alloc _).below hb_ (b1.alloc _).lt
          replace b4 := (b4.alloc _).below hb_ (b4.alloc _).lt
          replace hW := (hW.alloc hW.size _).trans (hb_.mono (hW.alloc hW.size _).size)
          clear hb_
          rw [US']
          clear US' b6
          unfold PE.v
        all_goals go_wp2_with fail
        all_goals
          have hb6 := Box.new w7 #[.int .i64 ((X1 + 256 * (x % 2)) / 2), .int .i64 ((Y1 + 256 * (y % 2)) / 2)] 31
          refine wp_abs (fun W => Below w.heap.size w W ∧ Box W w.heap.size #[.int .i64 z, .int .i64 x, .int .i64 y] 23 ∧ Box W w3.heap.size #[.int .i64 X1, .int .i64 Y1] 31 ∧ Box W w7.heap.size #[.int .i64 ((X1 + 256 * (x % 2)) / 2), .int .i64 ((Y1 + 256 * (y % 2)) / 2)] 31)
            ⟨hW.alloc hW.size _, b0.alloc _, b4.alloc _, hb6⟩ ?_
          clear hW b0 b1 b4 hb6
          rintro W8 ⟨hW, b0, b4, b6⟩
          have q01 := cell_regrown (b0.cell 1)
          have q02 := cell_regrown (b0.cell 2)
          have q40 := cell_regrown (b4.cell 0)
          have q41 := cell_regrown (b4.cell 1)
          have q60 := cell_regrown (b6.cell 0)
          have q61 := cell_regrown (b6.cell 1)
          have cX := quietC (W := W8) (fun w' _ => half_any (X1 + 256 * (x % 2)) (by omega) (by omega) w')
          have cY := quietC (W := W8) (fun w' _ => half_any (Y1 + 256 * (y % 2)) (by omega) (by omega) w')
          have hE := @point_yes ((X1 + 256 * (x % 2)) / 2) ((Y1 + 256 * (y % 2)) / 2) ((X1 + 256 * (x % 2)) / 2) ((Y1 + 256 * (y % 2)) / 2) ⟨rfl, rfl⟩
        all_goals
          refine wp_region_quiet_below (by kernel_rfl) (by kernel_rfl) ?_
          repeat (go_big_quiet_step (first | (with_reducible exact cX _ _) | (with_reducible exact cY _ _)))
          refine wpQuiet_nil ?_
          rintro W9 h9
          replace h9 := below_of_regrown h9
        all_goals
          clear cX cY hE q01 q02 q40 q41 q60 q61
          replace hW := hW.trans (h9.mono hW.size)
          go_wp2
          go_ret
          exact RetB.mk' rfl hW
end Go.Proofs.YthggpflfjghooaaDoor

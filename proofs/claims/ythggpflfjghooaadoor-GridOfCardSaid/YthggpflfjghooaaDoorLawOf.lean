/- The walk of GridOf: it returns true. -/
import Derived.Test.YthggpflfjghooaaDoorHead
import Derived.Test.YthggpflfjghooaaDoorHas
import Derived.Test.YthggpflfjghooaaDoorEq
namespace Go.Proofs.YthggpflfjghooaaDoor
open Go.RowKit Go.Sort

theorem of_none (px py : Int) : ofF px py (-1) = ⟨0, 0, 0, 1⟩ := rfl

set_option maxRecDepth 100000 in
set_option maxHeartbeats 4000000 in
theorem of_walk (px py z tz tx ty : Int) (w : World) (hG : Gw w) : Calls Tryd.prog 4 #[.agg #[.int .i64 px, .int .i64 py], .int .i64 z, .agg #[.int .i64 tz, .int .i64 tx, .int .i64 ty]] w (RetB w (.bool true)) := by
  have l0 := hG.size
  go_enter Tryd.func4, Tryd.ntmps4
  go_wp2_with fail
  refine calls_abs (fun W => Below w.heap.size w W ∧ Box W w.heap.size #[.int .i64 px, .int .i64 py] 31 ∧ Box W (w.heap.size + 1) #[.int .i64 tz, .int .i64 tx, .int .i64 ty] 23)
    ⟨((Below.refl _ _).alloc (Nat.le_refl _) _).alloc (by simp) _, (Box.new _ _ _).alloc _, Box.new' (by simp) _ _⟩ ?_
  rintro W ⟨hW, b0, b1⟩
  refine (head_any _ (hG.below hW l0)).mono ?_
  rintro e w1 ⟨rfl, hb_⟩
  replace hW := hW.trans (hb_.mono hW.size)
  replace b0 := b0.below hb_ b0.lt
  replace b1 := b1.below hb_ b1.lt
  clear hb_
  have r0 := b0.cell
  go_wp2_with fail
  clear r0
  refine (of_any px py z _).mono ?_
  rintro e w2 ⟨rfl, hb_⟩
  replace hW := hW.trans (hb_.mono hW.size)
  replace b0 := b0.below hb_ b0.lt
  replace b1 := b1.below hb_ b1.lt
  clear hb_
  cases hl : levelB z with
  | false =>
    have HR : ofF px py z = ⟨0, 0, 0, 1⟩ := by simp [ofF, hl]
    rw [HR]
    clear HR hl
    unfold TE.v
    go_wp2
    go_ret
    exact RetB.mk' rfl (hW.alloc hW.size _)
  | true =>
    cases hi : insideB px py with
    | false =>
      have HR : ofF px py z = ⟨0, 0, 0, 10⟩ := by simp [ofF, hl, hi]
      rw [HR]
      clear HR hl hi
      unfold TE.v
      go_wp2
      go_ret
      exact RetB.mk' rfl (hW.alloc hW.size _)
    | true =>
      have HV := of_valid hl hi
      have HR : ofF px py z = ⟨z, px / side z, py / side z, 0⟩ := by simp [ofF, hl, hi]
      have HH : hasB (px / side z * side z) (py / side z * side z) (px / side z * side z + side z - 1) (py / side z * side z + side z - 1) px py = true := by
        have h := has_box HV px py
        rw [boxF_ok HV] at h
        rw [h]; exact decide_eq_true ⟨rfl, rfl⟩
      have HU : Hid (upF z (px / side z) (py / side z) = if z = 0 then ⟨0, 0, 0, 11⟩ else ⟨z - 1, px / side (z - 1), py / side (z - 1), 0⟩) := Lib.hid (by
        have h17 : 0 ≤ z ∧ z ≤ 17 := by simpa [levelB] using hl
        unfold upF
        rw [if_pos HV]
        split
        · rfl
        · rw [div_up (by omega) h17.2, div_up (by omega) h17.2])
      have HO : Hid (ofF px py (z - 1) = if z = 0 then ⟨0, 0, 0, 1⟩ else ⟨z - 1, px / side (z - 1), py / side (z - 1), 0⟩) := Lib.hid (by
        have h17 : 0 ≤ z ∧ z ≤ 17 := by simpa [levelB] using hl
        unfold ofF
        rw [hi]
        by_cases h0 : z = 0
        · subst h0; rfl
        · have : levelB (z - 1) = true := by simp [levelB]; omega
          rw [this, if_neg h0]; rfl)
      rw [HR]
      clear HR
      have hz : 0 ≤ z ∧ z ≤ 17 := by simpa [levelB] using hl
      obtain ⟨hz0, hz1⟩ := hz
      clear hl hi
      unfold TE.v
      have HT : Hid (∀ x y, validB z x y = true → hasB (boxF z x y).a (boxF z x y).b (boxF z x y).c (boxF z x y).d px py = decide (px / side z = x ∧ py / side z = y)) := Lib.hid (fun x y h => has_box h px py)
      generalize hX : px / side z = X at *
      generalize hY : py / side z = Y at *
      go_wp2_with fail
      have n1 := b1.lt
      refine (box_any z X Y _).mono ?_
      rintro e w3 ⟨rfl, hb_⟩
      have b2 := (Box.new _ _ _).below hb_ (Box.new _ _ _).lt
      replace b0 := (b0.alloc _).below hb_ (b0.alloc _).lt
      replace b1 := (b1.alloc _).below hb_ (b1.alloc _).lt
      replace hW := (hW.alloc hW.size _).trans (hb_.mono (hW.alloc hW.size _).size)
      clear hb_
      rw [boxF_ok HV]
      unfold BE.v
      have r0 := b0.cell
      have k0 := b0.lt
      have r2 := b2.cell
      have k2 := b2.lt
      go_wp2_with fail
      clear r0 r2 k0 k2
      refine (has_any _ _ _ _ px py _).mono ?_
      rintro e w4 ⟨rfl, hb_⟩
      have b3 := (Box.new _ _ _).below hb_ (Box.new _ _ _).lt
      replace b0 := (b0.alloc _).below hb_ (b0.alloc _).lt
      replace b1 := (b1.alloc _).below hb_ (b1.alloc _).lt
      replace b2 := (b2.alloc _).below hb_ (b2.alloc _).lt
      replace hW := (hW.alloc hW.size _).trans (hb_.mono (hW.alloc hW.size _).size)
      clear hb_
      rw [HH]
      clear HH b3
      have r1 := b1.cell
      have f1 := b1.frozen
      have k1 := b1.lt
      have r2 := b2.cell
      have k2 := b2.lt
      go_wp2_with fail
      clear r1 r2 f1 k1 k2
      refine calls_abs (fun W => Below w.heap.size w W ∧ Box W w.heap.size #[.int .i64 px, .int .i64 py] 31 ∧ Box W (w.heap.size + 1) #[.int .i64 z, .int .i64 tx, .int .i64 ty] 23 ∧ Box W w2.heap.size #[.int .i64 z, .int .i64 X, .int .i64 Y] 23)
        ⟨hW.setCell (by simp) _, b0.set_other (by omega) _ _, b1.set 0 _, b2.set_other (by omega) 0 _⟩ ?_
      clear hW b0 b1 b2 n1
      rintro W5 ⟨hW, b0, b1, b2⟩
      refine (box_any z tx ty _).mono ?_
      rintro e w5 ⟨rfl, hb_⟩
      replace hW := hW.trans (hb_.mono hW.size)
      replace b0 := b0.below hb_ b0.lt
      replace b1 := b1.below hb_ b1.lt
      replace b2 := b2.below hb_ b2.lt
      clear hb_
      cases hv : validB z tx ty with
      | false =>
        rw [boxF_no hv]
        clear hv HT
        unfold BE.v
        go_wp2_with fail
        refine wp_abs (fun W => Below w.heap.size w W ∧ Box W w.heap.size #[.int .i64 px, .int .i64 py] 31 ∧ Box W (w.heap.size + 1) #[.int .i64 z, .int .i64 tx, .int .i64 ty] 23 ∧ Box W w2.heap.size #[.int .i64 z, .int .i64 X, .int .i64 Y] 23)
          ⟨hW.alloc hW.size _, b0.alloc _, b1.alloc _, b2.alloc _⟩ ?_
        clear hW b0 b1 b2
        rintro W6 ⟨hW, b0, b1, b2⟩
        refine wp_region_quiet_below (by kernel_rfl) (by kernel_rfl) ?_
        repeat (go_big_quiet_step (fail))
        refine wpQuiet_nil ?_
        rintro w6 h6
        replace h6 := below_of_regrown h6
        replace hW := hW.trans (h6.mono hW.size)
        replace b0 := b0.below h6 b0.lt
        replace b2 := b2.below h6 b2.lt
        clear h6
        have r2 := b2.cell
        have k2 := b2.lt
        go_wp2_with fail
        clear r2 k2
        refine (up_any z X Y _).mono ?_
        rintro e w7 ⟨rfl, hb_⟩
        replace hW := hW.trans (hb_.mono hW.size)
        replace b0 := b0.below hb_ b0.lt
        clear hb_
        have r0 := b0.cell
        have k0 := b0.lt
        rw [HU.out]
        by_cases h0 : z = 0
        · rw [if_pos h0]
          clear HU HO
          subst h0
          unfold TE.v
          go_wp2_with fail
          refine (of_any px py (-1) _).mono ?_
          rintro e w8 ⟨rfl, hb_⟩
          have b6 := (Box.new _ _ _).below hb_ (Box.new _ _ _).lt
          replace hW := (hW.alloc hW.size _).trans (hb_.mono (hW.alloc hW.size _).size)
          clear hb_
          rw [of_none]
          unfold TE.v
          go_wp2
          go_ret
          exact RetB.mk' rfl (hW.alloc hW.size _)
        · rw [if_neg h0]
          rw [if_neg h0] at HO
          clear HU
          unfold TE.v
          generalize px / side (z - 1) = X' at *
          generalize py / side (z - 1) = Y' at *
          go_wp2_with fail
          refine (of_any px py (z - 1) _).mono ?_
          rintro e w8 ⟨rfl, hb_⟩
          have b6 := (Box.new _ _ _).below hb_ (Box.new _ _ _).lt
          replace hW := (hW.alloc hW.size _).trans (hb_.mono (hW.alloc hW.size _).size)
          clear hb_
          rw [HO.out]
          clear HO
          unfold TE.v
          have r6 := b6.cell
          have k6 := b6.lt
          go_wp2
          go_ret
          exact RetB.mk' rfl (hW.alloc hW.size _)
      | true =>
        have HB := HT.out tx ty hv
        rw [boxF_ok hv] at HB ⊢
        clear hv HT
        unfold BE.v
        go_wp2_with fail
        have k5 : w.heap.size ≤ w5.heap.size := hW.size
        have hb3 := Box.new w5 #[.int .i64 (tx * side z), .int .i64 (ty * side z), .int .i64 (tx * side z + side z - 1), .int .i64 (ty * side z + side z - 1)] 33
        refine wp_abs (fun W => Below w.heap.size w W ∧ Box W w.heap.size #[.int .i64 px, .int .i64 py] 31 ∧ Box W (w.heap.size + 1) #[.int .i64 z, .int .i64 tx, .int .i64 ty] 23 ∧ Box W w2.heap.size #[.int .i64 z, .int .i64 X, .int .i64 Y] 23 ∧ Box W w5.heap.size #[.int .i64 (tx * side z), .int .i64 (ty * side z), .int .i64 (tx * side z + side z - 1), .int .i64 (ty * side z + side z - 1)] 33)
          ⟨hW.alloc hW.size _, b0.alloc _, b1.alloc _, b2.alloc _, hb3⟩ ?_
        clear hW b0 b1 b2 hb3
        rintro W6 ⟨hW, b0, b1, b2, b3⟩
        have cH := quietC (W := W6) (fun w' _ => has_any (tx * side z) (ty * side z) (tx * side z + side z - 1) (ty * side z + side z - 1) px py w')
        rw [HB] at cH
        clear HB
        have q00 := cell_regrown (b0.cell 0)
        have q01 := cell_regrown (b0.cell 1)
        have q10 := cell_regrown (b1.cell 0)
        have q11 := cell_regrown (b1.cell 1)
        have q12 := cell_regrown (b1.cell 2)
        have q20 := cell_regrown (b2.cell 0)
        have q21 := cell_regrown (b2.cell 1)
        have q22 := cell_regrown (b2.cell 2)
        have q30 := cell_regrown (b3.cell 0)
        have q31 := cell_regrown (b3.cell 1)
        have q32 := cell_regrown (b3.cell 2)
        have q33 := cell_regrown (b3.cell 3)
        by_cases E : X = tx ∧ Y = ty
        · have hE := @tile_yes z X Y z tx ty ⟨rfl, E.1, E.2⟩
          rw [decide_eq_true E] at cH
          clear E
          refine wp_region_quiet_below (by kernel_rfl) (by kernel_rfl) ?_
          repeat (go_big_quiet_step (exact cH _ _))
          refine wpQuiet_nil ?_
          rintro w6 h6
          replace h6 := below_of_regrown h6
          clear cH hE q00 q01 q10 q11 q12 q20 q21 q22 q30 q31 q32 q33
          replace hW := hW.trans (h6.mono hW.size)
          replace b0 := b0.below h6 b0.lt
          replace b2 := b2.below h6 b2.lt
          clear h6
          have r2 := b2.cell
          have k2 := b2.lt
          go_wp2_with fail
          clear r2 k2
          refine (up_any z X Y _).mono ?_
          rintro e w7 ⟨rfl, hb_⟩
          replace hW := hW.trans (hb_.mono hW.size)
          replace b0 := b0.below hb_ b0.lt
          clear hb_
          have r0 := b0.cell
          have k0 := b0.lt
          rw [HU.out]
          by_cases h0 : z = 0
          · rw [if_pos h0]
            clear HU HO
            subst h0
            unfold TE.v
            go_wp2_with fail
            refine (of_any px py (-1) _).mono ?_
            rintro e w8 ⟨rfl, hb_⟩
            have b6 := (Box.new _ _ _).below hb_ (Box.new _ _ _).lt
            replace hW := (hW.alloc hW.size _).trans (hb_.mono (hW.alloc hW.size _).size)
            clear hb_
            rw [of_none]
            unfold TE.v
            go_wp2
            go_ret
            exact RetB.mk' rfl (hW.alloc hW.size _)
          · rw [if_neg h0]
            rw [if_neg h0] at HO
            clear HU
            unfold TE.v
            generalize px / side (z - 1) = X' at *
            generalize py / side (z - 1) = Y' at *
            go_wp2_with fail
            refine (of_any px py (z - 1) _).mono ?_
            rintro e w8 ⟨rfl, hb_⟩
            have b6 := (Box.new _ _ _).below hb_ (Box.new _ _ _).lt
            replace hW := (hW.alloc hW.size _).trans (hb_.mono (hW.alloc hW.size _).size)
            clear hb_
            rw [HO.out]
            clear HO
            unfold TE.v
            have r6 := b6.cell
            have k6 := b6.lt
            go_wp2
            go_ret
            exact RetB.mk' rfl (hW.alloc hW.size _)
        · have hE := @tile_no z X Y z tx ty (fun h => E h.2)
          rw [decide_eq_false E] at cH
          clear E
          refine wp_region_quiet_below (by kernel_rfl) (by kernel_rfl) ?_
          repeat (go_big_quiet_step (exact cH _ _))
          refine wpQuiet_nil ?_
          rintro w6 h6
          replace h6 := below_of_regrown h6
          clear cH hE q00 q01 q10 q11 q12 q20 q21 q22 q30 q31 q32 q33
          replace hW := hW.trans (h6.mono hW.size)
          replace b0 := b0.below h6 b0.lt
          replace b2 := b2.below h6 b2.lt
          clear h6
          have r2 := b2.cell
          have k2 := b2.lt
          go_wp2_with fail
          clear r2 k2
          refine (up_any z X Y _).mono ?_
          rintro e w7 ⟨rfl, hb_⟩
          replace hW := hW.trans (hb_.mono hW.size)
          replace b0 := b0.below hb_ b0.lt
          clear hb_
          have r0 := b0.cell
          have k0 := b0.lt
          rw [HU.out]
          by_cases h0 : z = 0
          · rw [if_pos h0]
            clear HU HO
            subst h0
            unfold TE.v
            go_wp2_with fail
            refine (of_any px py (-1) _).mono ?_
            rintro e w8 ⟨rfl, hb_⟩
            have b6 := (Box.new _ _ _).below hb_ (Box.new _ _ _).lt
            replace hW := (hW.alloc hW.size _).trans (hb_.mono (hW.alloc hW.size _).size)
            clear hb_
            rw [of_none]
            unfold TE.v
            go_wp2
            go_ret
            exact RetB.mk' rfl (hW.alloc hW.size _)
          · rw [if_neg h0]
            rw [if_neg h0] at HO
            clear HU
            unfold TE.v
            generalize px / side (z - 1) = X' at *
            generalize py / side (z - 1) = Y' at *
            go_wp2_with fail
            refine (of_any px py (z - 1) _).mono ?_
            rintro e w8 ⟨rfl, hb_⟩
            have b6 := (Box.new _ _ _).below hb_ (Box.new _ _ _).lt
            replace hW := (hW.alloc hW.size _).trans (hb_.mono (hW.alloc hW.size _).size)
            clear hb_
            rw [HO.out]
            clear HO
            unfold TE.v
            have r6 := b6.cell
            have k6 := b6.lt
            go_wp2
            go_ret
            exact RetB.mk' rfl (hW.alloc hW.size _)
end Go.Proofs.YthggpflfjghooaaDoor

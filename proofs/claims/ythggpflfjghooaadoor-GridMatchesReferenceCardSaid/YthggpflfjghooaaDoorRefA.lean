/- The reference of layer 7: its small functions return the same. No condition. -/
import Derived.Test.YthggpflfjghooaaDoorPixel
import Derived.Test.YthggpflfjghooaaDoorHas
namespace Go.Proofs.YthggpflfjghooaaDoor
open Go.RowKit Go.Sort

theorem rlevel_any (z : Int) (w : World) : Calls Tryd.prog 39 #[.int .i64 z] w (RetB w (.bool (levelB z))) := by
  have HB : Hid (levelB z = decide (0 ≤ z ∧ z ≤ 17)) := Lib.hid rfl
  by_cases h0 : 0 ≤ z
  all_goals
    go_enter Tryd.func39, Tryd.ntmps39
    go_wp2
    go_ret
    exact RetB.mk' (congrArg Value.bool (by rw [HB.out, Bool.eq_iff_iff]; simp; omega)) (Below.refl _ _)

set_option maxHeartbeats 400000 in
theorem rin_any (x y : Int) (w : World) : Calls Tryd.prog 40 #[.agg #[.int .i64 x, .int .i64 y]] w (RetB w (.bool (insideB x y))) := by
  have HB : Hid (insideB x y = decide (0 ≤ x ∧ x < 1048576 ∧ 0 ≤ y ∧ y < 1048576)) := Lib.hid rfl
  by_cases h0 : 0 ≤ x
  all_goals by_cases h1 : x < 1048576
  all_goals by_cases h2 : 0 ≤ y
  all_goals first | (exfalso; omega) | skip
  all_goals try have q0 := decide_eq_false h0
  all_goals try have q1 := decide_eq_false h1
  all_goals try have q2 := decide_eq_false h2
  all_goals
    go_enter Tryd.func40, Tryd.ntmps40
    go_wp2
  all_goals
    go_ret
    refine RetB.mk' (congrArg Value.bool ?_) ((Below.refl _ _).alloc (Nat.le_refl _) _)
    rw [HB.out, Bool.eq_iff_iff]
    simp
    try omega

set_option maxHeartbeats 1000000 in
theorem rside_any (z : Int) (h0 : 0 ≤ z) (h1 : z ≤ 17) (w : World) : Calls Tryd.prog 41 #[.int .i64 z] w (RetB w (.int .i64 (side z))) := by
  go_enter Tryd.func41, Tryd.ntmps41
  go_wp2
  go_loopw [3, 4] (fun vn vi wr => ∃ i : Int, 0 ≤ i ∧ i ≤ z ∧ vi = .int .i64 i ∧ vn = .int .i64 (side i) ∧ Below w.heap.size w wr) (fun _ vi _ => (z - intOf vi).toNat)
  case atStart => exact ⟨0, by omega, h0, rfl, rfl, Below.refl _ _⟩
  case round =>
    obtain ⟨i, hi0, hi1, rfl, rfl, hW⟩ := hrel
    have hb := side_bd i hi0 (by omega)
    obtain ⟨hb0, hb1⟩ := hb
    by_cases hlt : i < z
    · have e : Hid (side i / 2 = side (i + 1)) := Lib.hid (by
        have := @side_up (i + 1) (by omega) (by omega)
        rw [Int.add_sub_cancel] at this
        omega)
      go_wp2
      go_roundw
      case rel => exact ⟨i + 1, by omega, by omega, by go_num, by rw [e.out], hW⟩
      case measure => simp [intOf]; omega
    · obtain rfl : i = z := by omega
      go_wp2
      go_ret
      exact RetB.mk' rfl hW

theorem rfar_any (n : Int) (w : World) : Calls Tryd.prog 43 #[.int .i64 n] w (RetB w (.bool (decide (n < -2097152 ∨ 2097152 < n)))) := by
  have HB : Hid (decide (n < -2097152 ∨ 2097152 < n) = decide (n < -2097152 ∨ 2097152 < n)) := Lib.hid rfl
  by_cases h0 : n < -2097152
  all_goals try have q0 := decide_eq_false h0
  all_goals
    go_enter Tryd.func43, Tryd.ntmps43
    go_wp2
    go_ret
    refine RetB.mk' (congrArg Value.bool ?_) (Below.refl _ _)
    simp
    try omega

set_option maxHeartbeats 1000000 in
theorem rvalid_any (z x y : Int) (w : World) : Calls Tryd.prog 42 #[.agg #[.int .i64 z, .int .i64 x, .int .i64 y]] w (RetB w (.bool (validB z x y))) := by
  have HB : Hid (validB z x y = decide ((0 ≤ z ∧ z ≤ 17) ∧ 0 ≤ x ∧ x < 2 ^ z.toNat ∧ 0 ≤ y ∧ y < 2 ^ z.toNat)) := Lib.hid rfl
  cases hl : levelB z with
  | false =>
    have HL := Lib.hid hl
    go_enter Tryd.func42, Tryd.ntmps42
    go_wp2_with fail
    refine wp_abs (fun W => Below w.heap.size w W ∧ Box W w.heap.size #[.int .i64 z, .int .i64 x, .int .i64 y] 23) ⟨(Below.refl _ _).alloc (Nat.le_refl _) _, Box.new _ _ _⟩ ?_
    rintro W ⟨hW, hb⟩
    have g0 := cell_regrown (hb.cell 0)
    have cL := quietC (W := W) (fun w' _ => rlevel_any z w')
    rw [hl] at cL
    clear hl
    refine wp_region_quiet_below (by kernel_rfl) (by kernel_rfl) ?_
    repeat (go_big_quiet_step (exact cL _ _))
    refine wpQuiet_nil ?_
    rintro W2 hw2
    replace hw2 := below_of_regrown hw2
    go_wp2
    go_ret
    refine RetB.mk' (congrArg Value.bool ?_) (hW.trans (hw2.mono hW.size))
    have h := HL.out
    unfold levelB at h
    rw [HB.out]
    simp at h ⊢
    omega
  | true =>
    have h17 : 0 ≤ z ∧ z ≤ 17 := by simpa [levelB] using hl
    obtain ⟨hz0, hz17⟩ := h17
    have hp := side_pow z hz0 hz17
    have hsb := side_bd z hz0 hz17
    have HQ : (1048576 : Int) / side z = 2 ^ z.toNat := by
      rw [← hp, Int.mul_comm, Int.mul_ediv_cancel _ (by omega)]
    have cL := fun W => quietC (W := W) (fun w' _ => rlevel_any z w')
    have cS := fun W => quietC (W := W) (fun w' _ => rside_any z hz0 hz17 w')
    rw [hl] at cL
    have hp1 := pow_le17 z hz0 hz17
    obtain ⟨hT1, -⟩ := hp1
    clear hl hp
    generalize (2 : Int) ^ z.toNat = T at *
    generalize side z = S at *
    obtain ⟨hsb0, hsb1⟩ := hsb
    by_cases h1 : 0 ≤ x
    all_goals by_cases h0 : 0 ≤ y
    all_goals by_cases h2 : x < T
    all_goals by_cases h3 : y < T
    all_goals first | (exfalso; omega) | skip
    all_goals try have q0 := decide_eq_false h0
    all_goals try have q1 := decide_eq_false h1
    all_goals try have q2 := decide_eq_false h2
    all_goals try have q3 := decide_eq_false h3
    all_goals
      go_enter Tryd.func42, Tryd.ntmps42
      go_wp2_with fail
      refine wp_abs (fun W => Below w.heap.size w W ∧ Box W w.heap.size #[.int .i64 z, .int .i64 x, .int .i64 y] 23) ⟨(Below.refl _ _).alloc (Nat.le_refl _) _, Box.new _ _ _⟩ ?_
      rintro W ⟨hW, hb⟩
      have g0 := cell_regrown (hb.cell 0)
      have g1 := cell_regrown (hb.cell 1)
      have g2 := cell_regrown (hb.cell 2)
      have cL' := cL W
      have cS' := cS W
      clear cL cS
    all_goals
      refine wp_region_quiet_below (by kernel_rfl) (by kernel_rfl) ?_
      repeat (go_big_quiet_step (first | (with_reducible exact cL' _ _) | (with_reducible exact cS' _ _)))
      refine wpQuiet_nil ?_
      rintro W2 hw2
      replace hw2 := below_of_regrown hw2
    all_goals
      go_wp2
    all_goals
      go_ret
      refine RetB.mk' (congrArg Value.bool ?_) (hW.trans (hw2.mono hW.size))
      rw [HB.out, Bool.eq_iff_iff]
      simp
      try omega
end Go.Proofs.YthggpflfjghooaaDoor

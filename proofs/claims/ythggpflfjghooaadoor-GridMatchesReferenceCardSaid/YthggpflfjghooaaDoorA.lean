/- The small functions of package grid: what each returns. No condition. -/
import Derived.Test.YthggpflfjghooaaDoorBase
import Derived.Test.YthggpflfjghooaaDoorPure
namespace Go.Proofs.YthggpflfjghooaaDoor
open Go.RowKit Go.Sort

theorem level_any (z : Int) (w : World) : Calls Tryd.prog 35 #[.int .i64 z] w (RetB w (.bool (levelB z))) := by
  have HB : Hid (levelB z = decide (0 ≤ z ∧ z ≤ 17)) := Lib.hid rfl
  by_cases h0 : 0 ≤ z
  all_goals
    go_enter Tryd.func35, Tryd.ntmps35
    go_wp2
    go_ret
    exact RetB.mk' (congrArg Value.bool (by rw [HB.out, Bool.eq_iff_iff]; simp; omega)) (Below.refl _ _)

set_option maxHeartbeats 400000 in
theorem inside_any (x y : Int) (w : World) :
    Calls Tryd.prog 36 #[.agg #[.int .i64 x, .int .i64 y]] w (RetB w (.bool (insideB x y))) := by
  have HB : Hid (insideB x y = decide (0 ≤ x ∧ x < 1048576 ∧ 0 ≤ y ∧ y < 1048576)) := Lib.hid rfl
  go_enter Tryd.func36, Tryd.ntmps36
  go_wp2
  all_goals
    go_ret
    refine RetB.mk' (congrArg Value.bool ?_) ((Below.refl _ _).alloc (Nat.le_refl _) _)
    rw [HB.out, Bool.eq_iff_iff]
    simp
    try omega

set_option maxHeartbeats 1000000 in
theorem valid_any (z x y : Int) (w : World) :
    Calls Tryd.prog 29 #[.agg #[.int .i64 z, .int .i64 x, .int .i64 y]] w (RetB w (.bool (validB z x y))) := by
  have HB : Hid (validB z x y = decide ((0 ≤ z ∧ z ≤ 17) ∧ 0 ≤ x ∧ x < 2 ^ z.toNat ∧ 0 ≤ y ∧ y < 2 ^ z.toNat)) := Lib.hid rfl
  cases hl : levelB z with
  | false =>
    have HL := Lib.hid hl
    go_enter Tryd.func29, Tryd.ntmps29
    go_wp2_with fail
    refine wp_abs (fun W => Below w.heap.size w W ∧ Box W w.heap.size #[.int .i64 z, .int .i64 x, .int .i64 y] 23) ⟨(Below.refl _ _).alloc (Nat.le_refl _) _, Box.new _ _ _⟩ ?_
    rintro W ⟨hW, hb⟩
    have g0 := cell_regrown (hb.cell 0)
    have cL := quietC (W := W) (fun w' _ => level_any z w')
    rw [hl] at cL
    clear hl
    refine wp_region_quiet_below (by kernel_rfl) (by kernel_rfl) ?_
    repeat (go_big_quiet_step (exact cL _ _))
    refine wpQuiet_nil ?_
    rintro W2 hw2
    replace hw2 := below_of_regrown hw2
    go_wp2
    go_ret
    refine RetB.mk' (congrArg Value.bool ?_) (hW.trans (hw2.mono hW.size))
    have h := HL.out
    unfold levelB at h
    rw [HB.out]
    simp at h ⊢
    omega
  | true =>
    have h17 : 0 ≤ z ∧ z ≤ 17 := by simpa [levelB] using hl
    have hp := pow_le17 z h17.1 h17.2
    have hs : IntKind.i64.wrap (2 ^ z.toNat) = 2 ^ z.toNat := IntWalk.i64_in _ (by omega)
    obtain ⟨hz0, hz17⟩ := h17
    by_cases hyx : y < x
    all_goals by_cases h0 : 0 ≤ y
    all_goals by_cases h1 : 0 ≤ x
    all_goals first | (exfalso; omega) | skip
    all_goals try have q0 := decide_eq_false h0
    all_goals try have q1 := decide_eq_false h1
    all_goals
      go_enter Tryd.func29, Tryd.ntmps29
      go_wp2_with fail
      refine wp_abs (fun W => Below w.heap.size w W ∧ Box W w.heap.size #[.int .i64 z, .int .i64 x, .int .i64 y] 23) ⟨(Below.refl _ _).alloc (Nat.le_refl _) _, Box.new _ _ _⟩ ?_
      rintro W ⟨hW, hb⟩
      have g0 := cell_regrown (hb.cell 0)
      have g1 := cell_regrown (hb.cell 1)
      have g2 := cell_regrown (hb.cell 2)
      have cL := quietC (W := W) (fun w' _ => level_any z w')
      rw [hl] at cL
    all_goals clear hl
    all_goals
      refine wp_region_quiet_below (by kernel_rfl) (by kernel_rfl) ?_
      repeat (go_big_quiet_step (exact cL _ _))
      refine wpQuiet_nil ?_
      rintro W2 hw2
      replace hw2 := below_of_regrown hw2
    all_goals
      go_wp2
    all_goals
      go_ret
      refine RetB.mk' (congrArg Value.bool ?_) (hW.trans (hw2.mono hW.size))
      rw [HB.out, Bool.eq_iff_iff]
      simp
      omega
end Go.Proofs.YthggpflfjghooaaDoor

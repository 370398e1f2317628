/- The reference of layer 7: Of, Box, Up, Pixel return the same. No condition. -/
import Derived.Test.YthggpflfjghooaaDoorRefA
namespace Go.Proofs.YthggpflfjghooaaDoor
open Go.RowKit Go.Sort

set_option maxHeartbeats 1000000 in
theorem rof_any (x y z : Int) (w : World) : Calls Tryd.prog 20 #[.agg #[.int .i64 x, .int .i64 y], .int .i64 z] w (RetB w (ofF x y z).v) := by
  go_enter Tryd.func20, Tryd.ntmps20
  go_wp2_with fail
  refine calls_abs (fun W => Below w.heap.size w W ∧ Box W w.heap.size #[.int .i64 x, .int .i64 y] 31 ∧ Box W (w.heap.size + 1) #[.int .i64 0, .int .i64 0, .int .i64 0] 23)
    ⟨((Below.refl _ _).alloc (Nat.le_refl _) _).alloc (by simp) _, (Box.new _ _ _).alloc _, Box.new' (by simp) _ _⟩ ?_
  rintro W ⟨hW, b0, b1⟩
  refine (rlevel_any z W).mono ?_
  rintro e w1 ⟨rfl, hb_⟩
  replace hW := hW.trans (hb_.mono hW.size)
  replace b0 := b0.below hb_ b0.lt
  replace b1 := b1.below hb_ b1.lt
  clear hb_
  cases hl : levelB z with
  | false =>
    have HR : Hid (ofF x y z = ⟨0, 0, 0, 1⟩) := Lib.hid (by simp [ofF, hl])
    clear hl
    have r1 := b1.cell
    have f1 := b1.frozen
    go_wp2
    exact ret_box2 (by rfl) (by rfl) (by rfl) (b1.set3 _ _ _) Tryd.underlying23 rfl (by kernel_rfl) rfl (RetB.mk' (by rw [HR.out]; rfl) (by repeat (first | assumption | exact Below.refl _ _ | refine Below.setCell ?_ (by first | (simp; done) | (simp; omega) | omega) _ | refine Below.alloc ?_ (by first | (simp; done) | (simp; omega) | omega) _)))
  | true =>
    have h17 : 0 ≤ z ∧ z ≤ 17 := by simpa [levelB] using hl
    obtain ⟨hz0, hz17⟩ := h17
    have HL := Lib.hid hl
    clear hl
    have r0 := b0.cell
    go_wp2_with fail
    clear r0
    refine (rin_any x y w1).mono ?_
    rintro e w2 ⟨rfl, hb_⟩
    replace hW := hW.trans (hb_.mono hW.size)
    replace b0 := b0.below hb_ b0.lt
    replace b1 := b1.below hb_ b1.lt
    clear hb_
    cases hi : insideB x y with
    | false =>
      have HR : Hid (ofF x y z = ⟨0, 0, 0, 10⟩) := Lib.hid (by simp [ofF, HL.out, hi])
      clear hi
      have r1 := b1.cell
      have f1 := b1.frozen
      go_wp2
      exact ret_box2 (by rfl) (by rfl) (by rfl) (b1.set3 _ _ _) Tryd.underlying23 rfl (by kernel_rfl) rfl (RetB.mk' (by rw [HR.out]; rfl) (by repeat (first | assumption | exact Below.refl _ _ | refine Below.setCell ?_ (by first | (simp; done) | (simp; omega) | omega) _ | refine Below.alloc ?_ (by first | (simp; done) | (simp; omega) | omega) _)))
    | true =>
      have HR : Hid (ofF x y z = ⟨z, x / side z, y / side z, 0⟩) := Lib.hid (by simp [ofF, HL.out, hi])
      have hi' : (0 ≤ x ∧ x < 1048576) ∧ 0 ≤ y ∧ y < 1048576 := by simpa [insideB, and_assoc] using hi
      obtain ⟨⟨hx0, hx1⟩, hy0, hy1⟩ := hi'
      clear hi
      have hsd := side_bd z hz0 hz17
      obtain ⟨hs8, hs20⟩ := hsd
      go_wp2_with fail
      have q0 := cell_regrown (b0.cell 0)
      have q1 := cell_regrown (b0.cell 1)
      have cS := quietC (W := w2) (fun w' _ => rside_any z hz0 hz17 w')
      refine wp_region_below_tail 12 (by kernel_rfl) (by kernel_rfl) ?_
      simp only [List.take_succ_cons, List.take_zero, List.drop_succ_cons, List.drop_zero]
      repeat (go_big_quiet_step (exact cS _ _))
      refine wpQuiet_nil ?_
      rintro w4 hb4
      replace hW := hW.trans (hb4.mono hW.size)
      replace b1 := b1.below hb4 b1.lt
      have r1 := b1.cell
      have f1 := b1.frozen
      clear q0 q1 cS
      go_wp2
      exact ret_box2 (by rfl) (by rfl) (by rfl) (b1.set3 _ _ _) Tryd.underlying23 rfl (by kernel_rfl) rfl (RetB.mk' (by rw [HR.out]; rfl) (by repeat (first | assumption | exact Below.refl _ _ | refine Below.setCell ?_ (by first | (simp; done) | (simp; omega) | omega) _ | refine Below.alloc ?_ (by first | (simp; done) | (simp; omega) | omega) _)))

set_option maxHeartbeats 1000000 in
theorem rbox_any (z x y : Int) (w : World) : Calls Tryd.prog 21 #[.agg #[.int .i64 z, .int .i64 x, .int .i64 y]] w (RetB w (boxF z x y).v) := by
  go_enter Tryd.func21, Tryd.ntmps21
  go_wp2_with fail
  refine calls_abs (fun W => Below w.heap.size w W ∧ Box W w.heap.size #[.int .i64 z, .int .i64 x, .int .i64 y] 23 ∧ Box W (w.heap.size + 1) #[.int .i64 0, .int .i64 0, .int .i64 0, .int .i64 0] 33)
    ⟨((Below.refl _ _).alloc (Nat.le_refl _) _).alloc (by simp) _, (Box.new _ _ _).alloc _, Box.new' (by simp) _ _⟩ ?_
  rintro W ⟨hW, b0, b1⟩
  refine (rvalid_any z x y W).mono ?_
  rintro e w1 ⟨rfl, hb_⟩
  replace hW := hW.trans (hb_.mono hW.size)
  replace b0 := b0.below hb_ b0.lt
  replace b1 := b1.below hb_ b1.lt
  clear hb_
  cases hl : validB z x y with
  | false =>
    have HR : Hid (boxF z x y = ⟨0, 0, 0, 0, 1⟩) := Lib.hid (by simp [boxF, hl])
    clear hl
    have r1 := b1.cell
    have f1 := b1.frozen
    go_wp2
    exact ret_box2 (by rfl) (by rfl) (by rfl) (b1.set4 _ _ _ _) Tryd.underlying33 rfl (by kernel_rfl) rfl (RetB.mk' (by rw [HR.out]; rfl) (by repeat (first | assumption | exact Below.refl _ _ | refine Below.setCell ?_ (by first | (simp; done) | (simp; omega) | omega) _ | refine Below.alloc ?_ (by first | (simp; done) | (simp; omega) | omega) _)))
  | true =>
    have HR : Hid (boxF z x y = ⟨x * side z, y * side z, x * side z + side z - 1, y * side z + side z - 1, 0⟩) := Lib.hid (by simp [boxF, hl])
    have hv := valid_spec hl
    obtain ⟨hz0, hz17, hx0, hxs, hy0, hys⟩ := hv
    clear hl
    have hsd := side_bd z hz0 hz17
    obtain ⟨hs8, hs20⟩ := hsd
    have m1 : 0 ≤ x * side z := Int.mul_nonneg hx0 (by omega)
    have m2 : 0 ≤ y * side z := Int.mul_nonneg hy0 (by omega)
    have r0 := b0.cell
    go_wp2_with fail
    clear r0
    refine (rside_any z hz0 hz17 _).mono ?_
    rintro e w2 ⟨rfl, hb_⟩
    replace hW := hW.trans (hb_.mono hW.size)
    replace b0 := b0.below hb_ b0.lt
    replace b1 := b1.below hb_ b1.lt
    clear hb_
    have r0 := b0.cell
    have r1 := b1.cell
    have f1 := b1.frozen
    have l0 := b0.lt
    have l1 := b1.lt
    go_wp2
    exact ret_box2 (by rfl) (by rfl) (by rfl) (b1.set4 _ _ _ _) Tryd.underlying33 rfl (by kernel_rfl) rfl (RetB.mk' (by rw [HR.out]; rfl) (by repeat (first | assumption | exact Below.refl _ _ | refine Below.setCell ?_ (by first | (simp; done) | (simp; omega) | omega) _ | refine Below.alloc ?_ (by first | (simp; done) | (simp; omega) | omega) _)))

set_option maxHeartbeats 1000000 in
theorem rup_any (z x y : Int) (w : World) : Calls Tryd.prog 22 #[.agg #[.int .i64 z, .int .i64 x, .int .i64 y]] w (RetB w (upF z x y).v) := by
  go_enter Tryd.func22, Tryd.ntmps22
  go_wp2_with fail
  refine calls_abs (fun W => Below w.heap.size w W ∧ Box W w.heap.size #[.int .i64 z, .int .i64 x, .int .i64 y] 23 ∧ Box W (w.heap.size + 1) #[.int .i64 0, .int .i64 0, .int .i64 0] 23)
    ⟨((Below.refl _ _).alloc (Nat.le_refl _) _).alloc (by simp) _, (Box.new _ _ _).alloc _, Box.new' (by simp) _ _⟩ ?_
  rintro W ⟨hW, b0, b1⟩
  refine (rvalid_any z x y W).mono ?_
  rintro e w1 ⟨rfl, hb_⟩
  replace hW := hW.trans (hb_.mono hW.size)
  replace b0 := b0.below hb_ b0.lt
  replace b1 := b1.below hb_ b1.lt
  clear hb_
  have r1 := b1.cell
  have f1 := b1.frozen
  cases hl : validB z x y with
  | false =>
    have HR : Hid (upF z x y = ⟨0, 0, 0, 1⟩) := Lib.hid (by simp [upF, hl])
    clear hl
    go_wp2
    exact ret_box2 (by rfl) (by rfl) (by rfl) (b1.set3 _ _ _) Tryd.underlying23 rfl (by kernel_rfl) rfl (RetB.mk' (by rw [HR.out]; rfl) (by repeat (first | assumption | exact Below.refl _ _ | refine Below.setCell ?_ (by first | (simp; done) | (simp; omega) | omega) _ | refine Below.alloc ?_ (by first | (simp; done) | (simp; omega) | omega) _)))
  | true =>
    have HL := Lib.hid hl
    have hv := valid_spec hl
    obtain ⟨hz0, hz17, hx0, hxs, hy0, hys⟩ := hv
    clear hl
    have r0 := b0.cell
    have hx1 : x ≤ 1048576 := by have := HL.out; have := valid_le this; omega
    have hy1 : y ≤ 1048576 := by have := HL.out; have := valid_le this; omega
    clear hxs hys
    by_cases hz : z = 0
    · have HR : Hid (upF z x y = ⟨0, 0, 0, 11⟩) := Lib.hid (by unfold upF; rw [if_pos HL.out, if_pos hz])
      subst hz
      go_wp2
      exact ret_box2 (by rfl) (by rfl) (by rfl) (b1.set3 _ _ _) Tryd.underlying23 rfl (by kernel_rfl) rfl (RetB.mk' (by rw [HR.out]; rfl) (by repeat (first | assumption | exact Below.refl _ _ | refine Below.setCell ?_ (by first | (simp; done) | (simp; omega) | omega) _ | refine Below.alloc ?_ (by first | (simp; done) | (simp; omega) | omega) _)))
    · have HR : Hid (upF z x y = ⟨z - 1, x / 2, y / 2, 0⟩) := Lib.hid (by unfold upF; rw [if_pos HL.out, if_neg hz])
      go_wp2
      exact ret_box2 (by rfl) (by rfl) (by rfl) (b1.set3 _ _ _) Tryd.underlying23 rfl (by kernel_rfl) rfl (RetB.mk' (by rw [HR.out]; rfl) (by repeat (first | assumption | exact Below.refl _ _ | refine Below.setCell ?_ (by first | (simp; done) | (simp; omega) | omega) _ | refine Below.alloc ?_ (by first | (simp; done) | (simp; omega) | omega) _)))

/-- A quotient that goes to zero, and the one that goes down. -/
theorem quo_down {n s : Int} (hs : 0 < s) : (n.tdiv s = n / s ∧ n.tdiv s * s ≤ n) ∨ (n.tdiv s = n / s + 1 ∧ n < n.tdiv s * s) := by
  have h1 := Int.mul_ediv_add_emod n s
  have h2 := Int.emod_nonneg n (by omega : s ≠ 0)
  rw [Int.tdiv_eq_ediv]
  split
  · left
    rw [Int.add_zero]
    exact ⟨rfl, by rw [Int.mul_comm]; omega⟩
  · right
    rename_i h
    rw [Int.sign_eq_one_of_pos hs]
    refine ⟨rfl, ?_⟩
    rw [Int.add_mul, Int.one_mul, Int.mul_comm]
    have h3 := Int.emod_lt_of_pos n hs
    omega

set_option maxHeartbeats 1000000 in
theorem rfloor_any (n s : Int) (hs0 : 1 ≤ s) (hs1 : s ≤ 1048576) (h0 : -1073741824 ≤ n) (h1 : n ≤ 1073741824) (w : World) : Calls Tryd.prog 44 #[.int .i64 n, .int .i64 s] w (RetB w (.int .i64 (n / s))) := by
  have hq := @quo_down n s (by omega)
  have hb : -1073741824 ≤ n / s ∧ n / s ≤ 1073741824 := by
    constructor
    · rw [Int.le_ediv_iff_mul_le (by omega)]
      have : -1073741824 * s ≤ -1073741824 * 1 := Int.mul_le_mul_of_nonpos_left (by omega) hs0
      omega
    · have : n / s < 1073741825 := by
        rw [Int.ediv_lt_iff_lt_mul (by omega)]
        have : (1073741825 : Int) * 1 ≤ 1073741825 * s := Int.mul_le_mul_of_nonneg_left hs0 (by omega)
        omega
      omega
  have hm : n / s * s ≤ n ∧ n < n / s * s + s := by
    have h1 := Int.mul_ediv_add_emod n s
    have h2 := Int.emod_nonneg n (by omega : s ≠ 0)
    have h3 := Int.emod_lt_of_pos n (by omega : 0 < s)
    have h4 : n / s * s = s * (n / s) := Int.mul_comm _ _
    omega
  obtain ⟨hm0, hm1⟩ := hm
  obtain ⟨hb0, hb1⟩ := hb
  rcases hq with ⟨e, hle⟩ | ⟨e, hgt⟩
  · have hle' : n / s * s ≤ n := hm0
    have hnb : -2147483648 ≤ n / s * s := by omega
    have q := decide_eq_false (show ¬ (n < n / s * s) by omega)
    clear hle
    generalize n / s = Q at *
    go_enter Tryd.func44, Tryd.ntmps44
    go_wp2
    go_ret
    exact RetB.mk' rfl (Below.refl _ _)
  · rw [e] at hgt
    have e2 : (n / s + 1) * s = n / s * s + s := by rw [Int.add_mul, Int.one_mul]
    have hub : (n / s + 1) * s ≤ 2147483648 := by omega
    have hlb : -2147483648 ≤ (n / s + 1) * s := by omega
    clear e2 hm0 hm1
    generalize n / s = Q at *
    go_enter Tryd.func44, Tryd.ntmps44
    go_wp2
    go_ret
    exact RetB.mk' (congrArg (Value.int .i64) (by omega)) (Below.refl _ _)
end Go.Proofs.YthggpflfjghooaaDoor

/- Of, Box, Up of package grid: what each returns. No condition. -/
import Derived.Test.YthggpflfjghooaaDoorA
import Derived.Test.YthggpflfjghooaaDoorSides
namespace Go.Proofs.YthggpflfjghooaaDoor
open Go.RowKit Go.Sort

def TE.v (r : TE) : Value := .tuple #[.agg #[.int .i64 r.z, .int .i64 r.x, .int .i64 r.y], .int .i64 r.e]
def BE.v (r : BE) : Value := .tuple #[.agg #[.int .i64 r.a, .int .i64 r.b, .int .i64 r.c, .int .i64 r.d], .int .i64 r.e]
def PE.v (r : PE) : Value := .tuple #[.agg #[.int .i64 r.x, .int .i64 r.y], .int .i64 r.e]

theorem sides_at (z : Int) (h0 : 0 ≤ z) (h1 : z ≤ 17) (w : World) : (Instr.index 62 (.agg sidesV) (.int .i64 z)).run Tryd.prog w = .ok (.int .i64 (side z)) w := by
  rcases lev17 h0 h1 with rfl | rfl | rfl | rfl | rfl | rfl | rfl | rfl | rfl | rfl | rfl | rfl | rfl | rfl | rfl | rfl | rfl | rfl <;> kernel_rfl

set_option maxHeartbeats 1000000 in
theorem of_any (x y z : Int) (w : World) : Calls Tryd.prog 13 #[.agg #[.int .i64 x, .int .i64 y], .int .i64 z] w (RetB w (ofF x y z).v) := by
  go_enter Tryd.func13, Tryd.ntmps13
  go_wp2_with fail
  refine calls_abs (fun W => Below w.heap.size w W ∧ Box W w.heap.size #[.int .i64 x, .int .i64 y] 31 ∧ Box W (w.heap.size + 1) #[.int .i64 0, .int .i64 0, .int .i64 0] 23)
    ⟨((Below.refl _ _).alloc (Nat.le_refl _) _).alloc (by simp) _, (Box.new _ _ _).alloc _, Box.new' (by simp) _ _⟩ ?_
  rintro W ⟨hW, b0, b1⟩
  refine (level_any z W).mono ?_
  rintro e w1 ⟨rfl, hb_⟩
  replace hW := hW.trans (hb_.mono hW.size)
  replace b0 := b0.below hb_ b0.lt
  replace b1 := b1.below hb_ b1.lt
  clear hb_
  cases hl : levelB z with
  | false =>
    have HR : Hid (ofF x y z = ⟨0, 0, 0, 1⟩) := Lib.hid (by simp [ofF, hl])
    clear hl
    have r1 := b1.cell
    have f1 := b1.frozen
    go_wp2
    exact ret_box2 (by rfl) (by rfl) (by rfl) (b1.set3 _ _ _) Tryd.underlying23 rfl (by kernel_rfl) rfl (RetB.mk' (by rw [HR.out]; rfl) (by repeat (first | assumption | exact Below.refl _ _ | refine Below.setCell ?_ (by first | (simp; done) | (simp; omega) | omega) _ | refine Below.alloc ?_ (by first | (simp; done) | (simp; omega) | omega) _)))
  | true =>
    have h17 : 0 ≤ z ∧ z ≤ 17 := by simpa [levelB] using hl
    obtain ⟨hz0, hz17⟩ := h17
    have HL := Lib.hid hl
    clear hl
    have r0 := b0.cell
    go_wp2_with fail
    clear r0
    refine (inside_any x y w1).mono ?_
    rintro e w2 ⟨rfl, hb_⟩
    replace hW := hW.trans (hb_.mono hW.size)
    replace b0 := b0.below hb_ b0.lt
    replace b1 := b1.below hb_ b1.lt
    clear hb_
    cases hi : insideB x y with
    | false =>
      have HR : Hid (ofF x y z = ⟨0, 0, 0, 10⟩) := Lib.hid (by simp [ofF, HL.out, hi])
      clear hi
      have r1 := b1.cell
      have f1 := b1.frozen
      go_wp2
      exact ret_box2 (by rfl) (by rfl) (by rfl) (b1.set3 _ _ _) Tryd.underlying23 rfl (by kernel_rfl) rfl (RetB.mk' (by rw [HR.out]; rfl) (by repeat (first | assumption | exact Below.refl _ _ | refine Below.setCell ?_ (by first | (simp; done) | (simp; omega) | omega) _ | refine Below.alloc ?_ (by first | (simp; done) | (simp; omega) | omega) _)))
    | true =>
      have HR : Hid (ofF x y z = ⟨z, x / side z, y / side z, 0⟩) := Lib.hid (by simp [ofF, HL.out, hi])
      have hi' : (0 ≤ x ∧ x < 1048576) ∧ 0 ≤ y ∧ y < 1048576 := by simpa [insideB, and_assoc] using hi
      obtain ⟨⟨hx0, hx1⟩, hy0, hy1⟩ := hi'
      clear hi
      go_wp2_with fail
      refine (sides_any w2).mono ?_
      rintro e w3 ⟨rfl, hb_⟩
      replace hW := hW.trans (hb_.mono hW.size)
      replace b0 := b0.below hb_ b0.lt
      replace b1 := b1.below hb_ b1.lt
      clear hb_
      have hs := sides_at z hz0 hz17
      have hsd := side_bd z hz0 hz17
      obtain ⟨hs8, hs20⟩ := hsd
      go_wp2_with fail
      have q0 := cell_regrown (b0.cell 0)
      have q1 := cell_regrown (b0.cell 1)
      refine wp_region_below_tail 10 (by kernel_rfl) (by kernel_rfl) ?_
      simp only [List.take_succ_cons, List.take_zero, List.drop_succ_cons, List.drop_zero]
      repeat (go_big_quiet_step (fail))
      refine wpQuiet_nil ?_
      rintro w4 hb4
      replace hW := hW.trans (hb4.mono hW.size)
      replace b1 := b1.below hb4 b1.lt
      have r1 := b1.cell
      have f1 := b1.frozen
      clear q0 q1 hs
      go_wp2
      exact ret_box2 (by rfl) (by rfl) (by rfl) (b1.set3 _ _ _) Tryd.underlying23 rfl (by kernel_rfl) rfl (RetB.mk' (by rw [HR.out]; rfl) (by repeat (first | assumption | exact Below.refl _ _ | refine Below.setCell ?_ (by first | (simp; done) | (simp; omega) | omega) _ | refine Below.alloc ?_ (by first | (simp; done) | (simp; omega) | omega) _)))

set_option maxHeartbeats 1000000 in
theorem box_any (z x y : Int) (w : World) : Calls Tryd.prog 12 #[.agg #[.int .i64 z, .int .i64 x, .int .i64 y]] w (RetB w (boxF z x y).v) := by
  go_enter Tryd.func12, Tryd.ntmps12
  go_wp2_with fail
  refine calls_abs (fun W => Below w.heap.size w W ∧ Box W w.heap.size #[.int .i64 z, .int .i64 x, .int .i64 y] 23 ∧ Box W (w.heap.size + 1) #[.int .i64 0, .int .i64 0, .int .i64 0, .int .i64 0] 33)
    ⟨((Below.refl _ _).alloc (Nat.le_refl _) _).alloc (by simp) _, (Box.new _ _ _).alloc _, Box.new' (by simp) _ _⟩ ?_
  rintro W ⟨hW, b0, b1⟩
  refine (valid_any z x y W).mono ?_
  rintro e w1 ⟨rfl, hb_⟩
  replace hW := hW.trans (hb_.mono hW.size)
  replace b0 := b0.below hb_ b0.lt
  replace b1 := b1.below hb_ b1.lt
  clear hb_
  cases hl : validB z x y with
  | false =>
    have HR : Hid (boxF z x y = ⟨0, 0, 0, 0, 1⟩) := Lib.hid (by simp [boxF, hl])
    clear hl
    have r1 := b1.cell
    have f1 := b1.frozen
    go_wp2
    exact ret_box2 (by rfl) (by rfl) (by rfl) (b1.set4 _ _ _ _) Tryd.underlying33 rfl (by kernel_rfl) rfl (RetB.mk' (by rw [HR.out]; rfl) (by repeat (first | assumption | exact Below.refl _ _ | refine Below.setCell ?_ (by first | (simp; done) | (simp; omega) | omega) _ | refine Below.alloc ?_ (by first | (simp; done) | (simp; omega) | omega) _)))
  | true =>
    have HR : Hid (boxF z x y = ⟨x * side z, y * side z, x * side z + side z - 1, y * side z + side z - 1, 0⟩) := Lib.hid (by simp [boxF, hl])
    have hv := valid_spec hl
    obtain ⟨hz0, hz17, hx0, hxs, hy0, hys⟩ := hv
    clear hl
    have hs := sides_at z hz0 hz17
    have hsd := side_bd z hz0 hz17
    obtain ⟨hs8, hs20⟩ := hsd
    have m1 : 0 ≤ x * side z := Int.mul_nonneg hx0 (by omega)
    have m2 : 0 ≤ y * side z := Int.mul_nonneg hy0 (by omega)
    go_wp2_with fail
    have q0 := cell_regrown (b0.cell 0)
    have cS := quietC (W := w1) (fun w' _ => sides_any w')
    refine wp_region_quiet_below (by kernel_rfl) (by kernel_rfl) ?_
    repeat (go_big_quiet_step (exact cS _ _))
    refine wpQuiet_nil ?_
    rintro w2 hb2
    replace hb2 := below_of_regrown hb2
    replace hW := hW.trans (hb2.mono hW.size)
    replace b0 := b0.below hb2 b0.lt
    replace b1 := b1.below hb2 b1.lt
    clear q0 cS hs hb2
    have r0 := b0.cell
    have r1 := b1.cell
    have f1 := b1.frozen
    have l0 := b0.lt
    have l1 := b1.lt
    go_wp2
    exact ret_box2 (by rfl) (by rfl) (by rfl) ((b1.set4 _ _ _ _).alloc _) Tryd.underlying33 rfl (by kernel_rfl) rfl (RetB.mk' (by rw [HR.out]; rfl) (by repeat (first | assumption | exact Below.refl _ _ | refine Below.setCell ?_ (by first | (simp; done) | (simp; omega) | omega) _ | refine Below.alloc ?_ (by first | (simp; done) | (simp; omega) | omega) _)))

set_option maxHeartbeats 1000000 in
theorem up_any (z x y : Int) (w : World) : Calls Tryd.prog 15 #[.agg #[.int .i64 z, .int .i64 x, .int .i64 y]] w (RetB w (upF z x y).v) := by
  go_enter Tryd.func15, Tryd.ntmps15
  go_wp2_with fail
  refine calls_abs (fun W => Below w.heap.size w W ∧ Box W w.heap.size #[.int .i64 z, .int .i64 x, .int .i64 y] 23 ∧ Box W (w.heap.size + 1) #[.int .i64 0, .int .i64 0, .int .i64 0] 23)
    ⟨((Below.refl _ _).alloc (Nat.le_refl _) _).alloc (by simp) _, (Box.new _ _ _).alloc _, Box.new' (by simp) _ _⟩ ?_
  rintro W ⟨hW, b0, b1⟩
  refine (valid_any z x y W).mono ?_
  rintro e w1 ⟨rfl, hb_⟩
  replace hW := hW.trans (hb_.mono hW.size)
  replace b0 := b0.below hb_ b0.lt
  replace b1 := b1.below hb_ b1.lt
  clear hb_
  have r1 := b1.cell
  have f1 := b1.frozen
  cases hl : validB z x y with
  | false =>
    have HR : Hid (upF z x y = ⟨0, 0, 0, 1⟩) := Lib.hid (by simp [upF, hl])
    clear hl
    go_wp2
    exact ret_box2 (by rfl) (by rfl) (by rfl) (b1.set3 _ _ _) Tryd.underlying23 rfl (by kernel_rfl) rfl (RetB.mk' (by rw [HR.out]; rfl) (by repeat (first | assumption | exact Below.refl _ _ | refine Below.setCell ?_ (by first | (simp; done) | (simp; omega) | omega) _ | refine Below.alloc ?_ (by first | (simp; done) | (simp; omega) | omega) _)))
  | true =>
    have HL := Lib.hid hl
    have hv := valid_spec hl
    obtain ⟨hz0, hz17, hx0, hxs, hy0, hys⟩ := hv
    clear hl
    have r0 := b0.cell
    have hx1 : x ≤ 1048576 := by have := HL.out; have := valid_le this; omega
    have hy1 : y ≤ 1048576 := by have := HL.out; have := valid_le this; omega
    clear hxs hys
    by_cases hz : z = 0
    · have HR : Hid (upF z x y = ⟨0, 0, 0, 11⟩) := Lib.hid (by unfold upF; rw [if_pos HL.out, if_pos hz])
      subst hz
      go_wp2
      exact ret_box2 (by rfl) (by rfl) (by rfl) (b1.set3 _ _ _) Tryd.underlying23 rfl (by kernel_rfl) rfl (RetB.mk' (by rw [HR.out]; rfl) (by repeat (first | assumption | exact Below.refl _ _ | refine Below.setCell ?_ (by first | (simp; done) | (simp; omega) | omega) _ | refine Below.alloc ?_ (by first | (simp; done) | (simp; omega) | omega) _)))
    · have HR : Hid (upF z x y = ⟨z - 1, x / 2, y / 2, 0⟩) := Lib.hid (by unfold upF; rw [if_pos HL.out, if_neg hz])
      go_wp2
      exact ret_box2 (by rfl) (by rfl) (by rfl) (b1.set3 _ _ _) Tryd.underlying23 rfl (by kernel_rfl) rfl (RetB.mk' (by rw [HR.out]; rfl) (by repeat (first | assumption | exact Below.refl _ _ | refine Below.setCell ?_ (by first | (simp; done) | (simp; omega) | omega) _ | refine Below.alloc ?_ (by first | (simp; done) | (simp; omega) | omega) _)))

set_option maxHeartbeats 1000000 in
theorem scale_any (z n : Int) (b : Nat) (w : World) (hz0 : 0 ≤ z) (hz17 : z ≤ 17) (h0 : -4194304 ≤ n) (h1 : n ≤ 4194304) (hc : w.cell? ⟨b, 0, none⟩ = some (.int .i64 z)) :
    Calls Tryd.prog 37 #[.int .i64 n, .pointer (some ⟨b, 0, none⟩)] w (RetB w (.int .i64 (scaleF z n))) := by
  have HR : Hid (scaleF z n = n * 256 / 2 ^ (20 - z).toNat) := Lib.hid (by unfold scaleF side; congr 2; omega)
  go_enter Tryd.func37, Tryd.ntmps37
  go_wp2
  go_ret
  exact RetB.mk' (by rw [HR.out]; rfl) (Below.refl _ _)
end Go.Proofs.YthggpflfjghooaaDoor

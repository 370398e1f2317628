import Derived.Test.YtaggohobdjidjaaGreatDoorJ0

/- grid.Pixel for this seat (printed by wip/gridcut.py out of the grid seat's texts). -/
namespace Go.Proofs.YtaggohobdjidjaaGreatDoor
open Go.RowKit Go.Sort
def TE.v (r : TE) : Value := .tuple #[.agg #[.int .i64 r.z, .int .i64 r.x, .int .i64 r.y], .int .i64 r.e]
def BE.v (r : BE) : Value := .tuple #[.agg #[.int .i64 r.a, .int .i64 r.b, .int .i64 r.c, .int .i64 r.d], .int .i64 r.e]
def PE.v (r : PE) : Value := .tuple #[.agg #[.int .i64 r.x, .int .i64 r.y], .int .i64 r.e]
namespace Gr

def sidesV : Array Value := #[.int .i64 1048576, .int .i64 524288, .int .i64 262144, .int .i64 131072, .int .i64 65536, .int .i64 32768, .int .i64 16384, .int .i64 8192, .int .i64 4096, .int .i64 2048, .int .i64 1024, .int .i64 512, .int .i64 256, .int .i64 128, .int .i64 64, .int .i64 32, .int .i64 16, .int .i64 8]
/-- The first k sides, then noughts. -/
def sidesUp (k : Nat) : Array Value := ((sidesV.toList.take k) ++ List.replicate (18 - k) (Value.int .i64 0)).toArray
theorem sidesUp_set (k : Nat) (h : k < 18) : (sidesUp k).setIfInBounds k (.int .i64 (1048576 / 2 ^ k)) = sidesUp (k + 1) := by
  have : k = 0 ∨ k = 1 ∨ k = 2 ∨ k = 3 ∨ k = 4 ∨ k = 5 ∨ k = 6 ∨ k = 7 ∨ k = 8 ∨ k = 9 ∨ k = 10 ∨ k = 11 ∨ k = 12 ∨ k = 13 ∨ k = 14 ∨ k = 15 ∨ k = 16 ∨ k = 17 := by omega
  rcases this with rfl | rfl | rfl | rfl | rfl | rfl | rfl | rfl | rfl | rfl | rfl | rfl | rfl | rfl | rfl | rfl | rfl | rfl <;> rfl

theorem sidesUp_get (k : Nat) (h : k < 18) : (sidesUp k)[k]? = some (.int .i64 0) := by
  have : k = 0 ∨ k = 1 ∨ k = 2 ∨ k = 3 ∨ k = 4 ∨ k = 5 ∨ k = 6 ∨ k = 7 ∨ k = 8 ∨ k = 9 ∨ k = 10 ∨ k = 11 ∨ k = 12 ∨ k = 13 ∨ k = 14 ∨ k = 15 ∨ k = 16 ∨ k = 17 := by omega
  rcases this with rfl | rfl | rfl | rfl | rfl | rfl | rfl | rfl | rfl | rfl | rfl | rfl | rfl | rfl | rfl | rfl | rfl | rfl <;> rfl

set_option maxHeartbeats 1000000 in
set_option maxRecDepth 100000 in
theorem sides_any (w : World) : Calls Tryz.prog 100 #[] w (RetB w (.agg sidesV)) := by
  go_enter Tryz.func100, Tryz.ntmps100
  go_wp2
  go_loopw [3] (fun v wr => ∃ k : Nat, k ≤ 18 ∧ v = .int .i64 k ∧ Below w.heap.size w wr ∧ Box wr w.heap.size (sidesUp 0) 129 ∧ Box wr (w.heap.size + 1) (sidesUp k) 129) (fun v _ => 18 - (intOf v).toNat)
  case atStart => exact ⟨0, by omega, rfl, (((Below.refl _ _).alloc (Nat.le_refl _) _).alloc (by simp) _), (Box.new _ _ _).alloc _, Box.new' (by simp) _ _⟩
  case round =>
    obtain ⟨k, hk, rfl, hB, b0, b1⟩ := hrel
    by_cases hlt : k < 18
    · have hc := b1.cell k
      have hf := b1.frozen k
      rw [sidesUp_get k hlt] at hc
      have H1 := Lib.hid b1
      go_wp2
      go_roundw
      case rel =>
        refine ⟨k + 1, by omega, by go_num, hB.setCell (by simp) _, b0.set_other (by omega) _ _, ?_⟩
        have := b1.set k (.int .i64 (1048576 / 2 ^ k))
        rwa [sidesUp_set k hlt] at this
      case measure => simp [intOf]; omega
    · obtain rfl : k = 18 := by omega
      go_wp2_with (first
        | refine wpList_load_row rfl 129 (.tmp 1) rfl (w.heap.size + 1) (by rfl) 129 (sidesUp 18) (0, 0) _ b1 Tryz.underlying129 rfl (by kernel_rfl) ?_
        | refine wpList_store_mid rfl 129 (.tmp 0) (.tmp 11) rfl w.heap.size 0 (sidesUp 18) (by rfl) (by rfl) b0.there (by kernel_rfl) (by kernel_rfl) ?_)
      have b2 := b0.setAll (vs := sidesUp 18) rfl
      exact ret_box (by rfl) (by rfl) b2 Tryz.underlying129 rfl (by kernel_rfl) rfl (RetB.mk' rfl (Below.setCells' (Nat.le_refl _) _ _ _ hB))


theorem level_any (z : Int) (w : World) : Calls Tryz.prog 125 #[.int .i64 z] w (RetB w (.bool (levelB z))) := by
  have HB : Hid (levelB z = decide (0 ≤ z ∧ z ≤ 17)) := Lib.hid rfl
  by_cases h0 : 0 ≤ z
  all_goals
    go_enter Tryz.func125, Tryz.ntmps125
    go_wp2
    go_ret
    exact RetB.mk' (congrArg Value.bool (by rw [HB.out, Bool.eq_iff_iff]; simp; omega)) (Below.refl _ _)



set_option maxHeartbeats 1000000 in
theorem valid_any (z x y : Int) (w : World) :
    Calls Tryz.prog 99 #[.agg #[.int .i64 z, .int .i64 x, .int .i64 y]] w (RetB w (.bool (validB z x y))) := by
  have HB : Hid (validB z x y = decide ((0 ≤ z ∧ z ≤ 17) ∧ 0 ≤ x ∧ x < 2 ^ z.toNat ∧ 0 ≤ y ∧ y < 2 ^ z.toNat)) := Lib.hid rfl
  cases hl : levelB z with
  | false =>
    have HL := Lib.hid hl
    go_enter Tryz.func99, Tryz.ntmps99
    go_wp2_with fail
    refine wp_abs (fun W => Below w.heap.size w W ∧ Box W w.heap.size #[.int .i64 z, .int .i64 x, .int .i64 y] 83) ⟨(Below.refl _ _).alloc (Nat.le_refl _) _, Box.new _ _ _⟩ ?_
    rintro W ⟨hW, hb⟩
    have g0 := cell_regrown (hb.cell 0)
    have cL := quietC (W := W) (fun w' _ => level_any z w')
    rw [hl] at cL
    clear hl
    refine wp_region_quiet_below (by kernel_rfl) (by kernel_rfl) ?_
    repeat (go_big_quiet_step (exact cL _ _))
    refine wpQuiet_nil ?_
    rintro W2 hw2
    replace hw2 := below_of_regrown hw2
    go_wp2
    go_ret
    refine RetB.mk' (congrArg Value.bool ?_) (hW.trans (hw2.mono hW.size))
    have h := HL.out
    unfold levelB at h
    rw [HB.out]
    simp at h ⊢
    omega
  | true =>
    have h17 : 0 ≤ z ∧ z ≤ 17 := by simpa [levelB] using hl
    have hp := pow_le17 z h17.1 h17.2
    have hs : IntKind.i64.wrap (2 ^ z.toNat) = 2 ^ z.toNat := IntWalk.i64_in _ (by omega)
    obtain ⟨hz0, hz17⟩ := h17
    by_cases hyx : y < x
    all_goals by_cases h0 : 0 ≤ y
    all_goals by_cases h1 : 0 ≤ x
    all_goals first | (exfalso; omega) | skip
    all_goals try have q0 := decide_eq_false h0
    all_goals try have q1 := decide_eq_false h1
    all_goals
      go_enter Tryz.func99, Tryz.ntmps99
      go_wp2_with fail
      refine wp_abs (fun W => Below w.heap.size w W ∧ Box W w.heap.size #[.int .i64 z, .int .i64 x, .int .i64 y] 83) ⟨(Below.refl _ _).alloc (Nat.le_refl _) _, Box.new _ _ _⟩ ?_
      rintro W ⟨hW, hb⟩
      have g0 := cell_regrown (hb.cell 0)
      have g1 := cell_regrown (hb.cell 1)
      have g2 := cell_regrown (hb.cell 2)
      have cL := quietC (W := W) (fun w' _ => level_any z w')
      rw [hl] at cL
    all_goals clear hl
    all_goals
      refine wp_region_quiet_below (by kernel_rfl) (by kernel_rfl) ?_
      repeat (go_big_quiet_step (exact cL _ _))
      refine wpQuiet_nil ?_
      rintro W2 hw2
      replace hw2 := below_of_regrown hw2
    all_goals
      go_wp2
    all_goals
      go_ret
      refine RetB.mk' (congrArg Value.bool ?_) (hW.trans (hw2.mono hW.size))
      rw [HB.out, Bool.eq_iff_iff]
      simp
      omega



theorem sides_at (z : Int) (h0 : 0 ≤ z) (h1 : z ≤ 17) (w : World) : (Instr.index 129 (.agg sidesV) (.int .i64 z)).run Tryz.prog w = .ok (.int .i64 (side z)) w := by
  rcases lev17 h0 h1 with rfl | rfl | rfl | rfl | rfl | rfl | rfl | rfl | rfl | rfl | rfl | rfl | rfl | rfl | rfl | rfl | rfl | rfl <;> kernel_rfl



set_option maxHeartbeats 1000000 in
theorem box_any (z x y : Int) (w : World) : Calls Tryz.prog 70 #[.agg #[.int .i64 z, .int .i64 x, .int .i64 y]] w (RetB w (boxF z x y).v) := by
  go_enter Tryz.func70, Tryz.ntmps70
  go_wp2_with fail
  refine calls_abs (fun W => Below w.heap.size w W ∧ Box W w.heap.size #[.int .i64 z, .int .i64 x, .int .i64 y] 83 ∧ Box W (w.heap.size + 1) #[.int .i64 0, .int .i64 0, .int .i64 0, .int .i64 0] 26)
    ⟨((Below.refl _ _).alloc (Nat.le_refl _) _).alloc (by simp) _, (Box.new _ _ _).alloc _, Box.new' (by simp) _ _⟩ ?_
  rintro W ⟨hW, b0, b1⟩
  refine (valid_any z x y W).mono ?_
  rintro e w1 ⟨rfl, hb_⟩
  replace hW := hW.trans (hb_.mono hW.size)
  replace b0 := b0.below hb_ b0.lt
  replace b1 := b1.below hb_ b1.lt
  clear hb_
  cases hl : validB z x y with
  | false =>
    have HR : Hid (boxF z x y = ⟨0, 0, 0, 0, 1⟩) := Lib.hid (by simp [boxF, hl])
    clear hl
    have r1 := b1.cell
    have f1 := b1.frozen
    go_wp2
    exact ret_box2 (by rfl) (by rfl) (by rfl) (b1.set4 _ _ _ _) Tryz.underlying26 rfl (by kernel_rfl) rfl (RetB.mk' (by rw [HR.out]; rfl) (by repeat (first | assumption | exact Below.refl _ _ | refine Below.setCell ?_ (by first | (simp; done) | (simp; omega) | omega) _ | refine Below.alloc ?_ (by first | (simp; done) | (simp; omega) | omega) _)))
  | true =>
    have HR : Hid (boxF z x y = ⟨x * side z, y * side z, x * side z + side z - 1, y * side z + side z - 1, 0⟩) := Lib.hid (by simp [boxF, hl])
    have hv := valid_spec hl
    obtain ⟨hz0, hz17, hx0, hxs, hy0, hys⟩ := hv
    clear hl
    have hs := sides_at z hz0 hz17
    have hsd := side_bd z hz0 hz17
    obtain ⟨hs8, hs20⟩ := hsd
    have m1 : 0 ≤ x * side z := Int.mul_nonneg hx0 (by omega)
    have m2 : 0 ≤ y * side z := Int.mul_nonneg hy0 (by omega)
    go_wp2_with fail
    have q0 := cell_regrown (b0.cell 0)
    have cS := quietC (W := w1) (fun w' _ => sides_any w')
    refine wp_region_quiet_below (by kernel_rfl) (by kernel_rfl) ?_
    repeat (go_big_quiet_step (exact cS _ _))
    refine wpQuiet_nil ?_
    rintro w2 hb2
    replace hb2 := below_of_regrown hb2
    replace hW := hW.trans (hb2.mono hW.size)
    replace b0 := b0.below hb2 b0.lt
    replace b1 := b1.below hb2 b1.lt
    clear q0 cS hs hb2
    have r0 := b0.cell
    have r1 := b1.cell
    have f1 := b1.frozen
    have l0 := b0.lt
    have l1 := b1.lt
    go_wp2
    exact ret_box2 (by rfl) (by rfl) (by rfl) ((b1.set4 _ _ _ _).alloc _) Tryz.underlying26 rfl (by kernel_rfl) rfl (RetB.mk' (by rw [HR.out]; rfl) (by repeat (first | assumption | exact Below.refl _ _ | refine Below.setCell ?_ (by first | (simp; done) | (simp; omega) | omega) _ | refine Below.alloc ?_ (by first | (simp; done) | (simp; omega) | omega) _)))



set_option maxHeartbeats 1000000 in
theorem scale_any (z n : Int) (b : Nat) (w : World) (hz0 : 0 ≤ z) (hz17 : z ≤ 17) (h0 : -4194304 ≤ n) (h1 : n ≤ 4194304) (hc : w.cell? ⟨b, 0, none⟩ = some (.int .i64 z)) :
    Calls Tryz.prog 71 #[.int .i64 n, .pointer (some ⟨b, 0, none⟩)] w (RetB w (.int .i64 (scaleF z n))) := by
  have HR : Hid (scaleF z n = n * 256 / 2 ^ (20 - z).toNat) := Lib.hid (by unfold scaleF side; congr 2; omega)
  go_enter Tryz.func71, Tryz.ntmps71
  go_wp2
  go_ret
  exact RetB.mk' (by rw [HR.out]; rfl) (Below.refl _ _)


theorem boxF_ok {z x y : Int} (h : validB z x y = true) : boxF z x y = ⟨x * side z, y * side z, x * side z + side z - 1, y * side z + side z - 1, 0⟩ := by unfold boxF; rw [if_pos h]
theorem boxF_no {z x y : Int} (h : validB z x y = false) : boxF z x y = ⟨0, 0, 0, 0, 1⟩ := by unfold boxF; rw [h]; rfl

set_option maxRecDepth 100000 in
set_option maxHeartbeats 2000000 in
theorem pixel_any (z x y px py : Int) (w : World) : Calls Tryz.prog 44 #[.agg #[.int .i64 z, .int .i64 x, .int .i64 y], .agg #[.int .i64 px, .int .i64 py]] w (RetB w (pixelF z x y px py).v) := by
  go_enter Tryz.func44, Tryz.ntmps44
  go_wp2_with fail
  refine calls_abs (fun W => Below w.heap.size w W ∧ Box W w.heap.size #[.int .i64 z, .int .i64 x, .int .i64 y] 83 ∧ Box W (w.heap.size + 1) #[.int .i64 px, .int .i64 py] 24 ∧ Box W (w.heap.size + 1 + 1) #[.int .i64 0, .int .i64 0] 24)
    ⟨(((Below.refl _ _).alloc (Nat.le_refl _) _).alloc (by simp) _).alloc (by simp; omega) _, ((Box.new _ _ _).alloc _).alloc _, (Box.new' (by simp) _ _).alloc _, Box.new' (by simp) _ _⟩ ?_
  rintro W ⟨hW, b0, b1, b2⟩
  refine (box_any z x y W).mono ?_
  rintro e w1 ⟨rfl, hb_⟩
  replace hW := hW.trans (hb_.mono hW.size)
  replace b0 := b0.below hb_ b0.lt
  replace b1 := b1.below hb_ b1.lt
  replace b2 := b2.below hb_ b2.lt
  clear hb_
  have r2 := b2.cell
  have f2 := b2.frozen
  have l0 := b0.lt
  have l1 := b1.lt
  have l2 := b2.lt
  cases hl : validB z x y with
  | false =>
    have HR : Hid (pixelF z x y px py = ⟨0, 0, 1⟩) := Lib.hid (by unfold pixelF; rw [hl]; rfl)
    rw [boxF_no hl]
    clear hl
    unfold BE.v
    go_wp2
    exact ret_box2 (by rfl) (by rfl) (by rfl) ((b2.set2 _ _).alloc _) Tryz.underlying24 rfl (by kernel_rfl) rfl (RetB.mk' (by rw [HR.out]; rfl) (by repeat (first | assumption | exact Below.refl _ _ | refine Below.setCell ?_ (by first | (simp; done) | (simp; omega) | omega) _ | refine Below.alloc ?_ (by first | (simp; done) | (simp; omega) | omega) _)))
  | true =>
    have HL := Lib.hid hl
    have hv := valid_spec hl
    obtain ⟨hz0, hz17, hx0, hxs, hy0, hys⟩ := hv
    have hsd := side_bd z hz0 hz17
    obtain ⟨hs8, hs20⟩ := hsd
    have m1 : 0 ≤ x * side z := Int.mul_nonneg hx0 (by omega)
    have m2 : 0 ≤ y * side z := Int.mul_nonneg hy0 (by omega)
    rw [boxF_ok hl]
    clear hl
    unfold BE.v
    have r1 := b1.cell
    by_cases c0 : px < -2097152
    all_goals by_cases c1 : py < -2097152
    all_goals by_cases c2 : 2097152 < px
    all_goals by_cases c3 : 2097152 < py
    all_goals first | (exfalso; omega) | skip
    all_goals by_cases hpy : py < px
    all_goals first | (exfalso; omega) | skip
    all_goals go_wp2_with fail
    all_goals first
      | (have HR : Hid (pixelF z x y px py = ⟨0, 0, 10⟩) := Lib.hid (by unfold pixelF; rw [if_pos HL.out, if_pos (by simp [farB]; omega)])
         exact ret_box2 (by rfl) (by rfl) (by rfl) ((b2.set2 _ _).alloc _) Tryz.underlying24 rfl (by kernel_rfl) rfl (RetB.mk' (by rw [HR.out]; rfl) (by repeat (first | assumption | exact Below.refl _ _ | refine Below.setCell ?_ (by first | (simp; done) | (simp; omega) | omega) _ | refine Below.alloc ?_ (by first | (simp; done) | (simp; omega) | omega) _))))
      | skip
    all_goals
      have HR : Hid (pixelF z x y px py = ⟨scaleF z (px - x * side z), scaleF z (py - y * side z), 0⟩) := Lib.hid (by unfold pixelF; rw [if_pos HL.out, if_neg (by simp [farB]; omega)])
      clear r1 r2 f2
      refine wp_abs (fun W2 => Below w.heap.size w W2 ∧ Box W2 w.heap.size #[.int .i64 z, .int .i64 x, .int .i64 y] 83 ∧ Box W2 (w.heap.size + 1) #[.int .i64 px, .int .i64 py] 24 ∧ Box W2 (w.heap.size + 1 + 1) #[.int .i64 0, .int .i64 0] 24 ∧
        Box W2 w1.heap.size #[.int .i64 (x * side z), .int .i64 (y * side z), .int .i64 (x * side z + side z - 1), .int .i64 (y * side z + side z - 1)] 26)
        ⟨hW.alloc (by omega) _, b0.alloc _, b1.alloc _, b2.alloc _, Box.new _ _ _⟩ ?_
      clear hW b0 b1 b2
      rintro W2 ⟨hW, b0, b1, b2, b3⟩
      have q1 := cell_regrown (b1.cell 0)
      have q2 := cell_regrown (b1.cell 1)
      have q3 := cell_regrown (b3.cell 0)
      have q4 := cell_regrown (b3.cell 1)
      have cX := quietC (W := W2) (fun w' hb => scale_any z (px - x * side z) w.heap.size w' hz0 hz17 (by omega) (by omega) ((b0.below hb b0.lt).cell 0))
      have cY := quietC (W := W2) (fun w' hb => scale_any z (py - y * side z) w.heap.size w' hz0 hz17 (by omega) (by omega) ((b0.below hb b0.lt).cell 0))
    all_goals
      refine wp_region_below_tail 17 (by kernel_rfl) (by kernel_rfl) ?_
      simp only [List.take_succ_cons, List.take_zero, List.drop_succ_cons, List.drop_zero]
      repeat (go_big_quiet_step (first | (with_reducible exact cX _ _) | (with_reducible exact cY _ _)))
      refine wpQuiet_nil ?_
      rintro W3 hb3
      replace hW := hW.trans (hb3.mono hW.size)
      replace b2 := b2.below hb3 b2.lt
      have r2 := b2.cell
      have f2 := b2.frozen
      clear q1 q2 q3 q4 cX cY
      go_wp2
      exact ret_box2 (by rfl) (by rfl) (by rfl) (b2.set2 _ _) Tryz.underlying24 rfl (by kernel_rfl) rfl (RetB.mk' (by rw [HR.out]; rfl) (by repeat (first | assumption | exact Below.refl _ _ | refine Below.setCell ?_ (by first | (simp; done) | (simp; omega) | omega) _ | refine Below.alloc ?_ (by first | (simp; done) | (simp; omega) | omega) _)))

end Gr
end Go.Proofs.YtaggohobdjidjaaGreatDoor

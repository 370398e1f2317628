/- The reference of layer 7: Pixel, the comparison of lists, Kids. No condition but what the lists hold. -/
import Derived.Test.YthggpflfjghooaaDoorRefB
import Derived.Test.YthggpflfjghooaaDoorLawKids
namespace Go.Proofs.YthggpflfjghooaaDoor
open Go.RowKit Go.Sort

set_option maxRecDepth 100000 in
set_option maxHeartbeats 4000000 in
theorem rpixel_any (z x y px py : Int) (w : World) : Calls Tryd.prog 26 #[.agg #[.int .i64 z, .int .i64 x, .int .i64 y], .agg #[.int .i64 px, .int .i64 py]] w (RetB w (pixelF z x y px py).v) := by
  go_enter Tryd.func26, Tryd.ntmps26
  go_wp2_with fail
  refine calls_abs (fun W => Below w.heap.size w W ∧ Box W w.heap.size #[.int .i64 z, .int .i64 x, .int .i64 y] 23 ∧ Box W (w.heap.size + 1) #[.int .i64 px, .int .i64 py] 31 ∧ Box W (w.heap.size + 1 + 1) #[.int .i64 0, .int .i64 0] 31)
    ⟨(((Below.refl _ _).alloc (Nat.le_refl _) _).alloc (by simp) _).alloc (by simp; omega) _, ((Box.new _ _ _).alloc _).alloc _, (Box.new' (by simp) _ _).alloc _, Box.new' (by simp) _ _⟩ ?_
  rintro W ⟨hW, b0, b1, b2⟩
  refine (rbox_any z x y W).mono ?_
  rintro e w1 ⟨rfl, hb_⟩
  replace hW := hW.trans (hb_.mono hW.size)
  replace b0 := b0.below hb_ b0.lt
  replace b1 := b1.below hb_ b1.lt
  replace b2 := b2.below hb_ b2.lt
  clear hb_
  have l0 := b0.lt
  have l1 := b1.lt
  have l2 := b2.lt
  cases hl : validB z x y with
  | false =>
    have HR : Hid (pixelF z x y px py = ⟨0, 0, 1⟩) := Lib.hid (by unfold pixelF; rw [hl]; rfl)
    rw [boxF_no hl]
    clear hl
    unfold BE.v
    have r2 := b2.cell
    have f2 := b2.frozen
    go_wp2
    exact ret_box2 (by rfl) (by rfl) (by rfl) ((b2.set2 _ _).alloc _) Tryd.underlying31 rfl (by kernel_rfl) rfl (RetB.mk' (by rw [HR.out]; rfl) (by repeat (first | assumption | exact Below.refl _ _ | refine Below.setCell ?_ (by first | (simp; done) | (simp; omega) | omega) _ | refine Below.alloc ?_ (by first | (simp; done) | (simp; omega) | omega) _)))
  | true =>
    have HL := Lib.hid hl
    have hv := valid_spec hl
    obtain ⟨hz0, hz17, hx0, hxs, hy0, hys⟩ := hv
    have hsd := side_bd z hz0 hz17
    obtain ⟨hs8, hs20⟩ := hsd
    have m1 : 0 ≤ x * side z := Int.mul_nonneg hx0 (by omega)
    have m2 : 0 ≤ y * side z := Int.mul_nonneg hy0 (by omega)
    rw [boxF_ok hl]
    clear hl
    unfold BE.v
    have r1 := b1.cell
    go_wp2_with fail
    clear r1
    refine (rfar_any px _).mono ?_
    rintro e w2 ⟨rfl, hb_⟩
    have b3 := (Box.new _ _ _).below hb_ (Box.new _ _ _).lt
    replace b0 := (b0.alloc _).below hb_ (b0.alloc _).lt
    replace b1 := (b1.alloc _).below hb_ (b1.alloc _).lt
    replace b2 := (b2.alloc _).below hb_ (b2.alloc _).lt
    replace hW := (hW.alloc hW.size _).trans (hb_.mono (hW.alloc hW.size _).size)
    clear hb_
    by_cases c0 : px < -2097152 ∨ 2097152 < px
    · have HR : Hid (pixelF z x y px py = ⟨0, 0, 10⟩) := Lib.hid (by unfold pixelF; rw [if_pos HL.out, if_pos (by simp [farB]; omega)])
      rw [decide_eq_true c0]
      clear c0
      have r2 := b2.cell
      have f2 := b2.frozen
      have l2 := b2.lt
      go_wp2
      exact ret_box2 (by rfl) (by rfl) (by rfl) (b2.set2 _ _) Tryd.underlying31 rfl (by kernel_rfl) rfl (RetB.mk' (by rw [HR.out]; rfl) (by repeat (first | assumption | exact Below.refl _ _ | refine Below.setCell ?_ (by first | (simp; done) | (simp; omega) | omega) _ | refine Below.alloc ?_ (by first | (simp; done) | (simp; omega) | omega) _)))
    · rw [decide_eq_false c0]
      have hpx : -2097152 ≤ px ∧ px ≤ 2097152 := by omega
      obtain ⟨hpx0, hpx1⟩ := hpx
      clear c0
      have r1 := b1.cell
      have l1 := b1.lt
      go_wp2_with fail
      clear r1
      refine (rfar_any py _).mono ?_
      rintro e w3 ⟨rfl, hb_⟩
      replace hW := hW.trans (hb_.mono hW.size)
      replace b0 := b0.below hb_ b0.lt
      replace b1 := b1.below hb_ b1.lt
      replace b2 := b2.below hb_ b2.lt
      replace b3 := b3.below hb_ b3.lt
      clear hb_
      by_cases c1 : py < -2097152 ∨ 2097152 < py
      · have HR : Hid (pixelF z x y px py = ⟨0, 0, 10⟩) := Lib.hid (by unfold pixelF; rw [if_pos HL.out, if_pos (by simp [farB]; omega)])
        rw [decide_eq_true c1]
        clear c1
        have r2 := b2.cell
        have f2 := b2.frozen
        have l2 := b2.lt
        go_wp2
        exact ret_box2 (by rfl) (by rfl) (by rfl) (b2.set2 _ _) Tryd.underlying31 rfl (by kernel_rfl) rfl (RetB.mk' (by rw [HR.out]; rfl) (by repeat (first | assumption | exact Below.refl _ _ | refine Below.setCell ?_ (by first | (simp; done) | (simp; omega) | omega) _ | refine Below.alloc ?_ (by first | (simp; done) | (simp; omega) | omega) _)))
      · rw [decide_eq_false c1]
        have hpy : -2097152 ≤ py ∧ py ≤ 2097152 := by omega
        obtain ⟨hpy0, hpy1⟩ := hpy
        clear c1
        have HR : Hid (pixelF z x y px py = ⟨(px - x * side z) * 256 / side z, (py - y * side z) * 256 / side z, 0⟩) := Lib.hid (by unfold pixelF; rw [if_pos HL.out, if_neg (by simp [farB]; omega)]; rfl)
        have r0 := b0.cell
        have l0 := b0.lt
        go_wp2_with fail
        clear r0
        refine (rside_any z hz0 hz17 _).mono ?_
        rintro e w4 ⟨rfl, hb_⟩
        replace hW := hW.trans (hb_.mono hW.size)
        replace b0 := b0.below hb_ b0.lt
        replace b1 := b1.below hb_ b1.lt
        replace b2 := b2.below hb_ b2.lt
        replace b3 := b3.below hb_ b3.lt
        clear hb_
        go_wp2_with fail
        have q1 := cell_regrown (b1.cell 0)
        have q2 := cell_regrown (b1.cell 1)
        have q3 := cell_regrown (b3.cell 0)
        have q4 := cell_regrown (b3.cell 1)
        have cX := quietC (W := w4) (fun w' _ => rfloor_any ((px - x * side z) * 256) (side z) (by omega) (by omega) (by omega) (by omega) w')
        have cY := quietC (W := w4) (fun w' _ => rfloor_any ((py - y * side z) * 256) (side z) (by omega) (by omega) (by omega) (by omega) w')
        refine wp_region_below_tail 19 (by kernel_rfl) (by kernel_rfl) ?_
        simp only [List.take_succ_cons, List.take_zero, List.drop_succ_cons, List.drop_zero]
        repeat (go_big_quiet_step (first | (with_reducible exact cX _ _) | (with_reducible exact cY _ _)))
        refine wpQuiet_nil ?_
        rintro W3 hb3
        replace hW := hW.trans (hb3.mono hW.size)
        replace b2 := b2.below hb3 b2.lt
        have r2 := b2.cell
        have f2 := b2.frozen
        clear q1 q2 q3 q4 cX cY
        go_wp2
        exact ret_box2 (by rfl) (by rfl) (by rfl) (b2.set2 _ _) Tryd.underlying31 rfl (by kernel_rfl) rfl (RetB.mk' (by rw [HR.out]; rfl) (by repeat (first | assumption | exact Below.refl _ _ | refine Below.setCell ?_ (by first | (simp; done) | (simp; omega) | omega) _ | refine Below.alloc ?_ (by first | (simp; done) | (simp; omega) | omega) _)))

theorem same_nil (w : World) : Calls Tryd.prog 24 #[.slice none 0 0, .slice none 0 0] w (RetB w (.bool true)) := by
  go_enter Tryd.func24, Tryd.ntmps24
  go_wp2
  go_loopw [5] (fun vi wr => vi = .int .i64 0 ∧ Below w.heap.size w wr) (fun _ _ => 0)
  case atStart => exact ⟨rfl, Below.refl _ _⟩
  case round =>
    obtain ⟨rfl, hW⟩ := hrel
    go_wp2
    go_ret
    exact RetB.mk' rfl hW

set_option maxHeartbeats 1000000 in
theorem same_any (g1 g2 n c1 c2 : Nat) (z : Int) (l : List (Int × Int)) (hl : l.length = n) (w : World) (h1 : Tiles w g1 z l) (h2 : Tiles w g2 z l) (hn : n ≤ 1000000) (hc1 : n ≤ c1) (hc2 : n ≤ c2) :
    Calls Tryd.prog 24 #[.slice (some ⟨g1, 0, none⟩) n c1, .slice (some ⟨g2, 0, none⟩) n c2] w (RetB w (.bool true)) := by
  go_enter Tryd.func24, Tryd.ntmps24
  go_wp2
  go_loopw [5] (fun vi wr => ∃ i : Nat, i ≤ n ∧ vi = .int .i64 i ∧ Below w.heap.size w wr) (fun vi _ => n - (intOf vi).toNat)
  case atStart => exact ⟨0, by omega, rfl, Below.refl _ _⟩
  case round =>
    obtain ⟨i, hi, rfl, hW⟩ := hrel
    by_cases hlt : i < n
    · obtain ⟨p, hp⟩ : ∃ p, l[i]? = some p := ⟨_, List.getElem?_eq_getElem (by omega)⟩
      obtain ⟨C0, C1, C2⟩ := (h1.below hW h1.lt).cell i p hp
      obtain ⟨D0, D1, D2⟩ := (h2.below hW h2.lt).cell i p hp
      have e0 := cell_regrown C0
      have e1 := cell_regrown C1
      have e2 := cell_regrown C2
      have f0 := cell_regrown D0
      have f1 := cell_regrown D1
      have f2 := cell_regrown D2
      clear C0 C1 C2 D0 D1 D2
      go_wp2_with fail
      refine wp_region_quiet_below (by kernel_rfl) (by kernel_rfl) ?_
      repeat (go_big_quiet_step (fail))
      refine wpQuiet_nil ?_
      rintro wc hc
      replace hc := below_of_regrown hc
      clear e0 e1 e2 f0 f1 f2
      replace hW := hW.trans (hc.mono hW.size)
      clear hc
      go_wp2
      go_roundw
      case rel => exact ⟨i + 1, by omega, by go_num, hW⟩
      case measure => simp [intOf]; omega
    · obtain rfl : i = n := by omega
      go_wp2
      go_ret
      exact RetB.mk' rfl hW

theorem below_append {W w1 : World} {B : Nat} {e : TypeId} {size : Nat} {v : Value} {n : Nat} {xs : List Value} {tmp : Obj} (h : W.ownsRow B e size v n xs) (hg : (W.alloc tmp).grownBy w1 v.ownBlock) (hB : B ≤ W.heap.size) : Below B W w1 :=
  ⟨hg.os, hg.tape, hg.output, by have := hg.size; simp at this; omega, fun b hb => ownsRow_far h hg hb hB⟩

set_option maxRecDepth 100000 in
set_option maxHeartbeats 4000000 in
theorem rkids_any (z x y : Int) (w : World) : Calls Tryd.prog 23 #[.agg #[.int .i64 z, .int .i64 x, .int .i64 y]] w (KidsR z x y w) := by
  obtain ⟨i0, hi, hz0, hz1, hz2⟩ := info_parts infoTile
  go_enter Tryd.func23, Tryd.ntmps23
  go_wp2_with fail
  refine calls_abs (fun W => Below w.heap.size w W ∧ Box W w.heap.size #[.int .i64 z, .int .i64 x, .int .i64 y] 23) ⟨(Below.refl _ _).alloc (Nat.le_refl _) _, Box.new _ _ _⟩ ?_
  rintro W ⟨hW, b0⟩
  refine (rvalid_any z x y W).mono ?_
  rintro e w1 ⟨rfl, hb_⟩
  replace hW := hW.trans (hb_.mono hW.size)
  replace b0 := b0.below hb_ b0.lt
  clear hb_
  cases hl : validB z x y with
  | false =>
    have HV := Lib.hid hl
    clear hl
    go_wp2
    go_ret2
    exact ⟨hW, .inl ⟨HV.out, rfl⟩⟩
  | true =>
    have HV := Lib.hid hl
    obtain ⟨h0, h1, hx0, -, hy0, -⟩ := valid_spec hl
    obtain ⟨hx1, hy1⟩ := valid_le hl
    clear hl
    have r0 := b0.cell
    have k0 := b0.lt
    by_cases h17 : z = 17
    · subst h17
      go_wp2
      go_ret2
      exact ⟨hW, .inr (.inl ⟨HV.out, rfl, rfl⟩)⟩
    · have hz17 : (z == 17) = false := beq_eq_false_iff_ne.2 h17
      go_wp2
      clear r0 k0
      go_loopw [4, 5] (fun vo vi wr => ∃ i : Nat, i ≤ 4 ∧ vi = .int .i64 i ∧ wr.ownsRow (w.heap.size + 1) 23 3 vo i (cellsT (z + 1) (upto (2 * x) (2 * y) 2 i)) ∧ Below w.heap.size w wr ∧ Box wr w.heap.size #[.int .i64 z, .int .i64 x, .int .i64 y] 23) (fun _ vi _ => 4 - (intOf vi).toNat)
      case atStart => exact ⟨0, by omega, rfl, World.ownsRow_nil _ _ _ _, hW, b0⟩
      case round =>
        clear hW b0
        obtain ⟨i, hi4, rfl, hown, hW, b0⟩ := hrel
        have r0 := b0.cell
        have k0 := b0.lt
        by_cases h4 : i < 4
        · have h4' : i = 0 ∨ i = 1 ∨ i = 2 ∨ i = 3 := by omega
          rcases h4' with rfl | rfl | rfl | rfl
          · have e : cellsT (z + 1) (upto (2 * x) (2 * y) 2 1) = cellsT (z + 1) (upto (2 * x) (2 * y) 2 0) ++ [.int .i64 (z + 1), .int .i64 (2 * x), .int .i64 (2 * y)] := by rw [upto_succ, cellsT_snoc]; simp [tileAt]
            have HE := Lib.hid e
            clear e
            go_wp2_with (at_builtin; refine halted ?_)
            refine Halted.on ?_
            refine wpList_append_own _ rfl _ _ 45 rfl (w.heap.size + 1) 23 i0 (.agg #[.int .i64 0, .int .i64 0, .int .i64 0]) 3 24 Tryd.underlying45 hi hz0 hz1 hz2 rfl (by decide) _ 0 _ rfl (ownsRow_alloc hown _) ⟨wr.heap.size, 0, none⟩ 1 1 [.int .i64 (z + 1), .int .i64 (2 * x), .int .i64 (2 * y)] rfl rfl
              (World.news_of_block (cs := #[.int .i64 (z + 1), .int .i64 (2 * x), .int .i64 (2 * y)]) (t := 23) (fr := (0, 0)) (heap_alloc_new wr _)) (by simp [Value.oneCell']) (by unfold maxLen; omega) (by omega) (by simp; omega) ?_
            intro v' w2 hown' hgrow _
            have hb := below_append hown hgrow (by omega)
            rw [← HE.out] at hown'
            replace hW := hW.trans (hb.mono (Nat.le_succ _))
            replace b0 := b0.below hb (Nat.lt_succ_self _)
            clear r0 k0 hgrow hb hown
            go_wp2
            go_roundw
            case rel => exact ⟨1, by omega, by go_num, hown', hW, b0⟩
            case measure => simp [intOf]
          · have e : cellsT (z + 1) (upto (2 * x) (2 * y) 2 2) = cellsT (z + 1) (upto (2 * x) (2 * y) 2 1) ++ [.int .i64 (z + 1), .int .i64 (2 * x + 1), .int .i64 (2 * y)] := by rw [upto_succ, cellsT_snoc]; simp [tileAt]
            have HE := Lib.hid e
            clear e
            go_wp2_with (at_builtin; refine halted ?_)
            refine Halted.on ?_
            refine wpList_append_own _ rfl _ _ 45 rfl (w.heap.size + 1) 23 i0 (.agg #[.int .i64 0, .int .i64 0, .int .i64 0]) 3 24 Tryd.underlying45 hi hz0 hz1 hz2 rfl (by decide) _ 1 _ rfl (ownsRow_alloc hown _) ⟨wr.heap.size, 0, none⟩ 1 1 [.int .i64 (z + 1), .int .i64 (2 * x + 1), .int .i64 (2 * y)] rfl rfl
              (World.news_of_block (cs := #[.int .i64 (z + 1), .int .i64 (2 * x + 1), .int .i64 (2 * y)]) (t := 23) (fr := (0, 0)) (heap_alloc_new wr _)) (by simp [Value.oneCell']) (by unfold maxLen; omega) (by omega) (by simp; omega) ?_
            intro v' w2 hown' hgrow _
            have hb := below_append hown hgrow (by omega)
            rw [← HE.out] at hown'
            replace hW := hW.trans (hb.mono (Nat.le_succ _))
            replace b0 := b0.below hb (Nat.lt_succ_self _)
            clear r0 k0 hgrow hb hown
            go_wp2
            go_roundw
            case rel => exact ⟨2, by omega, by go_num, hown', hW, b0⟩
            case measure => simp [intOf]
          · have e : cellsT (z + 1) (upto (2 * x) (2 * y) 2 3) = cellsT (z + 1) (upto (2 * x) (2 * y) 2 2) ++ [.int .i64 (z + 1), .int .i64 (2 * x), .int .i64 (2 * y + 1)] := by rw [upto_succ, cellsT_snoc]; simp [tileAt]
            have HE := Lib.hid e
            clear e
            go_wp2_with (at_builtin; refine halted ?_)
            refine Halted.on ?_
            refine wpList_append_own _ rfl _ _ 45 rfl (w.heap.size + 1) 23 i0 (.agg #[.int .i64 0, .int .i64 0, .int .i64 0]) 3 24 Tryd.underlying45 hi hz0 hz1 hz2 rfl (by decide) _ 2 _ rfl (ownsRow_alloc hown _) ⟨wr.heap.size, 0, none⟩ 1 1 [.int .i64 (z + 1), .int .i64 (2 * x), .int .i64 (2 * y + 1)] rfl rfl
              (World.news_of_block (cs := #[.int .i64 (z + 1), .int .i64 (2 * x), .int .i64 (2 * y + 1)]) (t := 23) (fr := (0, 0)) (heap_alloc_new wr _)) (by simp [Value.oneCell']) (by unfold maxLen; omega) (by omega) (by simp; omega) ?_
            intro v' w2 hown' hgrow _
            have hb := below_append hown hgrow (by omega)
            rw [← HE.out] at hown'
            replace hW := hW.trans (hb.mono (Nat.le_succ _))
            replace b0 := b0.below hb (Nat.lt_succ_self _)
            clear r0 k0 hgrow hb hown
            go_wp2
            go_roundw
            case rel => exact ⟨3, by omega, by go_num, hown', hW, b0⟩
            case measure => simp [intOf]
          · have e : cellsT (z + 1) (upto (2 * x) (2 * y) 2 4) = cellsT (z + 1) (upto (2 * x) (2 * y) 2 3) ++ [.int .i64 (z + 1), .int .i64 (2 * x + 1), .int .i64 (2 * y + 1)] := by rw [upto_succ, cellsT_snoc]; simp [tileAt]
            have HE := Lib.hid e
            clear e
            go_wp2_with (at_builtin; refine halted ?_)
            refine Halted.on ?_
            refine wpList_append_own _ rfl _ _ 45 rfl (w.heap.size + 1) 23 i0 (.agg #[.int .i64 0, .int .i64 0, .int .i64 0]) 3 24 Tryd.underlying45 hi hz0 hz1 hz2 rfl (by decide) _ 3 _ rfl (ownsRow_alloc hown _) ⟨wr.heap.size, 0, none⟩ 1 1 [.int .i64 (z + 1), .int .i64 (2 * x + 1), .int .i64 (2 * y + 1)] rfl rfl
              (World.news_of_block (cs := #[.int .i64 (z + 1), .int .i64 (2 * x + 1), .int .i64 (2 * y + 1)]) (t := 23) (fr := (0, 0)) (heap_alloc_new wr _)) (by simp [Value.oneCell']) (by unfold maxLen; omega) (by omega) (by simp; omega) ?_
            intro v' w2 hown' hgrow _
            have hb := below_append hown hgrow (by omega)
            rw [← HE.out] at hown'
            replace hW := hW.trans (hb.mono (Nat.le_succ _))
            replace b0 := b0.below hb (Nat.lt_succ_self _)
            clear r0 k0 hgrow hb hown
            go_wp2
            go_roundw
            case rel => exact ⟨4, by omega, by go_num, hown', hW, b0⟩
            case measure => simp [intOf]
        · obtain rfl : i = 4 := by omega
          obtain ⟨g, cap, rfl, hB, hcap, hT⟩ := tiles_of_owns hown (by omega)
          go_wp2
          go_ret2
          exact ⟨hW, .inr (.inr ⟨HV.out, by omega, g, cap, rfl, hcap, by omega, hT⟩)⟩
end Go.Proofs.YthggpflfjghooaaDoor

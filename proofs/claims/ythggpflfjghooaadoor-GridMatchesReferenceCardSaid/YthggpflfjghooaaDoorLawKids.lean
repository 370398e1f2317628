/- Kids, and the walk of GridKids: it returns true. -/
import Derived.Test.YthggpflfjghooaaDoorHead
import Derived.Test.YthggpflfjghooaaDoorList
import Derived.Test.YthggpflfjghooaaDoorPix
import Derived.Test.YthggpflfjghooaaDoorEq
namespace Go.Proofs.YthggpflfjghooaaDoor
open Go.RowKit Go.Sort

/-- What Kids returns. -/
def KidsR (z x y : Int) (w : World) (e : Ending) (W : World) : Prop := Below w.heap.size w W ∧
  ((validB z x y = false ∧ e = .returned (.tuple #[.slice none 0 0, .int .i64 1])) ∨
   (validB z x y = true ∧ z = 17 ∧ e = .returned (.tuple #[.slice none 0 0, .int .i64 11])) ∨
   (validB z x y = true ∧ z < 17 ∧ ∃ g cap, e = .returned (.tuple #[.slice (some ⟨g, 0, none⟩) 4 cap, .int .i64 0]) ∧ 4 ≤ cap ∧ w.heap.size ≤ g ∧ Tiles W g (z + 1) (upto (2 * x) (2 * y) 2 4)))

set_option maxRecDepth 100000 in
set_option maxHeartbeats 2000000 in
theorem kids_any (z x y : Int) (w : World) : Calls Tryd.prog 19 #[.agg #[.int .i64 z, .int .i64 x, .int .i64 y]] w (KidsR z x y w) := by
  go_enter Tryd.func19, Tryd.ntmps19
  go_wp2_with fail
  refine calls_abs (fun W => Below w.heap.size w W ∧ Box W w.heap.size #[.int .i64 z, .int .i64 x, .int .i64 y] 23) ⟨(Below.refl _ _).alloc (Nat.le_refl _) _, Box.new _ _ _⟩ ?_
  rintro W ⟨hW, b0⟩
  refine (valid_any z x y W).mono ?_
  rintro e w1 ⟨rfl, hb_⟩
  replace hW := hW.trans (hb_.mono hW.size)
  replace b0 := b0.below hb_ b0.lt
  clear hb_
  have HR : Hid (KidsR z x y w = KidsR z x y w) := Lib.hid rfl
  cases hl : validB z x y with
  | false =>
    have HV := Lib.hid hl
    clear hl
    go_wp2
    go_ret2
    exact ⟨hW, .inl ⟨HV.out, rfl⟩⟩
  | true =>
    have HV := Lib.hid hl
    obtain ⟨h0, h1, hx0, -, hy0, -⟩ := valid_spec hl
    obtain ⟨hx1, hy1⟩ := valid_le hl
    clear hl
    have r0 := b0.cell
    have k0 := b0.lt
    by_cases h17 : z = 17
    · subst h17
      go_wp2
      go_ret2
      exact ⟨hW, .inr (.inl ⟨HV.out, rfl, rfl⟩)⟩
    · go_wp2_with fail
      have hall := all_any (z + 1) (2 * x) (2 * y) (z + 1) 2 2 (by omega) (by omega) (by omega) (by omega) (by omega) w1
      rw [show 2 * x + ((2 : Nat) : Int) - 1 = 2 * x + 1 by omega, show 2 * y + ((2 : Nat) : Int) - 1 = 2 * y + 1 by omega] at hall
      refine hall.mono ?_
      rintro e w3 ⟨v, rfl, hown, hb⟩
      obtain ⟨g, cap, rfl, hB, hcap, hT⟩ := tiles_of_owns hown (by omega)
      have hsz := hW.size
      replace hW := hW.trans (hb.mono hW.size)
      go_wp2
      go_ret2
      exact ⟨hW, .inr (.inr ⟨HV.out, by omega, g, cap, rfl, hcap, by omega, hT⟩)⟩

/-- Which of the four kids has the point: its number, or 4. -/
def kidAt (z x y px py : Int) : Int := if px / side (z + 1) / 2 = x ∧ py / side (z + 1) / 2 = y then px / side (z + 1) - 2 * x + 2 * (py / side (z + 1) - 2 * y) else 4

theorem kid_valid {z x y : Int} (h : validB z x y = true) (hz : z < 17) (i j : Int) (hi : 0 ≤ i ∧ i ≤ 1) (hj : 0 ≤ j ∧ j ≤ 1) : validB (z + 1) (2 * x + i) (2 * y + j) = true := by
  have h' : (0 ≤ z ∧ z ≤ 17) ∧ 0 ≤ x ∧ x < 2 ^ z.toNat ∧ 0 ≤ y ∧ y < 2 ^ z.toNat := by simpa [validB] using h
  obtain ⟨⟨h0, h1⟩, a, b, c, d⟩ := h'
  have hp := @pow_up (z + 1) (by omega) (by omega)
  rw [Int.add_sub_cancel] at hp
  unfold validB
  exact decide_eq_true ⟨⟨by omega, by omega⟩, by omega, by omega, by omega, by omega⟩

theorem kid_has {z x y : Int} (h : validB z x y = true) (hz : z < 17) (i j : Int) (hi : 0 ≤ i ∧ i ≤ 1) (hj : 0 ≤ j ∧ j ≤ 1) (px py : Int) :
    hasB ((2 * x + i) * side (z + 1)) ((2 * y + j) * side (z + 1)) ((2 * x + i) * side (z + 1) + side (z + 1) - 1) ((2 * y + j) * side (z + 1) + side (z + 1) - 1) px py = decide (kidAt z x y px py = i + 2 * j) := by
  have hv := kid_valid h hz i j hi hj
  have hb := has_box hv px py
  rw [boxF_ok hv] at hb
  rw [hb, Bool.eq_iff_iff]
  unfold kidAt
  simp only [decide_eq_true_eq]
  split <;> omega

theorem kid_up {z x y : Int} (h : validB z x y = true) (hz : z < 17) (i j : Int) (hi : 0 ≤ i ∧ i ≤ 1) (hj : 0 ≤ j ∧ j ≤ 1) : upF (z + 1) (2 * x + i) (2 * y + j) = ⟨z, x, y, 0⟩ := by
  have hv := kid_valid h hz i j hi hj
  have h0 := valid_spec h
  unfold upF
  rw [if_pos hv, if_neg (by omega), show z + 1 - 1 = z by omega, show (2 * x + i) / 2 = x by omega, show (2 * y + j) / 2 = y by omega]

theorem kid_all {z x y : Int} (h : validB z x y = true) (hz : z < 17) (px py : Int) :
    hasB (x * side z) (y * side z) (x * side z + side z - 1) (y * side z + side z - 1) px py = decide (kidAt z x y px py < 4) ∧ 0 ≤ kidAt z x y px py ∧ kidAt z x y px py ≤ 4 := by
  have h0 := valid_spec h
  have hb := has_box h px py
  rw [boxF_ok h] at hb
  have e := @div_up (z + 1) (by omega) (by omega)
  rw [Int.add_sub_cancel] at e
  rw [hb, ← e, ← e]
  unfold kidAt
  refine ⟨?_, ?_⟩
  · rw [Bool.eq_iff_iff]
    simp only [decide_eq_true_eq]
    split <;> omega
  · split <;> omega

theorem four_kids (x y : Int) : upto (2 * x) (2 * y) 2 4 = [(2 * x, 2 * y), (2 * x + 1, 2 * y), (2 * x, 2 * y + 1), (2 * x + 1, 2 * y + 1)] := by
  simp [upto, tileAt, List.range_succ]

set_option maxRecDepth 100000 in
set_option maxHeartbeats 8000000 in
theorem kids_walk (z x y px py : Int) (w : World) (hG : Gw w) : Calls Tryd.prog 7 #[.agg #[.int .i64 z, .int .i64 x, .int .i64 y], .agg #[.int .i64 px, .int .i64 py]] w (RetB w (.bool true)) := by
  have l0 := hG.size
  go_enter Tryd.func7, Tryd.ntmps7
  go_wp2_with fail
  refine calls_abs (fun W => Below w.heap.size w W ∧ Box W w.heap.size #[.int .i64 z, .int .i64 x, .int .i64 y] 23 ∧ Box W (w.heap.size + 1) #[.int .i64 px, .int .i64 py] 31)
    ⟨((Below.refl _ _).alloc (Nat.le_refl _) _).alloc (by simp) _, (Box.new _ _ _).alloc _, Box.new' (by simp) _ _⟩ ?_
  rintro W ⟨hW, b0, b1⟩
  refine (head_any _ (hG.below hW l0)).mono ?_
  rintro e w1 ⟨rfl, hb_⟩
  replace hW := hW.trans (hb_.mono hW.size)
  replace b0 := b0.below hb_ b0.lt
  replace b1 := b1.below hb_ b1.lt
  clear hb_
  have r0 := b0.cell
  have k0 := b0.lt
  go_wp2_with fail
  clear r0 k0
  refine (box_any z x y _).mono ?_
  rintro e w2 ⟨rfl, hb_⟩
  replace hW := hW.trans (hb_.mono hW.size)
  replace b0 := b0.below hb_ b0.lt
  replace b1 := b1.below hb_ b1.lt
  clear hb_
  cases hv : validB z x y with
  | false =>
    rw [boxF_no hv]
    clear hv
    unfold BE.v
    go_wp2
    go_ret
    exact RetB.mk' rfl (hW.alloc hW.size _)
  | true =>
    rw [boxF_ok hv]
    unfold BE.v
    have r0 := b0.cell
    have k0 := b0.lt
    go_wp2_with fail
    clear r0 k0
    have n1 := b1.lt
    refine (kids_any z x y _).mono ?_
    rintro e w3 ⟨hb_, h⟩
    have b2 := (Box.new _ _ _).below hb_ (Box.new _ _ _).lt
    replace b0 := (b0.alloc _).below hb_ (b0.alloc _).lt
    replace b1 := (b1.alloc _).below hb_ (b1.alloc _).lt
    replace hW := (hW.alloc hW.size _).trans (hb_.mono (hW.alloc hW.size _).size)
    clear hb_
    rcases h with ⟨hc, -⟩ | ⟨-, h17, rfl⟩ | ⟨-, hz, g, cap, rfl, hcap, hB, hT⟩
    · rw [hv] at hc; cases hc
    · subst h17
      clear hv
      have r0 := b0.cell
      have k0 := b0.lt
      go_wp2
      go_ret
      exact RetB.mk' rfl hW
    · obtain ⟨HA, q0, q1⟩ := kid_all hv hz px py
      have HU : Hid (∀ i j : Int, 0 ≤ i ∧ i ≤ 1 → 0 ≤ j ∧ j ≤ 1 → upF (z + 1) (2 * x + i) (2 * y + j) = ⟨z, x, y, 0⟩) := Lib.hid (fun i j hi hj => kid_up hv hz i j hi hj)
      have HB : Hid (∀ i j : Int, 0 ≤ i ∧ i ≤ 1 → 0 ≤ j ∧ j ≤ 1 → boxF (z + 1) (2 * x + i) (2 * y + j) = ⟨(2 * x + i) * side (z + 1), (2 * y + j) * side (z + 1), (2 * x + i) * side (z + 1) + side (z + 1) - 1, (2 * y + j) * side (z + 1) + side (z + 1) - 1, 0⟩) := Lib.hid (fun i j hi hj => boxF_ok (kid_valid hv hz i j hi hj))
      have HH : Hid (∀ i j : Int, 0 ≤ i ∧ i ≤ 1 → 0 ≤ j ∧ j ≤ 1 → hasB ((2 * x + i) * side (z + 1)) ((2 * y + j) * side (z + 1)) ((2 * x + i) * side (z + 1) + side (z + 1) - 1) ((2 * y + j) * side (z + 1) + side (z + 1) - 1) px py = decide (kidAt z x y px py = i + 2 * j)) := Lib.hid (fun i j hi hj => kid_has hv hz i j hi hj px py)
      have hvs := valid_spec hv
      obtain ⟨h0, -, hx0, -, hy0, -⟩ := hvs
      have hvl := valid_le hv
      obtain ⟨hx1, hy1⟩ := hvl
      clear hv
      generalize kidAt z x y px py = Q at *
      have k2 := b2.lt
      simp at hB
      go_wp2
      go_loopw [10, 11] (fun vn vi wr => ∃ (i : Nat) (c : Int), i ≤ 4 ∧ vi = .int .i64 i ∧ vn = .int .i64 c ∧ (Q < i → c = 1) ∧ (¬ Q < i → c = 0) ∧ Below w.heap.size w wr ∧ Box wr w.heap.size #[.int .i64 z, .int .i64 x, .int .i64 y] 23 ∧ Box wr (w.heap.size + 1) #[.int .i64 px, .int .i64 py] 31 ∧
          Box wr w2.heap.size #[.int .i64 (x * side z), .int .i64 (y * side z), .int .i64 (x * side z + side z - 1), .int .i64 (y * side z + side z - 1)] 33 ∧ Tiles wr g (z + 1) (upto (2 * x) (2 * y) 2 4)) (fun _ vi _ => 4 - (intOf vi).toNat)
      case atStart => exact ⟨0, 0, by omega, rfl, rfl, by omega, by omega, hW, b0, b1, b2, hT⟩
      case round =>
        obtain ⟨i, c, hi, rfl, rfl, hc1, hc0, hW', b0', b1', b2', hT'⟩ := hrel
        clear hW b0 b1 b2 hT
        have hW := hW'
        have b0 := b0'
        have b1 := b1'
        have b2 := b2'
        have hT := hT'
        clear hW' b0' b1' b2' hT'
        have C := hT.cell
        rw [four_kids] at C
        have C0 := C 0 _ rfl
        have C1 := C 1 _ rfl
        have C2 := C 2 _ rfl
        have C3 := C 3 _ rfl
        clear C
        obtain ⟨C00, C01, C02⟩ := C0
        obtain ⟨C10, C11, C12⟩ := C1
        obtain ⟨C20, C21, C22⟩ := C2
        obtain ⟨C30, C31, C32⟩ := C3
        by_cases h4 : i < 4
        · have h4' : i = 0 ∨ i = 1 ∨ i = 2 ∨ i = 3 := by omega
          rcases h4' with rfl | rfl | rfl | rfl
          · have U := HU.out 0 0 (by omega) (by omega)
            have Bx := HB.out 0 0 (by omega) (by omega)
            have Hs := HH.out 0 0 (by omega) (by omega)
            simp only [Int.add_zero] at U Bx Hs
            generalize 2 * x * side (z + 1) + side (z + 1) - 1 = a' at Bx Hs
            generalize 2 * y * side (z + 1) + side (z + 1) - 1 = b' at Bx Hs
            generalize 2 * x * side (z + 1) = a at Bx Hs
            generalize 2 * y * side (z + 1) = b at Bx Hs
            go_wp2_with fail
            refine (up_any (z + 1) (2 * x) (2 * y) _).mono ?_
            rintro e wa ⟨rfl, hb_⟩
            replace hW := hW.trans (hb_.mono hW.size)
            replace b0 := b0.below hb_ b0.lt
            replace b1 := b1.below hb_ b1.lt
            replace b2 := b2.below hb_ b2.lt
            replace hT := hT.below hb_ hT.lt
            clear hb_
            rw [U]
            unfold TE.v
            clear U C00 C01 C02 C10 C11 C12 C20 C21 C22 C30 C31 C32
            have C := hT.cell
            rw [four_kids] at C
            obtain ⟨C0, C1, C2⟩ := C 0 _ rfl
            clear C
            have kT := hT.lt
            go_wp2_with fail
            clear C0 C1 C2 kT
            refine (box_any (z + 1) (2 * x) (2 * y) _).mono ?_
            rintro e wb ⟨rfl, hb_⟩
            have b3 := (Box.new _ _ _).below hb_ (Box.new _ _ _).lt
            replace b0 := (b0.alloc _).below hb_ (b0.alloc _).lt
            replace b1 := (b1.alloc _).below hb_ (b1.alloc _).lt
            replace b2 := (b2.alloc _).below hb_ (b2.alloc _).lt
            replace hT := (hT.alloc _).below hb_ (hT.alloc _).lt
            replace hW := (hW.alloc hW.size _).trans (hb_.mono (hW.alloc hW.size _).size)
            clear hb_
            rw [Bx]
            unfold BE.v
            clear Bx
            go_wp2_with fail
            have hb4 := Box.new wb #[.int .i64 a, .int .i64 b, .int .i64 a', .int .i64 b'] 33
            refine wp_abs (fun W => Below w.heap.size w W ∧ Box W w.heap.size #[.int .i64 z, .int .i64 x, .int .i64 y] 23 ∧ Box W (w.heap.size + 1) #[.int .i64 px, .int .i64 py] 31 ∧ Box W w2.heap.size #[.int .i64 (x * side z), .int .i64 (y * side z), .int .i64 (x * side z + side z - 1), .int .i64 (y * side z + side z - 1)] 33 ∧ Box W wa.heap.size #[.int .i64 z, .int .i64 x, .int .i64 y] 23 ∧ Box W wb.heap.size #[.int .i64 a, .int .i64 b, .int .i64 a', .int .i64 b'] 33 ∧ Tiles W g (z + 1) (upto (2 * x) (2 * y) 2 4))
              ⟨hW.alloc hW.size _, b0.alloc _, b1.alloc _, b2.alloc _, b3.alloc _, hb4, hT.alloc _⟩ ?_
            clear hW b0 b1 b2 b3 hb4 hT
            rintro W6 ⟨hW, b0, b1, b2, b3, b4, hT⟩
            have q00 := cell_regrown (b0.cell 0)
            have q01 := cell_regrown (b0.cell 1)
            have q02 := cell_regrown (b0.cell 2)
            have q30 := cell_regrown (b3.cell 0)
            have q31 := cell_regrown (b3.cell 1)
            have q32 := cell_regrown (b3.cell 2)
            have C := hT.cell
            rw [four_kids] at C
            obtain ⟨C0, C1, C2⟩ := C 0 _ rfl
            have e0 := cell_regrown C0
            have e1 := cell_regrown C1
            have e2 := cell_regrown C2
            clear C C0 C1 C2
            refine wp_region_quiet_below (by kernel_rfl) (by kernel_rfl) ?_
            repeat (go_big_quiet_step (fail))
            refine wpQuiet_nil ?_
            rintro wc hc
            replace hc := below_of_regrown hc
            clear q00 q01 q02 q30 q31 q32 e0 e1 e2
            replace hW := hW.trans (hc.mono hW.size)
            replace b0 := b0.below hc b0.lt
            replace b1 := b1.below hc b1.lt
            replace b2 := b2.below hc b2.lt
            replace b4 := b4.below hc b4.lt
            replace hT := hT.below hc hT.lt
            clear hc
            have r1 := b1.cell
            have k1 := b1.lt
            have r4 := b4.cell
            have k4 := b4.lt
            go_wp2_with fail
            clear r1 k1 r4 k4
            refine (has_any a b a' b' px py _).mono ?_
            rintro e wd ⟨rfl, hb_⟩
            replace hW := hW.trans (hb_.mono hW.size)
            replace b0 := b0.below hb_ b0.lt
            replace b1 := b1.below hb_ b1.lt
            replace b2 := b2.below hb_ b2.lt
            replace hT := hT.below hb_ hT.lt
            clear hb_
            by_cases hQ : Q = 0
            · rw [Hs.trans (decide_eq_true (by omega))]
              obtain rfl : c = 0 := by omega
              clear Hs
              go_wp2
              go_roundw
              case rel => exact ⟨1, 1, by omega, by go_num, rfl, by omega, by omega, hW, b0, b1, b2, hT⟩
              case measure => simp [intOf]
            · rw [Hs.trans (decide_eq_false (by omega))]
              clear Hs
              obtain rfl : c = 0 := by omega
              go_wp2
              go_roundw
              case rel => exact ⟨1, 0, by omega, by go_num, rfl, by omega, by omega, hW, b0, b1, b2, hT⟩
              case measure => simp [intOf]
          · have U := HU.out 1 0 (by omega) (by omega)
            have Bx := HB.out 1 0 (by omega) (by omega)
            have Hs := HH.out 1 0 (by omega) (by omega)
            simp only [Int.add_zero] at U Bx Hs
            generalize (2 * x + 1) * side (z + 1) + side (z + 1) - 1 = a' at Bx Hs
            generalize 2 * y * side (z + 1) + side (z + 1) - 1 = b' at Bx Hs
            generalize (2 * x + 1) * side (z + 1) = a at Bx Hs
            generalize 2 * y * side (z + 1) = b at Bx Hs
            go_wp2_with fail
            refine (up_any (z + 1) (2 * x + 1) (2 * y) _).mono ?_
            rintro e wa ⟨rfl, hb_⟩
            replace hW := hW.trans (hb_.mono hW.size)
            replace b0 := b0.below hb_ b0.lt
            replace b1 := b1.below hb_ b1.lt
            replace b2 := b2.below hb_ b2.lt
            replace hT := hT.below hb_ hT.lt
            clear hb_
            rw [U]
            unfold TE.v
            clear U C00 C01 C02 C10 C11 C12 C20 C21 C22 C30 C31 C32
            have C := hT.cell
            rw [four_kids] at C
            obtain ⟨C0, C1, C2⟩ := C 1 _ rfl
            clear C
            have kT := hT.lt
            go_wp2_with fail
            clear C0 C1 C2 kT
            refine (box_any (z + 1) (2 * x + 1) (2 * y) _).mono ?_
            rintro e wb ⟨rfl, hb_⟩
            have b3 := (Box.new _ _ _).below hb_ (Box.new _ _ _).lt
            replace b0 := (b0.alloc _).below hb_ (b0.alloc _).lt
            replace b1 := (b1.alloc _).below hb_ (b1.alloc _).lt
            replace b2 := (b2.alloc _).below hb_ (b2.alloc _).lt
            replace hT := (hT.alloc _).below hb_ (hT.alloc _).lt
            replace hW := (hW.alloc hW.size _).trans (hb_.mono (hW.alloc hW.size _).size)
            clear hb_
            rw [Bx]
            unfold BE.v
            clear Bx
            go_wp2_with fail
            have hb4 := Box.new wb #[.int .i64 a, .int .i64 b, .int .i64 a', .int .i64 b'] 33
            refine wp_abs (fun W => Below w.heap.size w W ∧ Box W w.heap.size #[.int .i64 z, .int .i64 x, .int .i64 y] 23 ∧ Box W (w.heap.size + 1) #[.int .i64 px, .int .i64 py] 31 ∧ Box W w2.heap.size #[.int .i64 (x * side z), .int .i64 (y * side z), .int .i64 (x * side z + side z - 1), .int .i64 (y * side z + side z - 1)] 33 ∧ Box W wa.heap.size #[.int .i64 z, .int .i64 x, .int .i64 y] 23 ∧ Box W wb.heap.size #[.int .i64 a, .int .i64 b, .int .i64 a', .int .i64 b'] 33 ∧ Tiles W g (z + 1) (upto (2 * x) (2 * y) 2 4))
              ⟨hW.alloc hW.size _, b0.alloc _, b1.alloc _, b2.alloc _, b3.alloc _, hb4, hT.alloc _⟩ ?_
            clear hW b0 b1 b2 b3 hb4 hT
            rintro W6 ⟨hW, b0, b1, b2, b3, b4, hT⟩
            have q00 := cell_regrown (b0.cell 0)
            have q01 := cell_regrown (b0.cell 1)
            have q02 := cell_regrown (b0.cell 2)
            have q30 := cell_regrown (b3.cell 0)
            have q31 := cell_regrown (b3.cell 1)
            have q32 := cell_regrown (b3.cell 2)
            have C := hT.cell
            rw [four_kids] at C
            obtain ⟨C0, C1, C2⟩ := C 1 _ rfl
            obtain ⟨D0, D1, D2⟩ := C 0 _ rfl
            have e0 := cell_regrown C0
            have e1 := cell_regrown C1
            have e2 := cell_regrown C2
            clear C C0 C1 C2
            have f0 := cell_regrown D0
            have f1 := cell_regrown D1
            have f2 := cell_regrown D2
            clear D0 D1 D2
            have g0 := decide_eq_false (show ¬ (2 * y < 2 * y) by omega)
            have g1 := decide_eq_false (show ¬ (2 * x + 1 ≤ 2 * x) by omega)
            refine wp_region_quiet_below (by kernel_rfl) (by kernel_rfl) ?_
            repeat (go_big_quiet_step (fail))
            refine wpQuiet_nil ?_
            rintro wc hc
            replace hc := below_of_regrown hc
            clear q00 q01 q02 q30 q31 q32 e0 e1 e2 f0 f1 f2
            replace hW := hW.trans (hc.mono hW.size)
            replace b0 := b0.below hc b0.lt
            replace b1 := b1.below hc b1.lt
            replace b2 := b2.below hc b2.lt
            replace b4 := b4.below hc b4.lt
            replace hT := hT.below hc hT.lt
            clear hc
            have r1 := b1.cell
            have k1 := b1.lt
            have r4 := b4.cell
            have k4 := b4.lt
            go_wp2_with fail
            clear r1 k1 r4 k4
            refine (has_any a b a' b' px py _).mono ?_
            rintro e wd ⟨rfl, hb_⟩
            replace hW := hW.trans (hb_.mono hW.size)
            replace b0 := b0.below hb_ b0.lt
            replace b1 := b1.below hb_ b1.lt
            replace b2 := b2.below hb_ b2.lt
            replace hT := hT.below hb_ hT.lt
            clear hb_
            by_cases hQ : Q = 1
            · rw [Hs.trans (decide_eq_true (by omega))]
              obtain rfl : c = 0 := by omega
              clear Hs
              go_wp2
              go_roundw
              case rel => exact ⟨2, 1, by omega, by go_num, rfl, by omega, by omega, hW, b0, b1, b2, hT⟩
              case measure => simp [intOf]
            · rw [Hs.trans (decide_eq_false (by omega))]
              clear Hs
              go_wp2
              go_roundw
              case rel => exact ⟨2, c, by omega, by go_num, rfl, by omega, by omega, hW, b0, b1, b2, hT⟩
              case measure => simp [intOf]
          · have U := HU.out 0 1 (by omega) (by omega)
            have Bx := HB.out 0 1 (by omega) (by omega)
            have Hs := HH.out 0 1 (by omega) (by omega)
            simp only [Int.add_zero] at U Bx Hs
            generalize 2 * x * side (z + 1) + side (z + 1) - 1 = a' at Bx Hs
            generalize (2 * y + 1) * side (z + 1) + side (z + 1) - 1 = b' at Bx Hs
            generalize 2 * x * side (z + 1) = a at Bx Hs
            generalize (2 * y + 1) * side (z + 1) = b at Bx Hs
            go_wp2_with fail
            refine (up_any (z + 1) (2 * x) (2 * y + 1) _).mono ?_
            rintro e wa ⟨rfl, hb_⟩
            replace hW := hW.trans (hb_.mono hW.size)
            replace b0 := b0.below hb_ b0.lt
            replace b1 := b1.below hb_ b1.lt
            replace b2 := b2.below hb_ b2.lt
            replace hT := hT.below hb_ hT.lt
            clear hb_
            rw [U]
            unfold TE.v
            clear U C00 C01 C02 C10 C11 C12 C20 C21 C22 C30 C31 C32
            have C := hT.cell
            rw [four_kids] at C
            obtain ⟨C0, C1, C2⟩ := C 2 _ rfl
            clear C
            have kT := hT.lt
            go_wp2_with fail
            clear C0 C1 C2 kT
            refine (box_any (z + 1) (2 * x) (2 * y + 1) _).mono ?_
            rintro e wb ⟨rfl, hb_⟩
            have b3 := (Box.new _ _ _).below hb_ (Box.new _ _ _).lt
            replace b0 := (b0.alloc _).below hb_ (b0.alloc _).lt
            replace b1 := (b1.alloc _).below hb_ (b1.alloc _).lt
            replace b2 := (b2.alloc _).below hb_ (b2.alloc _).lt
            replace hT := (hT.alloc _).below hb_ (hT.alloc _).lt
            replace hW := (hW.alloc hW.size _).trans (hb_.mono (hW.alloc hW.size _).size)
            clear hb_
            rw [Bx]
            unfold BE.v
            clear Bx
            go_wp2_with fail
            have hb4 := Box.new wb #[.int .i64 a, .int .i64 b, .int .i64 a', .int .i64 b'] 33
            refine wp_abs (fun W => Below w.heap.size w W ∧ Box W w.heap.size #[.int .i64 z, .int .i64 x, .int .i64 y] 23 ∧ Box W (w.heap.size + 1) #[.int .i64 px, .int .i64 py] 31 ∧ Box W w2.heap.size #[.int .i64 (x * side z), .int .i64 (y * side z), .int .i64 (x * side z + side z - 1), .int .i64 (y * side z + side z - 1)] 33 ∧ Box W wa.heap.size #[.int .i64 z, .int .i64 x, .int .i64 y] 23 ∧ Box W wb.heap.size #[.int .i64 a, .int .i64 b, .int .i64 a', .int .i64 b'] 33 ∧ Tiles W g (z + 1) (upto (2 * x) (2 * y) 2 4))
              ⟨hW.alloc hW.size _, b0.alloc _, b1.alloc _, b2.alloc _, b3.alloc _, hb4, hT.alloc _⟩ ?_
            clear hW b0 b1 b2 b3 hb4 hT
            rintro W6 ⟨hW, b0, b1, b2, b3, b4, hT⟩
            have q00 := cell_regrown (b0.cell 0)
            have q01 := cell_regrown (b0.cell 1)
            have q02 := cell_regrown (b0.cell 2)
            have q30 := cell_regrown (b3.cell 0)
            have q31 := cell_regrown (b3.cell 1)
            have q32 := cell_regrown (b3.cell 2)
            have C := hT.cell
            rw [four_kids] at C
            obtain ⟨C0, C1, C2⟩ := C 2 _ rfl
            obtain ⟨D0, D1, D2⟩ := C 1 _ rfl
            have e0 := cell_regrown C0
            have e1 := cell_regrown C1
            have e2 := cell_regrown C2
            clear C C0 C1 C2
            have f0 := cell_regrown D0
            have f1 := cell_regrown D1
            have f2 := cell_regrown D2
            clear D0 D1 D2
            have g0 := decide_eq_false (show ¬ (2 * y + 1 < 2 * y) by omega)
            have g1 := decide_eq_false (show ¬ (2 * y + 1 = 2 * y) by omega)
            have g2 : ((2 * y + 1) == (2 * y)) = false := beq_eq_false_iff_ne.2 (by omega)
            refine wp_region_quiet_below (by kernel_rfl) (by kernel_rfl) ?_
            repeat (go_big_quiet_step (fail))
            refine wpQuiet_nil ?_
            rintro wc hc
            replace hc := below_of_regrown hc
            clear q00 q01 q02 q30 q31 q32 e0 e1 e2 f0 f1 f2
            replace hW := hW.trans (hc.mono hW.size)
            replace b0 := b0.below hc b0.lt
            replace b1 := b1.below hc b1.lt
            replace b2 := b2.below hc b2.lt
            replace b4 := b4.below hc b4.lt
            replace hT := hT.below hc hT.lt
            clear hc
            have r1 := b1.cell
            have k1 := b1.lt
            have r4 := b4.cell
            have k4 := b4.lt
            go_wp2_with fail
            clear r1 k1 r4 k4
            refine (has_any a b a' b' px py _).mono ?_
            rintro e wd ⟨rfl, hb_⟩
            replace hW := hW.trans (hb_.mono hW.size)
            replace b0 := b0.below hb_ b0.lt
            replace b1 := b1.below hb_ b1.lt
            replace b2 := b2.below hb_ b2.lt
            replace hT := hT.below hb_ hT.lt
            clear hb_
            by_cases hQ : Q = 2
            · rw [Hs.trans (decide_eq_true (by omega))]
              obtain rfl : c = 0 := by omega
              clear Hs
              go_wp2
              go_roundw
              case rel => exact ⟨3, 1, by omega, by go_num, rfl, by omega, by omega, hW, b0, b1, b2, hT⟩
              case measure => simp [intOf]
            · rw [Hs.trans (decide_eq_false (by omega))]
              clear Hs
              go_wp2
              go_roundw
              case rel => exact ⟨3, c, by omega, by go_num, rfl, by omega, by omega, hW, b0, b1, b2, hT⟩
              case measure => simp [intOf]
          · have U := HU.out 1 1 (by omega) (by omega)
            have Bx := HB.out 1 1 (by omega) (by omega)
            have Hs := HH.out 1 1 (by omega) (by omega)
            generalize (2 * x + 1) * side (z + 1) + side (z + 1) - 1 = a' at Bx Hs
            generalize (2 * y + 1) * side (z + 1) + side (z + 1) - 1 = b' at Bx Hs
            generalize (2 * x + 1) * side (z + 1) = a at Bx Hs
            generalize (2 * y + 1) * side (z + 1) = b at Bx Hs
            go_wp2_with fail
            refine (up_any (z + 1) (2 * x + 1) (2 * y + 1) _).mono ?_
            rintro e wa ⟨rfl, hb_⟩
            replace hW := hW.trans (hb_.mono hW.size)
            replace b0 := b0.below hb_ b0.lt
            replace b1 := b1.below hb_ b1.lt
            replace b2 := b2.below hb_ b2.lt
            replace hT := hT.below hb_ hT.lt
            clear hb_
            rw [U]
            unfold TE.v
            clear U C00 C01 C02 C10 C11 C12 C20 C21 C22 C30 C31 C32
            have C := hT.cell
            rw [four_kids] at C
            obtain ⟨C0, C1, C2⟩ := C 3 _ rfl
            clear C
            have kT := hT.lt
            go_wp2_with fail
            clear C0 C1 C2 kT
            refine (box_any (z + 1) (2 * x + 1) (2 * y + 1) _).mono ?_
            rintro e wb ⟨rfl, hb_⟩
            have b3 := (Box.new _ _ _).below hb_ (Box.new _ _ _).lt
            replace b0 := (b0.alloc _).below hb_ (b0.alloc _).lt
            replace b1 := (b1.alloc _).below hb_ (b1.alloc _).lt
            replace b2 := (b2.alloc _).below hb_ (b2.alloc _).lt
            replace hT := (hT.alloc _).below hb_ (hT.alloc _).lt
            replace hW := (hW.alloc hW.size _).trans (hb_.mono (hW.alloc hW.size _).size)
            clear hb_
            rw [Bx]
            unfold BE.v
            clear Bx
            go_wp2_with fail
            have hb4 := Box.new wb #[.int .i64 a, .int .i64 b, .int .i64 a', .int .i64 b'] 33
            refine wp_abs (fun W => Below w.heap.size w W ∧ Box W w.heap.size #[.int .i64 z, .int .i64 x, .int .i64 y] 23 ∧ Box W (w.heap.size + 1) #[.int .i64 px, .int .i64 py] 31 ∧ Box W w2.heap.size #[.int .i64 (x * side z), .int .i64 (y * side z), .int .i64 (x * side z + side z - 1), .int .i64 (y * side z + side z - 1)] 33 ∧ Box W wa.heap.size #[.int .i64 z, .int .i64 x, .int .i64 y] 23 ∧ Box W wb.heap.size #[.int .i64 a, .int .i64 b, .int .i64 a', .int .i64 b'] 33 ∧ Tiles W g (z + 1) (upto (2 * x) (2 * y) 2 4))
              ⟨hW.alloc hW.size _, b0.alloc _, b1.alloc _, b2.alloc _, b3.alloc _, hb4, hT.alloc _⟩ ?_
            clear hW b0 b1 b2 b3 hb4 hT
            rintro W6 ⟨hW, b0, b1, b2, b3, b4, hT⟩
            have q00 := cell_regrown (b0.cell 0)
            have q01 := cell_regrown (b0.cell 1)
            have q02 := cell_regrown (b0.cell 2)
            have q30 := cell_regrown (b3.cell 0)
            have q31 := cell_regrown (b3.cell 1)
            have q32 := cell_regrown (b3.cell 2)
            have C := hT.cell
            rw [four_kids] at C
            obtain ⟨C0, C1, C2⟩ := C 3 _ rfl
            obtain ⟨D0, D1, D2⟩ := C 2 _ rfl
            have e0 := cell_regrown C0
            have e1 := cell_regrown C1
            have e2 := cell_regrown C2
            clear C C0 C1 C2
            have f0 := cell_regrown D0
            have f1 := cell_regrown D1
            have f2 := cell_regrown D2
            clear D0 D1 D2
            have g0 := decide_eq_false (show ¬ (2 * y + 1 < 2 * y + 1) by omega)
            have g1 := decide_eq_false (show ¬ (2 * x + 1 ≤ 2 * x) by omega)
            refine wp_region_quiet_below (by kernel_rfl) (by kernel_rfl) ?_
            repeat (go_big_quiet_step (fail))
            refine wpQuiet_nil ?_
            rintro wc hc
            replace hc := below_of_regrown hc
            clear q00 q01 q02 q30 q31 q32 e0 e1 e2 f0 f1 f2
            replace hW := hW.trans (hc.mono hW.size)
            replace b0 := b0.below hc b0.lt
            replace b1 := b1.below hc b1.lt
            replace b2 := b2.below hc b2.lt
            replace b4 := b4.below hc b4.lt
            replace hT := hT.below hc hT.lt
            clear hc
            have r1 := b1.cell
            have k1 := b1.lt
            have r4 := b4.cell
            have k4 := b4.lt
            go_wp2_with fail
            clear r1 k1 r4 k4
            refine (has_any a b a' b' px py _).mono ?_
            rintro e wd ⟨rfl, hb_⟩
            replace hW := hW.trans (hb_.mono hW.size)
            replace b0 := b0.below hb_ b0.lt
            replace b1 := b1.below hb_ b1.lt
            replace b2 := b2.below hb_ b2.lt
            replace hT := hT.below hb_ hT.lt
            clear hb_
            by_cases hQ : Q = 3
            · rw [Hs.trans (decide_eq_true (by omega))]
              obtain rfl : c = 0 := by omega
              clear Hs
              go_wp2
              go_roundw
              case rel => exact ⟨4, 1, by omega, by go_num, rfl, by omega, by omega, hW, b0, b1, b2, hT⟩
              case measure => simp [intOf]
            · rw [Hs.trans (decide_eq_false (by omega))]
              clear Hs
              go_wp2
              go_roundw
              case rel => exact ⟨4, c, by omega, by go_num, rfl, by omega, by omega, hW, b0, b1, b2, hT⟩
              case measure => simp [intOf]
        · obtain rfl : i = 4 := by omega
          clear C00 C01 C02 C10 C11 C12 C20 C21 C22 C30 C31 C32
          have r1 := b1.cell
          have k1 := b1.lt
          have r2 := b2.cell
          have k2 := b2.lt
          by_cases hQ : Q < 4
          · obtain rfl : c = 1 := hc1 (by omega)
            rw [decide_eq_true hQ] at HA
            go_wp2_with fail
            refine (has_any _ _ _ _ px py _).mono ?_
            rintro e wd ⟨rfl, hb_⟩
            replace hW := hW.trans (hb_.mono hW.size)
            replace b0 := b0.below hb_ b0.lt
            clear hb_
            rw [HA]
            go_wp2
            go_ret
            exact RetB.mk' rfl hW
          · obtain rfl : c = 0 := hc0 (by omega)
            rw [decide_eq_false hQ] at HA
            go_wp2_with fail
            refine (has_any _ _ _ _ px py _).mono ?_
            rintro e wd ⟨rfl, hb_⟩
            replace hW := hW.trans (hb_.mono hW.size)
            replace b0 := b0.below hb_ b0.lt
            clear hb_
            rw [HA]
            go_wp2
            go_ret
            exact RetB.mk' rfl hW
end Go.Proofs.YthggpflfjghooaaDoor

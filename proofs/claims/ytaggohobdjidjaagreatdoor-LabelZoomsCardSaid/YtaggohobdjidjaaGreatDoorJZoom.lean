import Derived.Test.YtaggohobdjidjaaGreatDoorJL
import Derived.Test.YtaggohobdjidjaaGreatDoorJM
import Derived.Test.YtaggohobdjidjaaGreatDoorJQ
import Derived.Test.YtaggohobdjidjaaGreatDoorJK

/- planispherelaw43.LabelZooms says true. -/
namespace Go.Proofs.YtaggohobdjidjaaGreatDoor
open Go.RowKit Go.Sort Go.Shelf

set_option maxHeartbeats 16000000 in
set_option maxRecDepth 100000 in
theorem zooms_law (p : Option Addr) (n cap : Nat) (l : List Ob) (raw : Int) (lp : Option Addr) (ln lc : Nat) (ls : List ByteArray) (w : World) (hL : Objs w p l) (hn : n = l.length) (hB : BigM l) (hr0 : 0 ≤ raw) (hr1 : raw ≤ 255) (hS : Lies w 1 strC lp ls) (hln : ln = ls.length) (hl1 : ln ≤ maxLen) (hG : Gw w) :
    Calls Tryz.prog 8 #[.agg #[.slice p n cap], .int .u8 raw, .slice lp ln lc] w (RetB w (.bool true)) := by
  have HL := Lib.hid hL
  have HN := Lib.hid hn
  have HB := Lib.hid hB
  have HS := Lib.hid hS
  have HLN := Lib.hid hln
  have HL1 := Lib.hid hl1
  have HG := Lib.hid hG
  clear hL hn hB hS hln hG hl1
  go_enter Tryz.func8, Tryz.ntmps8
  go_wp2_with fail
  have hG1 := HG.out.below (B := w.heap.size) ((Below.refl _ _).alloc (Nat.le_refl _) (.cells #[.slice p n cap] 35)) HG.out.size
  refine (head_any _ hG1).mono ?_
  rintro e w1 ⟨rfl, hb⟩
  have b0 : Box w1 w.heap.size #[.slice p n cap] 35 := (Box.new _ _ _).below hb (by simp)
  have hW : Below w.heap.size w w1 := ((Below.refl _ _).alloc (Nat.le_refl _) _).trans (hb.mono (by simp))
  obtain ⟨kb, hkb⟩ : ∃ k, w.heap.size = k := ⟨_, rfl⟩
  rw [hkb] at b0 ⊢
  replace hW := Lib.hid hW
  clear hb hG1 hkb
  have r0 := b0.cell 0
  go_wp2_with fail
  obtain ⟨z, hz⟩ : ∃ z, raw % 17 = z := ⟨_, rfl⟩
  have hz0 : 0 ≤ z := by omega
  have hz1 : z ≤ 16 := by omega
  rw [hz]
  clear hz hr0 hr1
  refine (fewM_any p n cap l 30 w1 (HL.out.below hW.out (Nat.le_refl _)) HN.out (by decide) HB.out).mono ?_
  rintro e w2 ⟨few, rfl, hfew, hb⟩
  replace b0 := b0.below hb b0.lt
  replace hW := Lib.hid (hW.out.trans (hb.mono hW.out.size))
  clear hb r0
  cases few with
  | false =>
    go_wp2
    go_ret
    exact RetB.mk' rfl hW.out
  | true =>
    obtain ⟨hn30, hfm⟩ := hfew rfl
    have HSM := Lib.hid hfm.small
    clear hfew hfm
    go_wp2_with fail
    refine (languages_any lp ln lc ls w2 (HS.out.below hW.out (Nat.le_refl _)) HLN.out HL1.out).mono ?_
    rintro e w3 ⟨lang, rfl, hlang, hb⟩
    replace b0 := b0.below hb b0.lt
    replace hW := Lib.hid (hW.out.trans (hb.mono hW.out.size))
    clear hb
    cases lang with
    | false =>
      go_wp2
      go_ret
      exact RetB.mk' rfl hW.out
    | true =>
      obtain ⟨hl8, hls⟩ := hlang rfl
      clear hlang hls
      have r0 := b0.cell 0
      go_wp2_with fail
      refine (mapValid_any p n cap l w3 (HL.out.below hW.out (Nat.le_refl _)) HN.out HSM.out (by omega)).mono ?_
      rintro e w4 ⟨rfl, hb⟩
      replace b0 := b0.below hb b0.lt
      replace hW := Lib.hid (hW.out.trans (hb.mono hW.out.size))
      clear hb r0
      cases hv : mapB l with
      | false =>
        go_wp2
        go_ret
        exact RetB.mk' rfl hW.out
      | true =>
        have HV := Lib.hid hv
        clear hv
        have r0 := b0.cell 0
        go_wp2_with fail
        refine (labels_any p n cap l z lp ln lc ls w4 (HL.out.below hW.out (Nat.le_refl _)) HN.out HSM.out (by omega) (HS.out.below hW.out (Nat.le_refl _)) HLN.out (by omega) (HG.out.below hW.out HG.out.size)).mono ?_
        rintro e w5 ⟨qa, na, ca, rfl, hna, -, hA, -, -, hb⟩
        replace b0 := b0.below hb b0.lt
        replace hW := Lib.hid (hW.out.trans (hb.mono hW.out.size))
        have HA := Lib.hid hA
        have HNA := Lib.hid hna
        clear hb r0 hA hna
        have r0 := b0.cell 0
        go_wp2_with fail
        refine (labels_any p n cap l (z + 1) lp ln lc ls w5 (HL.out.below hW.out (Nat.le_refl _)) HN.out HSM.out (by omega) (HS.out.below hW.out (Nat.le_refl _)) HLN.out (by omega) (HG.out.below hW.out HG.out.size)).mono ?_
        rintro e w6 ⟨qb, nb, cb, rfl, hnb, -, hBb, -, -, hb⟩
        replace hW := Lib.hid (hW.out.trans (hb.mono hW.out.size))
        replace HA := Lib.hid (HA.out.below hb (Nat.le_refl _))
        have HBL := Lib.hid hBb
        have HNB := Lib.hid hnb
        have hln : na ≤ nb := by rw [HNA.out, HNB.out]; exact zoom_len HV.out hz0 hz1
        have hna30 : na ≤ 30 := by have := labs_len (l := l) (z := z) (ls := ls); have := HNA.out; have := HN.out; omega
        have hnb30 : nb ≤ 30 := by have := labs_len (l := l) (z := z + 1) (ls := ls); have := HNB.out; have := HN.out; omega
        clear hb r0 hBb hnb b0
        go_wp2
        go_loopw [11] (fun vi wr => ∃ i : Nat, i ≤ na ∧ vi = .int .i64 i ∧ Below w6.heap.size w6 wr) (fun vi _ => na - (intOf vi).toNat)
        case atStart => exact ⟨0, by omega, rfl, Below.refl _ _⟩
        case round =>
          obtain ⟨i, hi, rfl, hC⟩ := hrel
          by_cases hlt : i < na
          · obtain ⟨x, hx⟩ : ∃ x, (labsF l z ls)[i]? = some x := ⟨_, List.getElem?_eq_getElem (by have := HNA.out; omega)⟩
            obtain ⟨ga, oa, rfl⟩ := HA.out.addr (by have := HNA.out; omega)
            obtain ⟨x0, -, -, -, -, -⟩ := (HA.out.below hC (Nat.le_refl _)).lab hx
            obtain ⟨y, hy, hn1, hn2, hn3, hn4, hn5, hn6⟩ := zoom_find HV.out hz0 hz1 hx
            have HX := Lib.hid hx
            have hfd := fun W (h : Below w6.heap.size w6 W) => findL_any qb nb cb (labsF l (z + 1) ls) x.id W (HBL.out.below h (Nat.le_refl _)) HNB.out (by omega)
            rw [hy] at hfd
            obtain ⟨xi, xx, xy, xw, xh, xr⟩ := x
            obtain ⟨yi, yx, yy, yw, yh, yr⟩ := y
            dsimp only at hn1 hn2 hn3 hn4 hn5 hn6 x0 hfd
            have hyb := labs_bd HV.out (z := z + 1) (by omega) (by omega) (findL_mem hy)
            dsimp only at hyb
            subst hn2 hn3 hn4 hn5 hn6
            unfold findV labV at hfd
            dsimp only at hfd
            have HFD := Lib.hid hfd
            have q1 : decide (i < na) = true := decide_eq_true hlt
            have hCs := hC.size
            clear hx hy hfd hn1
            go_wp2_with fail
            refine (HFD.out _ hC).mono ?_
            rintro e w7 ⟨rfl, hb⟩
            replace hC := hC.trans (hb.mono hCs)
            clear hb x0 hCs HFD
            go_wp2_with fail
            have hCs := hC.size
            obtain ⟨kx, hkx⟩ : ∃ k, w7.heap.size = k := ⟨_, rfl⟩
            have hA8 := (HA.out.below (hC.alloc hCs (.cells #[.string yi, .int .i64 yx, .int .i64 yy, .int .i64 yw, .int .i64 yh, .int .i64 yr] 47)) (Nat.le_refl _)).lab HX.out
            have bx : Box (w7.alloc (.cells #[.string yi, .int .i64 yx, .int .i64 yy, .int .i64 yw, .int .i64 yh, .int .i64 yr] 47)) kx #[.string yi, .int .i64 yx, .int .i64 yy, .int .i64 yw, .int .i64 yh, .int .i64 yr] 47 := Box.new' hkx.symm _ _
            replace hC := hC.alloc hCs (.cells #[.string yi, .int .i64 yx, .int .i64 yy, .int .i64 yw, .int .i64 yh, .int .i64 yr] 47)
            rw [hkx]
            generalize w7.alloc (.cells #[.string yi, .int .i64 yx, .int .i64 yy, .int .i64 yw, .int .i64 yh, .int .i64 yr] 47) = w8 at *
            clear hkx hCs
            have hCs := hC.size
            obtain ⟨-, a1, a2, a3, a4, a5⟩ := hA8
            obtain ⟨y1, y2, y3, y4, y5⟩ : _ ∧ _ ∧ _ ∧ _ ∧ _ := ⟨bx.cell 1, bx.cell 2, bx.cell 3, bx.cell 4, bx.cell 5⟩
            dsimp only at a1 a2 a3 a4 a5
            have e1 : (yw != yw) = false := by simp
            have e2 : (yh != yh) = false := by simp
            have e3 : (yr != yr) = false := by simp
            have e4 : (yx / 2 != yx / 2) = false := by simp
            have e5 : (yy / 2 != yy / 2) = false := by simp
            have cX := quietC (W := w8) (fun w' _ => half_any yx (by omega) w')
            have cY := quietC (W := w8) (fun w' _ => half_any yy (by omega) w')
            have a_a1 := cell_regrown a1
            have a_a2 := cell_regrown a2
            have a_a3 := cell_regrown a3
            have a_a4 := cell_regrown a4
            have a_a5 := cell_regrown a5
            have a_y1 := cell_regrown y1
            have a_y2 := cell_regrown y2
            have a_y3 := cell_regrown y3
            have a_y4 := cell_regrown y4
            have a_y5 := cell_regrown y5
            refine wp_region_quiet_below (by kernel_rfl) (by kernel_rfl) ?_
            repeat (go_big_quiet_step ((first | exact cX _ _ | exact cY _ _)))
            refine wpQuiet_nil ?_
            rintro W9 hb9
            replace hb9 := below_of_regrown hb9
            clear a_a1 a_a2 a_a3 a_a4 a_a5 a_y1 a_y2 a_y3 a_y4 a_y5 a1 a2 a3 a4 a5 y1 y2 y3 y4 y5
            replace hC := hC.trans (hb9.mono hCs)
            clear hb9 hCs cX cY e1 e2 e3 e4 e5 bx
            go_wp2
            go_roundw
            case rel => exact ⟨i + 1, by omega, by go_num, hC⟩
            case measure => simp [intOf]; omega
          · obtain rfl : i = na := by omega
            have q1 : decide (i < i) = false := decide_eq_false (by omega)
            have q2 : decide (i ≤ nb) = true := decide_eq_true hln
            have q3 : decide ((i : Int) ≤ (nb : Int)) = true := decide_eq_true (by omega)
            go_wp2
            go_ret
            exact RetB.mk' rfl (hW.out.trans (hC.mono hW.out.size))
end Go.Proofs.YtaggohobdjidjaaGreatDoor

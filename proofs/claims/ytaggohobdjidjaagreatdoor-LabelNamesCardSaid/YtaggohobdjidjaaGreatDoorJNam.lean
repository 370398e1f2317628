import Derived.Test.YtaggohobdjidjaaGreatDoorJL
import Derived.Test.YtaggohobdjidjaaGreatDoorJM
import Derived.Test.YtaggohobdjidjaaGreatDoorJQ
import Derived.Test.YtaggohobdjidjaaGreatDoorJY
import Derived.Test.YtaggohobdjidjaaGreatDoorJK

/- planispherelaw43.LabelNames says true. -/
namespace Go.Proofs.YtaggohobdjidjaaGreatDoor
open Go.RowKit Go.Sort Go.Shelf

theorem less_geq {a b : List UInt8} (h : Op.bytesLess a b = true) : (Op.bytesLess b a || b == a) = false ∧ (Op.bytesLess b a || a == b) = false ∧ Op.bytesLess b a = false := by
  have h1 : Op.bytesLess b a = false := by
    cases h2 : Op.bytesLess b a with
    | false => rfl
    | true => have := bytesLess_trans _ _ _ h h2; rw [bytesLess_irrefl] at this; cases this
  have h2 : a ≠ b := fun e => by rw [e, bytesLess_irrefl] at h; cases h
  refine ⟨by rw [h1, beq_eq_false_iff_ne.2 (Ne.symm h2)]; rfl, by rw [h1, beq_eq_false_iff_ne.2 h2]; rfl, h1⟩


set_option maxHeartbeats 16000000 in
set_option maxRecDepth 100000 in
theorem names_law (p : Option Addr) (n cap : Nat) (l : List Ob) (raw : Int) (lp : Option Addr) (ln lc : Nat) (ls : List ByteArray) (w : World) (hL : Objs w p l) (hn : n = l.length) (hB : BigM l) (hr0 : 0 ≤ raw) (hr1 : raw ≤ 255) (hS : Lies w 1 strC lp ls) (hln : ln = ls.length) (hl1 : ln ≤ maxLen) (hG : Gw w) :
    Calls Tryz.prog 9 #[.agg #[.slice p n cap], .int .u8 raw, .slice lp ln lc] w (RetB w (.bool true)) := by
  have HL := Lib.hid hL
  have HN := Lib.hid hn
  have HB := Lib.hid hB
  have HS := Lib.hid hS
  have HLN := Lib.hid hln
  have HL1 := Lib.hid hl1
  have HG := Lib.hid hG
  clear hL hn hB hS hln hG hl1
  go_enter Tryz.func9, Tryz.ntmps9
  go_wp2_with fail
  have hG1 := HG.out.below (B := w.heap.size) ((Below.refl _ _).alloc (Nat.le_refl _) (.cells #[.slice p n cap] 35)) HG.out.size
  refine (head_any _ hG1).mono ?_
  rintro e w1 ⟨rfl, hb⟩
  have b0 : Box w1 w.heap.size #[.slice p n cap] 35 := (Box.new _ _ _).below hb (by simp)
  have hW : Below w.heap.size w w1 := ((Below.refl _ _).alloc (Nat.le_refl _) _).trans (hb.mono (by simp))
  obtain ⟨kb, hkb⟩ : ∃ k, w.heap.size = k := ⟨_, rfl⟩
  rw [hkb] at b0 ⊢
  replace hW := Lib.hid hW
  clear hb hG1 hkb
  have r0 := b0.cell 0
  go_wp2_with fail
  obtain ⟨z, hz⟩ : ∃ z, raw % 18 = z := ⟨_, rfl⟩
  have hz0 : 0 ≤ z := by omega
  have hz1 : z ≤ 17 := by omega
  rw [hz]
  clear hz hr0 hr1
  refine (fewM_any p n cap l 30 w1 (HL.out.below hW.out (Nat.le_refl _)) HN.out (by decide) HB.out).mono ?_
  rintro e w2 ⟨few, rfl, hfew, hb⟩
  replace b0 := b0.below hb b0.lt
  replace hW := Lib.hid (hW.out.trans (hb.mono hW.out.size))
  clear hb r0
  cases few with
  | false =>
    go_wp2
    go_ret
    exact RetB.mk' rfl hW.out
  | true =>
    obtain ⟨hn30, hfm⟩ := hfew rfl
    have HSM := Lib.hid hfm.small
    clear hfew hfm
    go_wp2_with fail
    refine (languages_any lp ln lc ls w2 (HS.out.below hW.out (Nat.le_refl _)) HLN.out HL1.out).mono ?_
    rintro e w3 ⟨lang, rfl, hlang, hb⟩
    replace b0 := b0.below hb b0.lt
    replace hW := Lib.hid (hW.out.trans (hb.mono hW.out.size))
    clear hb
    cases lang with
    | false =>
      go_wp2
      go_ret
      exact RetB.mk' rfl hW.out
    | true =>
      obtain ⟨hl8, hls⟩ := hlang rfl
      clear hlang hls
      have r0 := b0.cell 0
      go_wp2_with fail
      refine (mapValid_any p n cap l w3 (HL.out.below hW.out (Nat.le_refl _)) HN.out HSM.out (by omega)).mono ?_
      rintro e w4 ⟨rfl, hb⟩
      replace b0 := b0.below hb b0.lt
      replace hW := Lib.hid (hW.out.trans (hb.mono hW.out.size))
      clear hb r0
      cases hv : mapB l with
      | false =>
        go_wp2
        go_ret
        exact RetB.mk' rfl hW.out
      | true =>
        have HV := Lib.hid hv
        clear hv
        have r0 := b0.cell 0
        go_wp2_with fail
        refine (labels_any p n cap l z lp ln lc ls w4 (HL.out.below hW.out (Nat.le_refl _)) HN.out HSM.out (by omega) (HS.out.below hW.out (Nat.le_refl _)) HLN.out (by omega) (HG.out.below hW.out HG.out.size)).mono ?_
        rintro e w5 ⟨qa, na, ca, rfl, hna, -, hA, -, -, hb⟩
        replace b0 := b0.below hb b0.lt
        replace hW := Lib.hid (hW.out.trans (hb.mono hW.out.size))
        have HA := Lib.hid hA
        have HNA := Lib.hid hna
        have HBX := Lib.hid b0
        have hna30 : na ≤ 30 := by have := labs_len (l := l) (z := z) (ls := ls); have := HNA.out; have := HN.out; omega
        clear hb r0 hA hna b0
        go_wp2
        go_loopw [10, 11] (fun vn vi wr => ∃ i c : Nat, i ≤ n ∧ c ≤ i ∧ vi = .int .i64 i ∧ vn = .int .i64 c ∧ Below w5.heap.size w5 wr ∧ Hid (c = (labsG l z ls (l.take i)).length)) (fun _ vi _ => n - (intOf vi).toNat)
        case atStart => exact ⟨0, 0, by omega, by omega, rfl, rfl, Below.refl _ _, Lib.hid (by simp [labsG])⟩
        case round =>
          obtain ⟨i, c, hi, hci, rfl, rfl, hC, HC⟩ := hrel
          have b0 := HBX.out.below hC HBX.out.lt
          have m0 := b0.cell 0
          by_cases hlt : i < n
          · obtain ⟨x, hx⟩ : ∃ x, l[i]? = some x := ⟨_, List.getElem?_eq_getElem (by have := HN.out; omega)⟩
            obtain ⟨g, o, rfl⟩ := HL.out.addr (by have := HN.out; omega)
            obtain ⟨v, hat, c0, c1, c2, c3, c4, c5⟩ := (HL.out.below (hW.out.trans (hC.mono hW.out.size)) (Nat.le_refl _)).at hx
            have HX := Lib.hid hx
            have HXM := Lib.hid (List.mem_of_getElem? hx)
            have HAT := Lib.hid hat
            have HSX := Lib.hid (HSM.out x (List.mem_of_getElem? hx))
            have HKB := Lib.hid (okO_kindB (mapB_ok HV.out x (List.mem_of_getElem? hx)))
            obtain ⟨vid, vkind, vx, vy, pr, nr, cr, pt, nt, ct⟩ := v
            have HID : Hid (vid = x.id) := Lib.hid hat.id
            have HKD : Hid (vkind = x.kind) := Lib.hid hat.kind
            have hbest := fun W (h : Below wr.heap.size wr W) => best_any pt nt ct x.tags lp ln lc ls W (hat.tags.below h (Nat.le_refl _)) hat.nt (HSX.out.tags) (by have := hat.nt; have := HSX.out.nt; dsimp only at *; omega) (HS.out.below (hW.out.trans ((hC.trans (h.mono hC.size)).mono hW.out.size)) (Nat.le_refl _)) HLN.out (by omega)
            have hbsz := best_small x.tags ls
            obtain ⟨⟨bk, bv⟩, hbf⟩ : ∃ q, bestF x.tags ls = q := ⟨_, rfl⟩
            rw [hbf] at hbest hbsz
            dsimp only at hbest hbsz c0 c1 c2 c3 c4 c5
            have HBF := Lib.hid hbf
            have HBS := Lib.hid hbest
            have q1 : decide (i < n) = true := decide_eq_true hlt
            have hCs := hC.size
            obtain ⟨ko, hko⟩ : ∃ k, wr.heap.size = k := ⟨_, rfl⟩
            clear hx hat hbest hbf
            go_wp2_with fail
            refine calls_abs (fun W => Below w5.heap.size w5 W ∧ Below wr.heap.size wr W ∧ Box W ko #[.string vid, .int .i64 vkind, .int .i64 vx, .int .i64 vy, .slice pr nr cr, .slice pt nt ct] 59) ⟨hC.alloc hCs _, (Below.refl _ _).alloc (Nat.le_refl _) _, Box.new' hko.symm _ _⟩ ?_
            clear hC b0 m0 c0 c1 c2 c3 c4 c5
            rintro W1 ⟨hC, hR, bo⟩
            refine (HBS.out _ hR).mono ?_
            rintro e w6 ⟨rfl, hb⟩
            replace hC := hC.trans (hb.mono hC.size)
            replace hR := hR.trans (hb.mono hR.size)
            replace bo := bo.below hb bo.lt
            clear hb HBS
            have o1 := bo.cell 1
            have HKO := Lib.hid hko
            clear hCs hko
            rcases Int.lt_or_le 3 vkind with hk3 | hk3
            · have d1 : decide (vkind ≤ 3) = false := decide_eq_false (by omega)
              have HNO : Hid (labF l z ls x = none) := Lib.hid (by
                have := labF_iff HV.out (z := z) (ls := ls) HXM.out
                rw [← HKD.out, decide_eq_false (by omega), Bool.false_and, Bool.false_and, Bool.false_and] at this
                cases h : labF l z ls x with
                | none => rfl
                | some y => rw [h] at this; simp at this)
              have o0 := bo.cell 0
              have hfd := fun W (h : Below w5.heap.size w5 W) => findL_any qa na ca (labsF l z ls) vid W (HA.out.below h (Nat.le_refl _)) HNA.out (by omega)
              rw [HID.out, labs_find HV.out hz0 hz1 HXM.out, HNO.out, ← HID.out] at hfd
              unfold findV labV noLab at hfd
              dsimp only at hfd
              have HFD := Lib.hid hfd
              have HS1 : Hid (c = (labsG l z ls (l.take (i + 1))).length) := Lib.hid (by rw [labsG_succ HX.out, HNO.out, Option.toList_none, List.append_nil]; exact HC.out)
              clear hfd
              go_wp2_with fail
              refine (HFD.out _ hC).mono ?_
              rintro e w9 ⟨rfl, hb⟩
              replace hC := hC.trans (hb.mono hC.size)
              clear hb HFD o0 bo
              go_wp2_with fail
              have hCs := hC.size
              replace hC := hC.alloc hCs (.cells #[.string ⟨#[]⟩, .int .i64 0, .int .i64 0, .int .i64 0, .int .i64 0, .int .i64 0] 47)
              generalize w9.alloc (.cells #[.string ⟨#[]⟩, .int .i64 0, .int .i64 0, .int .i64 0, .int .i64 0, .int .i64 0] 47) = w10 at *
              clear hCs
              have hCs := hC.size
              refine wp_region_quiet_below (by kernel_rfl) (by kernel_rfl) ?_
              repeat (go_big_quiet_step (fail))
              refine wpQuiet_nil ?_
              rintro W11 hb11
              replace hb11 := below_of_regrown hb11
              replace hC := hC.trans (hb11.mono hCs)
              clear hb11 hCs
              go_wp2
              go_roundw
              case rel => exact ⟨i + 1, c, by omega, by omega, by go_num, rfl, hC, HS1⟩
              case measure => simp [intOf]; omega
            · have d1 : decide (vkind ≤ 3) = true := decide_eq_true hk3
              have hsd := fun W (h : Below w6.heap.size w6 W) => sound3_any (some ⟨g, o, none⟩) n cap l ⟨vid, vkind, vx, vy, pr, nr, cr, pt, nt, ct⟩ x W (HL.out.below (hW.out.trans ((hC.trans (h.mono hC.size)).mono hW.out.size)) (Nat.le_refl _)) HN.out (by omega) HV.out (HAT.out.below (hR.trans (h.mono hR.size)) (Nat.le_refl _)) HSX.out.nr (by rw [← HKD.out]; exact hk3)
              have hlv := fun W (h : Below w6.heap.size w6 W) => level43_any ⟨vid, vkind, vx, vy, pr, nr, cr, pt, nt, ct⟩ x W (HAT.out.below (hR.trans (h.mono hR.size)) (Nat.le_refl _)) HSX.out.nt
              obtain ⟨s, hs⟩ : ∃ q, sndG (fun _ => true) l x = q := ⟨_, rfl⟩
              obtain ⟨lv, hlvl⟩ : ∃ q, lvlF x.tags = q := ⟨_, rfl⟩
              have hlb := lvlF_bd x.tags
              rw [hs] at hsd
              rw [hlvl] at hlv hlb
              unfold ovV at hsd hlv
              have HSD := Lib.hid hsd
              have HLV := Lib.hid hlv
              have HSS := Lib.hid hs
              have HLL := Lib.hid hlvl
              have m0 := (HBX.out.below hC HBX.out.lt).cell 0
              have r1 := bo.cell
              clear hsd hlv hs hlvl
              go_wp2_with fail
              refine (HSD.out _ (Below.refl _ _)).mono ?_
              rintro e w7 ⟨rfl, hb⟩
              have hM := hb
              replace hC := hC.trans (hb.mono hC.size)
              replace bo := bo.below hb bo.lt
              clear hb m0 r1 o1 HSD
              cases s with
              | false =>
                have HNO : Hid (labF l z ls x = none) := Lib.hid (by
                  have := labF_iff HV.out (z := z) (ls := ls) HXM.out
                  rw [HSS.out, Bool.and_false, Bool.false_and, Bool.false_and] at this
                  cases h : labF l z ls x with
                  | none => rfl
                  | some y => rw [h] at this; simp at this)
                have o0 := bo.cell 0
                have hfd := fun W (h : Below w5.heap.size w5 W) => findL_any qa na ca (labsF l z ls) vid W (HA.out.below h (Nat.le_refl _)) HNA.out (by omega)
                rw [HID.out, labs_find HV.out hz0 hz1 HXM.out, HNO.out, ← HID.out] at hfd
                unfold findV labV noLab at hfd
                dsimp only at hfd
                have HFD := Lib.hid hfd
                have HS1 : Hid (c = (labsG l z ls (l.take (i + 1))).length) := Lib.hid (by rw [labsG_succ HX.out, HNO.out, Option.toList_none, List.append_nil]; exact HC.out)
                clear hfd
                go_wp2_with fail
                refine (HFD.out _ hC).mono ?_
                rintro e w9 ⟨rfl, hb⟩
                replace hC := hC.trans (hb.mono hC.size)
                clear hb HFD o0 bo
                go_wp2_with fail
                have hCs := hC.size
                replace hC := hC.alloc hCs (.cells #[.string ⟨#[]⟩, .int .i64 0, .int .i64 0, .int .i64 0, .int .i64 0, .int .i64 0] 47)
                generalize w9.alloc (.cells #[.string ⟨#[]⟩, .int .i64 0, .int .i64 0, .int .i64 0, .int .i64 0, .int .i64 0] 47) = w10 at *
                clear hCs
                have hCs := hC.size
                refine wp_region_quiet_below (by kernel_rfl) (by kernel_rfl) ?_
                repeat (go_big_quiet_step (fail))
                refine wpQuiet_nil ?_
                rintro W11 hb11
                replace hb11 := below_of_regrown hb11
                replace hC := hC.trans (hb11.mono hCs)
                clear hb11 hCs
                go_wp2
                go_roundw
                case rel => exact ⟨i + 1, c, by omega, by omega, by go_num, rfl, hC, HS1⟩
                case measure => simp [intOf]; omega
              | true =>
                have r1 := bo.cell
                go_wp2_with fail
                refine (HLV.out _ hM).mono ?_
                rintro e w8 ⟨rfl, hb⟩
                replace hM := hM.trans (hb.mono hM.size)
                replace hC := hC.trans (hb.mono hC.size)
                replace bo := bo.below hb bo.lt
                clear hb r1
                rcases Int.lt_or_le z lv with hzl | hzl
                · have d2 : decide (lv ≤ z) = false := decide_eq_false (by omega)
                  have HNO : Hid (labF l z ls x = none) := Lib.hid (by
                    have := labF_iff HV.out (z := z) (ls := ls) HXM.out
                    rw [HLL.out, decide_eq_false (show ¬ lv ≤ z by omega), Bool.and_false, Bool.false_and] at this
                    cases h : labF l z ls x with
                    | none => rfl
                    | some y => rw [h] at this; simp at this)
                  have o0 := bo.cell 0
                  have hfd := fun W (h : Below w5.heap.size w5 W) => findL_any qa na ca (labsF l z ls) vid W (HA.out.below h (Nat.le_refl _)) HNA.out (by omega)
                  rw [HID.out, labs_find HV.out hz0 hz1 HXM.out, HNO.out, ← HID.out] at hfd
                  unfold findV labV noLab at hfd
                  dsimp only at hfd
                  have HFD := Lib.hid hfd
                  have HS1 : Hid (c = (labsG l z ls (l.take (i + 1))).length) := Lib.hid (by rw [labsG_succ HX.out, HNO.out, Option.toList_none, List.append_nil]; exact HC.out)
                  clear hfd
                  go_wp2_with fail
                  refine (HFD.out _ hC).mono ?_
                  rintro e w9 ⟨rfl, hb⟩
                  replace hC := hC.trans (hb.mono hC.size)
                  clear hb HFD o0 bo
                  go_wp2_with fail
                  have hCs := hC.size
                  replace hC := hC.alloc hCs (.cells #[.string ⟨#[]⟩, .int .i64 0, .int .i64 0, .int .i64 0, .int .i64 0, .int .i64 0] 47)
                  generalize w9.alloc (.cells #[.string ⟨#[]⟩, .int .i64 0, .int .i64 0, .int .i64 0, .int .i64 0, .int .i64 0] 47) = w10 at *
                  clear hCs
                  have hCs := hC.size
                  refine wp_region_quiet_below (by kernel_rfl) (by kernel_rfl) ?_
                  repeat (go_big_quiet_step (fail))
                  refine wpQuiet_nil ?_
                  rintro W11 hb11
                  replace hb11 := below_of_regrown hb11
                  replace hC := hC.trans (hb11.mono hCs)
                  clear hb11 hCs
                  go_wp2
                  go_roundw
                  case rel => exact ⟨i + 1, c, by omega, by omega, by go_num, rfl, hC, HS1⟩
                  case measure => simp [intOf]; omega
                · have d2 : decide (lv ≤ z) = true := decide_eq_true hzl
                  by_cases hbe : bv.toList = []
                  · have e1 : (bv.toList == []) = true := by rw [hbe]; rfl
                    have e2 : (bv.toList != []) = false := by rw [hbe]; rfl
                    have HBE := Lib.hid hbe
                    clear hbe
                    have HNO : Hid (labF l z ls x = none) := Lib.hid (by
                      have := labF_iff HV.out (z := z) (ls := ls) HXM.out
                      rw [HBF.out, HBE.out] at this; simp only [BEq.rfl, Bool.not_true, Bool.and_false] at this
                      cases h : labF l z ls x with
                      | none => rfl
                      | some y => rw [h] at this; simp at this)
                    have o0 := bo.cell 0
                    have hfd := fun W (h : Below w5.heap.size w5 W) => findL_any qa na ca (labsF l z ls) vid W (HA.out.below h (Nat.le_refl _)) HNA.out (by omega)
                    rw [HID.out, labs_find HV.out hz0 hz1 HXM.out, HNO.out, ← HID.out] at hfd
                    unfold findV labV noLab at hfd
                    dsimp only at hfd
                    have HFD := Lib.hid hfd
                    have HS1 : Hid (c = (labsG l z ls (l.take (i + 1))).length) := Lib.hid (by rw [labsG_succ HX.out, HNO.out, Option.toList_none, List.append_nil]; exact HC.out)
                    clear hfd
                    go_wp2_with fail
                    refine (HFD.out _ hC).mono ?_
                    rintro e w9 ⟨rfl, hb⟩
                    replace hC := hC.trans (hb.mono hC.size)
                    clear hb HFD o0 bo
                    go_wp2_with fail
                    have hCs := hC.size
                    replace hC := hC.alloc hCs (.cells #[.string ⟨#[]⟩, .int .i64 0, .int .i64 0, .int .i64 0, .int .i64 0, .int .i64 0] 47)
                    generalize w9.alloc (.cells #[.string ⟨#[]⟩, .int .i64 0, .int .i64 0, .int .i64 0, .int .i64 0, .int .i64 0] 47) = w10 at *
                    clear hCs
                    have hCs := hC.size
                    refine wp_region_quiet_below (by kernel_rfl) (by kernel_rfl) ?_
                    repeat (go_big_quiet_step (fail))
                    refine wpQuiet_nil ?_
                    rintro W11 hb11
                    replace hb11 := below_of_regrown hb11
                    replace hC := hC.trans (hb11.mono hCs)
                    clear hb11 hCs
                    go_wp2
                    go_roundw
                    case rel => exact ⟨i + 1, c, by omega, by omega, by go_num, rfl, hC, HS1⟩
                    case measure => simp [intOf]; omega
                  · have e1 : (bv.toList == []) = false := beq_eq_false_iff_ne.2 hbe
                    have e2 : (bv.toList != []) = true := by simpa using hbe
                    obtain ⟨y, hy⟩ : ∃ y, labF l z ls x = some y := by
                      have := labF_iff HV.out (z := z) (ls := ls) HXM.out
                      rw [← HKD.out, decide_eq_true hk3, HSS.out, HLL.out, decide_eq_true hzl, HBF.out] at this
                      dsimp only at this
                      rw [e1] at this
                      exact Option.isSome_iff_exists.1 this
                    obtain ⟨-, pp, -, hyE⟩ := labF_some hy
                    rw [HBF.out, HLL.out, ← HID.out, ← HKD.out] at hyE
                    obtain ⟨px, hpx⟩ : ∃ q, (pixelF z 0 0 pp.1 pp.2).x = q := ⟨_, rfl⟩
                    obtain ⟨py, hpy⟩ : ∃ q, (pixelF z 0 0 pp.1 pp.2).y = q := ⟨_, rfl⟩
                    rw [hpx, hpy] at hyE
                    dsimp only at hyE
                    have hfd := fun W (h : Below w5.heap.size w5 W) => findL_any qa na ca (labsF l z ls) vid W (HA.out.below h (Nat.le_refl _)) HNA.out (by omega)
                    rw [HID.out, labs_find HV.out hz0 hz1 HXM.out, hy, hyE, ← HID.out] at hfd
                    unfold findV labV at hfd
                    dsimp only at hfd
                    have HFD := Lib.hid hfd
                    have HS1 : Hid (c + 1 = (labsG l z ls (l.take (i + 1))).length) := Lib.hid (by rw [labsG_succ HX.out, hy, List.length_append, ← HC.out]; rfl)
                    have hkb : 1 ≤ vkind := by rw [HKD.out]; exact HKB.out.1
                    have o0 := bo.cell 0
                    clear hfd hbe hpx hpy hyE hy
                    go_wp2_with fail
                    refine (HFD.out _ hC).mono ?_
                    rintro e w9 ⟨rfl, hb⟩
                    replace hC := hC.trans (hb.mono hC.size)
                    replace hM := hM.trans (hb.mono hM.size)
                    replace bo := bo.below hb bo.lt
                    clear hb HFD o0
                    go_wp2_with fail
                    have hCs := hC.size
                    obtain ⟨kx, hkx⟩ : ∃ k, w9.heap.size = k := ⟨_, rfl⟩
                    have bx : Box (w9.alloc (.cells #[.string vid, .int .i64 px, .int .i64 py, .int .i64 (6 * (bv.size : Int)), .int .i64 12, .int .i64 (10 * lv + vkind)] 47)) kx #[.string vid, .int .i64 px, .int .i64 py, .int .i64 (6 * (bv.size : Int)), .int .i64 12, .int .i64 (10 * lv + vkind)] 47 := Box.new' hkx.symm _ _
                    replace hM := hM.alloc hM.size (.cells #[.string vid, .int .i64 px, .int .i64 py, .int .i64 (6 * (bv.size : Int)), .int .i64 12, .int .i64 (10 * lv + vkind)] 47)
                    replace hC := hC.alloc hCs (.cells #[.string vid, .int .i64 px, .int .i64 py, .int .i64 (6 * (bv.size : Int)), .int .i64 12, .int .i64 (10 * lv + vkind)] 47)
                    replace bo := bo.alloc (.cells #[.string vid, .int .i64 px, .int .i64 py, .int .i64 (6 * (bv.size : Int)), .int .i64 12, .int .i64 (10 * lv + vkind)] 47)
                    rw [hkx]
                    generalize w9.alloc (.cells #[.string vid, .int .i64 px, .int .i64 py, .int .i64 (6 * (bv.size : Int)), .int .i64 12, .int .i64 (10 * lv + vkind)] 47) = w10 at *
                    clear hkx hCs
                    have hCs := hC.size
                    have hw1 : IntKind.i64.wrap (6 * (bv.size : Int)) = 6 * (bv.size : Int) := by rw [IntKind.wrap_i64]; omega
                    have hw2 : IntKind.i64.wrap (10 * lv) = 10 * lv := by rw [IntKind.wrap_i64]; omega
                    have hw3 : IntKind.i64.wrap (10 * lv + vkind) = 10 * lv + vkind := by rw [IntKind.wrap_i64]; omega
                    obtain ⟨y3, y4, y5⟩ : _ ∧ _ ∧ _ := ⟨bx.cell 3, bx.cell 4, bx.cell 5⟩
                    obtain ⟨o0, o1, o2, o3, o4, o5⟩ : _ ∧ _ ∧ _ ∧ _ ∧ _ ∧ _ := ⟨bo.cell 0, bo.cell 1, bo.cell 2, bo.cell 3, bo.cell 4, bo.cell 5⟩
                    have e3 : ((6 * (bv.size : Int)) != 6 * (bv.size : Int)) = false := by simp
                    have e4 : ((12 : Int) != 12) = false := by simp
                    have e5 : ((10 * lv + vkind) != 10 * lv + vkind) = false := by simp
                    have cL := quietC (W := w10) (fun w' h' => HLV.out w' (hM.trans (h'.mono hM.size)))
                    have a_y3 := cell_regrown y3
                    have a_y4 := cell_regrown y4
                    have a_y5 := cell_regrown y5
                    have a_o0 := cell_regrown o0
                    have a_o1 := cell_regrown o1
                    have a_o2 := cell_regrown o2
                    have a_o3 := cell_regrown o3
                    have a_o4 := cell_regrown o4
                    have a_o5 := cell_regrown o5
                    refine wp_region_quiet_below (by kernel_rfl) (by kernel_rfl) ?_
                    repeat (go_big_quiet_step (exact cL _ _))
                    refine wpQuiet_nil ?_
                    rintro W11 hb11
                    replace hb11 := below_of_regrown hb11
                    clear a_y3 a_y4 a_y5 a_o0 a_o1 a_o2 a_o3 a_o4 a_o5 y3 y4 y5 o0 o1 o2 o3 o4 o5
                    replace hC := hC.trans (hb11.mono hCs)
                    clear hb11 hCs cL hw1 hw2 hw3 e3 e4 e5 bx bo
                    go_wp2
                    go_roundw
                    case rel => exact ⟨i + 1, c + 1, by omega, by omega, by go_num, by go_num, hC, HS1⟩
                    case measure => simp [intOf]; omega
          · obtain rfl : i = n := by omega
            have q1 : decide (i < i) = false := decide_eq_false (by omega)
            obtain rfl : c = na := by
              have := HC.out
              rw [HN.out, List.take_length, ← labs_count HV.out hz0 hz1, ← HNA.out] at this
              exact this
            have HC5 := Lib.hid hC
            clear hC HC
            go_wp2
            clear m0 b0
            go_loopw [18] (fun vk wr => ∃ k : Nat, k ≤ c ∧ vk = .int .i64 k ∧ Below w5.heap.size w5 wr) (fun vk _ => c - (intOf vk).toNat)
            case atStart => exact ⟨0, by omega, rfl, HC5.out⟩
            case round =>
              obtain ⟨k, hk, rfl, hC⟩ := hrel
              by_cases hkc : k < c
              · obtain ⟨y, hy⟩ : ∃ y, (labsF l z ls)[k]? = some y := ⟨_, List.getElem?_eq_getElem (by have := HNA.out; omega)⟩
                obtain ⟨ga, oa, rfl⟩ := HA.out.addr (by have := HNA.out; omega)
                have hAc := HA.out.below hC (Nat.le_refl _)
                obtain ⟨y0, -, -, -, -, y5⟩ := hAc.lab hy
                have hpos := labs_pos HV.out hz0 hz1 hy
                have m0 := (HBX.out.below hC HBX.out.lt).cell 0
                have hCs := hC.size
                have hfi := fun W (h : Below wr.heap.size wr W) => find12_any p i cap l y.id W (HL.out.below (hW.out.trans ((hC.trans (h.mono hCs)).mono hW.out.size)) (Nat.le_refl _)) HN.out (by omega)
                obtain ⟨ps, hps⟩ : ∃ q, posO l y.id = q := ⟨_, rfl⟩
                rw [hps] at hfi hpos
                obtain ⟨yid, yx, yy, yw, yh, yr⟩ := y
                dsimp only at y0 y5 hfi
                have cF := quietC (W := wr) (fun w' h' => hfi w' h')
                have q1 : decide (k < c) = true := decide_eq_true hkc
                have q2 : decide (ps < 0) = false := decide_eq_false (by omega)
                clear hps hfi
                rcases Nat.eq_zero_or_pos k with h0 | h0
                · have q3 : decide (0 < k) = false := decide_eq_false (by omega)
                  have q4 : decide ((0 : Int) < (k : Int)) = false := decide_eq_false (by omega)
                  clear hy h0 hAc
                  go_wp2_with fail
                  have a_m0 := cell_regrown m0
                  have a_y0 := cell_regrown y0
                  refine wp_region_quiet_below (by kernel_rfl) (by kernel_rfl) ?_
                  repeat (go_big_quiet_step (exact cF _ _))
                  refine wpQuiet_nil ?_
                  rintro W6 hb6
                  replace hb6 := below_of_regrown hb6
                  clear a_m0 a_y0 m0 y0
                  replace hC := hC.trans (hb6.mono hCs)
                  clear hb6 hCs cF y5
                  go_wp2
                  go_roundw
                  case rel => exact ⟨k + 1, by omega, by go_num, hC⟩
                  case measure => simp [intOf]; omega
                · obtain ⟨km, hkm, hk1⟩ : ∃ km : Nat, (k : Int) - 1 = (km : Int) ∧ km + 1 = k := ⟨k - 1, by omega, by omega⟩
                  obtain ⟨x, hx⟩ : ∃ x, (labsF l z ls)[km]? = some x := ⟨_, List.getElem?_eq_getElem (by have := HNA.out; omega)⟩
                  obtain ⟨x0, -, -, -, -, x5⟩ := hAc.lab hx
                  have hnx := labs_next HV.out hz0 hz1 hx (by rw [hk1]; exact hy)
                  obtain ⟨xid, xx, xy, xw, xh, xr⟩ := x
                  dsimp only at x0 x5 hnx
                  have q3 : decide (0 < k) = true := decide_eq_true h0
                  have q4 : decide ((0 : Int) < (k : Int)) = true := decide_eq_true (by omega)
                  have hkc2 : km < c := by omega
                  have hwk : IntKind.i64.wrap (km : Int) = (km : Int) := by rw [IntKind.wrap_i64]; omega
                  clear hx hy hk1 hAc
                  rcases hnx with hlt2 | ⟨hlt2, heq, hls⟩
                  · have q5 : decide (yr < xr) = false := decide_eq_false (by omega)
                    have q6 : (xr == yr) = false := beq_eq_false_iff_ne.2 (by omega)
                    clear hlt2
                    go_wp2_with fail
                    have a_m0 := cell_regrown m0
                    have a_y0 := cell_regrown y0
                    have a_y5 := cell_regrown y5
                    have a_x5 := cell_regrown x5
                    refine wp_region_quiet_below (by kernel_rfl) (by kernel_rfl) ?_
                    repeat (go_big_quiet_step (exact cF _ _))
                    refine wpQuiet_nil ?_
                    rintro W6 hb6
                    replace hb6 := below_of_regrown hb6
                    clear a_m0 a_y0 a_y5 a_x5 m0 y0 y5 x5
                    replace hC := hC.trans (hb6.mono hCs)
                    clear hb6 hCs cF x0 hwk
                    go_wp2
                    go_roundw
                    case rel => exact ⟨k + 1, by omega, by go_num, hC⟩
                    case measure => simp [intOf]; omega
                  · have q5 : decide (yr < xr) = false := decide_eq_false (by omega)
                    have q6 : (xr == yr) = true := beq_iff_eq.2 heq
                    clear hlt2 heq
                    go_wp2_with fail
                    have a_m0 := cell_regrown m0
                    have a_y0 := cell_regrown y0
                    have a_y5 := cell_regrown y5
                    have a_x0 := cell_regrown x0
                    have a_x5 := cell_regrown x5
                    refine wp_region_quiet_below (by kernel_rfl) (by kernel_rfl) ?_
                    repeat (go_big_quiet_step (exact cF _ _))
                    refine wpQuiet_nil ?_
                    rintro W6 hb6
                    replace hb6 := below_of_regrown hb6
                    clear a_m0 a_y0 a_y5 a_x0 a_x5 m0 y0 y5 x0 x5
                    replace hC := hC.trans (hb6.mono hCs)
                    clear hb6 hCs cF hls hwk
                    go_wp2
                    go_roundw
                    case rel => exact ⟨k + 1, by omega, by go_num, hC⟩
                    case measure => simp [intOf]; omega
              · obtain rfl : k = c := by omega
                have q1 : decide (k < k) = false := decide_eq_false (by omega)
                have q2 : ((k : Int) == (k : Int)) = true := by simp
                go_wp2
                go_ret
                exact RetB.mk' rfl (hW.out.trans (hC.mono hW.out.size))
end Go.Proofs.YtaggohobdjidjaaGreatDoor

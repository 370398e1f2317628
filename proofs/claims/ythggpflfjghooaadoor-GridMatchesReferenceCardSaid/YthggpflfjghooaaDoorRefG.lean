/- The reference of layer 7: Parse returns the same. -/
import Derived.Test.YthggpflfjghooaaDoorRefF
import Derived.RegionTactic
import Derived.BigRegion
import Derived.ChangeAlike
namespace Go.Proofs.YthggpflfjghooaaDoor
open Go.RowKit Go.Sort

theorem scan_at {s : ByteArray} {i : Nat} (hi : i < s.size) {st : Scan} (h : scanR ⟨0, 0, 0, 0⟩ (s.data.toList.take i) = some st) : scanR ⟨0, 0, 0, 0⟩ (s.data.toList.take (i + 1)) = stepR st (s[i]) := by
  have hl : i < s.data.toList.length := by rw [Array.length_toList]; exact hi
  rw [scan_cut hl h]
  rfl
theorem byte_ne {u : UInt8} (h : ¬ u = 47) : (((u.toNat : Nat) : Int) == 47) = false := by
  rw [beq_eq_false_iff_ne]
  intro e
  refine h (UInt8.toNat_inj.1 ?_)
  have : (47 : UInt8).toNat = 47 := rfl
  omega
theorem scan_digit {st : Scan} {u : UInt8} (h48 : 48 ≤ u.toNat) (h57 : u.toNat ≤ 57) (hk : st.k < 3) : stepR st u = some (st.put (digitF st.get (((u.toNat : Nat) : Int) - 48))) := by
  unfold stepR
  rw [if_neg, if_pos ⟨h48, h57, hk⟩]
  rintro rfl
  have : (47 : UInt8).toNat = 47 := rfl
  omega
theorem scan_stop {st : Scan} {u : UInt8} (h47 : ¬ u = 47) (h : ¬ (48 ≤ u.toNat ∧ u.toNat ≤ 57 ∧ st.k < 3)) : stepR st u = none := by
  unfold stepR
  rw [if_neg h47, if_neg h]

set_option maxRecDepth 100000 in
set_option maxHeartbeats 8000000 in
theorem rparse_any (s : ByteArray) (hs : s.size ≤ 1000000) (w : World) : Calls Tryd.prog 28 #[.string s] w (RetB w (parseF s).v) := by
  go_enter Tryd.func28, Tryd.ntmps28
  go_wp2
  go_loopw [5, 6] (fun vk vi wr => ∃ (i k : Nat) (a b c : Int), i ≤ s.size ∧ vi = .int .i64 i ∧ vk = .int .i64 k ∧ k ≤ i ∧ Hid (scanR ⟨0, 0, 0, 0⟩ (s.data.toList.take i) = some ⟨k, a, b, c⟩) ∧ (0 ≤ a ∧ a ≤ 10000000) ∧ (0 ≤ b ∧ b ≤ 10000000) ∧ (0 ≤ c ∧ c ≤ 10000000) ∧
      Below w.heap.size w wr ∧ Box wr w.heap.size #[.int .i64 0, .int .i64 0, .int .i64 0] 23 ∧ Box wr (w.heap.size + 1) #[.int .i64 a, .int .i64 b, .int .i64 c] 3) (fun _ vi _ => s.size - (intOf vi).toNat)
  case atStart => exact ⟨0, 0, 0, 0, 0, by omega, rfl, rfl, by omega, Lib.hid rfl, by omega, by omega, by omega, ((Below.refl _ _).alloc (Nat.le_refl _) _).alloc (by simp) _, (Box.new _ _ _).alloc _, Box.new' (by simp) _ _⟩
  case round =>
    obtain ⟨i, k, a, b, c, hi, rfl, rfl, hki, hsc, ⟨ha0, ha1⟩, ⟨hb0, hb1⟩, ⟨hc0, hc1⟩, hW, b0, b1⟩ := hrel
    by_cases hlt : i < s.size
    · have r0 := b0.cell
      have f0 := b0.frozen
      by_cases h47 : (s[i]) = 47
      · have g47 : ((((s[i]).toNat : Nat) : Int) == 47) = true := by rw [h47]; rfl
        have HS : Hid (scanR ⟨0, 0, 0, 0⟩ (s.data.toList.take (i + 1)) = some ⟨k + 1, a, b, c⟩) := Lib.hid (by rw [scan_at hlt hsc.out, h47]; rfl)
        clear h47 r0 f0
        go_wp2
        go_roundw
        case rel => exact ⟨i + 1, k + 1, a, b, c, by omega, by go_num, by go_num, by omega, HS, by omega, by omega, by omega, hW, b0, b1⟩
        case measure => simp [intOf]; omega
      · have g47 : ((((s[i]).toNat : Nat) : Int) == 47) = false := byte_ne h47
        by_cases h48 : 48 ≤ (s[i]).toNat
        all_goals by_cases h57 : (s[i]).toNat ≤ 57
        all_goals by_cases hk : k < 3
        all_goals first | (exfalso; omega) | skip
        rotate_left
        iterate 5
          · have HN : Hid (parseF s = ⟨0, 0, 0, 5⟩) := Lib.hid (scan_none (scan_fail (i := i + 1) (by rw [scan_at hlt hsc.out, scan_stop h47 (by dsimp only; omega)])))
            try have q0 := decide_eq_false (show ¬ (48 ≤ (((s[i]).toNat : Nat) : Int)) by omega)
            try have q1 := decide_eq_false (show ¬ ((((s[i]).toNat : Nat) : Int) ≤ 57) by omega)
            try have q2 := decide_eq_false (show ¬ ((k : Int) < 3) by omega)
            clear h47 hsc
            go_wp2
            exact ret_box2 (by rfl) (by rfl) (by rfl) (b0.set3 _ _ _) Tryd.underlying23 rfl (by kernel_rfl) rfl (RetB.mk' (by rw [HN.out]; rfl) (by repeat (first | assumption | exact Below.refl _ _ | refine Below.setCell ?_ (by first | (simp; done) | (simp; omega) | omega) _ | refine Below.alloc ?_ (by first | (simp; done) | (simp; omega) | omega) _)))
        · clear r0 f0
          have hk3 : k = 0 ∨ k = 1 ∨ k = 2 := by omega
          rcases hk3 with rfl | rfl | rfl
          · -- number 0
            have r1 := b1.cell
            go_wp2_with fail
            clear r1
            have q1 := cell_regrown (b1.cell 0)
            have HS : Hid (scanR ⟨0, 0, 0, 0⟩ (s.data.toList.take (i + 1)) = some ⟨0, (min (10 * a + ((((s[i]).toNat : Nat) : Int) - 48)) 10000000), b, c⟩) := Lib.hid (by rw [scan_at hlt hsc.out, scan_digit h48 h57 (show 0 < 3 by decide)]; rfl)
            refine wp_region_below_tail 15 (by kernel_rfl) (by kernel_rfl) ?_
            simp only [List.take_succ_cons, List.take_zero, List.drop_succ_cons, List.drop_zero]
            repeat (go_big_quiet_step (fail))
            refine wpQuiet_nil ?_
            rintro wa ha
            replace hW := hW.trans (ha.mono hW.size)
            replace b0 := b0.below ha b0.lt
            replace b1 := b1.below ha b1.lt
            clear ha q1
            have r1 := b1.cell
            have f1 := b1.frozen
            have k1 := b1.lt
            go_wp2
            go_roundw
            case rel => exact ⟨i + 1, 0, (min (10 * a + ((((s[i]).toNat : Nat) : Int) - 48)) 10000000), b, c, by omega, by go_num, rfl, by omega, HS, by omega, by omega, by omega, hW.setCell (by simp) _, b0.set_other (by omega) _ _, b1.set 0 _⟩
            case measure => simp [intOf]; omega
          · -- number 1
            have r1 := b1.cell
            go_wp2_with fail
            clear r1
            have q1 := cell_regrown (b1.cell 1)
            have HS : Hid (scanR ⟨0, 0, 0, 0⟩ (s.data.toList.take (i + 1)) = some ⟨1, a, (min (10 * b + ((((s[i]).toNat : Nat) : Int) - 48)) 10000000), c⟩) := Lib.hid (by rw [scan_at hlt hsc.out, scan_digit h48 h57 (show 1 < 3 by decide)]; rfl)
            refine wp_region_below_tail 15 (by kernel_rfl) (by kernel_rfl) ?_
            simp only [List.take_succ_cons, List.take_zero, List.drop_succ_cons, List.drop_zero]
            repeat (go_big_quiet_step (fail))
            refine wpQuiet_nil ?_
            rintro wa ha
            replace hW := hW.trans (ha.mono hW.size)
            replace b0 := b0.below ha b0.lt
            replace b1 := b1.below ha b1.lt
            clear ha q1
            have r1 := b1.cell
            have f1 := b1.frozen
            have k1 := b1.lt
            go_wp2
            go_roundw
            case rel => exact ⟨i + 1, 1, a, (min (10 * b + ((((s[i]).toNat : Nat) : Int) - 48)) 10000000), c, by omega, by go_num, rfl, by omega, HS, by omega, by omega, by omega, hW.setCell (by simp) _, b0.set_other (by omega) _ _, b1.set 1 _⟩
            case measure => simp [intOf]; omega
          · -- number 2
            have r1 := b1.cell
            go_wp2_with fail
            clear r1
            have q1 := cell_regrown (b1.cell 2)
            have HS : Hid (scanR ⟨0, 0, 0, 0⟩ (s.data.toList.take (i + 1)) = some ⟨2, a, b, (min (10 * c + ((((s[i]).toNat : Nat) : Int) - 48)) 10000000)⟩) := Lib.hid (by rw [scan_at hlt hsc.out, scan_digit h48 h57 (show 2 < 3 by decide)]; rfl)
            refine wp_region_below_tail 15 (by kernel_rfl) (by kernel_rfl) ?_
            simp only [List.take_succ_cons, List.take_zero, List.drop_succ_cons, List.drop_zero]
            repeat (go_big_quiet_step (fail))
            refine wpQuiet_nil ?_
            rintro wa ha
            replace hW := hW.trans (ha.mono hW.size)
            replace b0 := b0.below ha b0.lt
            replace b1 := b1.below ha b1.lt
            clear ha q1
            have r1 := b1.cell
            have f1 := b1.frozen
            have k1 := b1.lt
            go_wp2
            go_roundw
            case rel => exact ⟨i + 1, 2, a, b, (min (10 * c + ((((s[i]).toNat : Nat) : Int) - 48)) 10000000), by omega, by go_num, rfl, by omega, HS, by omega, by omega, by omega, hW.setCell (by simp) _, b0.set_other (by omega) _ _, b1.set 2 _⟩
            case measure => simp [intOf]; omega
    · obtain rfl : i = s.size := by omega
      have hl : s.data.toList.take s.size = s.data.toList := List.take_of_length_le (by rw [Array.length_toList]; exact Nat.le_refl _)
      rw [hl] at hsc
      clear hl
      have r1 := b1.cell
      go_wp2_with fail
      clear r1
      have c0 := b1.cell 0
      have c1 := b1.cell 1
      have c2 := b1.cell 2
      have k1 := b1.lt
      go_region
      clear c0 c1 c2 k1 b1
      go_wp2_with fail
      refine calls_abs (fun W => Below w.heap.size w W ∧ Box W w.heap.size #[.int .i64 0, .int .i64 0, .int .i64 0] 23 ∧ Box W wr.heap.size #[.int .i64 a, .int .i64 b, .int .i64 c] 23 ∧ w.heap.size < wr.heap.size)
        ⟨(hW.alloc hW.size _).drew, b0.alloc _, Box.new wr _ _, b0.lt⟩ ?_
      clear hW b0
      rintro W2 ⟨hW, b0, b1, hlt2⟩
      refine (rtext_any a b c W2).mono ?_
      rintro e w4 ⟨rfl, hb_⟩
      replace hW := hW.trans (hb_.mono hW.size)
      replace b0 := b0.below hb_ b0.lt
      replace b1 := b1.below hb_ b1.lt
      clear hb_
      have r0 := b0.cell
      have f0 := b0.frozen
      have r1 := b1.cell
      cases hv : validB a b c with
      | false =>
        have HX : Hid (parseF s = ⟨0, 0, 0, 5⟩) := Lib.hid (scan_bad hsc.out hv)
        have ht : textV a b c = .tuple #[.string ⟨#[]⟩, .int .i64 1] := by unfold textV strV; rw [hv]; rfl
        rw [ht]
        clear ht hv hsc
        go_wp2
        exact ret_box2 (by rfl) (by rfl) (by rfl) (b0.set3 _ _ _) Tryd.underlying23 rfl (by kernel_rfl) rfl (RetB.mk' (by rw [HX.out]; rfl) (by repeat (first | assumption | exact Below.refl _ _ | refine Below.setCell ?_ (by first | (simp; done) | (simp; omega) | omega) _ | refine Below.alloc ?_ (by first | (simp; done) | (simp; omega) | omega) _)))
      | true =>
        have ht : textV a b c = .tuple #[.string ⟨(tripL a b c).toArray⟩, .int .i64 0] := by unfold textV strV; rw [hv]; rfl
        rw [ht]
        clear ht
        obtain ⟨s0, hs'⟩ : ∃ s0, s0 = (⟨(tripL a b c).toArray⟩ : ByteArray) := ⟨_, rfl⟩
        rw [← hs']
        by_cases hq : tripL a b c = s.data.toList
        · have HX : Hid (parseF s = ⟨a, b, c, 0⟩) := Lib.hid (parse_ok s a b c hv hq.symm)
          have e1 : s0 = s := by rw [hs', hq]
          subst e1
          clear hs' hq hv hsc
          go_wp2
          exact ret_box2 (by rfl) (by rfl) (by rfl) (b0.set3 _ _ _) Tryd.underlying23 rfl (by kernel_rfl) rfl (RetB.mk' (by rw [HX.out]; rfl) (by repeat (first | assumption | exact Below.refl _ _ | refine Below.setCell ?_ (by first | (simp; done) | (simp; omega) | omega) _ | refine Below.alloc ?_ (by first | (simp; done) | (simp; omega) | omega) _)))
        · have HX : Hid (parseF s = ⟨0, 0, 0, 5⟩) := Lib.hid (scan_other hsc.out hq)
          have e1 : (s0.toList == s.toList) = false := by
            rw [ByteArray.toList_eq, ByteArray.toList_eq, beq_eq_false_iff_ne]
            intro e
            exact hq (by rw [← e, hs'])
          clear hs' hq hv hsc
          go_wp2
          exact ret_box2 (by rfl) (by rfl) (by rfl) (b0.set3 _ _ _) Tryd.underlying23 rfl (by kernel_rfl) rfl (RetB.mk' (by rw [HX.out]; rfl) (by repeat (first | assumption | exact Below.refl _ _ | refine Below.setCell ?_ (by first | (simp; done) | (simp; omega) | omega) _ | refine Below.alloc ?_ (by first | (simp; done) | (simp; omega) | omega) _)))
end Go.Proofs.YthggpflfjghooaaDoor

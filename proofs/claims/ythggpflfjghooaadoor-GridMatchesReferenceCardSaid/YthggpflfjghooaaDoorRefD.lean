/- The reference of layer 7: Cover returns the same list. No condition. -/
import Derived.Test.YthggpflfjghooaaDoorRefC
namespace Go.Proofs.YthggpflfjghooaaDoor
open Go.RowKit Go.Sort

set_option maxRecDepth 100000 in
set_option maxHeartbeats 8000000 in
theorem rcover_any (a b c d z : Int) (w : World) : Calls Tryd.prog 25 #[.agg #[.int .i64 a, .int .i64 b, .int .i64 c, .int .i64 d], .int .i64 z] w (CoverR a b c d z w) := by
  obtain ⟨i0, hif, hz0, hz1, hz2⟩ := info_parts infoTile
  go_enter Tryd.func25, Tryd.ntmps25
  go_wp2_with fail
  refine calls_abs (fun W => Below w.heap.size w W ∧ Box W w.heap.size #[.int .i64 a, .int .i64 b, .int .i64 c, .int .i64 d] 33) ⟨(Below.refl _ _).alloc (Nat.le_refl _) _, Box.new _ _ _⟩ ?_
  rintro W ⟨hW, b0⟩
  refine (rlevel_any z _).mono ?_
  rintro e w1 ⟨rfl, hb_⟩
  replace hW := hW.trans (hb_.mono hW.size)
  replace b0 := b0.below hb_ b0.lt
  clear hb_
  cases hl : levelB z with
  | false =>
    have HC : Hid (coverB a b c d z = false) := Lib.hid (by simp [coverB, hl])
    clear hl
    go_wp2
    go_ret2
    exact ⟨hW, .inl ⟨HC.out, rfl⟩⟩
  | true =>
    have r0 := b0.cell
    have k0 := b0.lt
    go_wp2_with fail
    clear r0 k0
    refine (rin_any a b _).mono ?_
    rintro e w2 ⟨rfl, hb_⟩
    replace hW := hW.trans (hb_.mono hW.size)
    replace b0 := b0.below hb_ b0.lt
    clear hb_
    cases hi : insideB a b with
    | false =>
      have HC : Hid (coverB a b c d z = false) := Lib.hid (by simp [coverB, hi])
      clear hl hi
      go_wp2
      go_ret2
      exact ⟨hW, .inl ⟨HC.out, rfl⟩⟩
    | true =>
      have r0 := b0.cell
      have k0 := b0.lt
      go_wp2_with fail
      clear r0 k0
      refine (rin_any c d _).mono ?_
      rintro e w3 ⟨rfl, hb_⟩
      replace hW := hW.trans (hb_.mono hW.size)
      replace b0 := b0.below hb_ b0.lt
      clear hb_
      cases hj : insideB c d with
      | false =>
        have HC : Hid (coverB a b c d z = false) := Lib.hid (by simp [coverB, hj])
        clear hl hi hj
        go_wp2
        go_ret2
        exact ⟨hW, .inl ⟨HC.out, rfl⟩⟩
      | true =>
        have HD := @ofF_ok c d z hl hj
        have HE := @ofF_ok a b z hl hi
        have r0 := b0.cell
        have k0 := b0.lt
        by_cases hac : a ≤ c
        all_goals by_cases hbd : b ≤ d
        all_goals try have qac := decide_eq_false (show ¬ (c < a) by omega)
        all_goals try have qbd := decide_eq_false (show ¬ (d < b) by omega)
        rotate_left
        iterate 3
          · have HC : Hid (coverB a b c d z = false) := Lib.hid (by unfold coverB; rw [decide_eq_false (by omega), Bool.and_false])
            clear hl hi hj
            go_wp2
            go_ret2
            exact ⟨hW, .inl ⟨HC.out, rfl⟩⟩
        · have HC : Hid (coverB a b c d z = true) := Lib.hid (by unfold coverB; rw [decide_eq_true ⟨hac, hbd⟩, hl, hi, hj]; rfl)
          have hz : 0 ≤ z ∧ z ≤ 17 := by simpa [levelB] using hl
          obtain ⟨sx, sx'⟩ := span_spec hz.1 hz.2 hac
          obtain ⟨sy, sy'⟩ := span_spec hz.1 hz.2 hbd
          obtain ⟨-, -, pa0, -, pb0, -⟩ := valid_spec (of_valid hl hi)
          obtain ⟨lc0, lc1⟩ := valid_le (of_valid hl hj)
          have H2 : Hid (∀ e W, Below w.heap.size w W → 4096 < spanF z b d * spanF z a c → e = .returned (.tuple #[.slice none 0 0, .int .i64 2]) → CoverR a b c d z w e W) := Lib.hid (fun e W k1 k2 k3 => ⟨k1, .inr (.inl ⟨HC.out, k2, k3⟩)⟩)
          have H3 : Hid (∀ e W g cap, Below w.heap.size w W → spanF z b d * spanF z a c ≤ 4096 → e = .returned (.tuple #[.slice (some ⟨g, 0, none⟩) (spanF z b d * spanF z a c) cap, .int .i64 0]) → spanF z b d * spanF z a c ≤ cap → w.heap.size ≤ g →
              Tiles W g z (upto (a / side z) (b / side z) (spanF z a c) (spanF z b d * spanF z a c)) → CoverR a b c d z w e W) := Lib.hid (fun e W g cap k1 k2 k3 k4 k5 k6 => ⟨k1, .inr (.inr ⟨HC.out, k2, g, cap, k3, k4, k5, k6⟩)⟩)
          clear hl hi hj hz
          generalize spanF z a c = cols at *
          generalize spanF z b d = rows at *
          generalize a / side z = A0 at *
          generalize b / side z = B0 at *
          generalize c / side z = C0 at *
          generalize d / side z = D0 at *
          have hP : (C0 - A0 + 1) * (D0 - B0 + 1) = ((rows * cols : Nat) : Int) := by rw [← sx', ← sy', Int.mul_comm]; simp
          have hP1 : rows * cols ≤ 131072 * 131072 := Nat.mul_le_mul (by omega) (by omega)
          have hP0 : 0 < rows * cols := Nat.mul_pos (by omega) (by omega)
          have hQ0 : 0 ≤ (C0 - A0 + 1) * (D0 - B0 + 1) := by omega
          have hQ1 : (C0 - A0 + 1) * (D0 - B0 + 1) ≤ 17179869184 := by omega
          have HP := Lib.hid hP
          clear hP
          go_wp2_with fail
          clear r0 k0
          refine (rof_any a b z _).mono ?_
          rintro e w4 ⟨rfl, hb_⟩
          replace hW := hW.trans (hb_.mono hW.size)
          replace b0 := b0.below hb_ b0.lt
          clear hb_
          rw [HE]
          clear HE
          unfold TE.v
          have r0 := b0.cell
          have k0 := b0.lt
          go_wp2_with fail
          clear r0 k0
          refine (rof_any c d z _).mono ?_
          rintro e w5 ⟨rfl, hb_⟩
          have b1 := (Box.new _ _ _).below hb_ (Box.new _ _ _).lt
          replace b0 := (b0.alloc _).below hb_ (b0.alloc _).lt
          replace hW := (hW.alloc hW.size _).trans (hb_.mono (hW.alloc hW.size _).size)
          clear hb_
          rw [HD]
          clear HD
          unfold TE.v
          have r1 := b1.cell
          have k1 := b1.lt
          by_cases hN : 4096 < rows * cols
          · have hN' : 4096 < (C0 - A0 + 1) * (D0 - B0 + 1) := by have := HP.out; omega
            go_wp2
            go_ret2
            exact H2.out _ _ (hW.alloc hW.size _) hN rfl
          · have hN' : (C0 - A0 + 1) * (D0 - B0 + 1) ≤ 4096 := by have := HP.out; omega
            have hM' := decide_eq_false (show ¬ (4096 < (C0 - A0 + 1) * (D0 - B0 + 1)) by omega)
            have ks := hW.size
            go_wp2
            clear hP1 r1
            go_loopw [10, 11] (fun vo vy wr => ∃ r : Nat, r ≤ rows ∧ vy = .int .i64 (B0 + r) ∧ wr.ownsRow (w5.heap.size + 1) 23 3 vo (r * cols) (cellsT z (upto A0 B0 cols (r * cols))) ∧ Below w.heap.size w wr ∧ Box wr w4.heap.size #[.int .i64 z, .int .i64 A0, .int .i64 B0] 23 ∧ Box wr w5.heap.size #[.int .i64 z, .int .i64 C0, .int .i64 D0] 23)
              (fun _ vy _ => rows - (intOf vy - B0).toNat)
            case atStart => exact ⟨0, by omega, by simp, by simpa [upto, cellsT] using World.ownsRow_nil _ _ _ _, hW.alloc hW.size _, b1.alloc _, Box.new _ _ _⟩
            case round =>
              clear hW b0 b1
              obtain ⟨r, hr, rfl, hown, hW, b1, b2⟩ := hrel
              have r1 := b1.cell
              have k1 := b1.lt
              have r2 := b2.cell
              have k2 := b2.lt
              by_cases hlt : r < rows
              · have hd : B0 + (r : Int) ≤ D0 := by omega
                go_wp2
                obtain ⟨wo, rfl⟩ : ∃ wo : World, wo = wr := ⟨_, rfl⟩
                go_loopw [10, 12] (fun vo vx wi => ∃ c : Nat, c ≤ cols ∧ vx = .int .i64 (A0 + c) ∧ wi.ownsRow (w5.heap.size + 1) 23 3 vo (r * cols + c) (cellsT z (upto A0 B0 cols (r * cols + c))) ∧ Below w.heap.size w wi ∧ Box wi w4.heap.size #[.int .i64 z, .int .i64 A0, .int .i64 B0] 23 ∧ Box wi w5.heap.size #[.int .i64 z, .int .i64 C0, .int .i64 D0] 23)
                  (fun _ vx _ => cols - (intOf vx - A0).toNat)
                case atStart => exact ⟨0, by omega, by simp, hown, hW, b1, b2⟩
                case round =>
                  clear hown hW b1 b2 r1 r2 k1 k2
                  obtain ⟨c, hc, rfl, hown, hW, b1, b2⟩ := hrel
                  have r1 := b1.cell
                  have k1 := b1.lt
                  have r2 := b2.cell
                  have k2 := b2.lt
                  by_cases hlc : c < cols
                  · have hd2 : A0 + (c : Int) ≤ C0 := by omega
                    have hlen : r * cols + c < rows * cols := by
                      have : (r + 1) * cols ≤ rows * cols := Nat.mul_le_mul_right _ (by omega)
                      rw [Nat.add_mul, Nat.one_mul] at this
                      omega
                    have e : cellsT z (upto A0 B0 cols (r * cols + c + 1)) = cellsT z (upto A0 B0 cols (r * cols + c)) ++ [.int .i64 z, .int .i64 (A0 + c), .int .i64 (B0 + r)] := by rw [upto_succ, cellsT_snoc, tileAt_rc _ _ _ _ _ hlc]
                    have HE := Lib.hid e
                    clear e
                    go_wp2_with (at_builtin; refine halted ?_)
                    refine Halted.on ?_
                    refine wpList_append_own _ rfl _ _ 45 rfl (w5.heap.size + 1) 23 i0 (.agg #[.int .i64 0, .int .i64 0, .int .i64 0]) 3 24 Tryd.underlying45 hif hz0 hz1 hz2 rfl (by decide) _ (r * cols + c) _ rfl (ownsRow_alloc hown _) ⟨wr.heap.size, 0, none⟩ 1 1 [.int .i64 z, .int .i64 (A0 + c), .int .i64 (B0 + r)] rfl rfl
                      (World.news_of_block (cs := #[.int .i64 z, .int .i64 (A0 + c), .int .i64 (B0 + r)]) (t := 23) (fr := (0, 0)) (heap_alloc_new wr _)) (by simp [Value.oneCell']) (by unfold maxLen; omega) (by omega) (by simp; omega) ?_
                    intro v' w6 hown' hgrow _
                    have hb := below_append hown hgrow (by omega)
                    rw [← HE.out] at hown'
                    replace hW := hW.trans (hb.mono (by omega))
                    replace b1 := b1.below hb (by omega)
                    replace b2 := b2.below hb (by omega)
                    clear r1 k1 r2 k2 hgrow hb hown HE
                    go_wp2
                    go_roundw
                    case rel => exact ⟨c + 1, by omega, by go_num, hown', hW, b1, b2⟩
                    case measure => simp [intOf]; omega
                  · obtain rfl : c = cols := by omega
                    have qd := decide_eq_false (show ¬ (A0 + (c : Int) ≤ C0) by omega)
                    go_wp2
                    go_roundw
                    case rel => exact ⟨r + 1, by omega, by go_num, by rw [Nat.add_mul, Nat.one_mul]; exact hown, hW, b1, b2⟩
                    case measure => simp [intOf]; omega
              · obtain rfl : r = rows := by omega
                have qd := decide_eq_false (show ¬ (B0 + (r : Int) ≤ D0) by omega)
                obtain ⟨g, cap, rfl, hB, hcap, hT⟩ := tiles_of_owns hown (by omega)
                go_wp2
                go_ret2
                exact H3.out _ _ g cap hW (by omega) rfl hcap (by omega) hT
end Go.Proofs.YthggpflfjghooaaDoor

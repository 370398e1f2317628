/- The walk of GridCovers: it returns true. -/
import Derived.Test.YthggpflfjghooaaDoorHead
import Derived.Test.YthggpflfjghooaaDoorList
import Derived.Test.YthggpflfjghooaaDoorEq
namespace Go.Proofs.YthggpflfjghooaaDoor
open Go.RowKit Go.Sort

theorem Tiles.set_other {W : World} {g b : Nat} {z : Int} {l : List (Int × Int)} (h : Tiles W g z l) (hne : g ≠ b) (i : Nat) (v : Value) : Tiles (W.setCell ⟨b, i, none⟩ v) g z l := by
  have hc : ∀ o, (W.setCell ⟨b, i, none⟩ v).cell? ⟨g, o, none⟩ = W.cell? ⟨g, o, none⟩ := fun o => by
    have := Below.heap_setCell W ⟨b, i, none⟩ v g hne
    simp [World.cell?, this]
  refine ⟨?_, fun j p hp => ?_⟩
  · have := h.lt
    simpa [World.setCell] using this
  · rw [hc, hc, hc]
    exact h.cell j p hp

theorem tile_div (x0 y0 : Int) (cols j : Nat) : tileAt x0 y0 cols j = (x0 + ((j % cols : Nat) : Int), y0 + ((j / cols : Nat) : Int)) := rfl

theorem mem_upto (x0 y0 : Int) (rows cols : Nat) (hc : 1 ≤ cols) (tx ty : Int) :
    (∃ j, j < rows * cols ∧ tileAt x0 y0 cols j = (tx, ty)) ↔ x0 ≤ tx ∧ tx < x0 + cols ∧ y0 ≤ ty ∧ ty < y0 + rows := by
  constructor
  · rintro ⟨j, hj, h⟩
    rw [tile_div, Prod.mk.injEq] at h
    obtain ⟨rfl, rfl⟩ := h
    have h1 : j % cols < cols := Nat.mod_lt _ (by omega)
    have h2 : j / cols < rows := by rw [Nat.div_lt_iff_lt_mul (by omega)]; exact hj
    generalize j % cols = m at *
    generalize j / cols = n at *
    omega
  · rintro ⟨h1, h2, h3, h4⟩
    refine ⟨(ty - y0).toNat * cols + (tx - x0).toNat, ?_, ?_⟩
    · have : ((ty - y0).toNat + 1) * cols ≤ rows * cols := Nat.mul_le_mul_right _ (by omega)
      rw [Nat.add_mul, Nat.one_mul] at this
      omega
    · rw [tileAt_rc _ _ _ _ _ (by omega), Prod.mk.injEq]
      omega

/-- The list is in order: no tile lies before the one ahead of it. -/
theorem upto_order (x0 y0 : Int) (cols j : Nat) (hc : 1 ≤ cols) :
    ((tileAt x0 y0 cols (j + 1)).2 = (tileAt x0 y0 cols j).2 ∧ (tileAt x0 y0 cols j).1 < (tileAt x0 y0 cols (j + 1)).1) ∨ (tileAt x0 y0 cols j).2 < (tileAt x0 y0 cols (j + 1)).2 := by
  have e : j = j / cols * cols + j % cols := by rw [Nat.mul_comm]; exact (Nat.div_add_mod j cols).symm
  have hm : j % cols < cols := Nat.mod_lt _ (by omega)
  generalize j / cols = r at e
  generalize j % cols = c at e hm
  subst e
  by_cases h : c + 1 < cols
  · rw [Nat.add_assoc, tileAt_rc _ _ _ _ _ hm, tileAt_rc _ _ _ _ _ h]
    left
    exact ⟨rfl, by dsimp only; omega⟩
  · have e2 : r * cols + c + 1 = (r + 1) * cols + 0 := by rw [Nat.add_mul, Nat.one_mul]; omega
    rw [e2, tileAt_rc _ _ _ _ _ hm, tileAt_rc _ _ _ _ _ (by omega)]
    right
    dsimp only; omega

/-- A tile's box meets a box exactly if it lies in the cover. -/
theorem meet_iff {z : Int} (h0 : 0 ≤ z) (h1 : z ≤ 17) (t a c : Int) : (t * side z ≤ c ↔ t ≤ c / side z) ∧ (a ≤ t * side z + side z - 1 ↔ a / side z ≤ t) := by
  have hs := side_bd z h0 h1
  constructor
  · rw [Int.le_ediv_iff_mul_le (by omega)]
  · have : a / side z ≤ t ↔ a / side z < t + 1 := by omega
    rw [this, Int.ediv_lt_iff_lt_mul (by omega), Int.add_mul, Int.one_mul]
    omega

theorem upto_get (x0 y0 : Int) (cols : Nat) {n i : Nat} (h : i < n) : (upto x0 y0 cols n)[i]? = some (tileAt x0 y0 cols i) := by
  simp [upto, h]

/-- What lies in the cover is valid. -/
theorem cover_valid {a b c d z tx ty : Int} (hl : levelB z = true) (hi : insideB a b = true) (hj : insideB c d = true) (h : a / side z ≤ tx ∧ tx ≤ c / side z ∧ b / side z ≤ ty ∧ ty ≤ d / side z) : validB z tx ty = true := by
  have va := of_valid hl hi
  have vc := of_valid hl hj
  unfold validB at *
  simp only [decide_eq_true_eq] at *
  omega

theorem found_no {A0 B0 tx ty xi yi : Int} {cols i : Nat} (h : Hid (false = true ↔ ∃ j, j < i ∧ tileAt A0 B0 cols j = (tx, ty))) (ht : Hid (tileAt A0 B0 cols i = (xi, yi))) (hne : ¬ (xi = tx ∧ yi = ty)) :
    Hid (false = true ↔ ∃ j, j < i + 1 ∧ tileAt A0 B0 cols j = (tx, ty)) := Lib.hid (by
  constructor
  · intro h; cases h
  · rintro ⟨k, hk, he⟩
    by_cases h1 : k = i
    · subst h1
      rw [ht.out, Prod.mk.injEq] at he
      exact absurd he hne
    · exact h.out.2 ⟨k, by omega, he⟩)

theorem cover_parts {a b c d z : Int} (h : coverB a b c d z = true) : levelB z = true ∧ insideB a b = true ∧ insideB c d = true ∧ a ≤ c ∧ b ≤ d := by
  unfold coverB at h
  simp only [Bool.and_eq_true, decide_eq_true_eq] at h
  exact ⟨h.1.1.1, h.1.1.2, h.1.2, h.2⟩

set_option maxRecDepth 100000 in
set_option maxHeartbeats 16000000 in
theorem covers_walk (a b c d z tz tx ty : Int) (w : World) (hG : Gw w) : Calls Tryd.prog 6 #[.agg #[.int .i64 a, .int .i64 b, .int .i64 c, .int .i64 d], .int .i64 z, .agg #[.int .i64 tz, .int .i64 tx, .int .i64 ty]] w (RetB w (.bool true)) := by
  have l0 := hG.size
  go_enter Tryd.func6, Tryd.ntmps6
  go_wp2_with fail
  refine calls_abs (fun W => Below w.heap.size w W ∧ Box W w.heap.size #[.int .i64 a, .int .i64 b, .int .i64 c, .int .i64 d] 33 ∧ Box W (w.heap.size + 1) #[.int .i64 tz, .int .i64 tx, .int .i64 ty] 23)
    ⟨((Below.refl _ _).alloc (Nat.le_refl _) _).alloc (by simp) _, (Box.new _ _ _).alloc _, Box.new' (by simp) _ _⟩ ?_
  rintro W ⟨hW, b0, b1⟩
  refine (head_any _ (hG.below hW l0)).mono ?_
  rintro e w1 ⟨rfl, hb_⟩
  replace hW := hW.trans (hb_.mono hW.size)
  replace b0 := b0.below hb_ b0.lt
  replace b1 := b1.below hb_ b1.lt
  clear hb_
  have r0 := b0.cell
  have k0 := b0.lt
  go_wp2_with fail
  clear r0 k0
  have n1 := b1.lt
  refine (cover_any a b c d z _).mono ?_
  rintro e w2 ⟨hb_, h⟩
  replace b0 := b0.below hb_ b0.lt
  replace b1 := b1.below hb_ b1.lt
  replace hW := hW.trans (hb_.mono hW.size)
  clear hb_
  rcases h with ⟨hC, rfl⟩ | ⟨hC, hN, rfl⟩ | ⟨hC, hN, g, cap, rfl, hcap, hB, hT⟩
  · -- nothing: ErrArg
    have r1 := b1.cell
    have f1 := b1.frozen
    have k1 := b1.lt
    go_wp2_with fail
    clear r1 f1 k1
    refine calls_abs (fun W => Below w.heap.size w W ∧ Box W w.heap.size #[.int .i64 a, .int .i64 b, .int .i64 c, .int .i64 d] 33) ⟨hW.setCell (by simp) _, b0.set_other (by omega) _ _⟩ ?_
    clear hW b0 b1 n1
    rintro W5 ⟨hW, b0⟩
    refine (box_any z tx ty _).mono ?_
    rintro e w5 ⟨rfl, hb_⟩
    replace hW := hW.trans (hb_.mono hW.size)
    replace b0 := b0.below hb_ b0.lt
    clear hb_
    generalize boxF z tx ty = R
    unfold BE.v
    have r0 := b0.cell
    have k0 := b0.lt
    go_wp2_with fail
    clear r0 k0
    refine (of_any a b z _).mono ?_
    rintro e w6 ⟨rfl, hb_⟩
    have b2 := (Box.new _ _ _).below hb_ (Box.new _ _ _).lt
    replace b0 := (b0.alloc _).below hb_ (b0.alloc _).lt
    replace hW := (hW.alloc hW.size _).trans (hb_.mono (hW.alloc hW.size _).size)
    clear hb_
    cases hl : levelB z with
    | false =>
      have HD := @ofF_lev c d z hl
      rw [ofF_lev hl]
      clear hl hC
      unfold TE.v
      have r0 := b0.cell
      have k0 := b0.lt
      go_wp2_with fail
      clear r0 k0
      refine (of_any c d z _).mono ?_
      rintro e w7 ⟨rfl, hb_⟩
      have b3 := (Box.new _ _ _).below hb_ (Box.new _ _ _).lt
      replace b0 := (b0.alloc _).below hb_ (b0.alloc _).lt
      replace hW := (hW.alloc hW.size _).trans (hb_.mono (hW.alloc hW.size _).size)
      clear hb_
      rw [HD]
      unfold TE.v
      have r0 := b0.cell
      have k0 := b0.lt
      go_wp2
      go_ret
      exact RetB.mk' rfl (hW.alloc hW.size _)
    | true =>
      cases hi : insideB a b with
      | false =>
        rw [ofF_out hl hi]
        clear hl hi hC
        unfold TE.v
        have r0 := b0.cell
        have k0 := b0.lt
        go_wp2_with fail
        clear r0 k0
        refine (of_any c d z _).mono ?_
        rintro e w7 ⟨rfl, hb_⟩
        have b3 := (Box.new _ _ _).below hb_ (Box.new _ _ _).lt
        replace b0 := (b0.alloc _).below hb_ (b0.alloc _).lt
        replace hW := (hW.alloc hW.size _).trans (hb_.mono (hW.alloc hW.size _).size)
        clear hb_
        generalize ofF c d z = R2
        unfold TE.v
        have r0 := b0.cell
        have k0 := b0.lt
        go_wp2
        go_ret
        exact RetB.mk' rfl (hW.alloc hW.size _)
      | true =>
        rw [ofF_ok hl hi]
        unfold TE.v
        generalize a / side z = A0 at *
        generalize b / side z = B0 at *
        cases hj : insideB c d with
        | false =>
          have HD := @ofF_out c d z hl hj
          clear hl hi hC hj
          have r0 := b0.cell
          have k0 := b0.lt
          go_wp2_with fail
          clear r0 k0
          refine (of_any c d z _).mono ?_
          rintro e w7 ⟨rfl, hb_⟩
          have b3 := (Box.new _ _ _).below hb_ (Box.new _ _ _).lt
          replace b0 := (b0.alloc _).below hb_ (b0.alloc _).lt
          replace hW := (hW.alloc hW.size _).trans (hb_.mono (hW.alloc hW.size _).size)
          clear hb_
          rw [HD]
          unfold TE.v
          have r0 := b0.cell
          have k0 := b0.lt
          go_wp2
          go_ret
          exact RetB.mk' rfl (hW.alloc hW.size _)
        | true =>
          have HD := @ofF_ok c d z hl hj
          have hlt : c < a ∨ (¬ c < a ∧ d < b) := by
            unfold coverB at hC
            rw [hl, hi, hj] at hC
            have h' : ¬ (a ≤ c ∧ b ≤ d) := by simpa using hC
            omega
          clear hl hi hC hj
          generalize c / side z = C0 at *
          generalize d / side z = D0 at *
          have r0 := b0.cell
          have k0 := b0.lt
          go_wp2_with fail
          clear r0 k0
          refine (of_any c d z _).mono ?_
          rintro e w7 ⟨rfl, hb_⟩
          have b3 := (Box.new _ _ _).below hb_ (Box.new _ _ _).lt
          replace b0 := (b0.alloc _).below hb_ (b0.alloc _).lt
          replace hW := (hW.alloc hW.size _).trans (hb_.mono (hW.alloc hW.size _).size)
          clear hb_
          rw [HD]
          unfold TE.v
          have r0 := b0.cell
          have k0 := b0.lt
          rcases hlt with hlt | ⟨hlt', hlt⟩
          · go_wp2
            go_ret
            exact RetB.mk' rfl (hW.alloc hW.size _)
          · have q := decide_eq_false (show ¬ (c < a) by omega)
            go_wp2
            go_ret
            exact RetB.mk' rfl (hW.alloc hW.size _)
  · -- nothing: ErrLimit
    obtain ⟨hl, hi, hj, hac, hbd⟩ := cover_parts hC
    have HD := @ofF_ok c d z hl hj
    have HE := @ofF_ok a b z hl hi
    have hz : 0 ≤ z ∧ z ≤ 17 := by simpa [levelB] using hl
    obtain ⟨sx, sx'⟩ := span_spec hz.1 hz.2 hac
    obtain ⟨sy, sy'⟩ := span_spec hz.1 hz.2 hbd
    obtain ⟨-, -, pa0, -, pb0, -⟩ := valid_spec (of_valid hl hi)
    obtain ⟨lc0, lc1⟩ := valid_le (of_valid hl hj)
    clear hC hl hi hj hz
    generalize spanF z a c = cols at *
    generalize spanF z b d = rows at *
    generalize a / side z = A0 at *
    generalize b / side z = B0 at *
    generalize c / side z = C0 at *
    generalize d / side z = D0 at *
    have hP : (C0 - A0 + 1) * (D0 - B0 + 1) = ((rows * cols : Nat) : Int) := by rw [← sx', ← sy', Int.mul_comm]; simp
    have hP1 : rows * cols ≤ 131072 * 131072 := Nat.mul_le_mul (by omega) (by omega)
    have hQ1 : (C0 - A0 + 1) * (D0 - B0 + 1) ≤ 17179869184 := by omega
    have hQ2 : 4096 < (C0 - A0 + 1) * (D0 - B0 + 1) := by omega
    clear hP hP1 sx' sy' hN
    have r1 := b1.cell
    have f1 := b1.frozen
    have k1 := b1.lt
    go_wp2_with fail
    clear r1 f1 k1
    refine calls_abs (fun W => Below w.heap.size w W ∧ Box W w.heap.size #[.int .i64 a, .int .i64 b, .int .i64 c, .int .i64 d] 33) ⟨hW.setCell (by simp) _, b0.set_other (by omega) _ _⟩ ?_
    clear hW b0 b1 n1
    rintro W5 ⟨hW, b0⟩
    refine (box_any z tx ty _).mono ?_
    rintro e w5 ⟨rfl, hb_⟩
    replace hW := hW.trans (hb_.mono hW.size)
    replace b0 := b0.below hb_ b0.lt
    clear hb_
    generalize boxF z tx ty = R
    unfold BE.v
    have r0 := b0.cell
    have k0 := b0.lt
    go_wp2_with fail
    clear r0 k0
    refine (of_any a b z _).mono ?_
    rintro e w6 ⟨rfl, hb_⟩
    have b2 := (Box.new _ _ _).below hb_ (Box.new _ _ _).lt
    replace b0 := (b0.alloc _).below hb_ (b0.alloc _).lt
    replace hW := (hW.alloc hW.size _).trans (hb_.mono (hW.alloc hW.size _).size)
    clear hb_
    rw [HE]
    unfold TE.v
    have r0 := b0.cell
    have k0 := b0.lt
    go_wp2_with fail
    clear r0 k0
    refine (of_any c d z _).mono ?_
    rintro e w7 ⟨rfl, hb_⟩
    have b3 := (Box.new _ _ _).below hb_ (Box.new _ _ _).lt
    replace b0 := (b0.alloc _).below hb_ (b0.alloc _).lt
    replace hW := (hW.alloc hW.size _).trans (hb_.mono (hW.alloc hW.size _).size)
    clear hb_
    rw [HD]
    unfold TE.v
    have r3 := b3.cell
    have k3 := b3.lt
    go_wp2
    go_ret
    exact RetB.mk' rfl (hW.alloc hW.size _)
  · obtain ⟨hl, hi, hj, hac, hbd⟩ := cover_parts hC
    have hz : 0 ≤ z ∧ z ≤ 17 := by simpa [levelB] using hl
    obtain ⟨hz0, hz1⟩ := hz
    obtain ⟨sx, sx'⟩ := span_spec hz0 hz1 hac
    obtain ⟨sy, sy'⟩ := span_spec hz0 hz1 hbd
    obtain ⟨-, -, pa0, -, pb0, -⟩ := valid_spec (of_valid hl hi)
    obtain ⟨lc0, lc1⟩ := valid_le (of_valid hl hj)
    have HV : Hid (a / side z ≤ tx ∧ tx ≤ c / side z ∧ b / side z ≤ ty ∧ ty ≤ d / side z → validB z tx ty = true) := Lib.hid (fun h => cover_valid hl hi hj h)
    have HX := @meet_iff z hz0 hz1 tx a c
    have HY := @meet_iff z hz0 hz1 ty b d
    obtain ⟨HX1, HX2⟩ := HX
    obtain ⟨HY1, HY2⟩ := HY
    clear hC hl hi hj hac hbd
    generalize spanF z a c = cols at *
    generalize spanF z b d = rows at *
    generalize a / side z = A0 at *
    generalize b / side z = B0 at *
    generalize c / side z = C0 at *
    generalize d / side z = D0 at *
    have hM : (∃ j, j < rows * cols ∧ tileAt A0 B0 cols j = (tx, ty)) ↔ (A0 ≤ tx ∧ tx ≤ C0 ∧ B0 ≤ ty ∧ ty ≤ D0) := by
      rw [mem_upto A0 B0 rows cols (by omega)]
      omega
    have hO := fun j => upto_order A0 B0 cols j (by omega)
    have hG' : ∀ i, i < rows * cols → (upto A0 B0 cols (rows * cols))[i]? = some (tileAt A0 B0 cols i) := fun i h => upto_get A0 B0 cols h
    have hpos : 0 < rows * cols := Nat.mul_pos (by omega) (by omega)
    generalize rows * cols = N at *
    have HM := Lib.hid hM
    have HO := Lib.hid hO
    have HG := Lib.hid hG'
    clear hM hO hG'
    have r1 := b1.cell
    have f1 := b1.frozen
    have k1 := b1.lt
    go_wp2_with fail
    clear r1 f1 k1
    refine calls_abs (fun W => Below w.heap.size w W ∧ Box W w.heap.size #[.int .i64 a, .int .i64 b, .int .i64 c, .int .i64 d] 33 ∧ Box W (w.heap.size + 1) #[.int .i64 z, .int .i64 tx, .int .i64 ty] 23 ∧ Tiles W g z (upto A0 B0 cols N))
      ⟨hW.setCell (by simp) _, b0.set_other (by omega) _ _, b1.set 0 _, hT.set_other (by omega) _ _⟩ ?_
    clear hW b0 b1 n1 hT
    rintro W5 ⟨hW, b0, b1, hT⟩
    refine (box_any z tx ty _).mono ?_
    rintro e w5 ⟨rfl, hb_⟩
    replace hW := hW.trans (hb_.mono hW.size)
    replace b0 := b0.below hb_ b0.lt
    replace b1 := b1.below hb_ b1.lt
    replace hT := hT.below hb_ hT.lt
    clear hb_
    have BR : ∃ R, boxF z tx ty = R := ⟨_, rfl⟩
    obtain ⟨R, hR⟩ := BR
    rw [hR]
    have HR := Lib.hid hR
    clear hR
    obtain ⟨m0, m1, m2, m3, me⟩ := R
    unfold BE.v
    dsimp only
    go_wp2
    go_loopw [16, 17] (fun vf vi wr => ∃ (i : Nat) (fb : Bool), i ≤ N ∧ vi = .int .i64 i ∧ vf = .bool fb ∧ Hid (fb = true ↔ ∃ j, j < i ∧ tileAt A0 B0 cols j = (tx, ty)) ∧ Below w.heap.size w wr ∧ Box wr w.heap.size #[.int .i64 a, .int .i64 b, .int .i64 c, .int .i64 d] 33 ∧ Box wr (w.heap.size + 1) #[.int .i64 z, .int .i64 tx, .int .i64 ty] 23 ∧
        Box wr w5.heap.size #[.int .i64 m0, .int .i64 m1, .int .i64 m2, .int .i64 m3] 33 ∧ Tiles wr g z (upto A0 B0 cols N)) (fun _ vi _ => N - (intOf vi).toNat)
    case atStart => exact ⟨0, false, by omega, rfl, rfl, Lib.hid ⟨fun h => (Bool.noConfusion h), fun ⟨j, hj, _⟩ => absurd hj (Nat.not_lt_zero _)⟩, hW.alloc hW.size _, b0.alloc _, b1.alloc _, Box.new _ _ _, hT.alloc _⟩
    case round =>
      clear hW b0 b1 hT
      obtain ⟨i, fb, hi, rfl, rfl, hfb, hW, b0, b1, b2, hT⟩ := hrel
      by_cases hlt : i < N
      · obtain ⟨C0', C1', C2'⟩ := hT.cell i _ (HG.out i hlt)
        have hti : ∃ p, tileAt A0 B0 cols i = p := ⟨_, rfl⟩
        obtain ⟨⟨xi, yi⟩, hti⟩ := hti
        rw [hti] at C1' C2'
        have HTI := Lib.hid hti
        clear hti
        go_wp2_with fail
        have e0 := cell_regrown C0'
        have e1 := cell_regrown C1'
        have e2 := cell_regrown C2'
        by_cases h0 : i = 0
        · subst h0
          refine wp_region_quiet_below (by kernel_rfl) (by kernel_rfl) ?_
          repeat (go_big_quiet_step (fail))
          refine wpQuiet_nil ?_
          rintro wc hc
          replace hc := below_of_regrown hc
          clear e0 e1 e2 C0' C1' C2'
          replace hW := hW.trans (hc.mono hW.size)
          replace b0 := b0.below hc b0.lt
          replace b1 := b1.below hc b1.lt
          replace b2 := b2.below hc b2.lt
          replace hT := hT.below hc hT.lt
          clear hc
          obtain ⟨C0', C1', C2'⟩ := hT.cell (0) _ (HG.out (0) hlt)
          rw [HTI.out] at C1' C2'
          have e0 := cell_regrown C0'
          have e1 := cell_regrown C1'
          have e2 := cell_regrown C2'
          have q0 := cell_regrown (b1.cell 0)
          have q1 := cell_regrown (b1.cell 1)
          have q2 := cell_regrown (b1.cell 2)
          go_wp2_with fail
          cases fb with
          | true =>
            refine wp_region_quiet_below (by kernel_rfl) (by kernel_rfl) ?_
            repeat (go_big_quiet_step (fail))
            refine wpQuiet_nil ?_
            rintro wd hd
            replace hd := below_of_regrown hd
            replace hW := hW.trans (hd.mono hW.size)
            replace b0 := b0.below hd b0.lt
            replace b1 := b1.below hd b1.lt
            replace b2 := b2.below hd b2.lt
            replace hT := hT.below hd hT.lt
            clear hd e0 e1 e2 q0 q1 q2 C0' C1' C2'
            go_wp2
            go_roundw
            case rel => exact ⟨0 + 1, true, by omega, by go_num, rfl, Lib.hid ⟨fun _ => (hfb.out.1 rfl).elim fun k hk => ⟨k, by omega, hk.2⟩, fun _ => rfl⟩, hW, b0, b1, b2, hT⟩
            case measure => simp [intOf]; omega
          | false =>
            by_cases hE : z = z ∧ xi = tx ∧ yi = ty
            · have hE' := @tile_yes z xi yi z tx ty hE
              refine wp_region_quiet_below (by kernel_rfl) (by kernel_rfl) ?_
              repeat (go_big_quiet_step (fail))
              refine wpQuiet_nil ?_
              rintro wd hd
              replace hd := below_of_regrown hd
              replace hW := hW.trans (hd.mono hW.size)
              replace b0 := b0.below hd b0.lt
              replace b1 := b1.below hd b1.lt
              replace b2 := b2.below hd b2.lt
              replace hT := hT.below hd hT.lt
              clear hd e0 e1 e2 q0 q1 q2 C0' C1' C2' hE'
              go_wp2
              go_roundw
              case rel => exact ⟨0 + 1, true, by omega, by go_num, rfl, Lib.hid ⟨fun _ => ⟨0, by omega, by rw [HTI.out, hE.2.1, hE.2.2]⟩, fun _ => rfl⟩, hW, b0, b1, b2, hT⟩
              case measure => simp [intOf]; omega
            · have hE' := @tile_no z xi yi z tx ty hE
              refine wp_region_quiet_below (by kernel_rfl) (by kernel_rfl) ?_
              repeat (go_big_quiet_step (fail))
              refine wpQuiet_nil ?_
              rintro wd hd
              replace hd := below_of_regrown hd
              replace hW := hW.trans (hd.mono hW.size)
              replace b0 := b0.below hd b0.lt
              replace b1 := b1.below hd b1.lt
              replace b2 := b2.below hd b2.lt
              replace hT := hT.below hd hT.lt
              clear hd e0 e1 e2 q0 q1 q2 C0' C1' C2' hE'
              go_wp2
              go_roundw
              case rel => exact ⟨0 + 1, false, by omega, by go_num, rfl, found_no hfb HTI (fun h => hE ⟨rfl, h⟩), hW, b0, b1, b2, hT⟩
              case measure => simp [intOf]; omega
        · obtain ⟨j, rfl⟩ : ∃ j, i = j + 1 := ⟨i - 1, by omega⟩
          obtain ⟨D0', D1', D2'⟩ := hT.cell j _ (HG.out j (by omega))
          have htj : ∃ p, tileAt A0 B0 cols j = p := ⟨_, rfl⟩
          obtain ⟨⟨xj, yj⟩, htj⟩ := htj
          rw [htj] at D1' D2'
          have ho := HO.out j
          rw [HTI.out, htj] at ho
          dsimp only at ho
          clear htj
          have f0 := cell_regrown D0'
          have f1 := cell_regrown D1'
          have f2 := cell_regrown D2'
          clear D0' D1' D2'
          rcases ho with ⟨hy, hx⟩ | hy
          · subst hy
            have g0 := decide_eq_false (show ¬ (yi < yi) by omega)
            have g1 := decide_eq_false (show ¬ (xi ≤ xj) by omega)
            refine wp_region_quiet_below (by kernel_rfl) (by kernel_rfl) ?_
            repeat (go_big_quiet_step (fail))
            refine wpQuiet_nil ?_
            rintro wc hc
            replace hc := below_of_regrown hc
            clear e0 e1 e2 C0' C1' C2'
            replace hW := hW.trans (hc.mono hW.size)
            replace b0 := b0.below hc b0.lt
            replace b1 := b1.below hc b1.lt
            replace b2 := b2.below hc b2.lt
            replace hT := hT.below hc hT.lt
            clear hc
            obtain ⟨C0', C1', C2'⟩ := hT.cell (j + 1) _ (HG.out (j + 1) hlt)
            rw [HTI.out] at C1' C2'
            have e0 := cell_regrown C0'
            have e1 := cell_regrown C1'
            have e2 := cell_regrown C2'
            have q0 := cell_regrown (b1.cell 0)
            have q1 := cell_regrown (b1.cell 1)
            have q2 := cell_regrown (b1.cell 2)
            go_wp2_with fail
            cases fb with
            | true =>
              refine wp_region_quiet_below (by kernel_rfl) (by kernel_rfl) ?_
              repeat (go_big_quiet_step (fail))
              refine wpQuiet_nil ?_
              rintro wd hd
              replace hd := below_of_regrown hd
              replace hW := hW.trans (hd.mono hW.size)
              replace b0 := b0.below hd b0.lt
              replace b1 := b1.below hd b1.lt
              replace b2 := b2.below hd b2.lt
              replace hT := hT.below hd hT.lt
              clear hd e0 e1 e2 q0 q1 q2 C0' C1' C2'
              go_wp2
              go_roundw
              case rel => exact ⟨j + 1 + 1, true, by omega, by go_num, rfl, Lib.hid ⟨fun _ => (hfb.out.1 rfl).elim fun k hk => ⟨k, by omega, hk.2⟩, fun _ => rfl⟩, hW, b0, b1, b2, hT⟩
              case measure => simp [intOf]; omega
            | false =>
              by_cases hE : z = z ∧ xi = tx ∧ yi = ty
              · have hE' := @tile_yes z xi yi z tx ty hE
                refine wp_region_quiet_below (by kernel_rfl) (by kernel_rfl) ?_
                repeat (go_big_quiet_step (fail))
                refine wpQuiet_nil ?_
                rintro wd hd
                replace hd := below_of_regrown hd
                replace hW := hW.trans (hd.mono hW.size)
                replace b0 := b0.below hd b0.lt
                replace b1 := b1.below hd b1.lt
                replace b2 := b2.below hd b2.lt
                replace hT := hT.below hd hT.lt
                clear hd e0 e1 e2 q0 q1 q2 C0' C1' C2' hE'
                go_wp2
                go_roundw
                case rel => exact ⟨j + 1 + 1, true, by omega, by go_num, rfl, Lib.hid ⟨fun _ => ⟨j + 1, by omega, by rw [HTI.out, hE.2.1, hE.2.2]⟩, fun _ => rfl⟩, hW, b0, b1, b2, hT⟩
                case measure => simp [intOf]; omega
              · have hE' := @tile_no z xi yi z tx ty hE
                refine wp_region_quiet_below (by kernel_rfl) (by kernel_rfl) ?_
                repeat (go_big_quiet_step (fail))
                refine wpQuiet_nil ?_
                rintro wd hd
                replace hd := below_of_regrown hd
                replace hW := hW.trans (hd.mono hW.size)
                replace b0 := b0.below hd b0.lt
                replace b1 := b1.below hd b1.lt
                replace b2 := b2.below hd b2.lt
                replace hT := hT.below hd hT.lt
                clear hd e0 e1 e2 q0 q1 q2 C0' C1' C2' hE'
                go_wp2
                go_roundw
                case rel => exact ⟨j + 1 + 1, false, by omega, by go_num, rfl, found_no hfb HTI (fun h => hE ⟨rfl, h⟩), hW, b0, b1, b2, hT⟩
                case measure => simp [intOf]; omega
          · have g0 := decide_eq_false (show ¬ (yi < yj) by omega)
            have g1 := decide_eq_false (show ¬ (yi = yj) by omega)
            have g2 : (yi == yj) = false := beq_eq_false_iff_ne.2 (by omega)
            refine wp_region_quiet_below (by kernel_rfl) (by kernel_rfl) ?_
            repeat (go_big_quiet_step (fail))
            refine wpQuiet_nil ?_
            rintro wc hc
            replace hc := below_of_regrown hc
            clear e0 e1 e2 C0' C1' C2'
            replace hW := hW.trans (hc.mono hW.size)
            replace b0 := b0.below hc b0.lt
            replace b1 := b1.below hc b1.lt
            replace b2 := b2.below hc b2.lt
            replace hT := hT.below hc hT.lt
            clear hc
            obtain ⟨C0', C1', C2'⟩ := hT.cell (j + 1) _ (HG.out (j + 1) hlt)
            rw [HTI.out] at C1' C2'
            have e0 := cell_regrown C0'
            have e1 := cell_regrown C1'
            have e2 := cell_regrown C2'
            have q0 := cell_regrown (b1.cell 0)
            have q1 := cell_regrown (b1.cell 1)
            have q2 := cell_regrown (b1.cell 2)
            go_wp2_with fail
            cases fb with
            | true =>
              refine wp_region_quiet_below (by kernel_rfl) (by kernel_rfl) ?_
              repeat (go_big_quiet_step (fail))
              refine wpQuiet_nil ?_
              rintro wd hd
              replace hd := below_of_regrown hd
              replace hW := hW.trans (hd.mono hW.size)
              replace b0 := b0.below hd b0.lt
              replace b1 := b1.below hd b1.lt
              replace b2 := b2.below hd b2.lt
              replace hT := hT.below hd hT.lt
              clear hd e0 e1 e2 q0 q1 q2 C0' C1' C2'
              go_wp2
              go_roundw
              case rel => exact ⟨j + 1 + 1, true, by omega, by go_num, rfl, Lib.hid ⟨fun _ => (hfb.out.1 rfl).elim fun k hk => ⟨k, by omega, hk.2⟩, fun _ => rfl⟩, hW, b0, b1, b2, hT⟩
              case measure => simp [intOf]; omega
            | false =>
              by_cases hE : z = z ∧ xi = tx ∧ yi = ty
              · have hE' := @tile_yes z xi yi z tx ty hE
                refine wp_region_quiet_below (by kernel_rfl) (by kernel_rfl) ?_
                repeat (go_big_quiet_step (fail))
                refine wpQuiet_nil ?_
                rintro wd hd
                replace hd := below_of_regrown hd
                replace hW := hW.trans (hd.mono hW.size)
                replace b0 := b0.below hd b0.lt
                replace b1 := b1.below hd b1.lt
                replace b2 := b2.below hd b2.lt
                replace hT := hT.below hd hT.lt
                clear hd e0 e1 e2 q0 q1 q2 C0' C1' C2' hE'
                go_wp2
                go_roundw
                case rel => exact ⟨j + 1 + 1, true, by omega, by go_num, rfl, Lib.hid ⟨fun _ => ⟨j + 1, by omega, by rw [HTI.out, hE.2.1, hE.2.2]⟩, fun _ => rfl⟩, hW, b0, b1, b2, hT⟩
                case measure => simp [intOf]; omega
              · have hE' := @tile_no z xi yi z tx ty hE
                refine wp_region_quiet_below (by kernel_rfl) (by kernel_rfl) ?_
                repeat (go_big_quiet_step (fail))
                refine wpQuiet_nil ?_
                rintro wd hd
                replace hd := below_of_regrown hd
                replace hW := hW.trans (hd.mono hW.size)
                replace b0 := b0.below hd b0.lt
                replace b1 := b1.below hd b1.lt
                replace b2 := b2.below hd b2.lt
                replace hT := hT.below hd hT.lt
                clear hd e0 e1 e2 q0 q1 q2 C0' C1' C2' hE'
                go_wp2
                go_roundw
                case rel => exact ⟨j + 1 + 1, false, by omega, by go_num, rfl, found_no hfb HTI (fun h => hE ⟨rfl, h⟩), hW, b0, b1, b2, hT⟩
                case measure => simp [intOf]; omega
      · obtain rfl : i = N := by omega
        have r0 := b0.cell
        have k0 := b0.lt
        have r2 := b2.cell
        have k2 := b2.lt
        cases hv : validB z tx ty with
        | false =>
          have hf : fb = false := by
            cases fb with
            | false => rfl
            | true =>
              have := HV.out (HM.out.1 (hfb.out.1 rfl))
              rw [hv] at this; cases this
          have e := HR.out
          rw [boxF_no hv] at e
          cases e
          subst hf
          clear hv
          go_wp2
          go_ret
          exact RetB.mk' rfl hW
        | true =>
          have e := HR.out
          rw [boxF_ok hv] at e
          have hf : fb = true ↔ (A0 ≤ tx ∧ tx ≤ C0 ∧ B0 ≤ ty ∧ ty ≤ D0) := hfb.out.trans HM.out
          cases e
          clear hv HR HV
          have hf2 : fb = decide (tx * side z ≤ c ∧ a ≤ tx * side z + side z - 1 ∧ ty * side z ≤ d ∧ b ≤ ty * side z + side z - 1) := by
            rw [Bool.eq_iff_iff, hf, decide_eq_true_eq]
            omega
          clear hf HX1 HX2 HY1 HY2
          by_cases t0 : tx * side z ≤ c
          all_goals by_cases t1 : a ≤ tx * side z + side z - 1
          all_goals by_cases t2 : ty * side z ≤ d
          all_goals by_cases t3 : b ≤ ty * side z + side z - 1
          all_goals first | replace hf2 := hf2.trans (decide_eq_true (by omega)) | replace hf2 := hf2.trans (decide_eq_false (by omega))
          all_goals subst hf2
          all_goals try have t0' := decide_eq_false t0
          all_goals try have t1' := decide_eq_false t1
          all_goals try have t2' := decide_eq_false t2
          all_goals try have t3' := decide_eq_false t3
          all_goals go_wp2
          all_goals
            go_ret
            exact RetB.mk' rfl hW
end Go.Proofs.YthggpflfjghooaaDoor

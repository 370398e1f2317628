/- Cover and Kids: the lists that they return. -/
import Derived.Test.YthggpflfjghooaaDoorAll
import Derived.Test.YthggpflfjghooaaDoorHas
namespace Go.Proofs.YthggpflfjghooaaDoor
open Go.RowKit Go.Sort

theorem ofF_lev {x y z : Int} (h : levelB z = false) : ofF x y z = ⟨0, 0, 0, 1⟩ := by simp [ofF, h]
theorem ofF_out {x y z : Int} (h : levelB z = true) (hi : insideB x y = false) : ofF x y z = ⟨0, 0, 0, 10⟩ := by simp [ofF, h, hi]
theorem ofF_ok {x y z : Int} (h : levelB z = true) (hi : insideB x y = true) : ofF x y z = ⟨z, x / side z, y / side z, 0⟩ := by simp [ofF, h, hi]

/-- Tiles of one zoom level, one behind the other, in block g. -/
structure Tiles (W : World) (g : Nat) (z : Int) (l : List (Int × Int)) : Prop where
  lt : g < W.heap.size
  cell : ∀ (i : Nat) p, l[i]? = some p → W.cell? ⟨g, i * 3, none⟩ = some (.int .i64 z) ∧ W.cell? ⟨g, i * 3 + 1, none⟩ = some (.int .i64 p.1) ∧ W.cell? ⟨g, i * 3 + 2, none⟩ = some (.int .i64 p.2)

theorem Tiles.below {W W' : World} {B g : Nat} {z : Int} {l : List (Int × Int)} (h : Tiles W g z l) (hb : Below B W W') (hB : g < B) : Tiles W' g z l :=
  ⟨Nat.lt_of_lt_of_le h.lt hb.size, fun i p hp => by
    obtain ⟨h0, h1, h2⟩ := h.cell i p hp
    exact ⟨(hb.cell (p := ⟨g, i * 3, none⟩) hB).trans h0, (hb.cell (p := ⟨g, i * 3 + 1, none⟩) hB).trans h1, (hb.cell (p := ⟨g, i * 3 + 2, none⟩) hB).trans h2⟩⟩
theorem Tiles.alloc {W : World} {g : Nat} {z : Int} {l : List (Int × Int)} (h : Tiles W g z l) (o : Obj) : Tiles (W.alloc o) g z l := h.below ((Below.refl W.heap.size W).alloc (Nat.le_refl _) o) h.lt

theorem cellsT_at (z : Int) : ∀ (l : List (Int × Int)) (i : Nat) (p : Int × Int), l[i]? = some p →
    (cellsT z l)[i * 3]? = some (.int .i64 z) ∧ (cellsT z l)[i * 3 + 1]? = some (.int .i64 p.1) ∧ (cellsT z l)[i * 3 + 2]? = some (.int .i64 p.2)
  | [], i, p, h => by simp at h
  | q :: l, 0, p, h => by
    obtain rfl : q = p := by simpa using h
    simp [cellsT]
  | q :: l, i + 1, p, h => by
    have h' : l[i]? = some p := by simpa using h
    obtain ⟨h0, h1, h2⟩ := cellsT_at z l i p h'
    have e : cellsT z (q :: l) = Value.int .i64 z :: Value.int .i64 q.1 :: Value.int .i64 q.2 :: cellsT z l := by simp [cellsT]
    rw [e, Nat.add_mul, Nat.one_mul]
    refine ⟨?_, ?_, ?_⟩
    · show (Value.int IntKind.i64 z :: Value.int IntKind.i64 q.1 :: Value.int IntKind.i64 q.2 :: cellsT z l)[i * 3 + 1 + 1 + 1]? = _
      simpa using h0
    · show (Value.int IntKind.i64 z :: Value.int IntKind.i64 q.1 :: Value.int IntKind.i64 q.2 :: cellsT z l)[i * 3 + 1 + 1 + 1 + 1]? = _
      simpa using h1
    · show (Value.int IntKind.i64 z :: Value.int IntKind.i64 q.1 :: Value.int IntKind.i64 q.2 :: cellsT z l)[i * 3 + 2 + 1 + 1 + 1]? = _
      simpa using h2

theorem tiles_of_owns {W : World} {B : Nat} {v : Value} {n : Nat} {z : Int} {l : List (Int × Int)} (h : W.ownsRow B 23 3 v n (cellsT z l)) (hn : 1 ≤ n) :
    ∃ g cap, v = .slice (some ⟨g, 0, none⟩) n cap ∧ B ≤ g ∧ n ≤ cap ∧ Tiles W g z l := by
  obtain ⟨hl, h⟩ := h
  rcases h with ⟨-, h0⟩ | ⟨g, cap, cur, rfl, hB, hg, hc, -, hsz, ht⟩
  · omega
  · refine ⟨g, cap, rfl, hB, hc, (Array.getElem?_eq_some_iff.1 hg).1, fun i p hp => ?_⟩
    obtain ⟨h0, h1, h2⟩ := cellsT_at z l i p hp
    have hcell : ∀ o v, (cellsT z l)[o]? = some v → W.cell? ⟨g, o, none⟩ = some v := fun o v ho => by
      rw [← ht, List.getElem?_take] at ho
      split at ho
      · simp [World.cell?, hg]
        simpa using ho
      · cases ho
    exact ⟨hcell _ _ h0, hcell _ _ h1, hcell _ _ h2⟩

/-- Does the box lie inside, the right way round? -/
def coverB (a b c d z : Int) : Bool := levelB z && insideB a b && insideB c d && decide (a ≤ c ∧ b ≤ d)
/-- How many tiles from one number to another. -/
def spanF (z a c : Int) : Nat := (c / side z - a / side z + 1).toNat

theorem span_spec {z a c : Int} (h0 : 0 ≤ z) (h1 : z ≤ 17) (h : a ≤ c) : a / side z ≤ c / side z ∧ (spanF z a c : Int) = c / side z - a / side z + 1 := by
  have hs := side_bd z h0 h1
  have : a / side z ≤ c / side z := Int.ediv_le_ediv (by omega) h
  exact ⟨this, by unfold spanF; omega⟩

/-- What Cover returns. -/
def CoverR (a b c d z : Int) (w : World) (e : Ending) (W : World) : Prop := Below w.heap.size w W ∧
  ((coverB a b c d z = false ∧ e = .returned (.tuple #[.slice none 0 0, .int .i64 1])) ∨
   (coverB a b c d z = true ∧ 4096 < spanF z b d * spanF z a c ∧ e = .returned (.tuple #[.slice none 0 0, .int .i64 2])) ∨
   (coverB a b c d z = true ∧ spanF z b d * spanF z a c ≤ 4096 ∧ ∃ g cap, e = .returned (.tuple #[.slice (some ⟨g, 0, none⟩) (spanF z b d * spanF z a c) cap, .int .i64 0]) ∧ spanF z b d * spanF z a c ≤ cap ∧ w.heap.size ≤ g ∧
     Tiles W g z (upto (a / side z) (b / side z) (spanF z a c) (spanF z b d * spanF z a c))))

set_option maxRecDepth 100000 in
set_option maxHeartbeats 4000000 in
theorem cover_any (a b c d z : Int) (w : World) : Calls Tryd.prog 18 #[.agg #[.int .i64 a, .int .i64 b, .int .i64 c, .int .i64 d], .int .i64 z] w (CoverR a b c d z w) := by
  go_enter Tryd.func18, Tryd.ntmps18
  go_wp2_with fail
  refine calls_abs (fun W => Below w.heap.size w W ∧ Box W w.heap.size #[.int .i64 a, .int .i64 b, .int .i64 c, .int .i64 d] 33) ⟨(Below.refl _ _).alloc (Nat.le_refl _) _, Box.new _ _ _⟩ ?_
  rintro W ⟨hW, b0⟩
  refine (of_any a b z _).mono ?_
  rintro e w1 ⟨rfl, hb_⟩
  replace hW := hW.trans (hb_.mono hW.size)
  replace b0 := b0.below hb_ b0.lt
  clear hb_
  have r0 := b0.cell
  have k0 := b0.lt
  cases hl : levelB z with
  | false =>
    have HC : Hid (coverB a b c d z = false) := Lib.hid (by simp [coverB, hl])
    have HD := @ofF_lev c d z hl
    rw [ofF_lev hl]
    unfold TE.v
    clear hl
    go_wp2_with fail
    refine (of_any c d z _).mono ?_
    rintro e w2 ⟨rfl, hb_⟩
    have b1 := (Box.new _ _ _).below hb_ (Box.new _ _ _).lt
    replace hW := (hW.alloc hW.size _).trans (hb_.mono (hW.alloc hW.size _).size)
    clear hb_
    rw [HD]
    unfold TE.v
    go_wp2
    go_ret2
    exact ⟨hW.alloc hW.size _, .inl ⟨HC.out, rfl⟩⟩
  | true =>
    cases hi : insideB a b with
    | false =>
      have HC : Hid (coverB a b c d z = false) := Lib.hid (by simp [coverB, hi])
      rw [ofF_out hl hi]
      unfold TE.v
      clear hl hi
      go_wp2_with fail
      refine (of_any c d z _).mono ?_
      rintro e w2 ⟨rfl, hb_⟩
      have b1 := (Box.new _ _ _).below hb_ (Box.new _ _ _).lt
      replace hW := (hW.alloc hW.size _).trans (hb_.mono (hW.alloc hW.size _).size)
      clear hb_
      generalize ofF c d z = R
      unfold TE.v
      go_wp2
      go_ret2
      exact ⟨hW.alloc hW.size _, .inl ⟨HC.out, rfl⟩⟩
    | true =>
      rw [ofF_ok hl hi]
      unfold TE.v
      cases hj : insideB c d with
      | false =>
        have HC : Hid (coverB a b c d z = false) := Lib.hid (by simp [coverB, hj])
        have HD := @ofF_out c d z hl hj
        clear hl hi hj
        go_wp2_with fail
        refine (of_any c d z _).mono ?_
        rintro e w2 ⟨rfl, hb_⟩
        have b1 := (Box.new _ _ _).below hb_ (Box.new _ _ _).lt
        replace hW := (hW.alloc hW.size _).trans (hb_.mono (hW.alloc hW.size _).size)
        clear hb_
        rw [HD]
        unfold TE.v
        go_wp2
        go_ret2
        exact ⟨hW.alloc hW.size _, .inl ⟨HC.out, rfl⟩⟩
      | true =>
        have HD := @ofF_ok c d z hl hj
        by_cases hac : a ≤ c
        all_goals by_cases hbd : b ≤ d
        all_goals try have qac := decide_eq_false (show ¬ (c < a) by omega)
        all_goals try have qbd := decide_eq_false (show ¬ (d < b) by omega)
        rotate_left
        iterate 3
          · have HC : Hid (coverB a b c d z = false) := Lib.hid (by unfold coverB; rw [decide_eq_false (by omega), Bool.and_false])
            clear hl hi hj
            generalize a / side z = A0 at *
            generalize b / side z = B0 at *
            generalize c / side z = C0 at *
            generalize d / side z = D0 at *
            go_wp2_with fail
            refine (of_any c d z _).mono ?_
            rintro e w2 ⟨rfl, hb_⟩
            have b1 := (Box.new _ _ _).below hb_ (Box.new _ _ _).lt
            replace b0 := (b0.alloc _).below hb_ (b0.alloc _).lt
            replace hW := (hW.alloc hW.size _).trans (hb_.mono (hW.alloc hW.size _).size)
            clear hb_
            rw [HD]
            unfold TE.v
            have r0 := b0.cell
            have k0 := b0.lt
            go_wp2
            go_ret2
            exact ⟨hW.alloc hW.size _, .inl ⟨HC.out, rfl⟩⟩
        · have HC : Hid (coverB a b c d z = true) := Lib.hid (by unfold coverB; rw [decide_eq_true ⟨hac, hbd⟩, hl, hi, hj]; rfl)
          have hz : 0 ≤ z ∧ z ≤ 17 := by simpa [levelB] using hl
          obtain ⟨sx, sx'⟩ := span_spec hz.1 hz.2 hac
          obtain ⟨sy, sy'⟩ := span_spec hz.1 hz.2 hbd
          have va := of_valid hl hi
          have vc := of_valid hl hj
          have la := valid_le va
          have lc := valid_le vc
          have pa := valid_spec va
          obtain ⟨-, -, pa0, -, pb0, -⟩ := pa
          obtain ⟨lc0, lc1⟩ := lc
          have H2 : Hid (∀ e W, Below w.heap.size w W → 4096 < spanF z b d * spanF z a c → e = .returned (.tuple #[.slice none 0 0, .int .i64 2]) → CoverR a b c d z w e W) := Lib.hid (fun e W k1 k2 k3 => ⟨k1, .inr (.inl ⟨HC.out, k2, k3⟩)⟩)
          have H3 : Hid (∀ e W g cap, Below w.heap.size w W → spanF z b d * spanF z a c ≤ 4096 → e = .returned (.tuple #[.slice (some ⟨g, 0, none⟩) (spanF z b d * spanF z a c) cap, .int .i64 0]) → spanF z b d * spanF z a c ≤ cap → w.heap.size ≤ g →
              Tiles W g z (upto (a / side z) (b / side z) (spanF z a c) (spanF z b d * spanF z a c)) → CoverR a b c d z w e W) := Lib.hid (fun e W g cap k1 k2 k3 k4 k5 k6 => ⟨k1, .inr (.inr ⟨HC.out, k2, g, cap, k3, k4, k5, k6⟩)⟩)
          clear va vc la hl hi hj hz
          generalize spanF z a c = cols at *
          generalize spanF z b d = rows at *
          generalize a / side z = A0 at *
          generalize b / side z = B0 at *
          generalize c / side z = C0 at *
          generalize d / side z = D0 at *
          have hP : (C0 - A0 + 1) * (D0 - B0 + 1) = ((rows * cols : Nat) : Int) := by rw [← sx', ← sy', Int.mul_comm]; simp
          have hP1 : rows * cols ≤ 131072 * 131072 := Nat.mul_le_mul (by omega) (by omega)
          have hP0 : 0 < rows * cols := Nat.mul_pos (by omega) (by omega)
          have hQ0 : 0 ≤ (C0 - A0 + 1) * (D0 - B0 + 1) := by omega
          have hQ1 : (C0 - A0 + 1) * (D0 - B0 + 1) ≤ 17179869184 := by omega
          have HP := Lib.hid hP
          clear hP
          go_wp2_with fail
          refine (of_any c d z _).mono ?_
          rintro e w2 ⟨rfl, hb_⟩
          have b1 := (Box.new _ _ _).below hb_ (Box.new _ _ _).lt
          replace b0 := (b0.alloc _).below hb_ (b0.alloc _).lt
          replace hW := (hW.alloc hW.size _).trans (hb_.mono (hW.alloc hW.size _).size)
          clear hb_
          rw [HD]
          unfold TE.v
          have r0 := b0.cell
          have k0 := b0.lt
          have r1 := b1.cell
          have k1 := b1.lt
          by_cases hN : 4096 < rows * cols
          · have hN' : 4096 < (C0 - A0 + 1) * (D0 - B0 + 1) := by have := HP.out; omega
            go_wp2
            go_ret2
            exact H2.out _ _ (hW.alloc hW.size _) hN rfl
          · have hN' : (C0 - A0 + 1) * (D0 - B0 + 1) ≤ 4096 := by have := HP.out; omega
            have hM' := decide_eq_false (show ¬ (4096 < (C0 - A0 + 1) * (D0 - B0 + 1)) by omega)
            go_wp2_with fail
            have hall := all_any z A0 B0 z rows cols (by omega) (by omega) (by omega) (by omega) (by omega) (w2.alloc (.cells #[.int .i64 z, .int .i64 C0, .int .i64 D0] 23))
            rw [show A0 + (cols : Int) - 1 = C0 by omega, show B0 + (rows : Int) - 1 = D0 by omega] at hall
            refine hall.mono ?_
            rintro e w3 ⟨v, rfl, hown, hb⟩
            obtain ⟨g, cap, rfl, hB, hcap, hT⟩ := tiles_of_owns hown (by omega)
            have ks := hW.size
            replace hW := (hW.alloc hW.size _).trans (hb.mono (hW.alloc hW.size _).size)
            go_wp2
            go_ret2
            exact H3.out _ _ g cap hW (by omega) rfl hcap (by simp at hB; omega) hT
end Go.Proofs.YthggpflfjghooaaDoor

/- Text of package grid. No condition but on the library's variables. -/
import Derived.Test.YthggpflfjghooaaDoorB
import Derived.Test.YthggpflfjghooaaDoorGlob
import Derived.Lib.ItoaLen
namespace Go.Proofs.YthggpflfjghooaaDoor
open Go.RowKit Go.Sort

theorem trip_eq (a b c : List UInt8) : ((⟨a.toArray⟩ : ByteArray) ++ ⟨#[47]⟩ ++ ⟨b.toArray⟩ ++ ⟨#[47]⟩ ++ ⟨c.toArray⟩ : ByteArray) = ⟨(a ++ [47] ++ b ++ [47] ++ c).toArray⟩ := by
  apply ByteArray.ext
  simp [ByteArray.data_append]
/-- What Text returns. -/
def textV (z x y : Int) : Value := if validB z x y then .tuple #[strV (tripL z x y), .int .i64 0] else .tuple #[strV [], .int .i64 1]

set_option maxHeartbeats 1000000 in
theorem text_any (z x y : Int) (w : World) (hG : Gw w) : Calls Tryd.prog 10 #[.agg #[.int .i64 z, .int .i64 x, .int .i64 y]] w (RetB w (textV z x y)) := by
  have l0 := hG.size
  go_enter Tryd.func10, Tryd.ntmps10
  go_wp2_with fail
  refine calls_abs (fun W => Below w.heap.size w W ∧ Box W w.heap.size #[.int .i64 z, .int .i64 x, .int .i64 y] 23) ⟨(Below.refl _ _).alloc (Nat.le_refl _) _, Box.new _ _ _⟩ ?_
  rintro W ⟨hW, b0⟩
  refine (valid_any z x y W).mono ?_
  rintro e w1 ⟨rfl, hb_⟩
  replace hW := hW.trans (hb_.mono hW.size)
  replace b0 := b0.below hb_ b0.lt
  clear hb_
  cases hl : validB z x y with
  | false =>
    have HR : Hid (textV z x y = .tuple #[strV [], .int .i64 1]) := Lib.hid (by unfold textV; rw [hl]; rfl)
    clear hl
    go_wp2
    go_ret2
    exact RetB.mk' (by rw [HR.out]; rfl) (by repeat (first | assumption | exact Below.refl _ _ | refine Below.setCell ?_ (by first | (simp; done) | (simp; omega) | omega) _ | refine Below.alloc ?_ (by first | (simp; done) | (simp; omega) | omega) _))
  | true =>
    have HR : Hid (textV z x y = .tuple #[strV (tripL z x y), .int .i64 0]) := Lib.hid (by unfold textV; rw [if_pos hl])
    have hv := valid_spec hl
    have hv2 := valid_le hl
    obtain ⟨hz0, hz17, hx0, hxs, hy0, hys⟩ := hv
    obtain ⟨hx1, hy1⟩ := hv2
    clear hl
    go_wp2_with fail
    have hG1 := hG.below hW (by omega)
    have g0 := cell_regrown (b0.cell 0)
    have g1 := cell_regrown (b0.cell 1)
    have g2 := cell_regrown (b0.cell 2)
    have c0 := quietC (W := w1) (fun w' hb => itoa_any z (by omega) (by omega) w' (hG1.below hb hG1.size))
    have c1 := quietC (W := w1) (fun w' hb => itoa_any x (by omega) (by omega) w' (hG1.below hb hG1.size))
    have c2 := quietC (W := w1) (fun w' hb => itoa_any y (by omega) (by omega) w' (hG1.below hb hG1.size))
    unfold strV at c0 c1 c2
    obtain ⟨s0, hs0⟩ : ∃ s, s = (⟨(Lib.itoa z).toArray⟩ : ByteArray) := ⟨_, rfl⟩
    obtain ⟨s1, hs1⟩ : ∃ s, s = (⟨(Lib.itoa x).toArray⟩ : ByteArray) := ⟨_, rfl⟩
    obtain ⟨s2, hs2⟩ : ∃ s, s = (⟨(Lib.itoa y).toArray⟩ : ByteArray) := ⟨_, rfl⟩
    rw [← hs0] at c0
    rw [← hs1] at c1
    rw [← hs2] at c2
    have n0 : s0.size ≤ 21 := by rw [hs0]; exact Lib.itoa_length_le z (by omega) (by omega)
    have n1 : s1.size ≤ 21 := by rw [hs1]; exact Lib.itoa_length_le x (by omega) (by omega)
    have n2 : s2.size ≤ 21 := by rw [hs2]; exact Lib.itoa_length_le y (by omega) (by omega)
    have m1 : ¬ 9223372036854775807 < s0.size + 1 := by omega
    have m2 : ¬ 9223372036854775807 < s0.size + 1 + s1.size := by omega
    have m3 : ¬ 9223372036854775807 < s0.size + 1 + s1.size + 1 := by omega
    have m4 : ¬ 9223372036854775807 < s0.size + 1 + s1.size + 1 + s2.size := by omega
    have S0 := Lib.hid hs0
    have S1 := Lib.hid hs1
    have S2 := Lib.hid hs2
    clear hs0 hs1 hs2
    refine wp_region_quiet_below (by kernel_rfl) (by kernel_rfl) ?_
    repeat (go_big_quiet_step (first | (with_reducible exact c0 _ _) | (with_reducible exact c1 _ _) | (with_reducible exact c2 _ _)))
    refine wpQuiet_nil ?_
    rintro w2 hw2
    replace hw2 := below_of_regrown hw2
    replace hW := hW.trans (hw2.mono hW.size)
    clear c0 c1 c2 g0 g1 g2
    go_wp2
    go_ret2
    exact RetB.mk' (by rw [HR.out, S0.out, S1.out, S2.out]; show Value.tuple #[Value.string _, _] = _; rw [trip_eq]; rfl) (by repeat (first | assumption | exact Below.refl _ _ | refine Below.setCell ?_ (by first | (simp; done) | (simp; omega) | omega) _ | refine Below.alloc ?_ (by first | (simp; done) | (simp; omega) | omega) _))
end Go.Proofs.YthggpflfjghooaaDoor

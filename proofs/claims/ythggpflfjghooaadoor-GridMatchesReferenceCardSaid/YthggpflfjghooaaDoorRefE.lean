/- The reference of layer 7: numerals and texts. -/
import Derived.Test.YthggpflfjghooaaDoorRefD
namespace Go.Proofs.YthggpflfjghooaaDoor
open Go.RowKit Go.Sort

/-- One digit out of the ten. -/
theorem digit_cut (d : Nat) (hd : d < 10) : ((⟨#[48, 49, 50, 51, 52, 53, 54, 55, 56, 57]⟩ : ByteArray).extract d (d + 1)) = ⟨#[UInt8.ofNat (48 + d)]⟩ := by
  rcases (by omega : d = 0 ∨ d = 1 ∨ d = 2 ∨ d = 3 ∨ d = 4 ∨ d = 5 ∨ d = 6 ∨ d = 7 ∨ d = 8 ∨ d = 9) with rfl | rfl | rfl | rfl | rfl | rfl | rfl | rfl | rfl | rfl <;> rfl

theorem dec_split (n : Nat) : Lib.decDigits n = (if n / 10 = 0 then [] else Lib.decDigits (n / 10)) ++ [UInt8.ofNat (48 + n % 10)] := by
  by_cases h : n < 10
  · rw [Lib.decDigits_one h, if_pos (by omega), Nat.mod_eq_of_lt h]
    rfl
  · rw [Lib.decDigits, dif_neg h, if_neg (by omega)]

theorem dec_length {n : Nat} (hn : n ≤ 1000000) : (Lib.decDigits n).length ≤ 21 := by
  have h := Lib.itoa_length_le (n : Int) (by omega) (by omega)
  rw [Lib.itoa_nonneg] at h
  omega

theorem dec_add {n m : Nat} {s : ByteArray} (hm : m ≠ 0) (h : Lib.decDigits n = (if m = 0 then [] else Lib.decDigits m) ++ s.data.toList) :
    Lib.decDigits n = (if m / 10 = 0 then [] else Lib.decDigits (m / 10)) ++ ((⟨#[48, 49, 50, 51, 52, 53, 54, 55, 56, 57]⟩ : ByteArray).extract (m % 10) (m % 10 + 1) ++ s).data.toList := by
  rw [if_neg hm, dec_split m] at h
  rw [h, digit_cut _ (by omega), ByteArray.data_append]
  simp

set_option maxHeartbeats 1000000 in
theorem rdigits_any (n : Nat) (hn : n ≤ 1000000) (w : World) : Calls Tryd.prog 51 #[.int .u64 n] w (RetB w (.string ⟨(Lib.decDigits n).toArray⟩)) := by
  go_enter Tryd.func51, Tryd.ntmps51
  go_wp2
  go_loopw [0, 3] (fun vn vs wr => ∃ (m : Nat) (s : ByteArray), vn = .int .u64 m ∧ vs = .string s ∧ m ≤ n ∧ Hid (Lib.decDigits n = (if m = 0 then [] else Lib.decDigits m) ++ s.data.toList) ∧ Below w.heap.size w wr) (fun vn _ _ => (intOf vn).toNat)
  case atStart => exact ⟨n / 10, _, by simp, rfl, by omega, Lib.hid (by rw [digit_cut _ (by omega)]; exact dec_split n), Below.refl _ _⟩
  case round =>
    obtain ⟨m, s, rfl, rfl, hm, hs, hW⟩ := hrel
    have hsz : s.size ≤ 21 := by
      have h1 := dec_length hn
      rw [hs.out, List.length_append] at h1
      have h2 : s.data.toList.length = s.size := by rw [Array.length_toList]; rfl
      omega
    by_cases h0 : m = 0
    · subst h0
      have e := hs.out
      rw [if_pos rfl, List.nil_append] at e
      have HE : Hid (s = ⟨(Lib.decDigits n).toArray⟩) := Lib.hid (by rw [e])
      clear e hs
      go_wp2
      go_ret
      exact RetB.mk' (by show Value.string s = _; rw [HE.out]) hW
    · have hp : 0 < m := by omega
      have hs2 := Lib.hid (dec_add h0 hs.out)
      clear hs
      have he : ((⟨#[48, 49, 50, 51, 52, 53, 54, 55, 56, 57]⟩ : ByteArray).extract (m % 10) (m % 10 + 1)).size = 1 := by rw [digit_cut _ (by omega)]; rfl
      have hc : ¬ 9223372036854775807 < ((⟨#[48, 49, 50, 51, 52, 53, 54, 55, 56, 57]⟩ : ByteArray).extract (m % 10) (m % 10 + 1)).size + s.size := by omega
      have hc2 : ¬ 9223372036854775807 < 1 + s.size := by omega
      go_wp2
      go_roundw
      case rel => exact ⟨m / 10, _, by simp, rfl, by omega, hs2, hW⟩
      case measure => simp [intOf]; omega

theorem rdecimal_any (n : Int) (h0 : 0 ≤ n) (h1 : n ≤ 1000000) (w : World) : Calls Tryd.prog 45 #[.int .i64 n] w (RetB w (strV (Lib.itoa n))) := by
  obtain ⟨k, rfl⟩ := Int.eq_ofNat_of_zero_le h0
  have HE : Hid (strV (Lib.itoa (k : Int)) = .string ⟨(Lib.decDigits k).toArray⟩) := Lib.hid (by rw [Lib.itoa_nonneg]; rfl)
  go_enter Tryd.func45, Tryd.ntmps45
  go_wp2_with fail
  refine (rdigits_any k (by omega) _).mono ?_
  rintro e w1 ⟨rfl, hW⟩
  go_wp2
  go_ret
  exact RetB.mk' (by rw [HE.out]; rfl) hW

set_option maxHeartbeats 1000000 in
theorem rtext_any (z x y : Int) (w : World) : Calls Tryd.prog 27 #[.agg #[.int .i64 z, .int .i64 x, .int .i64 y]] w (RetB w (textV z x y)) := by
  go_enter Tryd.func27, Tryd.ntmps27
  go_wp2_with fail
  refine calls_abs (fun W => Below w.heap.size w W ∧ Box W w.heap.size #[.int .i64 z, .int .i64 x, .int .i64 y] 23) ⟨(Below.refl _ _).alloc (Nat.le_refl _) _, Box.new _ _ _⟩ ?_
  rintro W ⟨hW, b0⟩
  refine (rvalid_any z x y W).mono ?_
  rintro e w1 ⟨rfl, hb_⟩
  replace hW := hW.trans (hb_.mono hW.size)
  replace b0 := b0.below hb_ b0.lt
  clear hb_
  cases hl : validB z x y with
  | false =>
    have HR : Hid (textV z x y = .tuple #[strV [], .int .i64 1]) := Lib.hid (by unfold textV; rw [hl]; rfl)
    clear hl
    go_wp2
    go_ret2
    exact RetB.mk' (by rw [HR.out]; rfl) (by repeat (first | assumption | exact Below.refl _ _ | refine Below.setCell ?_ (by first | (simp; done) | (simp; omega) | omega) _ | refine Below.alloc ?_ (by first | (simp; done) | (simp; omega) | omega) _))
  | true =>
    have HR : Hid (textV z x y = .tuple #[strV (tripL z x y), .int .i64 0]) := Lib.hid (by unfold textV; rw [if_pos hl])
    have hv := valid_spec hl
    have hv2 := valid_le hl
    obtain ⟨hz0, hz17, hx0, hxs, hy0, hys⟩ := hv
    obtain ⟨hx1, hy1⟩ := hv2
    clear hl
    go_wp2_with fail
    have g0 := cell_regrown (b0.cell 0)
    have g1 := cell_regrown (b0.cell 1)
    have g2 := cell_regrown (b0.cell 2)
    have c0 := quietC (W := w1) (fun w' _ => rdecimal_any z (by omega) (by omega) w')
    have c1 := quietC (W := w1) (fun w' _ => rdecimal_any x (by omega) (by omega) w')
    have c2 := quietC (W := w1) (fun w' _ => rdecimal_any y (by omega) (by omega) w')
    unfold strV at c0 c1 c2
    obtain ⟨s0, hs0⟩ : ∃ s, s = (⟨(Lib.itoa z).toArray⟩ : ByteArray) := ⟨_, rfl⟩
    obtain ⟨s1, hs1⟩ : ∃ s, s = (⟨(Lib.itoa x).toArray⟩ : ByteArray) := ⟨_, rfl⟩
    obtain ⟨s2, hs2⟩ : ∃ s, s = (⟨(Lib.itoa y).toArray⟩ : ByteArray) := ⟨_, rfl⟩
    rw [← hs0] at c0
    rw [← hs1] at c1
    rw [← hs2] at c2
    have n0 : s0.size ≤ 21 := by rw [hs0]; exact Lib.itoa_length_le z (by omega) (by omega)
    have n1 : s1.size ≤ 21 := by rw [hs1]; exact Lib.itoa_length_le x (by omega) (by omega)
    have n2 : s2.size ≤ 21 := by rw [hs2]; exact Lib.itoa_length_le y (by omega) (by omega)
    have m1 : ¬ 9223372036854775807 < s0.size + 1 := by omega
    have m2 : ¬ 9223372036854775807 < s0.size + 1 + s1.size := by omega
    have m3 : ¬ 9223372036854775807 < s0.size + 1 + s1.size + 1 := by omega
    have m4 : ¬ 9223372036854775807 < s0.size + 1 + s1.size + 1 + s2.size := by omega
    have S0 := Lib.hid hs0
    have S1 := Lib.hid hs1
    have S2 := Lib.hid hs2
    clear hs0 hs1 hs2
    refine wp_region_quiet_below (by kernel_rfl) (by kernel_rfl) ?_
    repeat (go_big_quiet_step (first | (with_reducible exact c0 _ _) | (with_reducible exact c1 _ _) | (with_reducible exact c2 _ _)))
    refine wpQuiet_nil ?_
    rintro w2 hw2
    replace hw2 := below_of_regrown hw2
    replace hW := hW.trans (hw2.mono hW.size)
    clear c0 c1 c2 g0 g1 g2
    go_wp2
    go_ret2
    exact RetB.mk' (by rw [HR.out, S0.out, S1.out, S2.out]; show Value.tuple #[Value.string _, _] = _; rw [trip_eq]; rfl) (by repeat (first | assumption | exact Below.refl _ _ | refine Below.setCell ?_ (by first | (simp; done) | (simp; omega) | omega) _ | refine Below.alloc ?_ (by first | (simp; done) | (simp; omega) | omega) _))
end Go.Proofs.YthggpflfjghooaaDoor

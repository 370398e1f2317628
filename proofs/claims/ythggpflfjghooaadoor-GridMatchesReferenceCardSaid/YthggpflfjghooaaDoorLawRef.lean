/- The walk of GridMatchesReference: it returns true. -/
import Derived.Test.YthggpflfjghooaaDoorHead
import Derived.Test.YthggpflfjghooaaDoorRefG
import Derived.Test.YthggpflfjghooaaDoorLawCovers
namespace Go.Proofs.YthggpflfjghooaaDoor
open Go.RowKit Go.Sort

/-- A list of tiles as a value: nil, or a slice of its own from block B on. -/
def Lst (B : Nat) (W : World) (v : Value) (z : Int) (l : List (Int × Int)) : Prop :=
  (v = .slice none 0 0 ∧ l = []) ∨ ∃ g cap, v = .slice (some ⟨g, 0, none⟩) l.length cap ∧ l.length ≤ cap ∧ l.length ≤ 1000000 ∧ B ≤ g ∧ Tiles W g z l
theorem Lst.lt {B : Nat} {W : World} {v : Value} {z : Int} {l : List (Int × Int)} (_ : Lst B W v z l) : W.heap.size ≤ W.heap.size := Nat.le_refl _
theorem Lst.below {B B' : Nat} {W W' : World} {v : Value} {z : Int} {l : List (Int × Int)} (h : Lst B W v z l) (hb : Below B' W W') (hB : W.heap.size ≤ B') : Lst B W' v z l := by
  rcases h with h | ⟨g, cap, h1, h2, h3, h4, h5⟩
  · exact .inl h
  · exact .inr ⟨g, cap, h1, h2, h3, h4, h5.below hb (Nat.lt_of_lt_of_le h5.lt hB)⟩
theorem Lst.alloc {B : Nat} {W : World} {v : Value} {z : Int} {l : List (Int × Int)} (h : Lst B W v z l) (o : Obj) : Lst B (W.alloc o) v z l := by
  rcases h with h | ⟨g, cap, h1, h2, h3, h4, h5⟩
  · exact .inl h
  · exact .inr ⟨g, cap, h1, h2, h3, h4, h5.alloc o⟩
theorem Lst.set_other {B b : Nat} {W : World} {v : Value} {z : Int} {l : List (Int × Int)} (h : Lst B W v z l) (hb : b < B) (i : Nat) (x : Value) : Lst B (W.setCell ⟨b, i, none⟩ x) v z l := by
  rcases h with h | ⟨g, cap, h1, h2, h3, h4, h5⟩
  · exact .inl h
  · exact .inr ⟨g, cap, h1, h2, h3, h4, h5.set_other (by omega) i x⟩

theorem same_lst {B1 B2 : Nat} {v1 v2 : Value} {z : Int} {l : List (Int × Int)} (w : World) (h1 : Lst B1 w v1 z l) (h2 : Lst B2 w v2 z l) (hne : l ≠ [] ∨ (v1 = .slice none 0 0 ∧ v2 = .slice none 0 0)) : Calls Tryd.prog 24 #[v1, v2] w (RetB w (.bool true)) := by
  rcases hne with hne | ⟨rfl, rfl⟩
  · rcases h1 with ⟨-, rfl⟩ | ⟨g1, c1, rfl, k1, k2, -, t1⟩
    · exact absurd rfl hne
    rcases h2 with ⟨-, rfl⟩ | ⟨g2, c2, rfl, m1, m2, -, t2⟩
    · exact absurd rfl hne
    exact same_any g1 g2 l.length c1 c2 z l rfl w t1 t2 k2 k1 m1
  · exact same_nil w

/-- What Kids returns, in one. -/
def kidsL (z x y : Int) : List (Int × Int) := if validB z x y = true ∧ z < 17 then upto (2 * x) (2 * y) 2 4 else []
def kidsE (z x y : Int) : Int := if validB z x y = true then if z = 17 then 11 else 0 else 1
theorem kids_lst {z x y : Int} {w W : World} {e : Ending} (h : KidsR z x y w e W) : Below w.heap.size w W ∧ ∃ v, e = .returned (.tuple #[v, .int .i64 (kidsE z x y)]) ∧ Lst w.heap.size W v (z + 1) (kidsL z x y) ∧ (kidsL z x y ≠ [] ∨ v = .slice none 0 0) := by
  obtain ⟨hb, h⟩ := h
  refine ⟨hb, ?_⟩
  rcases h with ⟨hv, rfl⟩ | ⟨hv, h17, rfl⟩ | ⟨hv, h17, g, cap, rfl, hc, hB, hT⟩
  · have e1 : kidsL z x y = [] := by unfold kidsL; rw [if_neg (by rw [hv]; simp)]
    have e2 : kidsE z x y = 1 := by unfold kidsE; rw [hv]; rfl
    exact ⟨_, by rw [e2], .inl ⟨rfl, e1⟩, .inr rfl⟩
  · have e1 : kidsL z x y = [] := by unfold kidsL; rw [if_neg (by omega)]
    have e2 : kidsE z x y = 11 := by unfold kidsE; rw [if_pos hv, if_pos h17]
    exact ⟨_, by rw [e2], .inl ⟨rfl, e1⟩, .inr rfl⟩
  · have e1 : kidsL z x y = upto (2 * x) (2 * y) 2 4 := by unfold kidsL; rw [if_pos ⟨hv, h17⟩]
    have e2 : kidsE z x y = 0 := by unfold kidsE; rw [if_pos hv, if_neg (by omega)]
    refine ⟨_, by rw [e2], .inr ⟨g, cap, ?_, ?_, ?_, hB, ?_⟩, .inl ?_⟩
    · rw [e1, upto_length]
    · rw [e1, upto_length]; exact hc
    · rw [e1, upto_length]; omega
    · rw [e1]; exact hT
    · rw [e1]; intro h; have := congrArg List.length h; rw [upto_length] at this; cases this

/-- What Cover returns, in one. -/
def coverL (a b c d z : Int) : List (Int × Int) := if coverB a b c d z = true ∧ spanF z b d * spanF z a c ≤ 4096 then upto (a / side z) (b / side z) (spanF z a c) (spanF z b d * spanF z a c) else []
def coverE (a b c d z : Int) : Int := if coverB a b c d z = true then if spanF z b d * spanF z a c ≤ 4096 then 0 else 2 else 1
theorem cover_pos {a b c d z : Int} (h : coverB a b c d z = true) : 0 < spanF z b d * spanF z a c := by
  obtain ⟨hl, -, -, hac, hbd⟩ := cover_parts h
  have hz : 0 ≤ z ∧ z ≤ 17 := by simpa [levelB] using hl
  obtain ⟨s1, s2⟩ := span_spec hz.1 hz.2 hac
  obtain ⟨s3, s4⟩ := span_spec hz.1 hz.2 hbd
  exact Nat.mul_pos (by omega) (by omega)
theorem cover_lst {a b c d z : Int} {w W : World} {e : Ending} (h : CoverR a b c d z w e W) : Below w.heap.size w W ∧ ∃ v, e = .returned (.tuple #[v, .int .i64 (coverE a b c d z)]) ∧ Lst w.heap.size W v z (coverL a b c d z) ∧ (coverL a b c d z ≠ [] ∨ v = .slice none 0 0) := by
  obtain ⟨hb, h⟩ := h
  refine ⟨hb, ?_⟩
  rcases h with ⟨hv, rfl⟩ | ⟨hv, hN, rfl⟩ | ⟨hv, hN, g, cap, rfl, hc, hB, hT⟩
  · have e1 : coverL a b c d z = [] := by unfold coverL; rw [if_neg (by rw [hv]; simp)]
    have e2 : coverE a b c d z = 1 := by unfold coverE; rw [hv]; rfl
    exact ⟨_, by rw [e2], .inl ⟨rfl, e1⟩, .inr rfl⟩
  · have e1 : coverL a b c d z = [] := by unfold coverL; rw [if_neg (by omega)]
    have e2 : coverE a b c d z = 2 := by unfold coverE; rw [if_pos hv, if_neg (by omega)]
    exact ⟨_, by rw [e2], .inl ⟨rfl, e1⟩, .inr rfl⟩
  · have hp := cover_pos hv
    have e1 : coverL a b c d z = upto (a / side z) (b / side z) (spanF z a c) (spanF z b d * spanF z a c) := by unfold coverL; rw [if_pos ⟨hv, hN⟩]
    have e2 : coverE a b c d z = 0 := by unfold coverE; rw [if_pos hv, if_pos hN]
    refine ⟨_, by rw [e2], .inr ⟨g, cap, ?_, ?_, ?_, hB, ?_⟩, .inl ?_⟩
    · rw [e1, upto_length]
    · rw [e1, upto_length]; exact hc
    · rw [e1, upto_length]; omega
    · rw [e1]; exact hT
    · rw [e1]; intro h; have := congrArg List.length h; rw [upto_length] at this; simp only [List.length_nil] at this; omega

theorem both_nil {v1 v2 : Value} {l : List (Int × Int)} (h1 : l ≠ [] ∨ v1 = .slice none 0 0) (h2 : l ≠ [] ∨ v2 = .slice none 0 0) : l ≠ [] ∨ (v1 = .slice none 0 0 ∧ v2 = .slice none 0 0) := by
  rcases h1 with h | h
  · exact .inl h
  · rcases h2 with k | k
    · exact .inl k
    · exact .inr ⟨h, k⟩

theorem text_form (z x y : Int) : ∃ S E, textV z x y = .tuple #[.string S, .int .i64 E] := by
  unfold textV strV
  split
  · exact ⟨_, _, rfl⟩
  · exact ⟨_, _, rfl⟩

set_option maxRecDepth 100000 in
set_option maxHeartbeats 16000000 in
theorem ref_walk (px py z tz tx ty a b c d : Int) (s : ByteArray) (w : World) (hG : Gw w) : Calls Tryd.prog 8 #[.agg #[.int .i64 px, .int .i64 py], .int .i64 z, .agg #[.int .i64 tz, .int .i64 tx, .int .i64 ty], .agg #[.int .i64 a, .int .i64 b, .int .i64 c, .int .i64 d], .string s] w (RetB w (.bool true)) := by
  have l0 := hG.size
  obtain ⟨⟨A0, A1, A2, Ae⟩, hA⟩ : ∃ A, ofF px py z = A := ⟨_, rfl⟩
  obtain ⟨⟨B0, B1, B2, B3, Be⟩, hB⟩ : ∃ B, boxF tz tx ty = B := ⟨_, rfl⟩
  obtain ⟨⟨U0, U1, U2, Ue⟩, hU⟩ : ∃ U, upF tz tx ty = U := ⟨_, rfl⟩
  obtain ⟨⟨X0, X1, Xe⟩, hX⟩ : ∃ X, pixelF tz tx ty px py = X := ⟨_, rfl⟩
  obtain ⟨⟨P0, P1, P2, Pe⟩, hP⟩ : ∃ P, parseF s = P := ⟨_, rfl⟩
  obtain ⟨S, E, hT⟩ := text_form tz tx ty
  obtain ⟨KL, hKL⟩ : ∃ L, kidsL tz tx ty = L := ⟨_, rfl⟩
  obtain ⟨KE, hKE⟩ : ∃ L, kidsE tz tx ty = L := ⟨_, rfl⟩
  obtain ⟨CL, hCL⟩ : ∃ L, coverL a b c d z = L := ⟨_, rfl⟩
  obtain ⟨CE, hCE⟩ : ∃ L, coverE a b c d z = L := ⟨_, rfl⟩
  have cOf := fun w => of_any px py z w
  have cROf := fun w => rof_any px py z w
  have cBox := fun w => box_any tz tx ty w
  have cRBox := fun w => rbox_any tz tx ty w
  have cUp := fun w => up_any tz tx ty w
  have cRUp := fun w => rup_any tz tx ty w
  have cPix := fun w => pixel_any tz tx ty px py w
  have cRPix := fun w => rpixel_any tz tx ty px py w
  have cTxt := fun w h => text_any tz tx ty w h
  have cRTxt := fun w => rtext_any tz tx ty w
  rw [hA] at cOf cROf
  rw [hB] at cBox cRBox
  rw [hU] at cUp cRUp
  rw [hX] at cPix cRPix
  rw [hT] at cTxt cRTxt
  unfold TE.v at cOf cROf cUp cRUp
  unfold BE.v at cBox cRBox
  unfold PE.v at cPix cRPix
  dsimp only at cOf cROf cUp cRUp cBox cRBox cPix cRPix
  clear hA hB hU hX hT
  go_enter Tryd.func8, Tryd.ntmps8
  go_wp2_with fail
  refine calls_abs (fun W => Below w.heap.size w W ∧ Box W w.heap.size #[.int .i64 px, .int .i64 py] 31 ∧ Box W (w.heap.size + 1) #[.int .i64 tz, .int .i64 tx, .int .i64 ty] 23 ∧ Box W (w.heap.size + 1 + 1) #[.int .i64 a, .int .i64 b, .int .i64 c, .int .i64 d] 33)
    ⟨(((Below.refl _ _).alloc (Nat.le_refl _) _).alloc (by simp) _).alloc (by simp; omega) _, ((Box.new _ _ _).alloc _).alloc _, (Box.new' (by simp) _ _).alloc _, Box.new' (by simp) _ _⟩ ?_
  rintro W ⟨hW, b0, b1, b2⟩
  refine (head_any _ (hG.below hW l0)).mono ?_
  rintro e w1 ⟨rfl, hb_⟩
  replace hW := hW.trans (hb_.mono hW.size)
  replace b0 := b0.below hb_ b0.lt
  replace b1 := b1.below hb_ b1.lt
  replace b2 := b2.below hb_ b2.lt
  clear hb_
  by_cases hlen : 100 < s.size
  · go_wp2
    go_ret
    exact RetB.mk' rfl hW
  · have cPar := fun w h => parse_any s w h (by omega)
    have cRPar := fun w => rparse_any s (by omega) w
    rw [hP] at cPar cRPar
    unfold TE.v at cPar cRPar
    dsimp only at cPar cRPar
    clear hP
    have r0 := b0.cell
    have k0 := b0.lt
    go_wp2_with fail
    clear r0 k0
    refine (cOf _).mono ?_
    rintro e w2 ⟨rfl, hb_⟩
    replace hW := hW.trans (hb_.mono hW.size)
    replace b0 := b0.below hb_ b0.lt
    replace b1 := b1.below hb_ b1.lt
    replace b2 := b2.below hb_ b2.lt
    clear hb_
    have s2 := hW.size
    have r0 := b0.cell
    have k0 := b0.lt
    go_wp2_with fail
    clear r0 k0
    refine (cROf _).mono ?_
    rintro e w3 ⟨rfl, hb_⟩
    have b3 := (Box.new _ _ _).below hb_ (Box.new _ _ _).lt
    replace b0 := (b0.alloc _).below hb_ (b0.alloc _).lt
    replace b1 := (b1.alloc _).below hb_ (b1.alloc _).lt
    replace b2 := (b2.alloc _).below hb_ (b2.alloc _).lt
    replace hW := (hW.alloc hW.size _).trans (hb_.mono (hW.alloc hW.size _).size)
    clear hb_
    have s3 := hW.size
    have r1 := b1.cell
    have k1 := b1.lt
    have n3 := b3.lt
    go_wp2_with fail
    clear r1 k1
    refine (cBox _).mono ?_
    rintro e w4 ⟨rfl, hb_⟩
    have b4 := (Box.new _ _ _).below hb_ (Box.new _ _ _).lt
    replace b0 := (b0.alloc _).below hb_ (b0.alloc _).lt
    replace b1 := (b1.alloc _).below hb_ (b1.alloc _).lt
    replace b2 := (b2.alloc _).below hb_ (b2.alloc _).lt
    replace b3 := (b3.alloc _).below hb_ (b3.alloc _).lt
    replace hW := (hW.alloc hW.size _).trans (hb_.mono (hW.alloc hW.size _).size)
    clear hb_
    have r1 := b1.cell
    have k1 := b1.lt
    go_wp2_with fail
    clear r1 k1
    refine (cRBox _).mono ?_
    rintro e w5 ⟨rfl, hb_⟩
    have b5 := (Box.new _ _ _).below hb_ (Box.new _ _ _).lt
    replace b0 := (b0.alloc _).below hb_ (b0.alloc _).lt
    replace b1 := (b1.alloc _).below hb_ (b1.alloc _).lt
    replace b2 := (b2.alloc _).below hb_ (b2.alloc _).lt
    replace b3 := (b3.alloc _).below hb_ (b3.alloc _).lt
    replace b4 := (b4.alloc _).below hb_ (b4.alloc _).lt
    replace hW := (hW.alloc hW.size _).trans (hb_.mono (hW.alloc hW.size _).size)
    clear hb_
    have r1 := b1.cell
    have k1 := b1.lt
    go_wp2_with fail
    clear r1 k1
    refine (cUp _).mono ?_
    rintro e w6 ⟨rfl, hb_⟩
    have b6 := (Box.new _ _ _).below hb_ (Box.new _ _ _).lt
    replace b0 := (b0.alloc _).below hb_ (b0.alloc _).lt
    replace b1 := (b1.alloc _).below hb_ (b1.alloc _).lt
    replace b2 := (b2.alloc _).below hb_ (b2.alloc _).lt
    replace b3 := (b3.alloc _).below hb_ (b3.alloc _).lt
    replace b4 := (b4.alloc _).below hb_ (b4.alloc _).lt
    replace b5 := (b5.alloc _).below hb_ (b5.alloc _).lt
    replace hW := (hW.alloc hW.size _).trans (hb_.mono (hW.alloc hW.size _).size)
    clear hb_
    have r1 := b1.cell
    have k1 := b1.lt
    go_wp2_with fail
    clear r1 k1
    refine (cRUp _).mono ?_
    rintro e w7 ⟨rfl, hb_⟩
    have b7 := (Box.new _ _ _).below hb_ (Box.new _ _ _).lt
    replace b0 := (b0.alloc _).below hb_ (b0.alloc _).lt
    replace b1 := (b1.alloc _).below hb_ (b1.alloc _).lt
    replace b2 := (b2.alloc _).below hb_ (b2.alloc _).lt
    replace b3 := (b3.alloc _).below hb_ (b3.alloc _).lt
    replace b4 := (b4.alloc _).below hb_ (b4.alloc _).lt
    replace b5 := (b5.alloc _).below hb_ (b5.alloc _).lt
    replace b6 := (b6.alloc _).below hb_ (b6.alloc _).lt
    replace hW := (hW.alloc hW.size _).trans (hb_.mono (hW.alloc hW.size _).size)
    clear hb_
    have r1 := b1.cell
    have k1 := b1.lt
    go_wp2_with fail
    clear r1 k1
    refine (kids_any tz tx ty _).mono ?_
    rintro e w8 h
    obtain ⟨hb_, v1, rfl, L1, N1⟩ := kids_lst h
    rw [hKL] at L1 N1
    rw [hKE]
    have b8 := (Box.new _ _ _).below hb_ (Box.new _ _ _).lt
    replace b0 := (b0.alloc _).below hb_ (b0.alloc _).lt
    replace b1 := (b1.alloc _).below hb_ (b1.alloc _).lt
    replace b2 := (b2.alloc _).below hb_ (b2.alloc _).lt
    replace b3 := (b3.alloc _).below hb_ (b3.alloc _).lt
    replace b4 := (b4.alloc _).below hb_ (b4.alloc _).lt
    replace b5 := (b5.alloc _).below hb_ (b5.alloc _).lt
    replace b6 := (b6.alloc _).below hb_ (b6.alloc _).lt
    replace b7 := (b7.alloc _).below hb_ (b7.alloc _).lt
    replace hW := (hW.alloc hW.size _).trans (hb_.mono (hW.alloc hW.size _).size)
    clear hb_ h
    have r1 := b1.cell
    have k1 := b1.lt
    go_wp2_with fail
    clear r1 k1
    refine (rkids_any tz tx ty _).mono ?_
    rintro e w9 h
    obtain ⟨hb_, v2, rfl, L2, N2⟩ := kids_lst h
    rw [hKL] at L2 N2
    rw [hKE]
    replace L1 := L1.below hb_ L1.lt
    replace b0 := b0.below hb_ b0.lt
    replace b1 := b1.below hb_ b1.lt
    replace b2 := b2.below hb_ b2.lt
    replace b3 := b3.below hb_ b3.lt
    replace b4 := b4.below hb_ b4.lt
    replace b5 := b5.below hb_ b5.lt
    replace b6 := b6.below hb_ b6.lt
    replace b7 := b7.below hb_ b7.lt
    replace b8 := b8.below hb_ b8.lt
    replace hW := hW.trans (hb_.mono hW.size)
    clear hb_ h
    have hSame := same_lst w9 L1 L2 (both_nil N1 N2)
    have r3 := b3.cell
    have r4 := b4.cell
    have r5 := b5.cell
    have r6 := b6.cell
    have r7 := b7.cell
    have r8 := b8.cell
    go_wp2_with fail
    clear r3 r4 r5 r6 r7 r8 b5 b6 b7 b8 L1 L2 N1 N2
    refine (hSame).mono ?_
    rintro e w10 ⟨rfl, hb_⟩
    replace hW := hW.trans (hb_.mono hW.size)
    replace b0 := b0.below hb_ b0.lt
    replace b1 := b1.below hb_ b1.lt
    replace b2 := b2.below hb_ b2.lt
    replace b3 := b3.below hb_ b3.lt
    replace b4 := b4.below hb_ b4.lt
    clear hb_
    clear hSame
    have n10 := b3.lt
    have m10 := b4.lt
    have r2 := b2.cell
    have k2 := b2.lt
    go_wp2_with fail
    clear r2 k2
    refine (cover_any a b c d z _).mono ?_
    rintro e w11 h
    obtain ⟨hb_, v3, rfl, L3, N3⟩ := cover_lst h
    rw [hCL] at L3 N3
    rw [hCE]
    replace b0 := b0.below hb_ b0.lt
    replace b1 := b1.below hb_ b1.lt
    replace b2 := b2.below hb_ b2.lt
    replace b3 := b3.below hb_ b3.lt
    replace b4 := b4.below hb_ b4.lt
    replace hW := hW.trans (hb_.mono hW.size)
    clear hb_ h
    have n11 := b3.lt
    have m11 := b4.lt
    have r2 := b2.cell
    have k2 := b2.lt
    go_wp2_with fail
    clear r2 k2
    refine (rcover_any a b c d z _).mono ?_
    rintro e w12 h
    obtain ⟨hb_, v4, rfl, L4, N4⟩ := cover_lst h
    rw [hCL] at L4 N4
    rw [hCE]
    replace L3 := L3.below hb_ L3.lt
    replace b0 := b0.below hb_ b0.lt
    replace b1 := b1.below hb_ b1.lt
    replace b3 := b3.below hb_ b3.lt
    replace b4 := b4.below hb_ b4.lt
    replace hW := hW.trans (hb_.mono hW.size)
    clear hb_ h b2
    have r0 := b0.cell
    have k0 := b0.lt
    have r1 := b1.cell
    have k1 := b1.lt
    go_wp2_with fail
    clear r0 k0 r1 k1
    refine (cPix _).mono ?_
    rintro e w13 ⟨rfl, hb_⟩
    replace hW := hW.trans (hb_.mono hW.size)
    replace b0 := b0.below hb_ b0.lt
    replace b1 := b1.below hb_ b1.lt
    replace b3 := b3.below hb_ b3.lt
    replace b4 := b4.below hb_ b4.lt
    replace L3 := L3.below hb_ L3.lt
    replace L4 := L4.below hb_ L4.lt
    clear hb_
    have n13 := b3.lt
    have m13 := b4.lt
    have r0 := b0.cell
    have k0 := b0.lt
    have r1 := b1.cell
    have k1 := b1.lt
    go_wp2_with fail
    clear r0 k0 r1 k1
    refine (cRPix _).mono ?_
    rintro e w14 ⟨rfl, hb_⟩
    have b5 := (Box.new _ _ _).below hb_ (Box.new _ _ _).lt
    replace b0 := (b0.alloc _).below hb_ (b0.alloc _).lt
    replace b1 := (b1.alloc _).below hb_ (b1.alloc _).lt
    replace b3 := (b3.alloc _).below hb_ (b3.alloc _).lt
    replace b4 := (b4.alloc _).below hb_ (b4.alloc _).lt
    replace L3 := (L3.alloc _).below hb_ (L3.alloc _).lt
    replace L4 := (L4.alloc _).below hb_ (L4.alloc _).lt
    replace hW := (hW.alloc hW.size _).trans (hb_.mono (hW.alloc hW.size _).size)
    clear hb_
    have n14 := b3.lt
    have m14 := b4.lt
    have r1 := b1.cell
    have k1 := b1.lt
    go_wp2_with fail
    clear r1 k1
    refine (cTxt _ (hG.below (hW.alloc hW.size _) l0)).mono ?_
    rintro e w15 ⟨rfl, hb_⟩
    have b6 := (Box.new _ _ _).below hb_ (Box.new _ _ _).lt
    replace b1 := (b1.alloc _).below hb_ (b1.alloc _).lt
    replace b3 := (b3.alloc _).below hb_ (b3.alloc _).lt
    replace b4 := (b4.alloc _).below hb_ (b4.alloc _).lt
    replace b5 := (b5.alloc _).below hb_ (b5.alloc _).lt
    replace L3 := (L3.alloc _).below hb_ (L3.alloc _).lt
    replace L4 := (L4.alloc _).below hb_ (L4.alloc _).lt
    replace hW := (hW.alloc hW.size _).trans (hb_.mono (hW.alloc hW.size _).size)
    clear hb_
    have r1 := b1.cell
    have k1 := b1.lt
    go_wp2_with fail
    clear r1 k1
    refine (cRTxt _).mono ?_
    rintro e w16 ⟨rfl, hb_⟩
    replace hW := hW.trans (hb_.mono hW.size)
    replace b3 := b3.below hb_ b3.lt
    replace b4 := b4.below hb_ b4.lt
    replace b5 := b5.below hb_ b5.lt
    replace b6 := b6.below hb_ b6.lt
    replace L3 := L3.below hb_ L3.lt
    replace L4 := L4.below hb_ L4.lt
    clear hb_
    go_wp2_with fail
    refine (cPar _ (hG.below hW l0)).mono ?_
    rintro e w17 ⟨rfl, hb_⟩
    replace hW := hW.trans (hb_.mono hW.size)
    replace b3 := b3.below hb_ b3.lt
    replace b4 := b4.below hb_ b4.lt
    replace b5 := b5.below hb_ b5.lt
    replace b6 := b6.below hb_ b6.lt
    replace L3 := L3.below hb_ L3.lt
    replace L4 := L4.below hb_ L4.lt
    clear hb_
    have r3 := b3.cell
    have f3 := b3.frozen
    have k3 := b3.lt
    go_wp2_with fail
    clear r3 f3 k3
    refine calls_abs (fun W => Below w.heap.size w W ∧ Box W w2.heap.size #[.int .i64 P0, .int .i64 P1, .int .i64 P2] 23 ∧ Box W w3.heap.size #[.int .i64 A0, .int .i64 A1, .int .i64 A2] 23 ∧ Box W w13.heap.size #[.int .i64 X0, .int .i64 X1] 31 ∧ Box W w14.heap.size #[.int .i64 X0, .int .i64 X1] 31 ∧
        Lst w10.heap.size W v3 z CL ∧ Lst w11.heap.size W v4 z CL)
      ⟨((hW.setCell s2 _).setCell s2 _).setCell s2 _, b3.set3 _ _ _, ((b4.set_other (by omega) _ _).set_other (by omega) _ _).set_other (by omega) _ _, ((b5.set_other (by omega) _ _).set_other (by omega) _ _).set_other (by omega) _ _, ((b6.set_other (by omega) _ _).set_other (by omega) _ _).set_other (by omega) _ _,
        ((L3.set_other n10 _ _).set_other n10 _ _).set_other n10 _ _, ((L4.set_other n11 _ _).set_other n11 _ _).set_other n11 _ _⟩ ?_
    clear hW b3 b4 b5 b6 L3 L4
    rintro W18 ⟨hW, b3, b4, b5, b6, L3, L4⟩
    refine (cRPar _).mono ?_
    rintro e w18 ⟨rfl, hb_⟩
    replace hW := hW.trans (hb_.mono hW.size)
    replace b3 := b3.below hb_ b3.lt
    replace b4 := b4.below hb_ b4.lt
    replace b5 := b5.below hb_ b5.lt
    replace b6 := b6.below hb_ b6.lt
    replace L3 := L3.below hb_ L3.lt
    replace L4 := L4.below hb_ L4.lt
    clear hb_
    have r4 := b4.cell
    have f4 := b4.frozen
    have k4 := b4.lt
    go_wp2_with fail
    clear r4 f4 k4
    refine calls_abs (fun W => Below w.heap.size w W ∧ Box W w2.heap.size #[.int .i64 P0, .int .i64 P1, .int .i64 P2] 23 ∧ Box W w3.heap.size #[.int .i64 P0, .int .i64 P1, .int .i64 P2] 23 ∧ Box W w13.heap.size #[.int .i64 X0, .int .i64 X1] 31 ∧ Box W w14.heap.size #[.int .i64 X0, .int .i64 X1] 31 ∧
        Lst w10.heap.size W v3 z CL ∧ Lst w11.heap.size W v4 z CL)
      ⟨((hW.setCell s3 _).setCell s3 _).setCell s3 _, ((b3.set_other (by omega) _ _).set_other (by omega) _ _).set_other (by omega) _ _, b4.set3 _ _ _, ((b5.set_other (by omega) _ _).set_other (by omega) _ _).set_other (by omega) _ _, ((b6.set_other (by omega) _ _).set_other (by omega) _ _).set_other (by omega) _ _,
        ((L3.set_other m10 _ _).set_other m10 _ _).set_other m10 _ _, ((L4.set_other m11 _ _).set_other m11 _ _).set_other m11 _ _⟩ ?_
    clear hW b3 b4 b5 b6 L3 L4
    rintro W19 ⟨hW, b3, b4, b5, b6, L3, L4⟩
    have hSame := same_lst W19 L3 L4 (both_nil N3 N4)
    refine (hSame).mono ?_
    rintro e w19 ⟨rfl, hb_⟩
    replace hW := hW.trans (hb_.mono hW.size)
    replace b3 := b3.below hb_ b3.lt
    replace b4 := b4.below hb_ b4.lt
    replace b5 := b5.below hb_ b5.lt
    replace b6 := b6.below hb_ b6.lt
    clear hb_
    clear hSame
    have r3 := b3.cell
    have k3 := b3.lt
    have r4 := b4.cell
    have k4 := b4.lt
    have r5 := b5.cell
    have k5 := b5.lt
    have r6 := b6.cell
    have k6 := b6.lt
    go_wp2
    go_ret
    exact RetB.mk' rfl hW
end Go.Proofs.YthggpflfjghooaaDoor

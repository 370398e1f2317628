/- The walk of GridTexts: it returns true. -/
import Derived.Test.YthggpflfjghooaaDoorHead
namespace Go.Proofs.YthggpflfjghooaaDoor
open Go.RowKit Go.Sort

theorem textV_ok {z x y : Int} (h : validB z x y = true) : textV z x y = .tuple #[.string ⟨(tripL z x y).toArray⟩, .int .i64 0] := by unfold textV; rw [if_pos h]; rfl
theorem textV_no {z x y : Int} (h : validB z x y = false) : textV z x y = .tuple #[.string ⟨#[]⟩, .int .i64 1] := by unfold textV; rw [h]; rfl
theorem bytes_of {s : ByteArray} {l : List UInt8} (h : s.data.toList = l) : s = ⟨l.toArray⟩ := by
  cases s with
  | mk a => simp only at h; rw [← h]
theorem trip_size {z x y : Int} (h : validB z x y = true) : (⟨(tripL z x y).toArray⟩ : ByteArray).size ≤ 1000000 := by
  have h1 := valid_spec h
  have h2 := valid_le h
  have a := Lib.itoa_length_le z (by omega) (by omega)
  have b := Lib.itoa_length_le x (by omega) (by omega)
  have c := Lib.itoa_length_le y (by omega) (by omega)
  show (tripL z x y).toArray.size ≤ _
  simp [tripL]
  omega

set_option maxRecDepth 100000 in
set_option maxHeartbeats 4000000 in
theorem texts_walk (z x y : Int) (s : ByteArray) (w : World) (hG : Gw w) : Calls Tryd.prog 3 #[.agg #[.int .i64 z, .int .i64 x, .int .i64 y], .string s] w (RetB w (.bool true)) := by
  have l0 := hG.size
  have hW : Below w.heap.size w w := Below.refl _ _
  go_enter Tryd.func3, Tryd.ntmps3
  go_wp2_with fail
  refine (head_any _ (hG.below (hW.alloc hW.size _) l0)).mono ?_
  rintro e w1 ⟨rfl, hb_⟩
  have b0 := (Box.new _ _ _).below hb_ (Box.new _ _ _).lt
  replace hW := (hW.alloc hW.size _).trans (hb_.mono (hW.alloc hW.size _).size)
  clear hb_
  by_cases hlen : 100 < s.size
  · go_wp2
    go_ret
    exact RetB.mk' rfl hW
  · have r0 := b0.cell
    go_wp2_with fail
    clear r0
    refine (text_any z x y _ (hG.below hW l0)).mono ?_
    rintro e w2 ⟨rfl, hb_⟩
    replace hW := hW.trans (hb_.mono hW.size)
    replace b0 := b0.below hb_ b0.lt
    clear hb_
    cases hl : validB z x y with
    | false =>
      rw [textV_no hl]
      have r0 := b0.cell
      go_wp2_with fail
      clear r0
      refine (box_any z x y _).mono ?_
      rintro e w3 ⟨rfl, hb_⟩
      replace hW := hW.trans (hb_.mono hW.size)
      replace b0 := b0.below hb_ b0.lt
      clear hb_
      rw [boxF_no hl]
      clear hl
      unfold BE.v
      go_wp2_with fail
      refine (parse_any s _ (hG.below (hW.alloc hW.size _) l0) (by omega)).mono ?_
      rintro e w4 ⟨rfl, hb_⟩
      have b1 := (Box.new _ _ _).below hb_ (Box.new _ _ _).lt
      replace b0 := (b0.alloc _).below hb_ (b0.alloc _).lt
      replace hW := (hW.alloc hW.size _).trans (hb_.mono (hW.alloc hW.size _).size)
      clear hb_
      rcases parse_cases s with ⟨z', x', y', hv, hs, hp⟩ | hp
      · rw [hp]
        obtain rfl := bytes_of hs
        unfold TE.v
        clear hs hp
        go_wp2_with fail
        refine (text_any z' x' y' _ (hG.below (hW.alloc hW.size _) l0)).mono ?_
        rintro e w5 ⟨rfl, hb_⟩
        have b2 := (Box.new _ _ _).below hb_ (Box.new _ _ _).lt
        replace b0 := (b0.alloc _).below hb_ (b0.alloc _).lt
        replace b1 := (b1.alloc _).below hb_ (b1.alloc _).lt
        replace hW := (hW.alloc hW.size _).trans (hb_.mono (hW.alloc hW.size _).size)
        clear hb_
        rw [textV_ok hv]
        clear hv
        generalize (⟨(tripL z' x' y').toArray⟩ : ByteArray) = s at *
        go_wp2
        go_ret
        exact RetB.mk' rfl hW
      · rw [hp]
        unfold TE.v
        clear hp
        go_wp2
        go_ret
        exact RetB.mk' rfl (hW.alloc hW.size _)
    | true =>
      have HS := trip_size hl
      have HP := parse_ok ⟨(tripL z x y).toArray⟩ z x y hl (by simp)
      rw [textV_ok hl]
      generalize (⟨(tripL z x y).toArray⟩ : ByteArray) = s0 at *
      go_wp2_with fail
      refine (parse_any s0 _ (hG.below hW l0) HS).mono ?_
      rintro e w3 ⟨rfl, hb_⟩
      replace hW := hW.trans (hb_.mono hW.size)
      replace b0 := b0.below hb_ b0.lt
      clear hb_
      rw [HP]
      clear HP HS
      unfold TE.v
      have r0 := b0.cell
      have k0 := b0.lt
      go_wp2_with fail
      clear r0 k0
      refine (box_any z x y _).mono ?_
      rintro e w4 ⟨rfl, hb_⟩
      have b1 := (Box.new _ _ _).below hb_ (Box.new _ _ _).lt
      replace b0 := (b0.alloc _).below hb_ (b0.alloc _).lt
      replace hW := (hW.alloc hW.size _).trans (hb_.mono (hW.alloc hW.size _).size)
      clear hb_
      rw [boxF_ok hl]
      clear hl
      unfold BE.v
      go_wp2_with fail
      refine (parse_any s _ (hG.below (hW.alloc hW.size _) l0) (by omega)).mono ?_
      rintro e w5 ⟨rfl, hb_⟩
      have b2 := (Box.new _ _ _).below hb_ (Box.new _ _ _).lt
      replace b0 := (b0.alloc _).below hb_ (b0.alloc _).lt
      replace b1 := (b1.alloc _).below hb_ (b1.alloc _).lt
      replace hW := (hW.alloc hW.size _).trans (hb_.mono (hW.alloc hW.size _).size)
      clear hb_
      rcases parse_cases s with ⟨z', x', y', hv, hs, hp⟩ | hp
      · rw [hp]
        obtain rfl := bytes_of hs
        unfold TE.v
        clear hs hp
        go_wp2_with fail
        refine (text_any z' x' y' _ (hG.below (hW.alloc hW.size _) l0)).mono ?_
        rintro e w6 ⟨rfl, hb_⟩
        have b3 := (Box.new _ _ _).below hb_ (Box.new _ _ _).lt
        replace b0 := (b0.alloc _).below hb_ (b0.alloc _).lt
        replace b1 := (b1.alloc _).below hb_ (b1.alloc _).lt
        replace b2 := (b2.alloc _).below hb_ (b2.alloc _).lt
        replace hW := (hW.alloc hW.size _).trans (hb_.mono (hW.alloc hW.size _).size)
        clear hb_
        rw [textV_ok hv]
        clear hv
        generalize (⟨(tripL z' x' y').toArray⟩ : ByteArray) = s at *
        go_wp2
        go_ret
        exact RetB.mk' rfl hW
      · rw [hp]
        unfold TE.v
        clear hp
        go_wp2
        go_ret
        exact RetB.mk' rfl (hW.alloc hW.size _)
end Go.Proofs.YthggpflfjghooaaDoor

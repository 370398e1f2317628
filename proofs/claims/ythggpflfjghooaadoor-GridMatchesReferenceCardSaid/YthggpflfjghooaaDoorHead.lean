/- The chapter's examples hold: head returns true. -/
import Derived.Test.YthggpflfjghooaaDoorPixel
import Derived.Test.YthggpflfjghooaaDoorAll
import Derived.Test.YthggpflfjghooaaDoorParse
import Derived.Test.YthggpflfjghooaaDoorPlain
namespace Go.Proofs.YthggpflfjghooaaDoor
open Go.RowKit Go.Sort

theorem ex_of : ofF 1048575 8 17 = ⟨17, 131071, 1, 0⟩ := rfl
theorem ex_box : boxF 1 1 0 = ⟨524288, 0, 1048575, 524287, 0⟩ := rfl
theorem ex_pixel : pixelF 0 0 0 (-1) 4096 = ⟨-1, 1, 0⟩ := rfl

set_option maxRecDepth 100000 in
set_option maxHeartbeats 2000000 in
theorem head_any (w : World) (hG : Gw w) : Calls Tryd.prog 9 #[] w (RetB w (.bool true)) := by
  have l0 := hG.size
  have hW : Below w.heap.size w w := Below.refl _ _
  go_enter Tryd.func9, Tryd.ntmps9
  go_wp2_with fail
  refine (of_any 1048575 8 17 w).mono ?_
  rintro e w1 ⟨rfl, hb_⟩
  replace hW := hW.trans (hb_.mono hW.size)
  clear hb_
  rw [ex_of]
  unfold TE.v
  go_wp2_with fail
  refine (box_any 1 1 0 _).mono ?_
  rintro e w2 ⟨rfl, hb_⟩
  have b1 := (Box.new _ _ _).below hb_ (Box.new _ _ _).lt
  replace hW := (hW.alloc hW.size _).trans (hb_.mono (hW.alloc hW.size _).size)
  clear hb_
  rw [ex_box]
  unfold BE.v
  go_wp2_with fail
  refine (pixel_any 0 0 0 (-1) 4096 _).mono ?_
  rintro e w3 ⟨rfl, hb_⟩
  have b2 := (Box.new _ _ _).below hb_ (Box.new _ _ _).lt
  replace b1 := (b1.alloc _).below hb_ (b1.alloc _).lt
  replace hW := (hW.alloc hW.size _).trans (hb_.mono (hW.alloc hW.size _).size)
  clear hb_
  rw [ex_pixel]
  unfold PE.v
  go_wp2_with fail
  refine (parse_any ⟨#[49, 47, 50, 47, 48]⟩ _ (hG.below (hW.alloc hW.size _) l0) (by decide)).mono ?_
  rintro e w4 ⟨rfl, hb_⟩
  have b3 := (Box.new _ _ _).below hb_ (Box.new _ _ _).lt
  replace b1 := (b1.alloc _).below hb_ (b1.alloc _).lt
  replace b2 := (b2.alloc _).below hb_ (b2.alloc _).lt
  replace hW := (hW.alloc hW.size _).trans (hb_.mono (hW.alloc hW.size _).size)
  clear hb_
  rw [parse_a]
  unfold TE.v
  go_wp2_with fail
  refine (parse_any ⟨#[48, 49, 47, 48, 47, 48]⟩ _ (hG.below (hW.alloc hW.size _) l0) (by decide)).mono ?_
  rintro e w5 ⟨rfl, hb_⟩
  have b4 := (Box.new _ _ _).below hb_ (Box.new _ _ _).lt
  replace b1 := (b1.alloc _).below hb_ (b1.alloc _).lt
  replace b2 := (b2.alloc _).below hb_ (b2.alloc _).lt
  replace b3 := (b3.alloc _).below hb_ (b3.alloc _).lt
  replace hW := (hW.alloc hW.size _).trans (hb_.mono (hW.alloc hW.size _).size)
  clear hb_
  rw [parse_b]
  unfold TE.v
  go_wp2_with fail
  refine (parse_any ⟨#[49, 47, 49, 47, 48]⟩ _ (hG.below (hW.alloc hW.size _) l0) (by decide)).mono ?_
  rintro e w6 ⟨rfl, hb_⟩
  have b5 := (Box.new _ _ _).below hb_ (Box.new _ _ _).lt
  replace b1 := (b1.alloc _).below hb_ (b1.alloc _).lt
  replace b2 := (b2.alloc _).below hb_ (b2.alloc _).lt
  replace b3 := (b3.alloc _).below hb_ (b3.alloc _).lt
  replace b4 := (b4.alloc _).below hb_ (b4.alloc _).lt
  replace hW := (hW.alloc hW.size _).trans (hb_.mono (hW.alloc hW.size _).size)
  clear hb_
  rw [parse_c]
  unfold TE.v
  have r1 := b1.cell
  have r2 := b2.cell
  have r3 := b3.cell
  have k1 := b1.lt
  have k2 := b2.lt
  have k3 := b3.lt
  go_wp2
  go_ret
  exact RetB.mk' rfl (hW.alloc hW.size _)
end Go.Proofs.YthggpflfjghooaaDoor

import Derived.Test.YtaggohobdjidjaaGreatDoorJL
import Derived.Test.YtaggohobdjidjaaGreatDoorJU

/- planispherelaw43.LabelMatchesReference says true. -/
namespace Go.Proofs.YtaggohobdjidjaaGreatDoor
open Go.RowKit Go.Sort Go.Shelf

theorem heldC {W1 X : World} {kb : Nat} {t : TypeId} {a b c d : Int} (bb : Box W1 kb #[.int .i64 a, .int .i64 b, .int .i64 c, .int .i64 d] t) (h : Below W1.heap.size W1 X) :
    (X.cell? ⟨kb, 0, none⟩ = some (.int .i64 a) ∧ X.cell? ⟨kb, 1, none⟩ = some (.int .i64 b) ∧ X.cell? ⟨kb, 2, none⟩ = some (.int .i64 c) ∧ X.cell? ⟨kb, 3, none⟩ = some (.int .i64 d)) ∧ Below W1.heap.size W1 X :=
  ⟨⟨(bb.below h bb.lt).cell 0, (bb.below h bb.lt).cell 1, (bb.below h bb.lt).cell 2, (bb.below h bb.lt).cell 3⟩, h⟩

set_option maxHeartbeats 8000000 in
set_option maxRecDepth 100000 in
theorem match_law (p : Option Addr) (n cap : Nat) (l : List Lab) (b : Bx) (w : World) (hL : Lies w 6 labC p l) (hn : n = l.length) (hc : p = none → cap = 0) (h1 : n ≤ maxLen) (hG : Gw w) :
    Calls Tryz.prog 3 #[.slice p n cap, bxV b] w (RetB w (.bool true)) := by
  have HL := Lib.hid hL
  have HN := Lib.hid hn
  have HC := Lib.hid hc
  have HG := Lib.hid hG
  have HM := Lib.hid h1
  clear hL hn hc hG h1
  obtain ⟨ba, bb, bc, bd⟩ := b
  unfold bxV
  dsimp only
  go_enter Tryz.func3, Tryz.ntmps3
  go_wp2_with fail
  have hG1 := HG.out.below (B := w.heap.size) ((Below.refl _ _).alloc (Nat.le_refl _) (.cells #[.int .i64 ba, .int .i64 bb, .int .i64 bc, .int .i64 bd] 26)) HG.out.size
  refine (head_any _ hG1).mono ?_
  rintro e w1 ⟨rfl, hb⟩
  have b0 : Box w1 w.heap.size #[.int .i64 ba, .int .i64 bb, .int .i64 bc, .int .i64 bd] 26 := (Box.new _ _ _).below hb (by simp)
  have hW : Below w.heap.size w w1 := ((Below.refl _ _).alloc (Nat.le_refl _) _).trans (hb.mono (by simp))
  clear hb hG1
  go_wp2_with fail
  refine (few_any p n cap l 40 w1 (HL.out.below hW (Nat.le_refl _)) HN.out HM.out (by decide)).mono ?_
  rintro e w2 ⟨few, rfl, hfew, hb⟩
  replace b0 := b0.below hb b0.lt
  replace hW := hW.trans (hb.mono hW.size)
  clear hb
  cases few with
  | false =>
    go_wp2
    go_ret
    exact RetB.mk' rfl hW
  | true =>
    have h40 : n ≤ 40 := hfew rfl
    have HL2 := Lib.hid (HL.out.below hW (Nat.le_refl _))
    have hpl := placeF_length ⟨ba, bb, bc, bd⟩ l
    rw [← HN.out] at hpl
    have hb0 := b0.lt
    have hpa : ∀ X, Below w2.heap.size w2 X → Calls Tryz.prog 13 #[.slice p n cap, .agg #[.int .i64 ba, .int .i64 bb, .int .i64 bc, .int .i64 bd]] X (RetL X 5 plC (placeF ⟨ba, bb, bc, bd⟩ l)) := fun X hX => place_any p n cap l ⟨ba, bb, bc, bd⟩ X (HL2.out.below hX (Nat.le_refl _)) HN.out h40 HC.out
    have hpr : ∀ X, Below w2.heap.size w2 X → Calls Tryz.prog 14 #[.slice p n cap, .agg #[.int .i64 ba, .int .i64 bb, .int .i64 bc, .int .i64 bd]] X (RetL X 5 plC (placeF ⟨ba, bb, bc, bd⟩ l)) := fun X hX => rplace_any p n cap l ⟨ba, bb, bc, bd⟩ X (HL2.out.below hX (Nat.le_refl _)) HN.out (by omega)
    have HPA := Lib.hid hpa
    have HPR := Lib.hid hpr
    generalize placeF ⟨ba, bb, bc, bd⟩ l = pl at hpl HPA HPR
    clear hfew hpa hpr HL2
    go_wp2_with fail
    obtain ⟨kb, hkb⟩ : ∃ k, w.heap.size = k := ⟨_, rfl⟩
    have hWK := Lib.hid hW
    rw [hkb] at b0 ⊢
    replace hpl : pl.length ≤ 40 := by omega
    clear hkb hW hb0 HL HG HM HC HN h40
    go_region_held3 (fun X => (X.cell? ⟨kb, 0, none⟩ = some (.int .i64 ba) ∧ X.cell? ⟨kb, 1, none⟩ = some (.int .i64 bb) ∧ X.cell? ⟨kb, 2, none⟩ = some (.int .i64 bc) ∧ X.cell? ⟨kb, 3, none⟩ = some (.int .i64 bd)) ∧ Below w2.heap.size w2 X)
      (first
        | exact heldC b0 ⟨rfl, rfl, rfl, Nat.le_refl _, fun _ _ => rfl⟩
        | exact heldC b0 (belowH ‹_ ∧ Below w2.heap.size w2 _› hbz3)
        | exact heldC b0 (belowH ‹_ ∧ Below w2.heap.size w2 _› hbz2)
        | exact heldC b0 (belowH ‹_ ∧ Below w2.heap.size w2 _› hbz1))
      (first
        | (go_at_call 13; refine (HPA.out _ (And.right ‹_ ∧ Below w2.heap.size w2 _›)).mono ?_; rintro e wz1 ⟨q, _, cq, rfl, rfl, -, hQ, -, -, hbz1⟩; replace hQ := Lib.hid hQ)
        | (go_at_call 14; refine (HPR.out _ (And.right ‹_ ∧ Below w2.heap.size w2 _›)).mono ?_; rintro e wz2 ⟨q2, _, cq2, rfl, rfl, -, hQ2, -, -, hbz2⟩; replace hQ2 := Lib.hid hQ2)
        | (go_at_call 12; refine (same_any q pl.length cq q2 pl.length cq2 pl _ (hQ.out.below hbz2 (Nat.le_refl _)) rfl hQ2.out rfl (by omega)).mono ?_; rintro e wz3 ⟨rfl, hbz3⟩))
    rename_i _ hK hh
    have hB := hWK.out.trans (hh.2.mono hWK.out.size)
    clear hh b0 HPA HPR hbz1 hbz2 hbz3 hQ hQ2
    refine hK _ _ ?_
    go_wp2
    go_ret
    exact RetB.mk' rfl hB
end Go.Proofs.YtaggohobdjidjaaGreatDoor

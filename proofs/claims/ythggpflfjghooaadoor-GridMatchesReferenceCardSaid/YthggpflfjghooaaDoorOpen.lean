/- Tiles, points and boxes as they come in: their numbers. -/
import Derived.Test.YthggpflfjghooaaDoorRow
namespace Go.Proofs.YthggpflfjghooaaDoor
open Go.ChangeShapes Go.WideShapes Go.ChangeAt Go.RowKit Go.Sort

section
variable {H : Type} {enc : TypeId × Value → H} {W : World} {base b : Nat} {sp : Nat → Bool} {held : Bool} {v : Value} {d : DataW H} {p : List MemPlace}

set_option maxRecDepth 20000 in
theorem open_int_cell {n : Nat} {c : Value} {x : DataW H × List MemPlace} (h : DataW.trod enc Tryd.prog W b sp held n 3 [c] = some x) : ∃ z, c = .int .i64 z ∧ -9223372036854775808 ≤ z ∧ z ≤ 9223372036854775807 := by
  obtain ⟨z, k, -, wz⟩ := DataW.trod_int Tryd.underlying3 h
  simp only [List.cons.injEq, and_true] at k
  exact ⟨z, k, (bounds_i64 wz).1, (bounds_i64 wz).2⟩

set_option maxRecDepth 20000 in
theorem open_tile (hv : Value.okWide Tryd.prog W .any base 23 v) (h : DataW.Trod enc Tryd.prog W b sp held 23 v d p) :
    ∃ z x y, v = .agg #[.int .i64 z, .int .i64 x, .int .i64 y] ∧ (-9223372036854775808 ≤ z ∧ z ≤ 9223372036854775807) ∧ (-9223372036854775808 ≤ x ∧ x ≤ 9223372036854775807) ∧ (-9223372036854775808 ≤ y ∧ y ≤ 9223372036854775807) := by
  obtain ⟨c0, c1, c2, y0, y1, y2, m, rfl, -, -, e0, e1, e2⟩ := Go.Joins.open_agg3 Tryd.underlying23 (by kernel_rfl) (by kernel_rfl) hv h
  obtain ⟨z, rfl, bz⟩ := open_int_cell e0
  obtain ⟨x, rfl, bx⟩ := open_int_cell e1
  obtain ⟨y, rfl, b_y⟩ := open_int_cell e2
  exact ⟨z, x, y, rfl, bz, bx, b_y⟩

set_option maxRecDepth 20000 in
theorem open_point (hv : Value.okWide Tryd.prog W .any base 31 v) (h : DataW.Trod enc Tryd.prog W b sp held 31 v d p) :
    ∃ x y, v = .agg #[.int .i64 x, .int .i64 y] ∧ (-9223372036854775808 ≤ x ∧ x ≤ 9223372036854775807) ∧ (-9223372036854775808 ≤ y ∧ y ≤ 9223372036854775807) := by
  obtain ⟨c0, c1, y0, y1, m, rfl, -, -, e0, e1⟩ := Go.Joins.open_agg2 Tryd.underlying31 (by kernel_rfl) (by kernel_rfl) hv h
  obtain ⟨x, rfl, bx⟩ := open_int_cell e0
  obtain ⟨y, rfl, b_y⟩ := open_int_cell e1
  exact ⟨x, y, rfl, bx, b_y⟩

set_option maxRecDepth 20000 in
theorem trod_point {n : Nat} {c0 c1 : Value} {x : DataW H × List MemPlace} (h : DataW.trod enc Tryd.prog W b sp held n 31 [c0, c1] = some x) :
    ∃ x y, c0 = .int .i64 x ∧ c1 = .int .i64 y ∧ (-9223372036854775808 ≤ x ∧ x ≤ 9223372036854775807) ∧ (-9223372036854775808 ≤ y ∧ y ≤ 9223372036854775807) := by
  obtain ⟨y0, y1, m, -, -, e0, e1⟩ := trod_struct2 Tryd.underlying31 h
  have c3 : Tryd.prog.cellsOf 3 = 1 := by kernel_rfl
  simp [c3] at e0 e1
  obtain ⟨x, rfl, bx⟩ := open_int_cell e0
  obtain ⟨y, rfl, b_y⟩ := open_int_cell e1
  exact ⟨x, y, rfl, rfl, bx, b_y⟩

set_option maxRecDepth 20000 in
theorem open_box (hv : Value.okWide Tryd.prog W .any base 33 v) (h : DataW.Trod enc Tryd.prog W b sp held 33 v d p) :
    ∃ a b c e, v = .agg #[.int .i64 a, .int .i64 b, .int .i64 c, .int .i64 e] ∧ ((-9223372036854775808 ≤ a ∧ a ≤ 9223372036854775807) ∧ (-9223372036854775808 ≤ b ∧ b ≤ 9223372036854775807)) ∧ (-9223372036854775808 ≤ c ∧ c ≤ 9223372036854775807) ∧ (-9223372036854775808 ≤ e ∧ e ≤ 9223372036854775807) := by
  obtain ⟨cs, rfl, hsz⟩ := okWide_struct Tryd.underlying33 hv
  obtain ⟨c0, c1, c2, c3, rfl⟩ := Go.Joins.array4 (hsz.trans (by kernel_rfl))
  obtain ⟨fuel, hf⟩ := h
  obtain ⟨y0, y1, m, -, -, e0, e1⟩ := trod_struct2 Tryd.underlying33 hf
  have c31 : Tryd.prog.cellsOf 31 = 2 := by kernel_rfl
  simp [c31, Value.cells] at e0 e1
  obtain ⟨x, y, rfl, rfl, bx, b_y⟩ := trod_point e0
  obtain ⟨x', y', rfl, rfl, bx', b_y'⟩ := trod_point e1
  exact ⟨x, y, x', y', rfl, ⟨bx, b_y⟩, bx', b_y'⟩

set_option maxRecDepth 20000 in
theorem open_int1 (hv : Value.okWide Tryd.prog W .any base 3 v) (h : DataW.Trod enc Tryd.prog W b sp held 3 v d p) : ∃ z, v = .int .i64 z ∧ -9223372036854775808 ≤ z ∧ z ≤ 9223372036854775807 := by
  obtain ⟨z, rfl, -, -, wz⟩ := open_int Tryd.underlying3 hv h
  exact ⟨z, rfl, (bounds_i64 wz).1, (bounds_i64 wz).2⟩

set_option maxRecDepth 20000 in
theorem open_str (hv : Value.okWide Tryd.prog W .any base 9 v) (h : DataW.Trod enc Tryd.prog W b sp held 9 v d p) : ∃ s, v = .string s := by
  obtain ⟨s, rfl, -⟩ := Go.ChangeMaps.open_string Tryd.underlying9 hv h
  exact ⟨s, rfl⟩
end
end Go.Proofs.YthggpflfjghooaaDoor

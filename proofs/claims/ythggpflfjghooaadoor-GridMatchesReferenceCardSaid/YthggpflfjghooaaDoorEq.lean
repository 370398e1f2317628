/- Tiles, boxes, points are equal exactly if their numbers are. -/
import Derived.Test.YthggpflfjghooaaDoorBase
import Derived.Laws.StructEq
namespace Go.Proofs.YthggpflfjghooaaDoor
open Go.RowKit Go.Sort

theorem tile_eql (a b c a' b' c' : Int) (w : World) : (binOp .eql 23 (.agg #[.int .i64 a, .int .i64 b, .int .i64 c]) (.agg #[.int .i64 a', .int .i64 b', .int .i64 c'])).run Tryd.prog w = .ok (.bool (decide (a = a' ∧ b = b' ∧ c = c'))) w := by
  rw [run_eql_struct, run_equalIn_struct (P := Tryd.prog) w 9999 23 _ _ (by kernel_rfl) (by kernel_rfl)]
  simp [go_sem, Program.fieldsOf, Tryd.underlying23, Tryd.underlying3]
  by_cases h0 : a = a' <;> by_cases h1 : b = b' <;> by_cases h2 : c = c' <;> simp [h0, h1, h2]

theorem point_in (d : Nat) (a b a' b' : Int) (w : World) : (Op.equalIn (d + 2) 31 (.agg #[.int .i64 a, .int .i64 b]) (.agg #[.int .i64 a', .int .i64 b'])).run Tryd.prog w = .ok (decide (a = a' ∧ b = b')) w := by
  rw [run_equalIn_struct (P := Tryd.prog) w (d + 1) 31 _ _ (by kernel_rfl) (by kernel_rfl)]
  simp [go_sem, Program.fieldsOf, Tryd.underlying31, Tryd.underlying3]
  by_cases h0 : a = a' <;> by_cases h1 : b = b' <;> simp [h0, h1]

theorem point_eql (a b a' b' : Int) (w : World) : (binOp .eql 31 (.agg #[.int .i64 a, .int .i64 b]) (.agg #[.int .i64 a', .int .i64 b'])).run Tryd.prog w = .ok (.bool (decide (a = a' ∧ b = b'))) w := by
  rw [run_eql_struct, point_in 9998]
  rfl

theorem box_eql (a b c d a' b' c' d' : Int) (w : World) : (binOp .eql 33 (.agg #[.int .i64 a, .int .i64 b, .int .i64 c, .int .i64 d]) (.agg #[.int .i64 a', .int .i64 b', .int .i64 c', .int .i64 d'])).run Tryd.prog w = .ok (.bool (decide (a = a' ∧ b = b' ∧ c = c' ∧ d = d'))) w := by
  rw [run_eql_struct, run_equalIn_struct (P := Tryd.prog) w 9999 33 _ _ (by kernel_rfl) (by kernel_rfl)]
  have hp : ∀ a b a' b' : Int, (Op.equalIn 9999 31 (.agg #[.int .i64 a, .int .i64 b]) (.agg #[.int .i64 a', .int .i64 b'])).run Tryd.prog w = .ok (decide (a = a' ∧ b = b')) w := fun a b a' b' => point_in 9997 a b a' b' w
  simp [go_sem, Program.fieldsOf, Tryd.underlying33, Tryd.underlying31, hp]
  by_cases h0 : a = a' <;> by_cases h1 : b = b' <;> by_cases h2 : c = c' <;> by_cases h3 : d = d' <;> simp [h0, h1, h2, h3]

theorem tile_yes {a b c a' b' c' : Int} (h : a = a' ∧ b = b' ∧ c = c') (w : World) : (binOp .eql 23 (.agg #[.int .i64 a, .int .i64 b, .int .i64 c]) (.agg #[.int .i64 a', .int .i64 b', .int .i64 c'])).run Tryd.prog w = .ok (.bool true) w := by
  rw [tile_eql, decide_eq_true h]
theorem tile_no {a b c a' b' c' : Int} (h : ¬(a = a' ∧ b = b' ∧ c = c')) (w : World) : (binOp .eql 23 (.agg #[.int .i64 a, .int .i64 b, .int .i64 c]) (.agg #[.int .i64 a', .int .i64 b', .int .i64 c'])).run Tryd.prog w = .ok (.bool false) w := by
  rw [tile_eql, decide_eq_false h]
theorem point_yes {a b a' b' : Int} (h : a = a' ∧ b = b') (w : World) : (binOp .eql 31 (.agg #[.int .i64 a, .int .i64 b]) (.agg #[.int .i64 a', .int .i64 b'])).run Tryd.prog w = .ok (.bool true) w := by
  rw [point_eql, decide_eq_true h]
end Go.Proofs.YthggpflfjghooaaDoor

/- The tiles between two, row by row: the range function and the list that is made of it. -/
import Derived.Test.YthggpflfjghooaaDoorB
import Derived.RangeFuncNested
import Derived.RangeFuncBound
import Derived.RangeFuncCalls
import Derived.RangeFuncLeaves
import Derived.RangeFuncBox
import Derived.Maps.AppendAt
import Derived.OwnWalkIn
import Derived.TacticsInMore
import Derived.LoopNIn
import Derived.LoopIn
namespace Go.Proofs.YthggpflfjghooaaDoor
open Go.RowKit Go.Sort
attribute [local go_sem] Oper.semAt_some

/-- Tile number i of a square that begins at (x0, y0) and has so many columns. -/
def tileAt (x0 y0 : Int) (cols i : Nat) : Int × Int := (x0 + ((i % cols : Nat) : Int), y0 + ((i / cols : Nat) : Int))
def upto (x0 y0 : Int) (cols n : Nat) : List (Int × Int) := (List.range n).map (tileAt x0 y0 cols)
theorem upto_succ (x0 y0 : Int) (cols n : Nat) : upto x0 y0 cols (n + 1) = upto x0 y0 cols n ++ [tileAt x0 y0 cols n] := by simp [upto, List.range_succ]
theorem upto_length (x0 y0 : Int) (cols n : Nat) : (upto x0 y0 cols n).length = n := by simp [upto]
/-- What lies below n₀, and two blocks more, lie as they lay. -/
structure Keep2 (n₀ b0 b1 : Nat) (W W' : World) : Prop where
  below : Below n₀ W W'
  k0 : W'.heap[b0]? = W.heap[b0]?
  k1 : W'.heap[b1]? = W.heap[b1]?
theorem Keep2.trans {n₀ b0 b1 : Nat} {A B C : World} (h : Keep2 n₀ b0 b1 A B) (k : Keep2 n₀ b0 b1 B C) : Keep2 n₀ b0 b1 A C := ⟨h.below.trans k.below, k.k0.trans h.k0, k.k1.trans h.k1⟩
theorem upto_prefix (x0 y0 : Int) (cols : Nat) {m n : Nat} (h : m ≤ n) : upto x0 y0 cols m <+: upto x0 y0 cols n := by
  obtain ⟨k, rfl⟩ := Nat.exists_eq_add_of_le h
  refine ⟨(List.range k).map (fun i => tileAt x0 y0 cols (m + i)), ?_⟩
  unfold upto
  rw [List.range_add, List.map_append, List.map_map]
  rfl
def encT (z : Int) (p : Int × Int) : Value := .agg #[.int .i64 z, .int .i64 p.1, .int .i64 p.2]

theorem tileAt_rc (x0 y0 : Int) (cols r c : Nat) (hc : c < cols) : tileAt x0 y0 cols (r * cols + c) = (x0 + c, y0 + r) := by
  have hp : 0 < cols := by omega
  have e1 : (r * cols + c) % cols = c := by rw [Nat.add_comm, Nat.add_mul_mod_self_right]; exact Nat.mod_eq_of_lt hc
  have e2 : (r * cols + c) / cols = r := by rw [Nat.add_comm, Nat.add_mul_div_right _ _ hp, Nat.div_eq_of_lt hc]; omega
  unfold tileAt
  rw [e1, e2]

set_option maxRecDepth 100000 in
set_option maxHeartbeats 1000000 in
theorem square1_in (F : Fence) (n : Nat) (hf : F.fn 61) (hro : F.round = none) (hn : 1 ≤ n) (l n₀ b0 b1 : Nat) (z x0 y0 z' : Int) (rows cols : Nat) (hr : 1 ≤ rows) (hcl : 1 ≤ cols)
    (hx : -2097152 ≤ x0 ∧ x0 + cols ≤ 2097152) (hy : -2097152 ≤ y0 ∧ y0 + rows ≤ 2097152) (J Jx : List (Int × Int) → World → Prop)
    (hY : ∀ pre x W, J pre W → pre.length < rows * cols → YieldAt F (n - 1) Tryd.prog l #[encT z x] W fun e W' =>
      (e = .returned (.bool true) ∧ J (pre ++ [x]) W' ∧ Keep2 n₀ b0 b1 W W') ∨ (e = .returned (.bool false) ∧ Jx (pre ++ [x]) W'))
    (W : World) (c0 : Box W b0 #[.int .i64 z, .int .i64 x0, .int .i64 y0] 23) (c1 : Box W b1 #[.int .i64 z', .int .i64 (x0 + cols - 1), .int .i64 (y0 + rows - 1)] 23) (h0 : J [] W) :
    CallsIn F n Tryd.prog 61 #[.func (.yield l) #[] #[], .pointer (some ⟨b0, 0, none⟩), .pointer (some ⟨b1, 0, none⟩)] W fun e W' => (∃ v, e = .returned v) ∧
      ((∃ ys, ys = upto x0 y0 cols (rows * cols) ∧ J ys W') ∨ (∃ pre, pre <+: upto x0 y0 cols (rows * cols) ∧ Jx pre W')) := by
  obtain ⟨hx1, hx2⟩ := hx
  obtain ⟨hy1, hy2⟩ := hy
  refine callsIn_of_wp Tryd.func61 rfl hf ?_ hro
  simp only [Tryd.ntmps61, List.size_toArray, List.length_cons, List.length_nil, Nat.reduceAdd, Nat.reduceSub, Array.replicate_succ, Array.replicate_zero, List.push_toArray, List.append_toArray, List.nil_append, List.cons_append]
  have r0 := c0.cell
  gi_wp2
  gi_loopw [4] (fun v wr => ∃ r : Nat, r ≤ rows ∧ v = .int .i64 (y0 + r) ∧ Box wr b0 #[.int .i64 z, .int .i64 x0, .int .i64 y0] 23 ∧ Box wr b1 #[.int .i64 z', .int .i64 (x0 + cols - 1), .int .i64 (y0 + rows - 1)] 23 ∧ J (upto x0 y0 cols (r * cols)) wr)
    (fun v _ => rows - (intOf v - y0).toNat)
  case atStart => exact ⟨0, by omega, by simp, c0, c1, by simpa [upto] using h0⟩
  case round =>
    clear r0 c0 c1 h0
    obtain ⟨r, hr1, rfl, c0, c1, hJ⟩ := hrel
    have r0 := c0.cell
    have r1 := c1.cell
    by_cases hlt : r < rows
    · have hd : y0 + (r : Int) ≤ y0 + rows - 1 := by omega
      gi_wp2
      obtain ⟨wo, rfl⟩ : ∃ wo : World, wo = wr := ⟨_, rfl⟩
      gi_loopw [5] (fun v wi => ∃ c : Nat, c ≤ cols ∧ v = .int .i64 (x0 + c) ∧ Box wi b0 #[.int .i64 z, .int .i64 x0, .int .i64 y0] 23 ∧ Box wi b1 #[.int .i64 z', .int .i64 (x0 + cols - 1), .int .i64 (y0 + rows - 1)] 23 ∧ J (upto x0 y0 cols (r * cols + c)) wi)
        (fun v _ => cols - (intOf v - x0).toNat)
      case atStart => exact ⟨0, by omega, by simp, c0, c1, hJ⟩
      case round =>
        clear r0 r1 c0 c1 hJ
        obtain ⟨c, hc1, rfl, c0, c1, hJ⟩ := hrel
        have r0 := c0.cell
        have r1 := c1.cell
        by_cases hlc : c < cols
        · have hlen : r * cols + c < rows * cols := by
            have : (r + 1) * cols ≤ rows * cols := Nat.mul_le_mul_right _ (by omega)
            rw [Nat.add_mul, Nat.one_mul] at this
            omega
          have e := upto_succ x0 y0 cols (r * cols + c)
          rw [tileAt_rc x0 y0 cols r c hlc] at e
          obtain ⟨fn, tmps, assign, body, hy, hR⟩ := hY _ (x0 + c, y0 + r) wr hJ (by rw [upto_length]; exact hlen)
          rw [← e] at hR
          have HE := Lib.hid e
          clear e
          unfold encT at hy
          dsimp only at hy
          clear r0 r1
          have r0 := c0.cell
          have r1 := c1.cell
          gi_wp2
          refine hR.mono ?_
          rintro e W3 (⟨rfl, hJ3, hk3⟩ | ⟨rfl, hJx3⟩)
          · replace c0 : Box W3 b0 _ _ := hk3.k0.trans c0
            replace c1 : Box W3 b1 _ _ := hk3.k1.trans c1
            clear r0 r1
            gi_wp2
            go_roundw
            case rel => exact ⟨c + 1, by omega, by go_num, c0, c1, hJ3⟩
            case measure => simp [intOf]; omega
          · gi_wp2
            refine bodyPost_ret (results_none rfl _ _ _) rfl ?_
            exact ⟨⟨_, rfl⟩, .inr ⟨_, upto_prefix _ _ _ (by omega), hJx3⟩⟩
        · obtain rfl : c = cols := by omega
          gi_wp2
          go_roundw
          case rel => exact ⟨r + 1, by omega, by go_num, c0, c1, by rw [Nat.add_mul, Nat.one_mul]; exact hJ⟩
          case measure => simp [intOf]; omega
    · obtain rfl : r = rows := by omega
      gi_wp2
      go_end0
      exact ⟨⟨_, rfl⟩, .inl ⟨_, rfl, hJ⟩⟩

/-- The range function hands over each tile of the square, in this order. -/
theorem square_stops (F : Fence) (n : Nat) (hf : F.fn 61) (hro : F.round = none) (hn : 1 ≤ n) (n₀ b0 b1 : Nat) (z x0 y0 z' : Int) (rows cols : Nat) (hr : 1 ≤ rows) (hcl : 1 ≤ cols)
    (hx : -2097152 ≤ x0 ∧ x0 + cols ≤ 2097152) (hy : -2097152 ≤ y0 ∧ y0 + rows ≤ 2097152) (w : World) (hb0 : b0 < w.heap.size) (hb1 : b1 < w.heap.size)
    (c0 : Box w b0 #[.int .i64 z, .int .i64 x0, .int .i64 y0] 23) (c1 : Box w b1 #[.int .i64 z', .int .i64 (x0 + cols - 1), .int .i64 (y0 + rows - 1)] 23) :
    SeqStopsK F n Tryd.prog 61 #[.pointer (some ⟨b0, 0, none⟩), .pointer (some ⟨b1, 0, none⟩)] (fun x : Int × Int => #[encT z x]) (Keep2 n₀ b0 b1) (fun ys => ys = upto x0 y0 cols (rows * cols)) (fun pre => pre <+: upto x0 y0 cols (rows * cols)) (rows * cols) w :=
  fun l J Jx W hW _ _ hY h0 => square1_in F n hf hro hn l n₀ b0 b1 z x0 y0 z' rows cols hr hcl hx hy J Jx hY W (c0.below hW hb0) (c1.below hW hb1) h0


set_option maxHeartbeats 1000000 in
theorem square_in (F : Fence) (n : Nat) (hf : F.fn 50) (hro : F.round = none) (t0 t1 u0 u1 v0 v1 : Int) (w : World) : CallsIn F n Tryd.prog 50 #[.agg #[.int .i64 t0, .int .i64 u0, .int .i64 v0], .agg #[.int .i64 t1, .int .i64 u1, .int .i64 v1]] w fun e w' =>
    e = .returned (.func (.func 61) #[] #[.pointer (some ⟨w.heap.size, 0, none⟩), .pointer (some ⟨w.heap.size + 1, 0, none⟩)]) ∧
    w' = (w.alloc (.cells #[.int .i64 t0, .int .i64 u0, .int .i64 v0] 23)).alloc (.cells #[.int .i64 t1, .int .i64 u1, .int .i64 v1] 23) := by
  refine callsIn_of_wp Tryd.func50 rfl hf ?_ hro
  simp only [Tryd.ntmps50, List.size_toArray, List.length_cons, List.length_nil, Nat.reduceAdd, Nat.reduceSub, Array.replicate_succ, Array.replicate_zero, List.push_toArray, List.append_toArray, List.nil_append, List.cons_append]
  gi_wp2
  go_ret
  exact ⟨rfl, rfl⟩
end Go.Proofs.YthggpflfjghooaaDoor

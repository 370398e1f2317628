/- The list of the tiles between two. -/
import Derived.Test.YthggpflfjghooaaDoorRange
import Derived.Deep.AppendLies
import Derived.Shelf.Abstract
namespace Go.Proofs.YthggpflfjghooaaDoor
open Go.RowKit Go.Sort Go.Shelf
attribute [local go_sem] Oper.semAt_some

theorem infoTile : (Tryd.prog.info? 23).map (fun i => (i.zero, i.size, i.bytes)) = some (some (.agg #[.int .i64 0, .int .i64 0, .int .i64 0]), 3, 24) := by kernel_rfl

theorem Box.own {X Y : World} {b : Nat} {cs : Array Value} {t : TypeId} {row : Option Nat} (h : Box X b cs t) (hg : X.grownBy Y row) (hr : ∀ r, row = some r → ∃ o, X.heap[r]? = some o ∧ o.isCells = false) : Box Y b cs t := by
  refine (hg.block b h.lt fun e => ?_).trans h
  obtain ⟨o, ho, hc⟩ := hr b e.symm
  unfold Box at h
  rw [h] at ho
  cases ho
  cases hc

/-- The cells of a list of tiles. -/
def cellsT (z : Int) (l : List (Int × Int)) : List Value := l.flatMap fun p => [.int .i64 z, .int .i64 p.1, .int .i64 p.2]
theorem cellsT_snoc (z : Int) (l : List (Int × Int)) (p : Int × Int) : cellsT z (l ++ [p]) = cellsT z l ++ [.int .i64 z, .int .i64 p.1, .int .i64 p.2] := by simp [cellsT]

/-- What is owned from a block on is owned from any lesser one on. -/
theorem ownsRow_base {w : World} {B B' : Nat} {e : TypeId} {size : Nat} {v : Value} {n : Nat} {xs : List Value} (h : w.ownsRow B e size v n xs) (hB : B' ≤ B) : w.ownsRow B' e size v n xs := by
  refine ⟨h.1, ?_⟩
  rcases h.2 with hn | ⟨g, cap, cur, hv, hg, r⟩
  · exact .inl hn
  · exact .inr ⟨g, cap, cur, hv, by omega, r⟩

theorem ownsRow_alloc {w : World} {B : Nat} {e : TypeId} {size : Nat} {v : Value} {n : Nat} {xs : List Value} (h : w.ownsRow B e size v n xs) (o : Obj) : (w.alloc o).ownsRow B e size v n xs := h.alloc o
theorem keep2_put {n₀ b0 b1 : Nat} {w : World} (hn : n₀ ≤ w.heap.size) (h0 : b0 < w.heap.size) (h1 : b1 < w.heap.size) : ∀ (W : World) (l : Nat) (o o' : Obj), w.heap.size ≤ l → W.heap[l]? = some o → o.isCells = false → o.isWalk = false → Keep2 n₀ b0 b1 W (W.putObj l o') :=
  fun W l o o' hl ho hc hw => by
    have hlt := (Array.getElem?_eq_some_iff.1 ho).1
    exact ⟨belowK_b hn W l o o' hl ho hc hw, (grownBy_putObj' W l o').block b0 (by omega) (by simp; omega), (grownBy_putObj' W l o').block b1 (by omega) (by simp; omega)⟩
/-- A block below the base of an owned row, behind an append to it. -/
theorem ownsRow_far {W w1 : World} {B : Nat} {e : TypeId} {size : Nat} {v : Value} {n : Nat} {xs : List Value} {tmp : Obj} (h : W.ownsRow B e size v n xs) (hg : (W.alloc tmp).grownBy w1 v.ownBlock) {b : Nat} (hb : b < B) (hB : B ≤ W.heap.size) : w1.heap[b]? = W.heap[b]? := by
  refine (hg.block b (by simp; omega) fun e' => ?_).trans (Below.heap_alloc _ _ _ (by omega))
  have := (h.lt b e'.symm).1
  omega

set_option maxRecDepth 100000 in
set_option maxHeartbeats 4000000 in
theorem all_in (F : Fence) (n : Nat) (f1 : F.fn 38) (f2 : F.fn 50) (f3 : F.fn 61) (hro : F.round = none) (hn : 6 ≤ n) (z x0 y0 z' : Int) (rows cols : Nat) (hr : 1 ≤ rows) (hcl : 1 ≤ cols) (hx : -2097152 ≤ x0 ∧ x0 + cols ≤ 2097152) (hy : -2097152 ≤ y0 ∧ y0 + rows ≤ 2097152) (hN : rows * cols ≤ 1000000) (w : World) :
    CallsIn F n Tryd.prog 38 #[.agg #[.int .i64 z, .int .i64 x0, .int .i64 y0], .agg #[.int .i64 z', .int .i64 (x0 + cols - 1), .int .i64 (y0 + rows - 1)]] w fun e W' =>
      ∃ v, e = .returned v ∧ W'.ownsRow w.heap.size 23 3 v (rows * cols) (cellsT z (upto x0 y0 cols (rows * cols))) ∧ Below w.heap.size w W' := by
  obtain ⟨i0, hi, hz0, hz1, hz2⟩ := info_parts infoTile
  have h1 : 1 ≤ n := by omega
  refine callsIn_of_wp_marks Tryd.func38 rfl f1 ?_ hro
  simp only [Tryd.ntmps38, List.size_toArray, List.length_cons, List.length_nil, Nat.reduceAdd, Nat.reduceSub, Array.replicate_succ, Array.replicate_zero, List.push_toArray, List.append_toArray, List.nil_append, List.cons_append]
  gi_wp2_with (gi_at_call 50; refine (square_in F (n - 1) f2 hro _ _ _ _ _ _ _).mono ?_; rintro e w' ⟨rfl, rfl⟩)
  skip
  obtain ⟨W0, hB0, bO, c0, c1, hsz, hW0⟩ : ∃ W0, Below w.heap.size w W0 ∧ Boxed W0 (w.heap.size + 1 + 1) 45 (.slice none 0 0) ∧ Box W0 (w.heap.size + 1 + 1 + 1) #[.int .i64 z, .int .i64 x0, .int .i64 y0] 23 ∧
      Box W0 (w.heap.size + 1 + 1 + 1 + 1) #[.int .i64 z', .int .i64 (x0 + cols - 1), .int .i64 (y0 + rows - 1)] 23 ∧ W0.heap.size = w.heap.size + 5 ∧
      ((((w.alloc (.cells #[.int .i64 z, .int .i64 x0, .int .i64 y0] 23)).alloc (.cells #[.int .i64 z', .int .i64 (x0 + cols - 1), .int .i64 (y0 + rows - 1)] 23)).alloc (.cells #[.slice none 0 0] 45)).alloc (.cells #[.int .i64 z, .int .i64 x0, .int .i64 y0] 23)).alloc
        (.cells #[.int .i64 z', .int .i64 (x0 + cols - 1), .int .i64 (y0 + rows - 1)] 23) = W0 :=
    ⟨_, (by repeat (first | assumption | exact Below.refl _ _ | refine Below.setCell ?_ (by first | (simp; done) | (simp; omega) | omega) _ | refine Below.alloc ?_ (by first | (simp; done) | (simp; omega) | omega) _)), ((Box.new' (by simp) _ _).alloc _).alloc _, (Box.new' (by simp) _ _).alloc _, Box.new' (by simp) _ _, by simp, rfl⟩
  rw [hW0]
  clear hW0
  refine wpIn_rangeFunc_ownH hro h1 (gf := 61) (lb := #[.pointer (some ⟨w.heap.size + 1 + 1 + 1, 0, none⟩), .pointer (some ⟨w.heap.size + 1 + 1 + 1 + 1, 0, none⟩)]) rfl f3 (enters_of Tryd.func61 (by kernel_rfl) rfl)
    (square_stops F (n - 1) f3 hro (by omega) w.heap.size (w.heap.size + 1 + 1 + 1) (w.heap.size + 1 + 1 + 1 + 1) z x0 y0 z' rows cols hr hcl hx hy W0 (by omega) (by omega) c0 c1) Keep2.trans (keep2_put (by omega) (by omega) (by omega)) (Below.refl _ _) (fun _ => rfl)
    (fun pre W => ((∃ v, Boxed W (w.heap.size + 1 + 1) 45 v ∧ W.ownsRow W0.heap.size 23 3 v pre.length (cellsT z pre) ∧ True) ∧ Below w.heap.size w W) ∧ W0.heap.size ≤ W.heap.size)
    (fun _ _ _ => False)
    ?hI
    (fun _ _ _ _ _ hs _ _ => hs)
    ⟨⟨⟨_, bO, World.ownsRow_nil _ _ _ _, trivial⟩, hB0⟩, Nat.le_refl _⟩
    (fun x a' W => ∃ Bx, W0.heap.size ≤ Bx ∧ Box W Bx #[.int .i64 z, .int .i64 x.1, .int .i64 x.2] 23 ∧ a' = { tmps := #[.agg #[.int .i64 z, .int .i64 x0, .int .i64 y0], .agg #[.int .i64 z', .int .i64 (x0 + cols - 1), .int .i64 (y0 + rows - 1)], .pointer (some ⟨w.heap.size, 0, none⟩), .pointer (some ⟨w.heap.size + 1, 0, none⟩), .slice none 0 0, .pointer (some ⟨w.heap.size + 1 + 1, 0, none⟩), .pointer (some ⟨Bx, 0, none⟩), .agg #[.int .i64 z, .int .i64 x0, .int .i64 y0], .agg #[.int .i64 z', .int .i64 (x0 + cols - 1), .int .i64 (y0 + rows - 1)], .func (.func 61) #[] #[.pointer (some ⟨w.heap.size + 1 + 1 + 1, 0, none⟩), .pointer (some ⟨w.heap.size + 1 + 1 + 1 + 1, 0, none⟩)], (.agg #[.int .i64 z, .int .i64 x.1, .int .i64 x.2]), undef, undef, undef, undef, undef], defers := [] })
    (fun x a' _ X Y row hs hg hr => by obtain ⟨Bx, h1, h2, h3⟩ := hs; exact ⟨Bx, h1, h2.own hg (fun r e => (hr r e).2), h3⟩)
    ?assign ?body ?done ?stop
  case hI =>
    refine OwnFrom.and (OwnFrom.and (Own.from (holdsRow_own W0.heap.size (w.heap.size + 1 + 1) 45 23 3 (fun pre => pre.length) (fun pre => cellsT z pre) (fun _ _ => True)) _) (ownFrom_below (Nat.le_refl _) (by omega))) ?_
    intro s X Y row hs hg hr
    exact Nat.le_trans hs hg.size
  case assign =>
    rintro l pre x W K ⟨⟨⟨v, hv, hrow, _⟩, hB⟩, hsz⟩ hK
    unfold encT
    gi_wp2
    exact hK _ _ ((KeepsOthers.alloc _ _).from _) ⟨(Below.refl _ W).alloc hB.size _, Below.heap_alloc _ _ _ (by omega), Below.heap_alloc _ _ _ (by omega)⟩ ⟨⟨⟨v, hv.alloc _, hrow.alloc _, trivial⟩, hB.alloc hB.size _⟩, by simp; omega⟩ ⟨W.heap.size, hsz, Box.new _ _ _, rfl⟩
  case body =>
    rintro l pre x a' W hl ⟨r, hr⟩ ⟨⟨⟨v, hv, hrow, _⟩, hB⟩, hsz⟩ ⟨Bx, hBx, bX, rfl⟩ hlt
    have cX := bX.cell
    have cv := hv.cell
    gi_wp2_with (gi_at_builtin; refine halted ?_)
    refine Halted.on ?_
    refine wpListIn_append_own _ rfl _ _ 45 rfl W0.heap.size 23 i0 (.agg #[.int .i64 0, .int .i64 0, .int .i64 0]) 3 24 Tryd.underlying45 hi hz0 hz1 hz2 rfl (by decide) v pre.length (cellsT z pre) ?c0 (ownsRow_alloc hrow _) ⟨W.heap.size, 0, none⟩ 1 1 [.int .i64 z, .int .i64 x.1, .int .i64 x.2] ?d1 ?d2 ?c1 ?c2 ?c3 ?c4 ?c5 ?_
    case c0 => rfl
    case d1 => rfl
    case d2 => rfl
    case c1 => exact (World.news_of_block (cs := #[.int .i64 z, .int .i64 x.1, .int .i64 x.2]) (t := 23) (fr := (0, 0)) (heap_alloc_new W _))
    case c2 => simp [Value.oneCell']
    case c3 => unfold maxLen; omega
    case c4 => omega
    case c5 => simp; omega
    intro v' w1 hown' hgrow _
    obtain ⟨g', cap', rfl⟩ := ownsRow_succ hown'
    obtain ⟨hv1, hv2, hr2, hk2, hb2⟩ := hv.appended (n₀ := w.heap.size) (by decide) (ownsRow_base hrow hB0.size) hB.size (by omega) (ownsRow_base hown' hB0.size) hgrow
    have hk0 := ownsRow_far hrow hgrow (b := w.heap.size + 1 + 1 + 1) (by omega) (by omega)
    have hk1 := ownsRow_far hrow hgrow (b := w.heap.size + 1 + 1 + 1 + 1) (by omega) (by omega)
    have hc1 := hv1.cell
    have hf1 := hv1.frozen
    have hg' := (hown'.lt g' rfl).1
    gi_wp2
    refine ⟨hk2.from _, ⟨hb2, (Below.heap_setCell w1 _ _ _ (by show _ ≠ _; dsimp only; omega)).trans hk0, (Below.heap_setCell w1 _ _ _ (by show _ ≠ _; dsimp only; omega)).trans hk1⟩, ⟨⟨_, hv2, ?_, trivial⟩, hB.trans hb2⟩, Nat.le_trans hsz hb2.size⟩
    have := hown'.kept (grownBy_setCell' w1 (w.heap.size + 1 + 1) (.slice (some ⟨g', 0, none⟩) (pre.length + 1) cap')) (.inr (by simp [Value.ownBlock]; omega))
    rw [cellsT_snoc]
    simpa using this
  case done =>
    rintro D ys W hD rfl ⟨⟨⟨v, hv, hrow, _⟩, hB⟩, hsz⟩ hK
    have hc := hv.cell
    gi_wp2
    refine ⟨by simp, .inl ⟨_, _, rfl, run_takeDeferred hK, ?_⟩⟩
    refine ⟨_, results_tmp rfl _ _ _, v, rfl, ?_, hB.trans (belowK_b (w := W0) hB0.size W D _ _ hD hK rfl rfl)⟩
    have := ownsRow_putObj hrow (.deferred none) hK rfl
    rw [upto_length] at this
    exact ownsRow_base this hB0.size
  case stop =>
    rintro D c pre W _ _ h _
    exact h.elim

theorem all_any (z x0 y0 z' : Int) (rows cols : Nat) (hr : 1 ≤ rows) (hcl : 1 ≤ cols) (hx : -2097152 ≤ x0 ∧ x0 + cols ≤ 2097152) (hy : -2097152 ≤ y0 ∧ y0 + rows ≤ 2097152) (hN : rows * cols ≤ 1000000) (w : World) :
    Calls Tryd.prog 38 #[.agg #[.int .i64 z, .int .i64 x0, .int .i64 y0], .agg #[.int .i64 z', .int .i64 (x0 + cols - 1), .int .i64 (y0 + rows - 1)]] w fun e W' =>
      ∃ v, e = .returned v ∧ W'.ownsRow w.heap.size 23 3 v (rows * cols) (cellsT z (upto x0 y0 cols (rows * cols))) ∧ Below w.heap.size w W' :=
  (callsIn_wide (n := 6)).1 (all_in Fence.wide 6 trivial trivial trivial rfl (Nat.le_refl _) z x0 y0 z' rows cols hr hcl hx hy hN w)
end Go.Proofs.YthggpflfjghooaaDoor

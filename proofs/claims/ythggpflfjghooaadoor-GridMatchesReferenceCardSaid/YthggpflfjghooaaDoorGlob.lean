/- What the library's variables hold, and Itoa, Atoi, Split by their contracts. -/
import Derived.Test.YthggpflfjghooaaDoorBase
import Derived.Test.YthggpflfjghooaaDoorShelf
import Derived.Test.YthggpflfjghooaaDoorPure
namespace Go.Proofs.YthggpflfjghooaaDoor
open Go.RowKit Go.Sort

/-- What this seat's library functions read: a number, a table, two errors. -/
structure Gw (w : World) : Prop where
  size : 8 ≤ w.heap.size
  max : ∃ m, w.cell? ⟨3, 0, none⟩ = some (.int .i64 m)
  tab : Lib.TabIs Tryd.prog w "internal/strconv.uint64pow10" .u64 Lib.pow10Tab
  syn : ∃ tp p, w.var? Tryd.prog "strconv.ErrSyntax" = some #[.iface tp p]
  rng : ∃ tp p, w.var? Tryd.prog "strconv.ErrRange" = some #[.iface tp p]

theorem Gw.below {w w' : World} {B : Nat} (h : Gw w) (hb : Below B w w') (hB : 8 ≤ B) : Gw w' := by
  obtain ⟨hs, ⟨m, hm⟩, ht, ⟨t1, p1, h1⟩, ⟨t2, p2, h2⟩⟩ := h
  refine ⟨Nat.le_trans hs hb.size, ⟨m, (hb.cell (p := ⟨3, 0, none⟩) (by show 3 < B; omega)).trans hm⟩, ?_, ⟨t1, p1, ?_⟩, ⟨t2, p2, ?_⟩⟩
  · exact var?_below hb (g := 2) (by kernel_rfl) (by omega) ht
  · exact var?_below hb (g := 0) (by kernel_rfl) (by omega) h1
  · exact var?_below hb (g := 1) (by kernel_rfl) (by omega) h2

/-- A text's value. -/
def strV (l : List UInt8) : Value := .string ⟨l.toArray⟩

theorem below_grow (w : World) (k : Nat) (os : Array Obj) : Below w.heap.size w (grow (w.drewN k) os) :=
  ⟨rfl, rfl, rfl, by simp [grow], fun j hj => by simp [grow, Array.getElem?_append, hj]⟩

theorem itoa_any (n : Int) (h0 : -9223372036854775808 ≤ n) (h1 : n ≤ 9223372036854775807) (w : World) (hG : Gw w) : Calls Tryd.prog 30 #[.int .i64 n] w (RetB w (strV (Lib.itoa n))) :=
  (Tryd.strconv_Itoa n h0 h1 w hG.tab).mono fun e w' ⟨he, k, os, hw⟩ => ⟨he, by rw [hw]; exact below_grow w k os⟩

theorem freeze_block (w : World) (a : Addr) (n k : Nat) (h : k ≠ a.block) : (w.freeze a n).heap[k]? = w.heap[k]? := by
  unfold World.freeze
  split
  · rfl
  · simp only [Array.getElem?_modify]
    rw [if_neg (Ne.symm h)]
theorem freeze_rest (w : World) (a : Addr) (n : Nat) : (w.freeze a n).heap.size = w.heap.size ∧ (w.freeze a n).os = w.os ∧ (w.freeze a n).tape = w.tape ∧ (w.freeze a n).output = w.output := by
  unfold World.freeze
  split <;> simp
theorem bytesWorld_below (w : World) (e : TypeId) (s : ByteArray) : Below w.heap.size w (Lib.bytesWorld w e s) := by
  unfold Lib.bytesWorld
  obtain ⟨h1, h2, h3, h4⟩ := freeze_rest (w.drew.alloc (.cells (Lib.bytesCells w e s) e)) ⟨w.heap.size, (Lib.bytesCells w e s).size, none⟩ 1
  have hb : Below w.heap.size w (w.drew.alloc (.cells (Lib.bytesCells w e s) e)) := (Below.refl _ w).drew.alloc (Nat.le_refl _) _
  exact ⟨h2.trans hb.os, h3.trans hb.tape, h4.trans hb.output, by rw [h1]; exact hb.size, fun k hk => (freeze_block _ _ _ _ (by show k ≠ w.heap.size; omega)).trans (hb.block k hk)⟩

/-- Atoi: a number and no error, or an error. -/
theorem atoi_any (s : ByteArray) (hs : s.size ≤ 281474976710656) (w : World) (hG : Gw w) : Calls Tryd.prog 33 #[.string s] w fun e w' =>
    Below w.heap.size w w' ∧ (e = .returned (.tuple #[.int .i64 (numF s.data.toList), .nilIface]) ∨ (numF s.data.toList = -1 ∧ ∃ v N, e = .returned (.tuple #[.int .i64 v, .iface 84 (.pointer (some ⟨N, 0, none⟩))]))) := by
  cases h : Lib.atoiAll s.data.toList with
  | ok v =>
    refine (Tryd.strconv_Atoi_ok s (by omega) v h w).mono ?_
    rintro e w' ⟨he, hw⟩
    have hn : numF s.data.toList = v := by unfold numF; rw [h]
    refine ⟨?_, .inl (by rw [he, hn])⟩
    rcases hw with rfl | ⟨t, rfl⟩
    · exact Below.refl _ _
    · exact bytesWorld_below w 5 t
  | range =>
    have hn : numF s.data.toList = -1 := by unfold numF; rw [h]
    obtain ⟨tp, p, hp⟩ := hG.rng
    refine (Tryd.strconv_Atoi_range_var s hs h tp p w hp).mono ?_
    rintro e w' ⟨N, he, _, _, hb⟩
    exact ⟨hb, .inr ⟨hn, _, N, he⟩⟩
  | _ =>
    have hn : numF s.data.toList = -1 := by unfold numF; rw [h]
    obtain ⟨tp, p, hp⟩ := hG.syn
    refine (Tryd.strconv_Atoi_syntax_var s hs h tp p w hp).mono ?_
    rintro e w' ⟨N, he, _, _, hb⟩
    exact ⟨hb, .inr ⟨hn, _, N, he⟩⟩
end Go.Proofs.YthggpflfjghooaaDoor

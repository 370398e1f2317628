/- Parse of package grid. -/
import Derived.Test.YthggpflfjghooaaDoorText
namespace Go.Proofs.YthggpflfjghooaaDoor
open Go.RowKit Go.Sort

/-- Behind the call: the blocks that were there, but b, lie as they lay. -/
structure BelowBut (b : Nat) (w w' : World) : Prop where
  os : w'.os = w.os
  tape : w'.tape = w.tape
  output : w'.output = w.output
  size : w.heap.size ≤ w'.heap.size
  block : ∀ k, k < w.heap.size → k ≠ b → w'.heap[k]? = w.heap[k]?
theorem BelowBut.below {b B : Nat} {w w' : World} (h : BelowBut b w w') (hb : B ≤ b) (hs : B ≤ w.heap.size) : Below B w w' := ⟨h.os, h.tape, h.output, h.size, fun k hk => h.block k (by omega) (by omega)⟩
theorem BelowBut.of_below {b : Nat} {w w' : World} (h : Below w.heap.size w w') : BelowBut b w w' := ⟨h.os, h.tape, h.output, h.size, fun k hk _ => h.block k hk⟩
theorem BelowBut.trans {b : Nat} {x y z : World} (h : BelowBut b x y) (k : BelowBut b y z) : BelowBut b x z :=
  ⟨k.os.trans h.os, k.tape.trans h.tape, k.output.trans h.output, Nat.le_trans h.size k.size, fun i hi hn => (k.block i (Nat.lt_of_lt_of_le hi h.size) hn).trans (h.block i hi hn)⟩
theorem BelowBut.set {b : Nat} {w w' : World} (h : BelowBut b w w') (o : Nat) (v : Value) : BelowBut b w (w'.setCell ⟨b, o, none⟩ v) :=
  ⟨h.os, h.tape, h.output, by simpa [World.setCell] using h.size, fun k hk hn => (Below.heap_setCell _ _ _ _ hn).trans (h.block k hk hn)⟩
theorem Box.but {w w' : World} {b k : Nat} {cs : Array Value} {t : TypeId} (h : Box w k cs t) (hb : BelowBut b w w') (hn : k ≠ b) : Box w' k cs t := (hb.block k h.lt hn).trans h

/-- v is a part of the row of texts in block g: just ws. -/
def Words (w : World) (g : Nat) (v : Value) (ws : List ByteArray) : Prop :=
  ∃ o cap, v = .slice (some ⟨g, o, none⟩) ws.length cap ∧ ws.length ≤ cap ∧ cap ≤ 4611686018427387904 ∧ ∀ i, i < ws.length → w.cell? ⟨g, o + i, none⟩ = (ws[i]?).map Value.string
theorem Words.kept {w w' : World} {g : Nat} {v : Value} {ws : List ByteArray} (h : Words w g v ws) (e : w'.heap[g]? = w.heap[g]?) : Words w' g v ws := by
  obtain ⟨o, cap, h1, h2, h3, h4⟩ := h
  exact ⟨o, cap, h1, h2, h3, fun i hi => (World.cell?_of_block (w := w) e).trans (h4 i hi)⟩

set_option maxHeartbeats 1000000 in
theorem number_any (w : World) (b g : Nat) (v : Value) (ws : List ByteArray) (hG : Gw w) (hb8 : 8 ≤ b) (hgb : g ≠ b) (hgw : g < w.heap.size) (hv : Box w b #[v] 55) (hw : Words w g v ws) (hs : ∀ s, s ∈ ws → s.size ≤ 281474976710656) :
    Calls Tryd.prog 32 #[.pointer (some ⟨b, 0, none⟩)] w fun e w' => e = .returned (.int .i64 (numH ws)) ∧ ∃ v', Box w' b #[v'] 55 ∧ Words w' g v' ws.tail ∧ BelowBut b w w' := by
  obtain ⟨o, cap, rfl, hc, hcap, hcell⟩ := hw
  have r0 := hv.cell
  have f0 := hv.frozen
  cases ws with
  | nil =>
    go_enter Tryd.func32, Tryd.ntmps32
    go_wp2
    go_ret
    exact ⟨rfl, _, hv, ⟨o, cap, rfl, hc, hcap, hcell⟩, .of_below (Below.refl _ _)⟩
  | cons s ws =>
    have h0 := hcell 0 (by simp)
    simp only [List.getElem?_cons_zero, Option.map_some, Nat.add_zero] at h0
    have hlen : (((s :: ws).length : Nat) : Int) = (ws.length : Int) + 1 := by simp
    go_enter Tryd.func32, Tryd.ntmps32
    go_wp2_with fail
    refine (atoi_any s (hs s (by simp)) w hG).mono ?_
    rintro e w1 ⟨hb1, he⟩
    have hv1 := hv.below hb1 hv.lt
    have hk1 : w1.heap[g]? = w.heap[g]? := hb1.block g hgw
    have r1 := hv1.cell
    have f1 := hv1.frozen
    clear r0 f0 h0
    have H4 := Lib.hid hcell
    clear hcell hlen
    have hbut : ∀ u, BelowBut b w (w1.setCell ⟨b, 0, none⟩ u) := fun u => (BelowBut.of_below hb1).set 0 u
    have hg1 : ∀ u, (w1.setCell ⟨b, 0, none⟩ u).heap[g]? = w.heap[g]? := fun u => (Below.heap_setCell _ _ _ _ hgb).trans hk1
    by_cases hc1 : cap = 1
    · subst hc1
      have e0 : ws = [] := List.length_eq_zero_iff.1 (by simp only [List.length_cons] at hc; omega)
      subst e0
      rcases he with rfl | ⟨hn, v, N, rfl⟩
      · go_wp2
        go_ret
        exact ⟨rfl, _, hv1.set 0 _, ⟨o, 0, rfl, by simp, by omega, fun i hi => by simp at hi⟩, hbut _⟩
      · have HN := Lib.hid hn
        clear hn
        go_wp2
        go_ret
        exact ⟨ret_int HN.out.symm, _, hv1.set 0 _, ⟨o, 0, rfl, by simp, by omega, fun i hi => by simp at hi⟩, hbut _⟩
    · have hw2 : ∀ u, Words (w1.setCell ⟨b, 0, none⟩ u) g (.slice (some ⟨g, o + 1, none⟩) ws.length (cap - 1)) ws := fun u => by
        simp only [List.length_cons] at hc
        refine ⟨o + 1, cap - 1, rfl, by omega, by omega, fun i hi => ?_⟩
        have h1 := H4.out (i + 1) (by simp; omega)
        rw [World.cell?_of_block (w := w) (a := ⟨g, o + 1 + i, none⟩) (hg1 u)]
        have e : o + 1 + i = o + (i + 1) := by omega
        rw [e, h1]
        simp
      rcases he with rfl | ⟨hn, v, N, rfl⟩
      · go_wp2
        go_ret
        exact ⟨rfl, _, hv1.set 0 _, hw2 _, hbut _⟩
      · have HN := Lib.hid hn
        clear hn
        go_wp2
        go_ret
        exact ⟨ret_int HN.out.symm, _, hv1.set 0 _, hw2 _, hbut _⟩

theorem splitB_size (sep : ByteArray) : ∀ (k : Nat) (s : ByteArray) (u : ByteArray), u ∈ Lib.splitB sep 0 k s → u.size ≤ s.size
  | 0, s, u, h => by
    simp only [Lib.splitB, List.mem_singleton] at h
    rw [h]
    exact Nat.le_refl _
  | k + 1, s, u, h => by
    unfold Lib.splitB at h
    split at h
    · simp only [List.mem_singleton] at h
      rw [h]
      exact Nat.le_refl _
    · rcases List.mem_cons.1 h with h | h
      · rw [h]
        simp only [ByteArray.size_extract]
        omega
      · have := splitB_size sep k _ u h
        simp only [ByteArray.size_extract] at this
        omega
theorem pieces_size (text u : ByteArray) (h : u ∈ piecesF text) : u.size ≤ text.size := splitB_size _ _ _ _ h
theorem pieces_length (text : ByteArray) : (piecesF text).length = Lib.countB text ⟨#[47]⟩ + 1 := Lib.splitB_all ⟨#[47]⟩ (by decide) 0 _ text rfl
set_option maxHeartbeats 1000000 in
theorem parse_any (text : ByteArray) (w : World) (hG : Gw w) (hs : text.size ≤ 1000000) : Calls Tryd.prog 11 #[.string text] w (RetB w (parseF text).v) := by
  obtain ⟨m, hm⟩ := hG.max
  have l0 := hG.size
  go_enter Tryd.func11, Tryd.ntmps11
  go_wp2_with fail
  refine (Tryd.strings_Split text ⟨#[47]⟩ m _ (by omega) ?hm (by decide)).mono ?_
  case hm => exact ((Below.refl w.heap.size w).alloc (Nat.le_refl _) _).cell (p := ⟨3, 0, none⟩) (by show 3 < w.heap.size; omega) ▸ hm
  rintro e w1 ⟨rfl, rfl⟩
  go_wp2_with fail
  have HP := Lib.hid (pieces_length text)
  have HZ : ∀ s, s ∈ piecesF text → s.size ≤ 281474976710656 := fun s h => Nat.le_trans (pieces_size text s h) (by omega)
  have HC : Lib.countB text ⟨#[47]⟩ ≤ text.size := Lib.countB_le ⟨#[47]⟩ (by decide) _ text (Nat.le_refl _)
  refine calls_abs (fun W => Below w.heap.size w W ∧ Box W w.heap.size #[.int .i64 0, .int .i64 0, .int .i64 0] 23 ∧ w.heap.size + 1 < W.heap.size ∧ ∃ v, Words W (w.heap.size + 1) v (piecesF text) ∧ Box W (w.heap.size + 1 + 1) #[v] 55)
    ⟨(by repeat (first | assumption | exact Below.refl _ _ | refine Below.setCell ?_ (by first | (simp; done) | (simp; omega) | omega) _ | refine Below.alloc ?_ (by first | (simp; done) | (simp; omega) | omega) _)), ((Box.new _ _ _).alloc _).alloc _, by simp, _, ?hw, Box.new' (by simp) _ _⟩ ?_
  case hw =>
    refine ⟨0, Lib.countB text ⟨#[47]⟩ + 1, by rw [HP.out], by rw [HP.out]; exact Nat.le_refl _, by omega, fun i hi => ?_⟩
    have hb : Box (((w.alloc (.cells #[.int .i64 0, .int .i64 0, .int .i64 0] 23)).alloc (.cells ((piecesF text).map Value.string).toArray 9)).alloc (.cells #[.slice (some ⟨w.heap.size + 1, 0, none⟩) (Lib.countB text ⟨#[47]⟩ + 1) (Lib.countB text ⟨#[47]⟩ + 1)] 55)) (w.heap.size + 1) ((piecesF text).map Value.string).toArray 9 := (Box.new' (by simp) _ _).alloc _
    have := hb.cell (0 + i)
    rw [List.getElem?_toArray, List.getElem?_map, Nat.zero_add] at this
    rw [Nat.zero_add]
    exact this
  clear HC
  rintro W ⟨hW, b0, hg1, v, hw, bv⟩
  have hG1 := hG.below hW l0
  refine (number_any W (w.heap.size + 1 + 1) (w.heap.size + 1) v (piecesF text) hG1 (by omega) (by omega) hg1 bv hw HZ).mono ?_
  clear bv hw v
  rintro e w1 ⟨rfl, v, bv, hw, hbut⟩
  replace hW := hW.trans (hbut.below (B := w.heap.size) (by omega) hW.size)
  replace b0 := b0.but hbut (by omega)
  replace hg1 := Nat.lt_of_lt_of_le hg1 hbut.size
  replace hG1 := hG.below hW l0
  clear hbut
  go_wp2_with fail
  refine (number_any w1 (w.heap.size + 1 + 1) (w.heap.size + 1) v (piecesF text).tail hG1 (by omega) (by omega) hg1 bv hw (fun s h => HZ s (List.mem_of_mem_tail h))).mono ?_
  clear bv hw v
  rintro e w2 ⟨rfl, v, bv, hw, hbut⟩
  replace hW := hW.trans (hbut.below (B := w.heap.size) (by omega) hW.size)
  replace b0 := b0.but hbut (by omega)
  replace hg1 := Nat.lt_of_lt_of_le hg1 hbut.size
  replace hG1 := hG.below hW l0
  clear hbut
  go_wp2_with fail
  refine (number_any w2 (w.heap.size + 1 + 1) (w.heap.size + 1) v (piecesF text).tail.tail hG1 (by omega) (by omega) hg1 bv hw (fun s h => HZ s (List.mem_of_mem_tail (List.mem_of_mem_tail h)))).mono ?_
  clear bv hw v
  rintro e w3 ⟨rfl, v, bv, hw, hbut⟩
  replace hW := hW.trans (hbut.below (B := w.heap.size) (by omega) hW.size)
  replace b0 := b0.but hbut (by omega)
  replace hg1 := Nat.lt_of_lt_of_le hg1 hbut.size
  replace hG1 := hG.below hW l0
  clear hbut bv hw v HZ HP
  obtain ⟨z, hz⟩ : ∃ z, z = numH (piecesF text) := ⟨_, rfl⟩
  obtain ⟨x, hx⟩ : ∃ x, x = numH (piecesF text).tail := ⟨_, rfl⟩
  obtain ⟨y, hy⟩ : ∃ y, y = numH (piecesF text).tail.tail := ⟨_, rfl⟩
  have HR : Hid (parseF text = if validB z x y = true ∧ tripL z x y = text.data.toList then ⟨z, x, y, 0⟩ else ⟨0, 0, 0, 5⟩) := Lib.hid (by rw [hz, hx, hy]; rfl)
  rw [← hz, ← hx, ← hy]
  clear hz hx hy
  go_wp2_with fail
  refine calls_abs (fun W => Below w.heap.size w W ∧ Box W w.heap.size #[.int .i64 0, .int .i64 0, .int .i64 0] 23 ∧ Box W w3.heap.size #[.int .i64 z, .int .i64 x, .int .i64 y] 23 ∧ w.heap.size < w3.heap.size)
    ⟨hW.alloc hW.size _, b0.alloc _, Box.new _ _ _, by omega⟩ ?_
  clear hW b0 hg1 hG1
  rintro W2 ⟨hW, b0, b1, hlt⟩
  refine (text_any z x y W2 (hG.below hW l0)).mono ?_
  rintro e w4 ⟨rfl, hb_⟩
  replace hW := hW.trans (hb_.mono hW.size)
  replace b0 := b0.below hb_ b0.lt
  replace b1 := b1.below hb_ b1.lt
  clear hb_
  have r0 := b0.cell
  have f0 := b0.frozen
  have r1 := b1.cell
  cases hl : validB z x y with
  | false =>
    have HX : Hid (parseF text = ⟨0, 0, 0, 5⟩) := Lib.hid (by rw [HR.out, if_neg (by rw [hl]; simp)])
    have ht : textV z x y = .tuple #[.string ⟨#[]⟩, .int .i64 1] := by unfold textV strV; rw [hl]; rfl
    rw [ht]
    clear ht hl HR
    go_wp2
    exact ret_box2 (by rfl) (by rfl) (by rfl) (b0.set3 _ _ _) Tryd.underlying23 rfl (by kernel_rfl) rfl (RetB.mk' (by rw [HX.out]; rfl) (by repeat (first | assumption | exact Below.refl _ _ | refine Below.setCell ?_ (by first | (simp; done) | (simp; omega) | omega) _ | refine Below.alloc ?_ (by first | (simp; done) | (simp; omega) | omega) _)))
  | true =>
    have ht : textV z x y = .tuple #[.string ⟨(tripL z x y).toArray⟩, .int .i64 0] := by unfold textV strV; rw [hl]; rfl
    rw [ht]
    clear ht
    obtain ⟨s, hs'⟩ : ∃ s, s = (⟨(tripL z x y).toArray⟩ : ByteArray) := ⟨_, rfl⟩
    rw [← hs']
    by_cases hq : tripL z x y = text.data.toList
    · have HX : Hid (parseF text = ⟨z, x, y, 0⟩) := Lib.hid (by rw [HR.out, if_pos ⟨hl, hq⟩])
      have e1 : s = text := by rw [hs', hq]
      subst e1
      clear hs' hq hl HR
      go_wp2
      exact ret_box2 (by rfl) (by rfl) (by rfl) (b0.set3 _ _ _) Tryd.underlying23 rfl (by kernel_rfl) rfl (RetB.mk' (by rw [HX.out]; rfl) (by repeat (first | assumption | exact Below.refl _ _ | refine Below.setCell ?_ (by first | (simp; done) | (simp; omega) | omega) _ | refine Below.alloc ?_ (by first | (simp; done) | (simp; omega) | omega) _)))
    · have HX : Hid (parseF text = ⟨0, 0, 0, 5⟩) := Lib.hid (by rw [HR.out, if_neg (fun h => hq h.2)])
      have e1 : (s.toList == text.toList) = false := by
        rw [ByteArray.toList_eq, ByteArray.toList_eq, beq_eq_false_iff_ne]
        intro e
        exact hq (by rw [← e, hs'])
      clear hs' hq hl HR
      go_wp2
      exact ret_box2 (by rfl) (by rfl) (by rfl) (b0.set3 _ _ _) Tryd.underlying23 rfl (by kernel_rfl) rfl (RetB.mk' (by rw [HX.out]; rfl) (by repeat (first | assumption | exact Below.refl _ _ | refine Below.setCell ?_ (by first | (simp; done) | (simp; omega) | omega) _ | refine Below.alloc ?_ (by first | (simp; done) | (simp; omega) | omega) _)))
end Go.Proofs.YthggpflfjghooaaDoor

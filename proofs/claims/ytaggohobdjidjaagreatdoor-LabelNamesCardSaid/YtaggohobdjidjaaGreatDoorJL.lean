import Derived.Test.YtaggohobdjidjaaGreatDoorJP
import Derived.Test.YtaggohobdjidjaaGreatDoorJG
import Derived.Test.YtaggohobdjidjaaGreatDoorJK
import Derived.Test.YtaggohobdjidjaaGreatDoorJD
import Derived.Deep.RegionHeld3

/- planispherelaw43: box, at, head$1; planisphereref43.Few. -/
namespace Go.Proofs.YtaggohobdjidjaaGreatDoor
open Go.RowKit Go.Sort Go.Shelf

theorem lbox_any (a b c d : Int) (w : World) : Calls Tryz.prog 33 #[.int .i64 a, .int .i64 b, .int .i64 c, .int .i64 d] w (RetB w (.agg #[.int .i64 a, .int .i64 b, .int .i64 c, .int .i64 d])) := by
  go_enter Tryz.func33, Tryz.ntmps33
  go_wp2
  have b0 : Box (w.alloc (.cells #[.int .i64 a, .int .i64 b, .int .i64 c, .int .i64 d] 26)) w.heap.size _ _ := Box.new _ _ _
  exact ret_box (by rfl) (by rfl) b0 Tryz.underlying26 rfl (by kernel_rfl) rfl (RetB.mk' rfl (by repeat (first | assumption | exact Below.refl _ _ | refine Below.setCell ?_ (by first | (simp; done) | (simp; omega) | omega) _ | refine Below.alloc ?_ (by first | (simp; done) | (simp; omega) | omega) _)))
theorem lat_any (s : ByteArray) (x y r : Int) (w : World) : Calls Tryz.prog 34 #[.string s, .int .i64 x, .int .i64 y, .int .i64 r] w (RetB w (labV ⟨s, x, y, 20, 10, r⟩)) := by
  unfold labV
  go_enter Tryz.func34, Tryz.ntmps34
  go_wp2
  have b0 : Box (w.alloc (.cells #[.string s, .int .i64 x, .int .i64 y, .int .i64 20, .int .i64 10, .int .i64 r] 47)) w.heap.size _ _ := Box.new _ _ _
  exact ret_box (by rfl) (by rfl) b0 Tryz.underlying47 rfl (by kernel_rfl) rfl (RetB.mk' rfl (by repeat (first | assumption | exact Below.refl _ _ | refine Below.setCell ?_ (by first | (simp; done) | (simp; omega) | omega) _ | refine Below.alloc ?_ (by first | (simp; done) | (simp; omega) | omega) _)))
theorem lnode_any (s : ByteArray) (x y : Int) (w : World) : Calls Tryz.prog 35 #[.string s, .int .i64 x, .int .i64 y] w (RetB w (ovV ⟨s, 1, x, y, none, 0, 0, none, 0, 0⟩)) := by
  unfold ovV
  go_enter Tryz.func35, Tryz.ntmps35
  go_wp2
  have b0 : Box (w.alloc (.cells #[.string s, .int .i64 1, .int .i64 x, .int .i64 y, .slice none 0 0, .slice none 0 0] 59)) w.heap.size _ _ := Box.new _ _ _
  exact ret_box (by rfl) (by rfl) b0 Tryz.underlying59 rfl (by kernel_rfl) rfl (RetB.mk' rfl (by repeat (first | assumption | exact Below.refl _ _ | refine Below.setCell ?_ (by first | (simp; done) | (simp; omega) | omega) _ | refine Below.alloc ?_ (by first | (simp; done) | (simp; omega) | omega) _)))

/-- It says whether there are few of them; of few it knows that. -/
def FewR (w : World) (F : Prop) (e : Ending) (w' : World) : Prop := ∃ b : Bool, e = .returned (.bool b) ∧ (b = true → F) ∧ Below w.heap.size w w'

set_option maxHeartbeats 4000000 in
theorem few_any (p : Option Addr) (n cap : Nat) (l : List Lab) (most : Nat) (w : World) (hL : Lies w 6 labC p l) (hn : n = l.length) (h1 : n ≤ maxLen) (hm : most ≤ 1000) :
    Calls Tryz.prog 11 #[.slice p n cap, .int .i64 most] w (FewR w (n ≤ most)) := by
  have HL := Lib.hid hL
  have HN := Lib.hid hn
  clear hL hn
  unfold maxLen at h1
  go_enter Tryz.func11, Tryz.ntmps11
  go_wp2
  go_loopw [5] (fun vi wr => ∃ i : Nat, i ≤ n ∧ i ≤ most + 1 ∧ vi = .int .i64 i ∧ Below w.heap.size w wr) (fun vi _ => n - (intOf vi).toNat)
  case atStart => exact ⟨0, by omega, by omega, rfl, Below.refl _ _⟩
  case round =>
    obtain ⟨i, hi, him, rfl, hW⟩ := hrel
    by_cases hlt : i < n
    · by_cases hle : i ≤ most
      · obtain ⟨x, hx⟩ : ∃ x, l[i]? = some x := ⟨_, List.getElem?_eq_getElem (by have := HN.out; omega)⟩
        obtain ⟨g, o, rfl⟩ := HL.out.addr (by have := HN.out; omega)
        obtain ⟨r0, -, -, -, -, -⟩ := (HL.out.below hW (Nat.le_refl _)).lab hx
        obtain ⟨xi, hxi⟩ : ∃ q, x.id = q := ⟨_, rfl⟩
        rw [hxi] at r0
        clear hxi hx
        have q1 : decide (i < n) = true := decide_eq_true hlt
        have q2 : decide ((i : Int) ≤ (most : Int)) = true := decide_eq_true (by omega)
        by_cases h60 : 60 < xi.size
        · have q3 : decide ((60 : Int) < (xi.size : Int)) = true := decide_eq_true (by omega)
          go_wp2
          go_ret
          exact ⟨false, rfl, fun h => (by cases h), hW⟩
        · have q3 : decide ((60 : Int) < (xi.size : Int)) = false := decide_eq_false (by omega)
          go_wp2
          go_roundw
          case rel => exact ⟨i + 1, by omega, by omega, by go_num, hW⟩
          case measure => simp [intOf]; omega
      · have q1 : decide (i < n) = true := decide_eq_true hlt
        have q2 : decide ((i : Int) ≤ (most : Int)) = false := decide_eq_false (by omega)
        have q4 : decide ((n : Int) ≤ (most : Int)) = false := decide_eq_false (by omega)
        have q5 : decide (n ≤ most) = false := decide_eq_false (by omega)
        go_wp2
        go_ret
        exact ⟨false, rfl, fun h => (by cases h), hW⟩
    · have q1 : decide (i < n) = false := decide_eq_false hlt
      by_cases hnm : n ≤ most
      · have q4 : decide ((n : Int) ≤ (most : Int)) = true := decide_eq_true (by omega)
        have q5 : decide (n ≤ most) = true := decide_eq_true (by omega)
        go_wp2
        go_ret
        exact ⟨true, rfl, fun _ => hnm, hW⟩
      · have q4 : decide ((n : Int) ≤ (most : Int)) = false := decide_eq_false (by omega)
        have q5 : decide (n ≤ most) = false := decide_eq_false (by omega)
        go_wp2
        go_ret
        exact ⟨false, rfl, fun h => (by cases h), hW⟩
end Go.Proofs.YtaggohobdjidjaaGreatDoor

/- The examples of the chapter: what is reckoned. -/
namespace Go.Proofs.YtaggohobdjidjaaGreatDoor

def hb : Bx := ⟨0, 0, 99, 99⟩
def hA : ByteArray := ⟨#[97]⟩
def hB : ByteArray := ⟨#[98]⟩
def hC : ByteArray := ⟨#[99]⟩
def hD : ByteArray := ⟨#[100]⟩
def hm : List Ob := [⟨hA, 3, 0, 0, [hB, hC, hD], [(⟨#[108, 101, 118, 101, 108]⟩, ⟨#[51]⟩), (⟨#[110, 97, 109, 101]⟩, ⟨#[69, 108, 109]⟩)]⟩, ⟨hB, 1, 0, 0, [], []⟩, ⟨hC, 1, 65536, 0, [], []⟩, ⟨hD, 1, 0, 65536, [], []⟩]
theorem head_x : placeF hb [⟨hA, 50, 50, 20, 10, 1⟩] = [⟨hA, ⟨51, 45, 70, 54⟩⟩] := by kernel_rfl
theorem head_y : placeF hb [⟨hA, 50, 50, 20, 10, 2⟩, ⟨hB, 45, 50, 20, 10, 1⟩] = [⟨hB, ⟨46, 45, 65, 54⟩⟩] := by kernel_rfl
theorem head_z : placeF hb [⟨hA, 95, 50, 20, 10, 1⟩] = [⟨hA, ⟨75, 45, 94, 54⟩⟩] := by kernel_rfl
theorem head_l3 : labsF hm 3 [] = [⟨hA, 42, 42, 18, 12, 33⟩] := by kernel_rfl
theorem head_l2 : labsF hm 2 [] = [] := by kernel_rfl
end Go.Proofs.YtaggohobdjidjaaGreatDoor

/- planispherelaw43.head. -/
namespace Go.Proofs.YtaggohobdjidjaaGreatDoor
open Go.RowKit Go.Sort Go.Shelf

theorem heldB {W1 X : World} {kb : Nat} {t : TypeId} (bb : Box W1 kb #[.int .i64 0, .int .i64 0, .int .i64 99, .int .i64 99] t) (h : Below W1.heap.size W1 X) :
    (X.cell? ⟨kb, 0, none⟩ = some (.int .i64 0) ∧ X.cell? ⟨kb, 1, none⟩ = some (.int .i64 0) ∧ X.cell? ⟨kb, 2, none⟩ = some (.int .i64 99) ∧ X.cell? ⟨kb, 3, none⟩ = some (.int .i64 99)) ∧ Below W1.heap.size W1 X :=
  ⟨⟨(bb.below h bb.lt).cell 0, (bb.below h bb.lt).cell 1, (bb.below h bb.lt).cell 2, (bb.below h bb.lt).cell 3⟩, h⟩
theorem lat_any' (s : ByteArray) (x y r : Int) (w : World) : Calls Tryz.prog 34 #[.string s, .int .i64 x, .int .i64 y, .int .i64 r] w (RetB w (.agg #[.string s, .int .i64 x, .int .i64 y, .int .i64 20, .int .i64 10, .int .i64 r])) := lat_any s x y r w
theorem place1 (s : ByteArray) (x y r : Int) (X : World) : Calls Tryz.prog 13 #[.slice (some ⟨X.heap.size, 0, none⟩) 1 1, .agg #[.int .i64 0, .int .i64 0, .int .i64 99, .int .i64 99]]
    (X.alloc (.cells #[.string s, .int .i64 x, .int .i64 y, .int .i64 20, .int .i64 10, .int .i64 r] 47)) (RetL (X.alloc (.cells #[.string s, .int .i64 x, .int .i64 y, .int .i64 20, .int .i64 10, .int .i64 r] 47)) 5 plC (placeF hb [⟨s, x, y, 20, 10, r⟩])) :=
  place_any (some ⟨X.heap.size, 0, none⟩) 1 1 [⟨s, x, y, 20, 10, r⟩] hb _ (Lies.of_box (rest := []) labC_len (Box.new _ _ _)) rfl (by decide) (fun e => by cases e)
theorem place2 (s : ByteArray) (x y r : Int) (s2 : ByteArray) (x2 y2 r2 : Int) (X : World) : Calls Tryz.prog 13 #[.slice (some ⟨X.heap.size, 0, none⟩) 2 2, .agg #[.int .i64 0, .int .i64 0, .int .i64 99, .int .i64 99]]
    (X.alloc (.cells #[.string s, .int .i64 x, .int .i64 y, .int .i64 20, .int .i64 10, .int .i64 r, .string s2, .int .i64 x2, .int .i64 y2, .int .i64 20, .int .i64 10, .int .i64 r2] 47))
    (RetL (X.alloc (.cells #[.string s, .int .i64 x, .int .i64 y, .int .i64 20, .int .i64 10, .int .i64 r, .string s2, .int .i64 x2, .int .i64 y2, .int .i64 20, .int .i64 10, .int .i64 r2] 47)) 5 plC (placeF hb [⟨s, x, y, 20, 10, r⟩, ⟨s2, x2, y2, 20, 10, r2⟩])) :=
  place_any (some ⟨X.heap.size, 0, none⟩) 2 2 [⟨s, x, y, 20, 10, r⟩, ⟨s2, x2, y2, 20, 10, r2⟩] hb _ (Lies.of_box (rest := []) labC_len (Box.new _ _ _)) rfl (by decide) (fun e => by cases e)
theorem same1 (p : Option Addr) (cap : Nat) (s : ByteArray) (a b c d : Int) (X : World) (h : Lies X 5 plC p [⟨s, ⟨a, b, c, d⟩⟩]) : Calls Tryz.prog 12 #[.slice p 1 cap, .slice (some ⟨X.heap.size, 0, none⟩) 1 1]
    (X.alloc (.cells #[.string s, .int .i64 a, .int .i64 b, .int .i64 c, .int .i64 d] 43)) (RetB (X.alloc (.cells #[.string s, .int .i64 a, .int .i64 b, .int .i64 c, .int .i64 d] 43)) (.bool true)) :=
  same_any p 1 cap (some ⟨X.heap.size, 0, none⟩) 1 1 [⟨s, ⟨a, b, c, d⟩⟩] _ (h.alloc _) rfl (Lies.of_box (rest := []) plC_len (Box.new _ _ _)) rfl (by decide)
theorem all1 (p : Option Addr) (cap : Nat) (s : ByteArray) (a b c d e : Int) (X : World) (h : Lies X 6 labC p [⟨s, a, b, c, d, e⟩]) : Calls Tryz.prog 17 #[.slice p 1 cap, .slice (some ⟨X.heap.size, 0, none⟩) 1 1]
    (X.alloc (.cells #[.string s, .int .i64 a, .int .i64 b, .int .i64 c, .int .i64 d, .int .i64 e] 47)) (RetB (X.alloc (.cells #[.string s, .int .i64 a, .int .i64 b, .int .i64 c, .int .i64 d, .int .i64 e] 47)) (.bool true)) :=
  all43_any p 1 cap (some ⟨X.heap.size, 0, none⟩) 1 1 [⟨s, a, b, c, d, e⟩] _ (h.alloc _) rfl (Lies.of_box (rest := []) labC_len (Box.new _ _ _)) rfl (by decide)
theorem belowH {W1 X Y : World} {p : Prop} (h : p ∧ Below W1.heap.size W1 X) (hb : Below X.heap.size X Y) : Below W1.heap.size W1 Y := h.2.trans (hb.mono h.2.size)
theorem belowA {W1 X : World} {p : Prop} (h : p ∧ Below W1.heap.size W1 X) (o : Obj) : Below W1.heap.size W1 (X.alloc o) := h.2.alloc h.2.size o

theorem lnode_any' (s : ByteArray) (x y : Int) (w : World) : Calls Tryz.prog 35 #[.string s, .int .i64 x, .int .i64 y] w (RetB w (.agg #[.string s, .int .i64 1, .int .i64 x, .int .i64 y, .slice none 0 0, .slice none 0 0])) := lnode_any s x y w
theorem Lies.nil (W : World) (k : Nat) {α : Type} (enc : α → List Value) : Lies W k enc none [] := ⟨.inl rfl, fun a e => (by cases e), fun g o e => (by cases e)⟩
def headV (k : Nat) : List OV := [⟨hA, 3, 0, 0, some ⟨k, 0, none⟩, 3, 3, some ⟨k + 1, 0, none⟩, 2, 2⟩, ⟨hB, 1, 0, 0, none, 0, 0, none, 0, 0⟩, ⟨hC, 1, 65536, 0, none, 0, 0, none, 0, 0⟩, ⟨hD, 1, 0, 65536, none, 0, 0, none, 0, 0⟩]
theorem head_objs {W : World} {k k5 : Nat} {t1 t2 t3 : TypeId} (b1 : Box W k #[.string hB, .string hC, .string hD] t1)
    (b2 : Box W (k + 1) #[.string ⟨#[108, 101, 118, 101, 108]⟩, .string ⟨#[51]⟩, .string ⟨#[110, 97, 109, 101]⟩, .string ⟨#[69, 108, 109]⟩] t2) (b3 : Box W k5 ((headV k).flatMap ovC).toArray t3) : Objs W (some ⟨k5, 0, none⟩) hm := by
  refine ⟨headV k, Lies.of_box (rest := []) ovC_len (by rw [List.append_nil]; exact b3), rfl, fun i v o hv ho => ?_⟩
  have hi := (List.getElem?_eq_some_iff.1 ho).1
  have hi4 : i < 4 := hi
  have h4 : i = 0 ∨ i = 1 ∨ i = 2 ∨ i = 3 := by omega
  rcases h4 with rfl | rfl | rfl | rfl
  · cases hv
    cases ho
    exact ⟨rfl, rfl, rfl, rfl, rfl, rfl, Lies.of_box (rest := []) (fun _ => rfl) b1, Lies.of_box (rest := []) tagC_len b2, Nat.le_refl _, Nat.le_refl _⟩
  all_goals
    cases hv
    cases ho
    exact ⟨rfl, rfl, rfl, rfl, rfl, rfl, Lies.nil _ _ _, Lies.nil _ _ _, by decide, by decide⟩
theorem head_small : SmallM hm := by
  intro o ho
  simp only [hm, List.mem_cons, List.not_mem_nil, or_false] at ho
  rcases ho with rfl | rfl | rfl | rfl
  · refine ⟨by decide, fun s hs => ?_, fun t ht => ?_, by decide, by decide⟩
    · simp only [List.mem_cons, List.not_mem_nil, or_false] at hs
      rcases hs with rfl | rfl | rfl <;> decide
    · simp only [List.mem_cons, List.not_mem_nil, or_false] at ht
      rcases ht with rfl | rfl <;> decide
  all_goals exact ⟨by decide, fun s hs => (by cases hs), fun t ht => (by cases ht), by decide, by decide⟩

structure HeadS (w W8 : World) (p1 p2 p3 q1 : Option Addr) (l1 l2 l3 : List Pl) (l4 : List Lab) (b : Nat) (cs : Array Value) (X : World) : Prop where
  a : Below w.heap.size w X
  b8 : Below W8.heap.size W8 X
  p : Lies X 5 plC p1 l1
  q : Lies X 5 plC p2 l2
  r : Lies X 5 plC p3 l3
  s : Lies X 6 labC q1 l4
  m : Box X b cs 35
theorem HeadS.below {w W8 : World} {p1 p2 p3 q1 : Option Addr} {l1 l2 l3 : List Pl} {l4 : List Lab} {b : Nat} {cs : Array Value} {X Y : World} (h : HeadS w W8 p1 p2 p3 q1 l1 l2 l3 l4 b cs X) (hb : Below X.heap.size X Y) : HeadS w W8 p1 p2 p3 q1 l1 l2 l3 l4 b cs Y :=
  ⟨h.a.trans (hb.mono h.a.size), h.b8.trans (hb.mono h.b8.size), h.p.below hb (Nat.le_refl _), h.q.below hb (Nat.le_refl _), h.r.below hb (Nat.le_refl _), h.s.below hb (Nat.le_refl _), h.m.below hb h.m.lt⟩
theorem HeadS.alloc {w W8 : World} {p1 p2 p3 q1 : Option Addr} {l1 l2 l3 : List Pl} {l4 : List Lab} {b : Nat} {cs : Array Value} {X : World} (h : HeadS w W8 p1 p2 p3 q1 l1 l2 l3 l4 b cs X) (o : Obj) : HeadS w W8 p1 p2 p3 q1 l1 l2 l3 l4 b cs (X.alloc o) := h.below ((Below.refl _ _).alloc (Nat.le_refl _) _)

set_option maxHeartbeats 8000000 in
set_option maxRecDepth 100000 in
theorem head_any (w : World) (hG : Gw w) : Calls Tryz.prog 10 #[] w (RetB w (.bool true)) := by
  have HG := Lib.hid hG
  have hx := head_x
  have hy := head_y
  have hz3 := head_z
  unfold hA at hx hy hz3
  unfold hB at hy
  clear hG
  go_enter Tryz.func10, Tryz.ntmps10
  go_wp2_with fail
  refine (lbox_any _ _ _ _ _).mono ?_
  rintro e w1 ⟨rfl, hW⟩
  go_wp2_with fail
  have hs1 := hW.size
  refine wp_abs (fun W => Below w.heap.size w W ∧ Box W w1.heap.size #[.int .i64 0, .int .i64 0, .int .i64 99, .int .i64 99] 26) ⟨hW.alloc hs1 _, Box.new _ _ _⟩ ?_
  clear hW
  obtain ⟨kb, hkb⟩ : ∃ k, w1.heap.size = k := ⟨_, rfl⟩
  rw [hkb] at hs1 ⊢
  rintro W1 ⟨hW, bb⟩
  clear hkb
  have hz := hW.size
  go_region_held3 (fun X => (X.cell? ⟨kb, 0, none⟩ = some (.int .i64 0) ∧ X.cell? ⟨kb, 1, none⟩ = some (.int .i64 0) ∧ X.cell? ⟨kb, 2, none⟩ = some (.int .i64 99) ∧ X.cell? ⟨kb, 3, none⟩ = some (.int .i64 99)) ∧ Below W1.heap.size W1 X)
    (first
      | exact heldB bb ⟨rfl, rfl, rfl, Nat.le_refl _, fun _ _ => rfl⟩
      | exact heldB bb (belowH ‹_ ∧ Below W1.heap.size W1 _› hbz)
      | exact heldB bb (belowA ‹_ ∧ Below W1.heap.size W1 _› _))
    (first
      | (go_at_call 34; refine (lat_any' _ _ _ _ _).mono ?_; rintro e wz ⟨rfl, hbz⟩)
      | (go_at_call 13; refine (place1 _ _ _ _ _).mono ?_; rintro e X2 ⟨p1, np1, cp1, rfl, hnp1, -, hp1, -, -, hbz⟩))
  have hbp1 : Below W1.heap.size W1 X2 := (‹_ ∧ Below W1.heap.size W1 X2›).2
  rw [hx] at hnp1 hp1
  replace hW := hW.trans (hbp1.mono hW.size)
  replace bb := bb.below hbp1 bb.lt
  have HP1 := Lib.hid hp1
  clear hbz hp1 hbp1
  obtain rfl : np1 = 1 := hnp1
  go_wp2_with fail
  go_region_held3 (fun X => (X.cell? ⟨kb, 0, none⟩ = some (.int .i64 0) ∧ X.cell? ⟨kb, 1, none⟩ = some (.int .i64 0) ∧ X.cell? ⟨kb, 2, none⟩ = some (.int .i64 99) ∧ X.cell? ⟨kb, 3, none⟩ = some (.int .i64 99)) ∧ Below X2.heap.size X2 X)
    (first
      | exact heldB bb ⟨rfl, rfl, rfl, Nat.le_refl _, fun _ _ => rfl⟩
      | exact heldB bb (belowH ‹_ ∧ Below X2.heap.size X2 _› hbz)
      | exact heldB bb (belowA ‹_ ∧ Below X2.heap.size X2 _› _))
    (first
      | (go_at_call 34; refine (lat_any' _ _ _ _ _).mono ?_; rintro e wz ⟨rfl, hbz⟩)
      | (go_at_call 13; refine (place2 _ _ _ _ _ _ _ _ _).mono ?_; rintro e X3 ⟨p2, np2, cp2, rfl, hnp2, -, hp2, -, -, hbz⟩))
  have hbp2 : Below X2.heap.size X2 X3 := (‹_ ∧ Below X2.heap.size X2 X3›).2
  rw [hy] at hnp2 hp2
  replace hW := hW.trans (hbp2.mono hW.size)
  replace bb := bb.below hbp2 bb.lt
  replace HP1 := Lib.hid (HP1.out.below hbp2 (Nat.le_refl _))
  have HP2 := Lib.hid hp2
  clear hbz hp2 hbp2
  obtain rfl : np2 = 1 := hnp2
  go_wp2_with fail
  go_region_held3 (fun X => (X.cell? ⟨kb, 0, none⟩ = some (.int .i64 0) ∧ X.cell? ⟨kb, 1, none⟩ = some (.int .i64 0) ∧ X.cell? ⟨kb, 2, none⟩ = some (.int .i64 99) ∧ X.cell? ⟨kb, 3, none⟩ = some (.int .i64 99)) ∧ Below X3.heap.size X3 X)
    (first
      | exact heldB bb ⟨rfl, rfl, rfl, Nat.le_refl _, fun _ _ => rfl⟩
      | exact heldB bb (belowH ‹_ ∧ Below X3.heap.size X3 _› hbz)
      | exact heldB bb (belowA ‹_ ∧ Below X3.heap.size X3 _› _))
    (first
      | (go_at_call 34; refine (lat_any' _ _ _ _ _).mono ?_; rintro e wz ⟨rfl, hbz⟩)
      | (go_at_call 13; refine (place1 _ _ _ _ _).mono ?_; rintro e X4 ⟨p3, np3, cp3, rfl, hnp3, -, hp3, -, -, hbz⟩))
  have hbp3 : Below X3.heap.size X3 X4 := (‹_ ∧ Below X3.heap.size X3 X4›).2
  rw [hz3] at hnp3 hp3
  replace hW := hW.trans (hbp3.mono hW.size)
  replace bb := bb.below hbp3 bb.lt
  replace HP1 := Lib.hid (HP1.out.below hbp3 (Nat.le_refl _))
  replace HP2 := Lib.hid (HP2.out.below hbp3 (Nat.le_refl _))
  have HP3 := Lib.hid hp3
  clear hbz hp3 hbp3
  obtain rfl : np3 = 1 := hnp3
  go_wp2_with fail
  have hs4 := hW.size
  refine calls_abs (fun W => Below X4.heap.size X4 W ∧ Box W X4.heap.size #[.string ⟨#[98]⟩, .string ⟨#[99]⟩, .string ⟨#[100]⟩] 9 ∧ Box W (X4.heap.size + 1) #[.string ⟨#[108, 101, 118, 101, 108]⟩, .string ⟨#[51]⟩, .string ⟨#[110, 97, 109, 101]⟩, .string ⟨#[69, 108, 109]⟩] 69)
    ⟨((Below.refl _ _).alloc (Nat.le_refl _) _).alloc (by simp) _, (Box.new _ _ _).alloc _, Box.new' (by simp) _ _⟩ ?_
  rintro W ⟨hX, bs, bt⟩
  obtain ⟨k4, hk4⟩ : ∃ k, X4.heap.size = k := ⟨_, rfl⟩
  rw [hk4] at bs bt ⊢
  clear hk4
  refine (lnode_any' _ _ _ _).mono ?_
  rintro e W5 ⟨rfl, hb5⟩
  replace hX := hX.trans (hb5.mono hX.size)
  replace bs := bs.below hb5 bs.lt
  replace bt := bt.below hb5 bt.lt
  clear hb5
  go_wp2_with fail
  refine (lnode_any' _ _ _ _).mono ?_
  rintro e W6 ⟨rfl, hb5⟩
  replace hX := hX.trans (hb5.mono hX.size)
  replace bs := bs.below hb5 bs.lt
  replace bt := bt.below hb5 bt.lt
  clear hb5
  go_wp2_with fail
  refine (lnode_any' _ _ _ _).mono ?_
  rintro e W7 ⟨rfl, hb5⟩
  replace hX := hX.trans (hb5.mono hX.size)
  replace bs := bs.below hb5 bs.lt
  replace bt := bt.below hb5 bt.lt
  clear hb5
  go_wp2_with fail
  have hl3 := head_l3
  have hl2 := head_l2
  unfold hA at hl3
  refine calls_abs (fun W => Below X4.heap.size X4 W ∧ Objs W (some ⟨W7.heap.size, 0, none⟩) hm ∧ Box W (W7.heap.size + 1) #[.slice (some ⟨W7.heap.size, 0, none⟩) 4 4] 35)
    ⟨(hX.alloc hX.size _).alloc (by have := hX.size; simp; omega) _, head_objs ((bs.alloc _).alloc _) ((bt.alloc _).alloc _) ((Box.new _ _ _).alloc _), Box.new' (by simp) _ _⟩ ?_
  clear hX bs bt
  obtain ⟨k7, hk7⟩ : ∃ k, W7.heap.size = k := ⟨_, rfl⟩
  rw [hk7]
  clear hk7
  rintro W8 ⟨hX, HO, bm⟩
  replace hW := hW.trans (hX.mono hW.size)
  replace HP1 := Lib.hid (HP1.out.below hX (Nat.le_refl _))
  replace HP2 := Lib.hid (HP2.out.below hX (Nat.le_refl _))
  replace HP3 := Lib.hid (HP3.out.below hX (Nat.le_refl _))
  replace HO := Lib.hid HO
  clear hX hs4
  have hlabs := fun z W (hB : Below W8.heap.size W8 W) => labels_any (some ⟨k7, 0, none⟩) 4 4 hm z none 0 0 [] W (HO.out.below hB (Nat.le_refl _)) rfl head_small (by decide) (Lies.nil _ _ _) rfl (by decide) (HG.out.below (hW.trans (hB.mono hW.size)) HG.out.size)
  have HLB := Lib.hid hlabs
  clear hlabs
  refine (HLB.out 3 _ (Below.refl _ _)).mono ?_
  rintro e W9 ⟨q1, nq1, cq1, rfl, hnq1, -, hq1, -, -, hb9⟩
  rw [hl3] at hnq1 hq1
  obtain rfl : nq1 = 1 := hnq1
  have HQ1 := Lib.hid hq1
  have hS : HeadS w W8 p1 p2 p3 q1 _ _ _ _ _ _ W9 := ⟨hW.trans (hb9.mono hW.size), hb9, HP1.out.below hb9 (Nat.le_refl _), HP2.out.below hb9 (Nat.le_refl _), HP3.out.below hb9 (Nat.le_refl _), hq1, bm.below hb9 bm.lt⟩
  have HS := Lib.hid hS
  clear hq1 hb9 hl3 HQ1 HP1 HP2 HP3 bm hW hS
  go_wp2_with fail
  refine (lbox_any _ _ _ _ _).mono ?_
  rintro e Y1 ⟨rfl, hb⟩
  replace HS := Lib.hid (HS.out.below hb)
  clear hb
  go_wp2_with fail
  refine (same1 _ _ _ _ _ _ _ _ HS.out.p).mono ?_
  rintro e Y2 ⟨rfl, hb⟩
  replace HS := Lib.hid ((HS.out.alloc _).below hb)
  clear hb
  go_wp2_with fail
  refine (lbox_any _ _ _ _ _).mono ?_
  rintro e Y1 ⟨rfl, hb⟩
  replace HS := Lib.hid (HS.out.below hb)
  clear hb
  go_wp2_with fail
  refine (same1 _ _ _ _ _ _ _ _ HS.out.q).mono ?_
  rintro e Y2 ⟨rfl, hb⟩
  replace HS := Lib.hid ((HS.out.alloc _).below hb)
  clear hb
  go_wp2_with fail
  refine (lbox_any _ _ _ _ _).mono ?_
  rintro e Y1 ⟨rfl, hb⟩
  replace HS := Lib.hid (HS.out.below hb)
  clear hb
  go_wp2_with fail
  refine (same1 _ _ _ _ _ _ _ _ HS.out.r).mono ?_
  rintro e Y2 ⟨rfl, hb⟩
  replace HS := Lib.hid ((HS.out.alloc _).below hb)
  clear hb
  have rm := HS.out.m.cell 0
  go_wp2_with fail
  refine (HLB.out 2 _ HS.out.b8).mono ?_
  rintro e Y3 ⟨q2, nq2, cq2, rfl, hnq2, -, -, -, -, hb⟩
  rw [hl2] at hnq2
  obtain rfl : nq2 = 0 := hnq2
  replace HS := Lib.hid (HS.out.below hb)
  clear hb rm
  go_wp2_with fail
  refine (all1 _ _ _ _ _ _ _ _ _ HS.out.s).mono ?_
  rintro e Y4 ⟨rfl, hb⟩
  replace HS := Lib.hid ((HS.out.alloc _).below hb)
  clear hb
  go_wp2
  go_ret
  exact RetB.mk' rfl HS.out.a
end Go.Proofs.YtaggohobdjidjaaGreatDoor

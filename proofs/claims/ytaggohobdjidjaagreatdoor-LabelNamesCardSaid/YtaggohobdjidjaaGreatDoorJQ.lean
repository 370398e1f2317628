import Derived.Test.YtaggohobdjidjaaGreatDoorJK
import Derived.Test.YtaggohobdjidjaaGreatDoorJN
import Derived.Test.YtaggohobdjidjaaGreatDoorJ0

/- Labels of the next zoom level: plain. -/
namespace Go.Proofs.YtaggohobdjidjaaGreatDoor

/-- The label with an Id. -/
def findL (l : List Lab) (id : ByteArray) : Option Lab := l.find? fun x => x.id.toList == id.toList

theorem labF_some {l : List Ob} {z : Int} {ls : List ByteArray} {o : Ob} {y : Lab} (h : labF l z ls o = some y) : ¬((bestF o.tags ls).2.toList = [] ∨ z < lvlF o.tags) ∧ ∃ p, anchF l o = some p ∧
    y = ⟨o.id, (pixelF z 0 0 p.1 p.2).x, (pixelF z 0 0 p.1 p.2).y, 6 * (bestF o.tags ls).2.size, 12, 10 * lvlF o.tags + o.kind⟩ := by
  unfold labF at h
  split at h
  · cases h
  · rename_i hc
    refine ⟨hc, ?_⟩
    cases ha : anchF l o with
    | none => rw [ha] at h; cases h
    | some p => rw [ha] at h; cases h; exact ⟨p, rfl, rfl⟩
theorem labF_id {l : List Ob} {z : Int} {ls : List ByteArray} {o : Ob} {y : Lab} (h : labF l z ls o = some y) : y.id = o.id := by
  obtain ⟨-, p, -, rfl⟩ := labF_some h
  rfl

theorem pixel_in {z : Int} (h0 : 0 ≤ z) (h1 : z ≤ 17) {p : Int × Int} (hp : (0 ≤ p.1 ∧ p.1 ≤ 1048576) ∧ 0 ≤ p.2 ∧ p.2 ≤ 1048576) : pixelF z 0 0 p.1 p.2 = ⟨p.1 * 256 / side z, p.2 * 256 / side z, 0⟩ := by
  have hp2 := pow_le17 z h0 h1
  have hv : validB z 0 0 = true := by unfold validB; exact decide_eq_true (by omega)
  have hf : farB p.1 p.2 = false := by unfold farB; exact decide_eq_false (by omega)
  unfold pixelF scaleF
  rw [hv, hf]
  simp
theorem side_next {z : Int} (h0 : 0 ≤ z) (h1 : z ≤ 16) : side z = side (z + 1) * 2 := by
  have : z = 0 ∨ z = 1 ∨ z = 2 ∨ z = 3 ∨ z = 4 ∨ z = 5 ∨ z = 6 ∨ z = 7 ∨ z = 8 ∨ z = 9 ∨ z = 10 ∨ z = 11 ∨ z = 12 ∨ z = 13 ∨ z = 14 ∨ z = 15 ∨ z = 16 := by omega
  rcases this with rfl | rfl | rfl | rfl | rfl | rfl | rfl | rfl | rfl | rfl | rfl | rfl | rfl | rfl | rfl | rfl | rfl <;> decide
theorem half_px {z n : Int} (h0 : 0 ≤ z) (h1 : z ≤ 16) : n * 256 / side (z + 1) / 2 = n * 256 / side z := by
  rw [side_next h0 h1, Int.ediv_ediv_of_nonneg (by have := (side_bd (z + 1) (by omega) (by omega)).1; omega)]

/-- The label of an object one level on. -/
def NextL (x y : Lab) : Prop := y.id = x.id ∧ y.w = x.w ∧ y.h = x.h ∧ y.r = x.r ∧ y.x / 2 = x.x ∧ y.y / 2 = x.y
theorem labF_next {l : List Ob} {z : Int} {ls : List ByteArray} {o : Ob} {x : Lab} (hv : mapB l = true) (h0 : 0 ≤ z) (h1 : z ≤ 16) (h : labF l z ls o = some x) : ∃ y, labF l (z + 1) ls o = some y ∧ NextL x y := by
  obtain ⟨hc, p, ha, rfl⟩ := labF_some h
  have hb := anch_bd hv ha
  refine ⟨⟨o.id, (pixelF (z + 1) 0 0 p.1 p.2).x, (pixelF (z + 1) 0 0 p.1 p.2).y, 6 * (bestF o.tags ls).2.size, 12, 10 * lvlF o.tags + o.kind⟩, ?_, rfl, rfl, rfl, rfl, ?_, ?_⟩
  · unfold labF
    rw [if_neg (by rintro (h | h); exact hc (.inl h); exact hc (.inr (by omega))), ha]
    rfl
  · rw [pixel_in (by omega) (by omega) hb, pixel_in h0 (by omega) hb]
    exact half_px h0 h1
  · rw [pixel_in (by omega) (by omega) hb, pixel_in h0 (by omega) hb]
    exact half_px h0 h1

theorem labs_mem {l : List Ob} {z : Int} {ls : List ByteArray} (hv : mapB l = true) (h0 : 0 ≤ z) (h1 : z ≤ 17) {y : Lab} : y ∈ labsF l z ls ↔ ∃ o ∈ l, labF l z ls o = some y := by
  unfold labsF
  rw [if_pos ⟨hv, h0, h1⟩, (isort_perm ltL _).mem_iff]
  unfold labsG
  rw [List.mem_filterMap]
theorem rising_inj {l : List Ob} (h : Rising l) : ∀ {a b : Ob}, a ∈ l → b ∈ l → a.id.toList = b.id.toList → a = b := by
  intro a b ha hb e
  obtain ⟨i, hi⟩ := List.getElem?_of_mem ha
  obtain ⟨j, hj⟩ := List.getElem?_of_mem hb
  rcases Nat.lt_trichotomy i j with hij | rfl | hij
  · have := rising_lt h hi hj hij
    rw [e, bytesLess_irrefl] at this
    cases this
  · rw [hi] at hj
    exact Option.some.inj hj
  · have := rising_lt h hj hi hij
    rw [e, bytesLess_irrefl] at this
    cases this
/-- The label that an Id finds is that of the object with the Id. -/
theorem labs_find {l : List Ob} {z : Int} {ls : List ByteArray} (hv : mapB l = true) (h0 : 0 ≤ z) (h1 : z ≤ 17) {o : Ob} (ho : o ∈ l) : findL (labsF l z ls) o.id = labF l z ls o := by
  unfold findL
  cases hf : (labsF l z ls).find? fun x => x.id.toList == o.id.toList with
  | some y =>
    have hm := List.mem_of_find?_eq_some hf
    have he := List.find?_some hf
    obtain ⟨o', ho', hl⟩ := (labs_mem hv h0 h1).1 hm
    have : o' = o := rising_inj (mapB_rising hv) ho' ho (by rw [← labF_id hl]; simpa using he)
    rw [← this, hl]
  | none =>
    cases hl : labF l z ls o with
    | none => rfl
    | some y =>
      exfalso
      have := List.find?_eq_none.1 hf y ((labs_mem hv h0 h1).2 ⟨o, ho, hl⟩)
      rw [labF_id hl] at this
      simp at this
theorem zoom_find {l : List Ob} {z : Int} {ls : List ByteArray} (hv : mapB l = true) (h0 : 0 ≤ z) (h1 : z ≤ 16) {i : Nat} {x : Lab} (hx : (labsF l z ls)[i]? = some x) : ∃ y, findL (labsF l (z + 1) ls) x.id = some y ∧ NextL x y := by
  obtain ⟨o, ho, hl⟩ := (labs_mem hv h0 (by omega)).1 (List.mem_of_getElem? hx)
  obtain ⟨y, hy, hn⟩ := labF_next hv h0 h1 hl
  rw [labF_id hl]
  exact ⟨y, (labs_find hv (by omega) (by omega) ho).trans hy, hn⟩
theorem findL_mem {l : List Lab} {id : ByteArray} {y : Lab} (h : findL l id = some y) : y ∈ l := List.mem_of_find?_eq_some h
theorem labs_bd {l : List Ob} {z : Int} {ls : List ByteArray} (hv : mapB l = true) (h0 : 0 ≤ z) (h1 : z ≤ 17) {y : Lab} (hy : y ∈ labsF l z ls) : (0 ≤ y.x ∧ y.x ≤ 268435456) ∧ 0 ≤ y.y ∧ y.y ≤ 268435456 := by
  obtain ⟨o, -, hl⟩ := (labs_mem hv h0 h1).1 hy
  obtain ⟨-, p, ha, rfl⟩ := labF_some hl
  have hb := anch_bd hv ha
  have hs := side_bd z h0 h1
  dsimp only
  rw [pixel_in h0 h1 hb]
  dsimp only
  have key : ∀ n : Int, 0 ≤ n → n ≤ 1048576 → 0 ≤ n * 256 / side z ∧ n * 256 / side z ≤ 268435456 := fun n h2 h3 => by
    refine ⟨Int.ediv_nonneg (by omega) (by omega), ?_⟩
    exact Int.le_trans (Int.ediv_le_self _ (by omega)) (by omega)
  exact ⟨key _ hb.1.1 hb.1.2, key _ hb.2.1 hb.2.2⟩
theorem labs_len {l : List Ob} {z : Int} {ls : List ByteArray} : (labsF l z ls).length ≤ l.length := by
  unfold labsF
  split
  · rw [isort_length]; exact labsG_len l z ls l
  · simp
theorem zoom_len {l : List Ob} {z : Int} {ls : List ByteArray} (hv : mapB l = true) (h0 : 0 ≤ z) (h1 : z ≤ 16) : (labsF l z ls).length ≤ (labsF l (z + 1) ls).length := by
  unfold labsF
  rw [if_pos ⟨hv, h0, by omega⟩, if_pos ⟨hv, by omega, by omega⟩, isort_length, isort_length]
  unfold labsG
  suffices h : ∀ k : List Ob, (k.filterMap (labF l z ls)).length ≤ (k.filterMap (labF l (z + 1) ls)).length from h l
  intro k
  induction k with
  | nil => simp
  | cons o k ih =>
    cases hl : labF l z ls o with
    | none =>
      rw [List.filterMap_cons_none hl]
      cases hl2 : labF l (z + 1) ls o with
      | none => rw [List.filterMap_cons_none hl2]; exact ih
      | some y => rw [List.filterMap_cons_some hl2]; simp; omega
    | some x =>
      obtain ⟨y, hy, -⟩ := labF_next hv h0 h1 hl
      rw [List.filterMap_cons_some hl, List.filterMap_cons_some hy]
      simp; omega
end Go.Proofs.YtaggohobdjidjaaGreatDoor

/- planispherelaw43.find. -/
namespace Go.Proofs.YtaggohobdjidjaaGreatDoor
open Go.RowKit Go.Sort Go.Shelf

theorem Box.set6 {w : World} {b : Nat} {t : TypeId} {a0 a1 a2 a3 a4 a5 : Value} (h : Box w b #[a0, a1, a2, a3, a4, a5] t) (v0 v1 v2 v3 v4 v5 : Value) : Box ((((((w.setCell ⟨b, 0, none⟩ v0).setCell ⟨b, 1, none⟩ v1).setCell ⟨b, 2, none⟩ v2).setCell ⟨b, 3, none⟩ v3).setCell ⟨b, 4, none⟩ v4).setCell ⟨b, 5, none⟩ v5) b #[v0, v1, v2, v3, v4, v5] t := (((((h.set 0 v0).set 1 v1).set 2 v2).set 3 v3).set 4 v4).set 5 v5
theorem below6 {B : Nat} {a w : World} (h : Below B a w) (v0 v1 v2 v3 v4 v5 : Value) : Below B a ((((((w.setCell ⟨B, 0, none⟩ v0).setCell ⟨B, 1, none⟩ v1).setCell ⟨B, 2, none⟩ v2).setCell ⟨B, 3, none⟩ v3).setCell ⟨B, 4, none⟩ v4).setCell ⟨B, 5, none⟩ v5) :=
  (((((h.setCell (p := ⟨B, 0, none⟩) (Nat.le_refl _) v0).setCell (p := ⟨B, 1, none⟩) (Nat.le_refl _) v1).setCell (p := ⟨B, 2, none⟩) (Nat.le_refl _) v2).setCell (p := ⟨B, 3, none⟩) (Nat.le_refl _) v3).setCell (p := ⟨B, 4, none⟩) (Nat.le_refl _) v4).setCell (p := ⟨B, 5, none⟩) (Nat.le_refl _) v5
def noLab : Lab := ⟨⟨#[]⟩, 0, 0, 0, 0, 0⟩
/-- What find returns. -/
def findV : Option Lab → Value
  | some x => .tuple #[labV x, .bool true]
  | none => .tuple #[labV noLab, .bool false]

set_option maxHeartbeats 4000000 in
theorem findL_any (p : Option Addr) (n cap : Nat) (l : List Lab) (id : ByteArray) (w : World) (hL : Lies w 6 labC p l) (hn : n = l.length) (h1 : n ≤ 1000) :
    Calls Tryz.prog 27 #[.slice p n cap, .string id] w (RetB w (findV (findL l id))) := by
  have HL := Lib.hid hL
  have HN := Lib.hid hn
  clear hL hn
  obtain ⟨R, hR⟩ : ∃ R, findV (findL l id) = R := ⟨_, rfl⟩
  rw [hR]
  have HRR := Lib.hid hR
  clear hR
  go_enter Tryz.func27, Tryz.ntmps27
  go_wp2
  go_loopw [6] (fun vi wr => ∃ i : Nat, i ≤ n ∧ vi = .int .i64 i ∧ Below w.heap.size w wr ∧ Box wr w.heap.size #[.string ⟨#[]⟩, .int .i64 0, .int .i64 0, .int .i64 0, .int .i64 0, .int .i64 0] 47 ∧ Hid ((l.take i).find? (fun x => x.id.toList == id.toList) = none)) (fun vi _ => n - (intOf vi).toNat)
  case atStart => exact ⟨0, by omega, rfl, (Below.refl _ _).alloc (Nat.le_refl _) _, Box.new _ _ _, Lib.hid (by simp)⟩
  case round =>
    obtain ⟨i, hi, rfl, hW, bR, HF⟩ := hrel
    have k0 := bR.lt
    by_cases hlt : i < n
    · obtain ⟨x, hx⟩ : ∃ x, l[i]? = some x := ⟨_, List.getElem?_eq_getElem (by have := HN.out; omega)⟩
      obtain ⟨g, o, rfl⟩ := HL.out.addr (by have := HN.out; omega)
      obtain ⟨x0, x1, x2, x3, x4, x5⟩ := (HL.out.below hW (Nat.le_refl _)).lab hx
      have hst := find_succ (p := fun x : Lab => x.id.toList == id.toList) hx HF.out
      have q1 : decide (i < n) = true := decide_eq_true hlt
      obtain ⟨xi, xx, xy, xw, xh, xr⟩ := x
      dsimp only at x0 x1 x2 x3 x4 x5 hst
      have hne : ∀ j, (⟨g, o + i * 6 + j, none⟩ : Addr).block ≠ w.heap.size := fun j => by
        have := HL.out.low ⟨g, o, none⟩ rfl (ne_nil_at hx)
        dsimp only at this ⊢
        omega
      by_cases he : xi.toList = id.toList
      · have q2 : (xi.toList == id.toList) = true := beq_iff_eq.2 he
        have HR : Hid (R = .tuple #[.agg #[.string xi, .int .i64 xx, .int .i64 xy, .int .i64 xw, .int .i64 xh, .int .i64 xr], .bool true]) := Lib.hid (by
          rw [if_pos q2] at hst
          rw [← HRR.out]
          unfold findL
          rw [find_mono hst]
          rfl)
        have f0 := bR.frozen
        have rR := bR.cell
        clear hx hst he HF hne
        go_wp2
        exact ret_box2 (by rfl) (by rfl) (by rfl) (bR.set6 _ _ _ _ _ _) Tryz.underlying47 rfl (by kernel_rfl) rfl (RetB.mk' HR.out.symm (below6 hW _ _ _ _ _ _))
      · have q2 : (xi.toList == id.toList) = false := beq_eq_false_iff_ne.2 he
        have HF2 : Hid ((l.take (i + 1)).find? (fun x => x.id.toList == id.toList) = none) := Lib.hid (by
          rw [if_neg (by rw [q2]; simp)] at hst
          exact hst)
        clear hx hst he HF hne
        go_wp2
        go_roundw
        case rel => exact ⟨i + 1, by omega, by go_num, hW, bR, HF2⟩
        case measure => simp [intOf]; omega
    · obtain rfl : i = n := by omega
      have q1 : decide (i < i) = false := decide_eq_false (by omega)
      have HR : Hid (R = .tuple #[.agg #[.string ⟨#[]⟩, .int .i64 0, .int .i64 0, .int .i64 0, .int .i64 0, .int .i64 0], .bool false]) := Lib.hid (by
        have := HF.out
        rw [HN.out, List.take_length] at this
        rw [← HRR.out]
        unfold findL
        rw [this]
        rfl)
      have f0 := bR.frozen
      have rR := bR.cell
      go_wp2
      exact ret_box2 (by rfl) (by rfl) (by rfl) (bR.set6 _ _ _ _ _ _) Tryz.underlying47 rfl (by kernel_rfl) rfl (RetB.mk' HR.out.symm (below6 hW _ _ _ _ _ _))
end Go.Proofs.YtaggohobdjidjaaGreatDoor

/- planispherelaw43.half. -/
namespace Go.Proofs.YtaggohobdjidjaaGreatDoor
open Go.RowKit Go.Sort

theorem half_any (n : Int) (_ : -1000000000 ≤ n ∧ n ≤ 1000000000) (w : World) : Calls Tryz.prog 28 #[.int .i64 n] w (RetB w (.int .i64 (n / 2))) := by
  go_enter Tryz.func28, Tryz.ntmps28
  go_wp2
  go_ret
  exact RetB.mk' rfl (Below.refl _ _)
end Go.Proofs.YtaggohobdjidjaaGreatDoor

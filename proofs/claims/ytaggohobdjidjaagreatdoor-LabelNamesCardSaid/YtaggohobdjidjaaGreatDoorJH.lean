import Derived.Test.YtaggohobdjidjaaGreatDoorJ0
import Derived.Test.YtaggohobdjidjaaGreatDoorJE
import Derived.Lib.AtoiAll
import Derived.Lib.ItoaNum
import Derived.Test.YtaggohobdjidjaaGreatDoorJG
import Derived.Laws.RangeString
import Derived.Deep.LoopGhost

/- What the library's variables hold, and Itoa, Atoi, Split by their contracts. -/
namespace Go.Proofs.YtaggohobdjidjaaGreatDoor
open Go.RowKit Go.Sort

/-- What this seat's library functions read: a number, a table, two errors. -/
structure Gw (w : World) : Prop where
  size : 6 ≤ w.heap.size
  max : ∃ m, w.cell? ⟨3, 0, none⟩ = some (.int .i64 m)
  tab : Lib.TabIs Tryz.prog w "internal/strconv.uint64pow10" .u64 Lib.pow10Tab
  syn : ∃ tp p, w.var? Tryz.prog "strconv.ErrSyntax" = some #[.iface tp p]
  rng : ∃ tp p, w.var? Tryz.prog "strconv.ErrRange" = some #[.iface tp p]

theorem Gw.below {w w' : World} {B : Nat} (h : Gw w) (hb : Below B w w') (hB : 6 ≤ B) : Gw w' := by
  obtain ⟨hs, ⟨m, hm⟩, ht, ⟨t1, p1, h1⟩, ⟨t2, p2, h2⟩⟩ := h
  refine ⟨Nat.le_trans hs hb.size, ⟨m, (hb.cell (p := ⟨3, 0, none⟩) (by show 3 < B; omega)).trans hm⟩, ?_, ⟨t1, p1, ?_⟩, ⟨t2, p2, ?_⟩⟩
  · exact var?_below hb (g := 2) (by kernel_rfl) (by omega) ht
  · exact var?_below hb (g := 0) (by kernel_rfl) (by omega) h1
  · exact var?_below hb (g := 1) (by kernel_rfl) (by omega) h2

/-- A text's value. -/
def strV (l : List UInt8) : Value := .string ⟨l.toArray⟩

theorem below_grow (w : World) (k : Nat) (os : Array Obj) : Below w.heap.size w (grow (w.drewN k) os) :=
  ⟨rfl, rfl, rfl, by simp [grow], fun j hj => by simp [grow, Array.getElem?_append, hj]⟩

theorem itoa_any (n : Int) (h0 : -9223372036854775808 ≤ n) (h1 : n ≤ 9223372036854775807) (w : World) (hG : Gw w) : Calls Tryz.prog 68 #[.int .i64 n] w (RetB w (strV (Lib.itoa n))) :=
  (Tryz.strconv_Itoa n h0 h1 w hG.tab).mono fun e w' ⟨he, k, os, hw⟩ => ⟨he, by rw [hw]; exact below_grow w k os⟩

theorem freeze_block (w : World) (a : Addr) (n k : Nat) (h : k ≠ a.block) : (w.freeze a n).heap[k]? = w.heap[k]? := by
  unfold World.freeze
  split
  · rfl
  · simp only [Array.getElem?_modify]
    rw [if_neg (Ne.symm h)]
theorem freeze_rest (w : World) (a : Addr) (n : Nat) : (w.freeze a n).heap.size = w.heap.size ∧ (w.freeze a n).os = w.os ∧ (w.freeze a n).tape = w.tape ∧ (w.freeze a n).output = w.output := by
  unfold World.freeze
  split <;> simp
theorem bytesWorld_below (w : World) (e : TypeId) (s : ByteArray) : Below w.heap.size w (Lib.bytesWorld w e s) := by
  unfold Lib.bytesWorld
  obtain ⟨h1, h2, h3, h4⟩ := freeze_rest (w.drew.alloc (.cells (Lib.bytesCells w e s) e)) ⟨w.heap.size, (Lib.bytesCells w e s).size, none⟩ 1
  have hb : Below w.heap.size w (w.drew.alloc (.cells (Lib.bytesCells w e s) e)) := (Below.refl _ w).drew.alloc (Nat.le_refl _) _
  exact ⟨h2.trans hb.os, h3.trans hb.tape, h4.trans hb.output, by rw [h1]; exact hb.size, fun k hk => (freeze_block _ _ _ _ (by show k ≠ w.heap.size; omega)).trans (hb.block k hk)⟩

/-- Atoi: a number and no error, or an error. -/
theorem atoi_any (s : ByteArray) (hs : s.size ≤ 281474976710656) (w : World) (hG : Gw w) : Calls Tryz.prog 67 #[.string s] w fun e w' =>
    Below w.heap.size w w' ∧ (e = .returned (.tuple #[.int .i64 (numF s.data.toList), .nilIface]) ∨ (numF s.data.toList = -1 ∧ ∃ v N, e = .returned (.tuple #[.int .i64 v, .iface 143 (.pointer (some ⟨N, 0, none⟩))]))) := by
  cases h : Lib.atoiAll s.data.toList with
  | ok v =>
    refine (Tryz.strconv_Atoi_ok s (by omega) v h w).mono ?_
    rintro e w' ⟨he, hw⟩
    have hn : numF s.data.toList = v := by unfold numF; rw [h]
    refine ⟨?_, .inl (by rw [he, hn])⟩
    rcases hw with rfl | ⟨t, rfl⟩
    · exact Below.refl _ _
    · exact bytesWorld_below w 5 t
  | range =>
    have hn : numF s.data.toList = -1 := by unfold numF; rw [h]
    obtain ⟨tp, p, hp⟩ := hG.rng
    refine (Tryz.strconv_Atoi_range_var s hs h tp p w hp).mono ?_
    rintro e w' ⟨N, he, _, _, hb⟩
    exact ⟨hb, .inr ⟨hn, _, N, he⟩⟩
  | _ =>
    have hn : numF s.data.toList = -1 := by unfold numF; rw [h]
    obtain ⟨tp, p, hp⟩ := hG.syn
    refine (Tryz.strconv_Atoi_syntax_var s hs h tp p w hp).mono ?_
    rintro e w' ⟨N, he, _, _, hb⟩
    exact ⟨hb, .inr ⟨hn, _, N, he⟩⟩
end Go.Proofs.YtaggohobdjidjaaGreatDoor

/- The level of an object: plain. -/
namespace Go.Proofs.YtaggohobdjidjaaGreatDoor

/-- The value of a key; the empty text if there is none. -/
def getF (l : List Tg) (k : List UInt8) : ByteArray := match l.find? (fun t => t.1.toList == k) with
  | some t => t.2
  | none => ⟨#[]⟩
def hasF (l : List Tg) (k : List UInt8) : Bool := l.any (fun t => t.1.toList == k)
/-- The zoom level that a text names. -/
def lvlN (s : List UInt8) : Nat := ((List.range 18).find? fun n => Lib.itoa (n : Nat) == s).getD 0
def levelKey : List UInt8 := [108, 101, 118, 101, 108]
def lvlF (l : List Tg) : Int := lvlN (getF l levelKey).data.toList

theorem itoa_atoi : ∀ n : Fin 18, Lib.atoiAll (Lib.itoa n.val) = .ok n.val := by decide +kernel
theorem itoa_inj18 : ∀ n m : Fin 18, Lib.itoa n.val = Lib.itoa m.val → n = m := by decide +kernel
theorem lvlN_le (s : List UInt8) : lvlN s ≤ 17 := by
  unfold lvlN
  cases h : (List.range 18).find? fun n => Lib.itoa (n : Nat) == s with
  | none => simp
  | some n =>
    have := List.mem_range.1 (List.mem_of_find?_eq_some h)
    simp; omega
/-- What Atoi and Itoa make of it. -/
theorem lvlN_of {s : List UInt8} {n : Nat} (hn : n < 18) (h : Lib.itoa n = s) : lvlN s = n := by
  unfold lvlN
  have : (List.range 18).find? (fun m => Lib.itoa (m : Nat) == s) = some n := by
    rw [List.find?_eq_some_iff_getElem]
    refine ⟨by simp [h], n, by simpa using hn, by simp, fun j hj => ?_⟩
    have hj18 : j < 18 := by omega
    simp only [List.getElem_range, Bool.not_eq_true', beq_eq_false_iff_ne]
    intro e
    have := itoa_inj18 ⟨j, hj18⟩ ⟨n, hn⟩ (e.trans h.symm)
    have := congrArg Fin.val this
    simp at this
    omega
  rw [this]; rfl
theorem lvlN_no {s : List UInt8} (h : ∀ n : Nat, n < 18 → Lib.itoa n ≠ s) : lvlN s = 0 := by
  unfold lvlN
  have : (List.range 18).find? (fun m => Lib.itoa (m : Nat) == s) = none := by
    rw [List.find?_eq_none]
    intro n hn
    have := h n (by simpa using hn)
    simpa using this
  rw [this]; rfl
theorem lvlN_atoi {s : List UInt8} {n : Nat} (hn : n < 18) (h : Lib.itoa n = s) : numF s = n := by
  unfold numF
  rw [← h, itoa_atoi ⟨n, hn⟩]

theorem find_zero {α : Type} (p : α → Bool) (l : List α) : (l.take 0).find? p = none := by simp
theorem find_succ {α : Type} {p : α → Bool} {l : List α} {i : Nat} {x : α} (hx : l[i]? = some x) (h : (l.take i).find? p = none) : (l.take (i + 1)).find? p = if p x then some x else none := by
  obtain ⟨hi, rfl⟩ := List.getElem?_eq_some_iff.1 hx
  rw [List.take_succ_eq_append_getElem hi, List.find?_append, h]
  simp [List.find?_cons]
  cases p l[i] <;> rfl
theorem find_mono {α : Type} {p : α → Bool} {l : List α} {i : Nat} {x : α} (h : (l.take i).find? p = some x) : l.find? p = some x := by
  have e : l = l.take i ++ l.drop i := (List.take_append_drop _ _).symm
  rw [e, List.find?_append, h]
  rfl
end Go.Proofs.YtaggohobdjidjaaGreatDoor

/- tag.Get, label.level. -/
namespace Go.Proofs.YtaggohobdjidjaaGreatDoor
open Go.Shelf Go.RowKit Go.Sort

theorem ret_tup2 {a b a' b' : Value} (h : a = a') (k : b = b') : Ending.returned (.tuple #[a, b]) = .returned (.tuple #[a', b']) := by rw [h, k]

set_option maxHeartbeats 1000000 in
theorem tagGet_any (p : Option Addr) (n cap : Nat) (l : List Tg) (key : ByteArray) (w : World) (hL : Lies w 2 tagC p l) (hn : n = l.length) (hn1 : n ≤ 1000000) :
    Calls Tryz.prog 66 #[.slice p n cap, .string key] w (RetB w (.tuple #[.string (getF l key.toList), .bool (hasF l key.toList)])) := by
  have HL := Lib.hid hL
  have HN := Lib.hid hn
  clear hL hn
  go_enter Tryz.func66, Tryz.ntmps66
  go_wp2
  go_loopw [10] (fun vi wr => ∃ (i : Nat), i ≤ n ∧ vi = .int .i64 i ∧ Below w.heap.size w wr ∧ Hid ((l.take i).find? (fun t => t.1.toList == key.toList) = none)) (fun vi _ => n - (intOf vi).toNat)
  case atStart => exact ⟨0, by omega, rfl, Below.refl _ _, Lib.hid (find_zero _ _)⟩
  case round =>
    obtain ⟨i, hi, rfl, hW, HF⟩ := hrel
    by_cases hlt : i < n
    · obtain ⟨g, o, rfl⟩ := HL.out.addr (by have := HN.out; omega)
      obtain ⟨x, hx⟩ : ∃ x, l[i]? = some x := ⟨_, List.getElem?_eq_getElem (by have := HN.out; omega)⟩
      obtain ⟨r0, r1⟩ := (HL.out.below hW HL.out.lt).tg hx
      obtain ⟨k, v⟩ := x
      dsimp only at r0 r1
      have HX := Lib.hid hx
      have hs := hW.size
      have hst := find_succ (p := fun t : Tg => t.1.toList == key.toList) hx HF.out
      dsimp only at hst
      clear hx
      cases he : (k.toList == key.toList) with
      | true =>
        rw [he, if_pos rfl] at hst
        have HR : Hid (getF l key.toList = v ∧ hasF l key.toList = true) := Lib.hid ⟨by unfold getF; rw [find_mono hst], by unfold hasF; rw [List.any_eq_true]; exact ⟨(k, v), List.mem_of_getElem? HX.out, he⟩⟩
        clear hst HF
        go_wp2
        go_ret2
        exact ⟨ret_tup2 (congrArg Value.string HR.out.1.symm) (congrArg Value.bool HR.out.2.symm), hW.alloc hs _⟩
      | false =>
        rw [he, if_neg (by simp)] at hst
        have HF2 := Lib.hid hst
        clear hst HF
        go_wp2
        go_roundw
        case rel => exact ⟨i + 1, by omega, by go_num, hW.alloc hs _, HF2⟩
        case measure => simp [intOf]; omega
    · have HR : Hid (getF l key.toList = ⟨#[]⟩ ∧ hasF l key.toList = false) := Lib.hid (by
        have h := HF.out
        rw [List.take_of_length_le (by have := HN.out; omega)] at h
        refine ⟨by unfold getF; rw [h], ?_⟩
        unfold hasF
        rw [List.any_eq_false]
        intro t ht
        have := List.find?_eq_none.1 h t ht
        simpa using this)
      go_wp2
      go_ret2
      exact ⟨ret_tup2 (congrArg Value.string HR.out.1.symm) (congrArg Value.bool HR.out.2.symm), hW⟩

theorem getF_small {l : List Tg} (hz : SmallT l) (k : List UInt8) : (getF l k).size ≤ 1000000 := by
  unfold getF
  cases h : l.find? (fun t => t.1.toList == k) with
  | none => exact Nat.zero_le _
  | some t => exact (hz t (List.mem_of_find?_eq_some h)).2

set_option maxHeartbeats 2000000 in
set_option maxRecDepth 100000 in
theorem level_any (v : OV) (o : Ob) (w : World) (h : ObAt w v o) (hz : SmallO o) (hG : Gw w) : Calls Tryz.prog 42 #[ovV v] w (RetB w (.int .i64 (lvlF o.tags))) := by
  have hsm := getF_small hz.tags levelKey
  have hkl : (⟨#[108, 101, 118, 101, 108]⟩ : ByteArray).toList = levelKey := by rw [ByteArray.toList_eq]; rfl
  have hgc := fun W (hW : Below w.heap.size w W) => tagGet_any v.pt v.nt v.ct o.tags ⟨#[108, 101, 118, 101, 108]⟩ W (h.tags.below hW (Nat.le_refl _)) h.nt (by rw [h.nt]; exact hz.nt)
  rw [hkl] at hgc
  have HR : Hid (lvlF o.tags = lvlN (getF o.tags levelKey).data.toList) := Lib.hid rfl
  generalize getF o.tags levelKey = s at hsm hgc HR
  have hle := lvlN_le s.data.toList
  have l0 := hG.size
  have HC := Lib.hid hgc
  clear h hz hkl hgc
  unfold ovV
  go_enter Tryz.func42, Tryz.ntmps42
  go_wp2_with fail
  refine (HC.out _ ((Below.refl _ _).alloc (Nat.le_refl _) _)).mono ?_
  rintro e w1 ⟨rfl, hb⟩
  have hW := ((Below.refl w.heap.size w).alloc (Nat.le_refl _) (.cells #[.string v.id, .int .i64 v.kind, .int .i64 v.x, .int .i64 v.y, .slice v.pr v.nr v.cr, .slice v.pt v.nt v.ct] 59)).trans (hb.mono (by simp))
  clear hb HC
  go_wp2_with fail
  refine (atoi_any s (by omega) w1 (hG.below hW l0)).mono ?_
  rintro e w2 ⟨hb, hor⟩
  replace hW := hW.trans (hb.mono hW.size)
  clear hb
  rcases hor with rfl | ⟨hneg, vv, N, rfl⟩
  · by_cases hin : 0 ≤ numF s.data.toList ∧ numF s.data.toList ≤ 17
    · obtain ⟨n0, n17⟩ := hin
      obtain ⟨k, hk⟩ : ∃ k : Nat, numF s.data.toList = k := ⟨(numF s.data.toList).toNat, by omega⟩
      have HNK : Hid (numF s.data.toList = k) := Lib.hid hk
      rw [hk] at n0 n17 ⊢
      have hk17 : k ≤ 17 := by omega
      clear hk
      have hcall := itoa_any (k : Int) (by omega) (by omega) w2 (hG.below hW l0)
      by_cases hi : Lib.itoa (k : Int) = s.data.toList
      · have HL : Hid (lvlF o.tags = k) := Lib.hid (by rw [HR.out, lvlN_of (by omega) hi])
        have hs : strV (Lib.itoa (k : Int)) = .string s := by unfold strV; rw [hi]
        rw [hs] at hcall
        clear hi hs
        go_wp2_with fail
        refine hcall.mono ?_
        rintro e w3 ⟨rfl, hb⟩
        go_wp2
        go_ret
        exact ⟨ret_int HL.out.symm, hW.trans (hb.mono hW.size)⟩
      · have HL : Hid (lvlF o.tags = 0) := Lib.hid (by
          rw [HR.out, lvlN_no (fun n hn e => ?_)]
          · rfl
          · have h1 := lvlN_atoi hn e
            rw [HNK.out] at h1
            have : n = k := by omega
            subst this
            exact hi e)
        obtain ⟨t, ht⟩ : ∃ t, t = (⟨(Lib.itoa (k : Int)).toArray⟩ : ByteArray) := ⟨_, rfl⟩
        have hs : strV (Lib.itoa (k : Int)) = .string t := by unfold strV; rw [ht]
        rw [hs] at hcall
        have e1 : (t.toList == s.toList) = false := by
          rw [ByteArray.toList_eq, ByteArray.toList_eq, beq_eq_false_iff_ne, ht]
          exact fun e => hi e
        have e2 : (t.toList != s.toList) = true := by unfold bne; rw [e1]; rfl
        clear hi hs ht
        go_wp2_with fail
        refine hcall.mono ?_
        rintro e w3 ⟨rfl, hb⟩
        go_wp2
        go_ret
        exact ⟨ret_int HL.out.symm, hW.trans (hb.mono hW.size)⟩
    · have HL : Hid (lvlF o.tags = 0) := Lib.hid (by
        rw [HR.out, lvlN_no (fun n hn e => ?_)]
        · rfl
        · have h1 := lvlN_atoi hn e
          omega)
      generalize numF s.data.toList = m at hin ⊢
      by_cases m0 : m < 0
      · have d0 : decide (m < 0) = true := decide_eq_true m0
        clear hin
        go_wp2
        go_ret
        exact ⟨ret_int HL.out.symm, hW⟩
      · have d0 : decide (m < 0) = false := decide_eq_false m0
        have d1 : decide (17 < m) = true := decide_eq_true (by omega)
        have m1 : 17 < m := by omega
        clear hin
        go_wp2
        go_ret
        exact ⟨ret_int HL.out.symm, hW⟩
  · have HL : Hid (lvlF o.tags = 0) := Lib.hid (by
      rw [HR.out, lvlN_no (fun n hn e => ?_)]
      · rfl
      · have h1 := lvlN_atoi hn e
        omega)
    clear hneg
    go_wp2
    go_ret
    exact ⟨ret_int HL.out.symm, hW⟩
end Go.Proofs.YtaggohobdjidjaaGreatDoor

/- The point of an object's label: plain. -/
namespace Go.Proofs.YtaggohobdjidjaaGreatDoor

def sumX (ps : List (Int × Int)) : Int := (ps.map Prod.fst).sum
def sumY (ps : List (Int × Int)) : Int := (ps.map Prod.snd).sum
/-- Of points, the one of the label. -/
def midF (kind : Int) (ps : List (Int × Int)) : Int × Int := if kind = 3 then (sumX ps / ps.length, sumY ps / ps.length) else ps[ps.length / 2]!
def anchF (l : List Ob) (o : Ob) : Option (Int × Int) := if (pointsF l o.id).2 = 0 ∧ (pointsF l o.id).1 ≠ [] then some (midF o.kind (pointsF l o.id).1) else none

theorem sumX_succ {ps : List (Int × Int)} {i : Nat} {p : Int × Int} (h : ps[i]? = some p) : sumX (ps.take (i + 1)) = sumX (ps.take i) + p.1 := by
  obtain ⟨hi, rfl⟩ := List.getElem?_eq_some_iff.1 h
  unfold sumX
  rw [List.take_succ_eq_append_getElem hi, List.map_append, List.sum_append]
  simp only [List.map_cons, List.map_nil, List.sum_cons, List.sum_nil, Int.add_zero]
theorem sumY_succ {ps : List (Int × Int)} {i : Nat} {p : Int × Int} (h : ps[i]? = some p) : sumY (ps.take (i + 1)) = sumY (ps.take i) + p.2 := by
  obtain ⟨hi, rfl⟩ := List.getElem?_eq_some_iff.1 h
  unfold sumY
  rw [List.take_succ_eq_append_getElem hi, List.map_append, List.sum_append]
  simp only [List.map_cons, List.map_nil, List.sum_cons, List.sum_nil, Int.add_zero]

def OnP (p : Int × Int) : Prop := (0 ≤ p.1 ∧ p.1 < 1048576) ∧ 0 ≤ p.2 ∧ p.2 < 1048576
theorem sum_bd : ∀ ps : List (Int × Int), (∀ p ∈ ps, OnP p) → (0 ≤ sumX ps ∧ sumX ps ≤ ps.length * 1048576) ∧ 0 ≤ sumY ps ∧ sumY ps ≤ ps.length * 1048576
  | [], _ => by simp [sumX, sumY]
  | p :: ps, h => by
    have ih := sum_bd ps (fun q hq => h q (by simp [hq]))
    have hp := h p (by simp)
    unfold OnP at hp
    have e1 : sumX (p :: ps) = p.1 + sumX ps := by simp [sumX]
    have e2 : sumY (p :: ps) = p.2 + sumY ps := by simp [sumY]
    rw [e1, e2, List.length_cons]
    push_cast
    omega

theorem okO_node {o : Ob} (h : okO o = true) (hk : o.kind = 1) : OnP (o.x, o.y) := by
  unfold okO at h
  simp only [Bool.and_eq_true] at h
  have := h.2
  rw [if_pos hk, Bool.and_eq_true] at this
  have h2 := this.2
  unfold onB at h2
  have := of_decide_eq_true h2
  unfold OnP
  omega
theorem okO_len {o : Ob} (h : okO o = true) : o.refs.length ≤ 2000 := by
  unfold okO at h
  simp only [Bool.and_eq_true] at h
  exact of_decide_eq_true h.1.1.2
theorem findO_mem {l : List Ob} {id : ByteArray} {o : Ob} (h : findO l id = some o) : o ∈ l := List.mem_of_find?_eq_some h
theorem refPts_on {l : List Ob} (hv : mapB l = true) : ∀ (rs : List ByteArray) (ps : List (Int × Int)), refPts l rs = some ps → ∀ p ∈ ps, OnP p
  | [], ps, h => by
    have : ([] : List (Int × Int)) = ps := Option.some.inj h
    rw [← this]; intro p hp; cases hp
  | r :: rs, ps, h => by
    unfold refPts at h
    cases hs : refPt l r with
    | none => rw [hs] at h; cases h
    | some q =>
      rw [hs] at h
      cases hq : refPts l rs with
      | none => simp [hq] at h
      | some qs =>
        simp [hq] at h
        rw [← h]
        intro p hp
        rcases List.mem_cons.1 hp with rfl | hp
        · unfold refPt at hs
          cases hf : findO l r with
          | none => rw [hf] at hs; cases hs
          | some k =>
            rw [hf] at hs
            dsimp only at hs
            split at hs
            · rename_i hk
              cases hs
              exact okO_node (mapB_ok hv k (findO_mem hf)) hk
            · cases hs
        · exact refPts_on hv rs qs hq p hp
theorem points_on {l : List Ob} (hv : mapB l = true) (id : ByteArray) : (∀ p ∈ (pointsF l id).1, OnP p) ∧ (pointsF l id).1.length ≤ 2000 := by
  unfold pointsF
  cases hf : findO l id with
  | none => exact ⟨fun p hp => (by cases hp), by simp⟩
  | some o =>
    have ho := mapB_ok hv o (findO_mem hf)
    dsimp only
    unfold ptsO
    split
    · rename_i hk
      refine ⟨fun p hp => ?_, by simp⟩
      simp at hp
      rw [hp]
      exact okO_node ho hk
    · split
      · split
        · rename_i ps hps
          exact ⟨refPts_on hv _ ps hps, by dsimp only; rw [refPts_length l _ ps hps]; exact okO_len ho⟩
        · exact ⟨fun p hp => (by cases hp), by simp⟩
      · exact ⟨fun p hp => (by cases hp), by simp⟩
end Go.Proofs.YtaggohobdjidjaaGreatDoor

/- label.anchor, of an object and a valid map. -/
namespace Go.Proofs.YtaggohobdjidjaaGreatDoor
open Go.Shelf Go.RowKit Go.Sort

/-- What anchor returns. -/
def anchV (r : Option (Int × Int)) : Value := match r with
  | some p => .tuple #[.agg #[.int .i64 p.1, .int .i64 p.2], .bool true]
  | none => .tuple #[.agg #[.int .i64 0, .int .i64 0], .bool false]

theorem Lies.ptAt {W : World} {g o i : Nat} {l : List Pt} {x : Pt} (h : Lies W 2 ptC (some ⟨g, o, none⟩) l) (hx : l[i]? = some x) : W.cell? ⟨g, o + i * 2, none⟩ = some (.int .i64 x.1) ∧ W.cell? ⟨g, o + i * 2 + 1, none⟩ = some (.int .i64 x.2) :=
  ⟨h.cell g o rfl i x hx 0 (by omega), h.cell g o rfl i x hx 1 (by omega)⟩

set_option maxHeartbeats 8000000 in
set_option maxRecDepth 100000 in
theorem anchor_any (p : Option Addr) (n cap : Nat) (l : List Ob) (v : OV) (o : Ob) (w : World) (hL : Objs w p l) (hn : n = l.length) (hv : mapB l = true) (hz : SmallM l) (hn1 : n ≤ 1000000) (hid : v.id = o.id) (hkind : v.kind = o.kind) :
    Calls Tryz.prog 43 #[.agg #[.slice p n cap], ovV v] w (RetB w (anchV (anchF l o))) := by
  have HL := Lib.hid hL
  have HN := Lib.hid hn
  have HV := Lib.hid hv
  have HZ := Lib.hid hz
  have hon := points_on hv o.id
  have HA : Hid (anchF l o = if (pointsF l o.id).2 = 0 ∧ (pointsF l o.id).1 ≠ [] then some (midF o.kind (pointsF l o.id).1) else none) := Lib.hid rfl
  have hpc := fun W (hW : Below w.heap.size w W) => points_any p n cap l o.id W (hL.below hW hL.lt) hn hv hz hn1
  rw [← hid] at hon HA hpc
  rw [← hkind] at HA
  obtain ⟨⟨ps, er⟩, hq⟩ : ∃ q, pointsF l v.id = q := ⟨_, rfl⟩
  rw [hq] at hon HA hpc
  dsimp only at hon HA hpc
  have HPC := Lib.hid hpc
  have HON := Lib.hid hon
  clear hL hn hv hz hon hpc hid hkind hq
  unfold ovV
  go_enter Tryz.func43, Tryz.ntmps43
  go_wp2_with fail
  refine calls_abs (fun W => Below w.heap.size w W ∧ Box W (w.heap.size + 1 + 1) #[.int .i64 0, .int .i64 0] 24 ∧ Box W (w.heap.size + 1) #[.string v.id, .int .i64 v.kind, .int .i64 v.x, .int .i64 v.y, .slice v.pr v.nr v.cr, .slice v.pt v.nt v.ct] 59)
    ⟨(((Below.refl _ _).alloc (Nat.le_refl _) _).alloc (by simp) _).alloc (by simp; omega) _, Box.new' (by simp) _ _, (Box.new' (by simp) _ _).alloc _⟩ ?_
  rintro W ⟨hW, bR, bO⟩
  refine (HPC.out W hW).mono ?_
  rintro e w1 ⟨p1, n1, c1, rfl, hn1', hc1, hL1, -, hb⟩
  replace hW := hW.trans (hb.mono hW.size)
  replace bR := bR.below hb bR.lt
  replace bO := bO.below hb bO.lt
  have HL1 := Lib.hid hL1
  have HN1 := Lib.hid hn1'
  have hn2 : n1 ≤ 2000 := by rw [hn1']; exact HON.out.2
  clear hb HPC hL1 hn1'
  have rR := bR.cell
  have fR := bR.frozen
  have kR := bR.lt
  have rO := bO.cell
  by_cases her : er = 0
  case neg =>
    have HR : Hid (anchF l o = none) := Lib.hid (by rw [HA.out, if_neg (fun h => her h.1)])
    have e1 : (er != 0) = true := bne_iff_ne.2 her
    have e2 : (er == 0) = false := beq_eq_false_iff_ne.2 her
    clear her HA
    go_wp2
    exact ret_box2 (by rfl) (by rfl) (by rfl) (bR.set2 _ _) Tryz.underlying24 rfl (by kernel_rfl) rfl (RetB.mk' (by rw [HR.out]; rfl) (by repeat (first | assumption | exact Below.refl _ _ | refine Below.setCell ?_ (by first | (simp; done) | (simp; omega) | omega) _ | refine Below.alloc ?_ (by first | (simp; done) | (simp; omega) | omega) _)))
  case pos =>
    subst her
    by_cases hn0 : n1 = 0
    · have HR : Hid (anchF l o = none) := Lib.hid (by rw [HA.out, if_neg (fun h => h.2 (List.length_eq_zero_iff.1 (by rw [← HN1.out]; exact hn0)))])
      subst hn0
      clear HA
      go_wp2
      exact ret_box2 (by rfl) (by rfl) (by rfl) (bR.set2 _ _) Tryz.underlying24 rfl (by kernel_rfl) rfl (RetB.mk' (by rw [HR.out]; rfl) (by repeat (first | assumption | exact Below.refl _ _ | refine Below.setCell ?_ (by first | (simp; done) | (simp; omega) | omega) _ | refine Below.alloc ?_ (by first | (simp; done) | (simp; omega) | omega) _)))
    · have e0 : ((n1 : Int) == 0) = false := by rw [beq_eq_false_iff_ne]; omega
      have HR : Hid (anchF l o = some (midF v.kind ps)) := Lib.hid (by rw [HA.out, if_pos ⟨rfl, fun h => hn0 (by rw [HN1.out, h]; rfl)⟩])
      have n10 : 0 < n1 := by omega
      clear HA hn0
      obtain ⟨g, o1, rfl⟩ := HL1.out.addr (by have := HN1.out; omega)
      by_cases k3 : v.kind = 3
      · have ek : (v.kind != 3) = false := by rw [bne_eq_false_iff_eq]; exact k3
        have ek2 : (v.kind == 3) = true := by rw [beq_iff_eq]; exact k3
        have HM : Hid (midF v.kind ps = (sumX ps / ps.length, sumY ps / ps.length)) := Lib.hid (if_pos k3)
        clear k3
        go_wp2
        clear rR fR kR rO
        have hw1 := hW.size
        have hlR := bR.lt
        go_loopw [37] (fun vk wr => ∃ k : Nat, k ≤ n1 ∧ vk = .int .i64 k ∧ Below w.heap.size w wr ∧ Below w1.heap.size w1 wr ∧ Box wr (w.heap.size + 1 + 1) #[.int .i64 0, .int .i64 0] 24 ∧ Box wr w1.heap.size #[.int .i64 (sumX (ps.take k)), .int .i64 (sumY (ps.take k))] 24 ∧ Hid (Lies wr 2 ptC (some ⟨g, o1, none⟩) ps)) (fun vk _ => n1 - (intOf vk).toNat)
        case atStart => exact ⟨0, by omega, rfl, hW.alloc hW.size _, (Below.refl _ _).alloc (Nat.le_refl _) _, bR.alloc _, Box.new _ _ _, Lib.hid (HL1.out.alloc _)⟩
        case round =>
          clear hW bR
          obtain ⟨k, hk, rfl, hW, hW1, bR, bS, HLk⟩ := hrel
          have hsb := sum_bd (ps.take k) (fun p hp => HON.out.1 p (List.mem_of_mem_take hp))
          have hlk : (ps.take k).length ≤ 2000 := by rw [List.length_take]; have := HN1.out; omega
          have rR := bR.cell
          have fR := bR.frozen
          have kR := bR.lt
          have rS := bS.cell
          have fS := bS.frozen
          have kS := bS.lt
          by_cases hkn : k < n1
          · have hkl : k < ps.length := by rw [← HN1.out]; exact hkn
            obtain ⟨⟨px, py⟩, hp⟩ : ∃ x, ps[k]? = some x := ⟨_, List.getElem?_eq_getElem hkl⟩
            have hon := HON.out.1 _ (List.mem_of_getElem? hp)
            unfold OnP at hon
            dsimp only at hon
            obtain ⟨c1, c2⟩ := HLk.out.ptAt hp
            dsimp only at c1 c2
            have ex := sumX_succ hp
            have ey := sumY_succ hp
            dsimp only at ex ey
            have HX := Lib.hid ex
            have HY := Lib.hid ey
            clear ex ey
            generalize sumX (ps.take k) = sx at *
            generalize sumY (ps.take k) = sy at *
            have e1 : decide (k < n1) = true := decide_eq_true hkn
            have e2 : decide ((k : Int) < (n1 : Int)) = true := decide_eq_true (by omega)
            go_wp2
            refine ⟨⟨k + 1, by omega, by push_cast; rfl, (by repeat (first | assumption | exact Below.refl _ _ | refine Below.setCell ?_ (by first | (simp; done) | (simp; omega) | omega) _ | refine Below.alloc ?_ (by first | (simp; done) | (simp; omega) | omega) _)), ?_, ?_, ?_, ?_⟩, by simp only [intOf]; omega⟩
            · refine Below.alloc (Below.setCell (Below.setCell hW1 ?_ _) ?_ _) ?_ _ <;> first | (simp; done) | (simp; omega) | (exact hW1.size)
            · exact ((bR.set_other (by simp; omega) _ _).set_other (by simp; omega) _ _).alloc _
            · rw [HX.out, HY.out]
              exact (bS.set2 _ _).alloc _
            · exact Lib.hid (HL1.out.below (B := w1.heap.size) (by
                refine Below.alloc (Below.setCell (Below.setCell hW1 ?_ _) ?_ _) ?_ _ <;> first | (simp; done) | (simp; omega)) (Nat.le_refl _))
          · obtain rfl : k = n1 := by omega
            have HT : Hid (ps.take k = ps) := Lib.hid (by rw [HN1.out]; exact List.take_length)
            rw [HT.out] at rS hsb hlk bS
            have HX : Hid (sumX ps / (ps.length : Int) = sumX ps / (k : Int) ∧ sumY ps / (ps.length : Int) = sumY ps / (k : Int)) := Lib.hid (by rw [← HN1.out]; exact ⟨rfl, rfl⟩)
            generalize sumX ps = sx at *
            generalize sumY ps = sy at *
            have hk0 : (0 : Int) < (k : Int) := by omega
            have hqx := Int.ediv_nonneg hsb.1.1 (Int.le_of_lt hk0)
            have hqy := Int.ediv_nonneg hsb.2.1 (Int.le_of_lt hk0)
            have hqx2 := Int.ediv_le_self (k : Int) hsb.1.1
            have hqy2 := Int.ediv_le_self (k : Int) hsb.2.1
            have e1 : decide (k < k) = false := decide_eq_false (by omega)
            go_wp2_with fail
            have q0 := cell_regrown (bS.cell 0)
            have q1 := cell_regrown (bS.cell 1)
            refine wp_region_below_tail 11 (by kernel_rfl) (by kernel_rfl) ?_
            simp only [List.take_succ_cons, List.take_zero, List.drop_succ_cons, List.drop_zero]
            repeat (go_big_quiet_step (fail))
            refine wpQuiet_nil ?_
            rintro w4 hb4
            replace hW := hW.trans (hb4.mono hW.size)
            replace bR := bR.below hb4 bR.lt
            replace bS := bS.below hb4 bS.lt
            have rR := bR.cell
            have fR := bR.frozen
            have kR := bR.lt
            have rS := bS.cell
            clear q0 q1 hb4
            go_wp2
            exact ret_box2 (by rfl) (by rfl) (by rfl) (bR.set2 _ _) Tryz.underlying24 rfl (by kernel_rfl) rfl (RetB.mk' (by rw [HR.out, HM.out, HX.out.1, HX.out.2]; rfl) (by repeat (first | assumption | exact Below.refl _ _ | refine Below.setCell ?_ (by first | (simp; done) | (simp; omega) | omega) _ | refine Below.alloc ?_ (by first | (simp; done) | (simp; omega) | omega) _)))
      · have ek : (v.kind != 3) = true := by rw [bne_iff_ne]; exact k3
        have ek2 : (v.kind == 3) = false := by rw [beq_eq_false_iff_ne]; exact k3
        obtain ⟨h, hh, hh2⟩ : ∃ h : Nat, h = n1 / 2 ∧ (n1 : Int) / 2 = (h : Int) := ⟨n1 / 2, rfl, by omega⟩
        have hlt : h < n1 := by omega
        have hhl : h < ps.length := by rw [← HN1.out]; exact hlt
        obtain ⟨⟨px, py⟩, hp⟩ : ∃ x, ps[h]? = some x := ⟨_, List.getElem?_eq_getElem hhl⟩
        have HM : Hid (midF v.kind ps = (px, py)) := Lib.hid (by
          unfold midF
          rw [if_neg k3, ← HN1.out, ← hh]
          obtain ⟨hi, he⟩ := List.getElem?_eq_some_iff.1 hp
          rw [getElem!_pos ps h hi, he])
        obtain ⟨c1, c2⟩ := HL1.out.ptAt hp
        dsimp only at c1 c2
        clear k3 hh
        go_wp2
        exact ret_box2 (by rfl) (by rfl) (by rfl) (bR.set2 _ _) Tryz.underlying24 rfl (by kernel_rfl) rfl (RetB.mk' (by rw [HR.out, HM.out]; rfl) (by repeat (first | assumption | exact Below.refl _ _ | refine Below.setCell ?_ (by first | (simp; done) | (simp; omega) | omega) _ | refine Below.alloc ?_ (by first | (simp; done) | (simp; omega) | omega) _)))
end Go.Proofs.YtaggohobdjidjaaGreatDoor

/- name.language: the language of a key that is a name. -/
namespace Go.Proofs.YtaggohobdjidjaaGreatDoor
open Go.Shelf Go.RowKit Go.Sort

def keyN : List UInt8 := [110, 97, 109, 101]
def keyP : List UInt8 := [110, 97, 109, 101, 95]
def lowB (c : UInt8) : Bool := decide (97 ≤ c.toNat) && decide (c.toNat ≤ 122)
/-- The text behind the key's start. -/
def langT (k : List UInt8) : List UInt8 := if k = keyN then [] else Lib.trimPrefix k keyP
/-- Is the key one of a name? -/
def langB (k : List UInt8) : Bool := if k = keyN then true else Lib.hasPrefix k keyP && (Lib.trimPrefix k keyP).all lowB && decide (0 < (Lib.trimPrefix k keyP).length) && decide ((Lib.trimPrefix k keyP).length ≤ 8)

theorem all_take_succ {l : List UInt8} {i : Nat} (hi : i < l.length) : (l.take (i + 1)).all lowB = ((l.take i).all lowB && lowB l[i]) := by
  rw [List.take_succ_eq_append_getElem hi, List.all_append]; simp

set_option maxHeartbeats 8000000 in
set_option maxRecDepth 100000 in
theorem language_any (k : ByteArray) (w : World) (ha : ∀ c ∈ k.data.toList, c.toNat < 128) (hs : k.size ≤ 24) :
    Calls Tryz.prog 87 #[.string k] w (RetB w (.tuple #[.string ⟨(langT k.data.toList).toArray⟩, .bool (langB k.data.toList)])) := by
  go_enter Tryz.func87, Tryz.ntmps87
  by_cases hk : k.data.toList = keyN
  · have HR : Hid (langT k.data.toList = [] ∧ langB k.data.toList = true) := Lib.hid ⟨if_pos hk, if_pos hk⟩
    have e1 : (k.toList == [110, 97, 109, 101]) = true := by rw [ByteArray.toList_eq, hk]; rfl
    clear ha hk
    go_wp2
    go_ret2
    exact ⟨ret_tup2 (congrArg Value.string (by rw [HR.out.1])) (congrArg Value.bool HR.out.2.symm), Below.refl _ _⟩
  · have HR : Hid (langT k.data.toList = Lib.trimPrefix k.data.toList keyP ∧ langB k.data.toList = (Lib.hasPrefix k.data.toList keyP && (Lib.trimPrefix k.data.toList keyP).all lowB && decide (0 < (Lib.trimPrefix k.data.toList keyP).length) && decide ((Lib.trimPrefix k.data.toList keyP).length ≤ 8))) := Lib.hid ⟨if_neg hk, if_neg hk⟩
    have e1 : (k.toList == [110, 97, 109, 101]) = false := by rw [ByteArray.toList_eq, beq_eq_false_iff_ne]; exact hk
    have hta : ∀ c ∈ Lib.trimPrefix k.data.toList keyP, c.toNat < 128 := fun c hc => ha c (by
      unfold Lib.trimPrefix at hc
      split at hc
      · exact List.mem_of_mem_drop hc
      · exact hc)
    have htl : (Lib.trimPrefix k.data.toList keyP).length ≤ 24 := by
      have hz : k.data.toList.length ≤ 24 := by simpa using hs
      unfold Lib.trimPrefix
      split
      · rw [List.length_drop]; omega
      · exact hz
    clear hk
    have hcall := fun W => Tryz.strings_CutPrefix k ⟨#[110, 97, 109, 101, 95]⟩ W
    change ∀ W, Calls _ _ _ _ fun e w' => e = .returned (.tuple #[.string ⟨(Lib.trimPrefix k.data.toList keyP).toArray⟩, .bool (Lib.hasPrefix k.data.toList keyP)]) ∧ w' = W at hcall
    generalize Lib.trimPrefix k.data.toList keyP = t at *
    generalize Lib.hasPrefix k.data.toList keyP = b0 at *
    have HA := Lib.hid hta
    have HC := Lib.hid hcall
    clear ha hta hcall
    go_wp2_with fail
    refine (HC.out _).mono ?_
    rintro e w1 ⟨rfl, rfl⟩
    go_wp2
    obtain ⟨ts, hts⟩ : ∃ ts : ByteArray, ts = ⟨t.toArray⟩ := ⟨_, rfl⟩
    have htz : ts.size = t.length := by rw [hts]; rfl
    rw [← hts]
    replace hts := Lib.hid hts
    go_loopg [5] t.length (fun g vb wr => ∃ (i : Nat) (b : Bool), vb = .bool b ∧ i ≤ t.length ∧ t.length ≤ i + g ∧ Hid (b = (b0 && (t.take i).all lowB)) ∧ wr = w1.iter ts i)
    case atStart => exact ⟨0, b0, rfl, by omega, by omega, Lib.hid (by simp), rfl⟩
    case round =>
      obtain ⟨i, b, rfl, hi, hg, HB, rfl⟩ := hrel
      by_cases hlt : i < t.length
      · obtain ⟨n, hn⟩ : ∃ n, n = t[i].toNat := ⟨_, rfl⟩
        have hn128 : n < 128 := by rw [hn]; exact HA.out _ (List.getElem_mem hlt)
        have hbt : (ts[i]'(by rw [htz]; exact hlt)).toNat = n := by rw [hn]; have e := hts.out; subst e; rfl
        have hnx : ∀ ty, (Instr.next (.pointer (some ⟨w1.heap.size, 0, none⟩)) true ty).run Tryz.prog (w1.iter ts i) = .ok (.tuple #[.bool true, .int .i64 i, .int .i32 n]) (w1.iter ts (i + 1)) := fun ty => by
          have := run_next_ascii (P := Tryz.prog) w1 ts i ty (by rw [htz]; exact hlt) (by rw [hbt]; exact hn128)
          rw [hbt] at this
          exact this
        have HN : Hid ((b0 && (t.take (i + 1)).all lowB) = (b && (decide (97 ≤ n) && decide (n ≤ 122)))) := Lib.hid (by rw [all_take_succ hlt, HB.out, ← Bool.and_assoc]; unfold lowB; rw [← hn])
        clear HB hbt hn
        cases b with
        | false =>
          go_wp2
          go_roundg (t.length - (i + 1))
          case measure => omega
          case rel => exact ⟨i + 1, false, by rfl, by omega, by omega, Lib.hid (by rw [HN.out]; rfl), rfl⟩
        | true =>
          by_cases h97 : 97 ≤ n
          · have h97i : (97 : Int) ≤ (n : Int) := by omega
            by_cases h122 : n ≤ 122
            · have h122i : (n : Int) ≤ 122 := by omega
              go_wp2
              go_roundg (t.length - (i + 1))
              case measure => omega
              case rel => exact ⟨i + 1, true, by rfl, by omega, by omega, Lib.hid (by rw [HN.out, decide_eq_true h97, decide_eq_true h122]; rfl), rfl⟩
            · have h122i : ¬ (n : Int) ≤ 122 := by omega
              go_wp2
              go_roundg (t.length - (i + 1))
              case measure => omega
              case rel => exact ⟨i + 1, false, by rfl, by omega, by omega, Lib.hid (by rw [HN.out, decide_eq_true h97, decide_eq_false h122]; rfl), rfl⟩
          · have h97i : ¬ (97 : Int) ≤ (n : Int) := by omega
            go_wp2
            go_roundg (t.length - (i + 1))
            case measure => omega
            case rel => exact ⟨i + 1, false, by rfl, by omega, by omega, Lib.hid (by rw [HN.out, decide_eq_false h97]; rfl), rfl⟩
      · obtain rfl : i = t.length := by omega
        have hnx : ∀ ty, (Instr.next (.pointer (some ⟨w1.heap.size, 0, none⟩)) true ty).run Tryz.prog (w1.iter ts t.length) = .ok (.tuple #[.bool false]) (w1.iter ts t.length) := fun ty => run_next_end (P := Tryz.prog) w1 ts t.length ty (by rw [htz]; omega)
        have HN : Hid (b = (b0 && t.all lowB)) := Lib.hid (by rw [HB.out, List.take_length])
        clear HB
        have hlz : ts.size = t.length := htz
        cases b with
        | false =>
          go_wp2
          go_ret2
          exact RetB.mk' (by rw [HR.out.1, HR.out.2, ← HN.out]; first | rfl | (simp only [hts.out]; rfl)) ⟨rfl, rfl, rfl, by simp [World.iter], fun b hb => Below.heap_alloc _ _ _ hb⟩
        | true =>
          by_cases h0 : 0 < t.length
          · by_cases h8 : t.length ≤ 8
            · have d8 : decide ((t.length : Int) ≤ 8) = true := decide_eq_true (by omega)
              go_wp2
              go_ret2
              exact RetB.mk' (by rw [HR.out.1, HR.out.2, ← HN.out, decide_eq_true h0, decide_eq_true h8]; first | rfl | (simp only [hts.out]; rfl)) ⟨rfl, rfl, rfl, by simp [World.iter], fun b hb => Below.heap_alloc _ _ _ hb⟩
            · have d8 : decide ((t.length : Int) ≤ 8) = false := decide_eq_false (by omega)
              go_wp2
              go_ret2
              exact RetB.mk' (by rw [HR.out.1, HR.out.2, ← HN.out, decide_eq_true h0, decide_eq_false h8]; first | rfl | (simp only [hts.out]; rfl)) ⟨rfl, rfl, rfl, by simp [World.iter], fun b hb => Below.heap_alloc _ _ _ hb⟩
          · go_wp2
            go_ret2
            exact RetB.mk' (by rw [HR.out.1, HR.out.2, ← HN.out, decide_eq_false h0]; first | rfl | (simp only [hts.out]; rfl)) ⟨rfl, rfl, rfl, by simp [World.iter], fun b hb => Below.heap_alloc _ _ _ hb⟩
end Go.Proofs.YtaggohobdjidjaaGreatDoor

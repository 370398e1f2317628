import Derived.Test.YtaggohobdjidjaaGreatDoorJH
import Derived.Test.YtaggohobdjidjaaGreatDoorJD
import Derived.RangeFuncNested
import Derived.RangeFuncBound
import Derived.RangeFuncCalls
import Derived.RangeFuncLeaves
import Derived.RangeFuncBox
import Derived.OwnWalkIn
import Derived.TacticsInMore
import Derived.LoopNIn
import Derived.LoopIn
import Derived.Laws.EntriesVeiled
import Derived.Test.YtaggohobdjidjaaGreatDoorJG
import Derived.Sort.BigQuietIn

/- name.names: the languages and the names of a list of tags, one by one. -/
namespace Go.Proofs.YtaggohobdjidjaaGreatDoor
open Go.RowKit Go.Sort Go.Shelf
attribute [local go_sem] Oper.semAt_some

/-- A name of an object: its language, and the tag. -/
def nameF (t : Tg) : Option (ByteArray × Tg) := if langB t.1.data.toList then some (⟨(langT t.1.data.toList).toArray⟩, t) else none
def namesF (l : List Tg) : List (ByteArray × Tg) := l.filterMap nameF
theorem namesF_succ {l : List Tg} {i : Nat} {t : Tg} (h : l[i]? = some t) : namesF (l.take (i + 1)) = namesF (l.take i) ++ (nameF t).toList := by
  obtain ⟨hi, rfl⟩ := List.getElem?_eq_some_iff.1 h
  unfold namesF
  rw [List.take_succ_eq_append_getElem hi, List.filterMap_append]
  cases hh : nameF l[i] <;> simp [hh]
theorem namesF_len (l : List Tg) (i : Nat) : (namesF (l.take i)).length ≤ i := by
  have h1 := List.length_filterMap_le nameF (l.take i)
  rw [List.length_take] at h1
  exact Nat.le_trans h1 (Nat.min_le_left _ _)
def encN (x : ByteArray × Tg) : Array Value := #[.string x.1, .agg #[.string x.2.1, .string x.2.2]]

/-- What lies below n₀, and one block more, lie as they lay. -/
structure Keep1 (n₀ b0 : Nat) (W W' : World) : Prop where
  below : Below n₀ W W'
  k0 : W'.heap[b0]? = W.heap[b0]?
theorem Keep1.trans {n₀ b0 : Nat} {A B C : World} (h : Keep1 n₀ b0 A B) (k : Keep1 n₀ b0 B C) : Keep1 n₀ b0 A C := ⟨h.below.trans k.below, k.k0.trans h.k0⟩

theorem grown_below' {w w' : World} (h : Below w.heap.size w w') (row : Option Nat) : w.grownBy w' row := ⟨h.os, h.tape, h.output, h.size, fun k hk _ => h.block k hk⟩

set_option maxRecDepth 100000 in
set_option maxHeartbeats 4000000 in
theorem names1_in (F : Fence) (n : Nat) (hf : F.fn 86) (hfL : F.fn 87) (hro : F.round = none) (hn : 2 ≤ n)
    (hLang : ∀ (k : ByteArray) (w : World), (∀ c ∈ k.data.toList, c.toNat < 128) → k.size ≤ 24 → CallsIn F (n - 1) Tryz.prog 87 #[.string k] w (RetB w (.tuple #[.string ⟨(langT k.data.toList).toArray⟩, .bool (langB k.data.toList)])))
    (l b0 : Nat) (p : Option Addr) (m cap : Nat) (ts : List Tg) (w0 : World) (hL : Lies w0 2 tagC p ts) (hm : m = ts.length) (hm1 : m ≤ 1000) (ha : ∀ t ∈ ts, (∀ c ∈ t.1.data.toList, c.toNat < 128) ∧ t.1.size ≤ 24) (J Jx : List (ByteArray × Tg) → World → Prop)
    (hY : ∀ pre x W, J pre W → pre.length < m → YieldAt F (n - 1) Tryz.prog l (encN x) W fun e W' =>
      (e = .returned (.bool true) ∧ J (pre ++ [x]) W' ∧ Keep1 w0.heap.size b0 W W') ∨ (e = .returned (.bool false) ∧ Jx (pre ++ [x]) W'))
    (W : World) (hJ : AbidesFrom W.heap.size J) (hW : Below w0.heap.size w0 W) (c0 : Box W b0 #[.slice p m cap] 57) (h0 : J [] W) :
    CallsIn F n Tryz.prog 86 #[.func (.yield l) #[] #[], .pointer (some ⟨b0, 0, none⟩)] W fun e W' => (∃ v, e = .returned v) ∧
      ((∃ ys, ys = namesF ts ∧ J ys W') ∨ (∃ pre, True ∧ Jx pre W')) := by
  have HL := Lib.hid hL
  have HM := Lib.hid hm
  have HA := Lib.hid ha
  have HG := Lib.hid hLang
  have HJ := Lib.hid hJ
  have HY := Lib.hid hY
  clear hL hm ha hLang hJ hY
  refine callsIn_of_wp Tryz.func86 rfl hf ?_ hro
  simp only [Tryz.ntmps86, List.size_toArray, List.length_cons, List.length_nil, Nat.reduceAdd, Nat.reduceSub, Array.replicate_succ, Array.replicate_zero, List.push_toArray, List.append_toArray, List.nil_append, List.cons_append]
  have r0 := c0.cell
  gi_wp2
  clear r0
  gi_loopw [9] (fun v wr => ∃ i : Nat, i ≤ m ∧ v = .int .i64 i ∧ Below w0.heap.size w0 wr ∧ Box wr b0 #[.slice p m cap] 57 ∧ Hid (W.heap.size ≤ wr.heap.size) ∧ Aside (J (namesF (ts.take i)) wr))
    (fun v _ => m - (intOf v).toNat)
  case atStart => exact ⟨0, by omega, rfl, hW, c0, Lib.hid (Nat.le_refl _), asd (by simpa [namesF] using h0)⟩
  case round =>
    clear hW c0 h0
    obtain ⟨i, hi, rfl, hW, c0, hsz, HJ1⟩ := hrel
    have r0 := c0.cell
    by_cases hlt : i < m
    · obtain ⟨x, hx⟩ : ∃ x, ts[i]? = some x := ⟨_, List.getElem?_eq_getElem (by have := HM.out; omega)⟩
      have hxm := HA.out x (List.mem_of_getElem? hx)
      have HX := Lib.hid (namesF_succ hx)
      obtain ⟨g, o, rfl⟩ := HL.out.addr (by have := HM.out; omega)
      have HLr : Hid (∃ W2 : World, Lies W2 2 tagC (some ⟨g, o, none⟩) ts ∧ Below W2.heap.size W2 wr) := Lib.hid ⟨w0, HL.out, hW⟩
      obtain ⟨c1, c2⟩ := (HL.out.below hW (Nat.le_refl _)).tg hx
      have hlang := HG.out x.1
      have hnl := namesF_len ts i
      have HC : Hid (∀ W', CallsIn F (n - 1) Tryz.prog 87 #[.string x.1] W' (RetB W' (.tuple #[.string ⟨(langT x.1.data.toList).toArray⟩, .bool (langB x.1.data.toList)]))) := Lib.hid (fun W' => hlang W' hxm.1 hxm.2)
      clear hlang hxm hx
      have hn1 : 1 ≤ n := by omega
      cases hb : langB x.1.data.toList with
      | false =>
        have HN : Hid (namesF (ts.take (i + 1)) = namesF (ts.take i)) := Lib.hid (by rw [HX.out]; unfold nameF; rw [hb]; simp)
        rw [hb] at HC
        clear hb HX
        gi_wp2_with fail
        refine (HC.out _).mono ?_
        rintro e w1 ⟨rfl, hb1⟩
        have hs1 := hb1.size
        simp only [World.size_alloc] at hs1 hb1
        have hk : Below wr.heap.size wr w1 := ((Below.refl _ _).alloc (Nat.le_refl _) _).trans (hb1.mono (by omega))
        have bX : Box w1 wr.heap.size #[.string x.1, .string x.2] 69 := (Box.new _ _ _).below hb1 (by omega)
        replace HJ1 := asd (HJ.out _ _ _ none HJ1.out (grown_below' hk none) (fun r e => by cases e))
        replace hW := hW.trans (hk.mono hW.size)
        replace c0 := c0.below hk c0.lt
        replace hsz := Lib.hid (Nat.le_trans hsz.out hk.size)
        clear hb1 hk c1 c2 r0 hs1
        gi_wp2
        refine ⟨fun f e => (by cases e), ?_⟩
        gi_wp2
        go_roundw
        case rel => exact ⟨i + 1, by omega, by go_num, hW, c0, hsz, asd (by rw [HN.out]; exact HJ1.out)⟩
        case measure => simp [intOf]; omega
      | true =>
        have HN : Hid (namesF (ts.take (i + 1)) = namesF (ts.take i) ++ [(⟨(langT x.1.data.toList).toArray⟩, x)]) := Lib.hid (by rw [HX.out]; unfold nameF; rw [hb]; rfl)
        rw [hb] at HC
        clear hb HX
        gi_wp2_with fail
        refine (HC.out _).mono ?_
        rintro e w1 ⟨rfl, hb1⟩
        have hs1 := hb1.size
        simp only [World.size_alloc] at hs1 hb1
        have hk : Below wr.heap.size wr w1 := ((Below.refl _ _).alloc (Nat.le_refl _) _).trans (hb1.mono (by omega))
        have bX : Box w1 wr.heap.size #[.string x.1, .string x.2] 69 := (Box.new _ _ _).below hb1 (by omega)
        replace HJ1 := asd (HJ.out _ _ _ none HJ1.out (grown_below' hk none) (fun r e => by cases e))
        replace hW := hW.trans (hk.mono hW.size)
        replace c0 := c0.below hk c0.lt
        replace hsz := Lib.hid (Nat.le_trans hsz.out hk.size)
        clear hb1 hk c1 c2 r0 hs1
        have rX := bX.cell
        obtain ⟨fn, tmps, assign, body, hy, hR⟩ := HY.out _ (⟨(langT x.1.data.toList).toArray⟩, x) w1 HJ1.out (by omega)
        have HR := Lib.hid hR
        unfold encN at hy
        dsimp only at hy
        clear hR
        gi_wp2
        refine HR.out.mono ?_
        rintro e W3 (⟨rfl, hJ3, hk3⟩ | ⟨rfl, hJx3⟩)
        · rw [← HN.out] at hJ3
          replace c0 : Box W3 b0 _ _ := hk3.k0.trans c0
          replace hW := hW.trans hk3.below
          replace hsz := Lib.hid (Nat.le_trans hsz.out hk3.below.size)
          have HJ3 := asd hJ3
          clear rX bX hJ3 HJ1
          gi_wp2
          go_roundw
          case rel => exact ⟨i + 1, by omega, by go_num, hW, c0, hsz, HJ3⟩
          case measure => simp [intOf]; omega
        · gi_wp2
          refine bodyPost_ret (results_none rfl _ _ _) rfl ?_
          exact ⟨⟨_, rfl⟩, .inr ⟨_, trivial, hJx3⟩⟩
    · obtain rfl : i = m := by omega
      have HT : Hid (ts.take i = ts) := Lib.hid (by rw [HM.out]; exact List.take_length)
      gi_wp2
      go_end0
      exact ⟨⟨_, rfl⟩, .inl ⟨_, rfl, by have := HJ1.out; rw [HT.out] at this; exact this⟩⟩

/-- The range function hands over each name, in order. -/
theorem names_stops (F : Fence) (n : Nat) (hf : F.fn 86) (hfL : F.fn 87) (hro : F.round = none) (hn : 2 ≤ n)
    (hLang : ∀ (k : ByteArray) (w : World), (∀ c ∈ k.data.toList, c.toNat < 128) → k.size ≤ 24 → CallsIn F (n - 1) Tryz.prog 87 #[.string k] w (RetB w (.tuple #[.string ⟨(langT k.data.toList).toArray⟩, .bool (langB k.data.toList)])))
    (b0 : Nat) (p : Option Addr) (m cap : Nat) (ts : List Tg) (w0 w : World) (hL : Lies w0 2 tagC p ts) (hm : m = ts.length) (hm1 : m ≤ 1000) (ha : ∀ t ∈ ts, (∀ c ∈ t.1.data.toList, c.toNat < 128) ∧ t.1.size ≤ 24)
    (hW : Below w0.heap.size w0 w) (hb0 : b0 < w.heap.size) (c0 : Box w b0 #[.slice p m cap] 57) :
    SeqStopsK F n Tryz.prog 86 #[.pointer (some ⟨b0, 0, none⟩)] encN (Keep1 w0.heap.size b0) (fun ys => ys = namesF ts) (fun _ => True) m w :=
  fun l J Jx W hB hJ _ hY h0 => names1_in F n hf hfL hro hn hLang l b0 p m cap ts w0 hL hm hm1 ha J Jx hY W hJ (hW.trans (hB.mono hW.size)) (c0.below hB hb0) h0

set_option maxHeartbeats 1000000 in
theorem names_in (F : Fence) (n : Nat) (hf : F.fn 54) (hro : F.round = none) (p : Option Addr) (m cap : Nat) (w : World) : CallsIn F n Tryz.prog 54 #[.slice p m cap] w fun e w' =>
    e = .returned (.func (.func 86) #[] #[.pointer (some ⟨w.heap.size, 0, none⟩)]) ∧ w' = w.alloc (.cells #[.slice p m cap] 57) := by
  refine callsIn_of_wp Tryz.func54 rfl hf ?_ hro
  simp only [Tryz.ntmps54, List.size_toArray, List.length_cons, List.length_nil, Nat.reduceAdd, Nat.reduceSub, Array.replicate_succ, Array.replicate_zero, List.push_toArray, List.append_toArray, List.nil_append, List.cons_append]
  gi_wp2
  go_ret
  exact ⟨rfl, rfl⟩
end Go.Proofs.YtaggohobdjidjaaGreatDoor

/- slices.Index of texts; the place of a language. -/
namespace Go.Proofs.YtaggohobdjidjaaGreatDoor
open Go.RowKit Go.Sort Go.Shelf

def sameB (a b : ByteArray) : Bool := a.toList == b.toList
def idxF (ls : List ByteArray) (s : ByteArray) : Option Nat := ls.findIdx? fun x => sameB s x
def idxV (ls : List ByteArray) (s : ByteArray) : Int := match idxF ls s with
  | some i => i
  | none => -1
/-- The place of a language among those that are asked for. -/
def atF (ls : List ByteArray) (s : ByteArray) : Nat := match idxF ls s with
  | some i => i
  | none => if s.toList = [] then ls.length else ls.length + 1
theorem idx_some {ls : List ByteArray} {s x : ByteArray} {i : Nat} (hx : ls[i]? = some x) (he : sameB s x = true) (hb : ∀ j y, j < i → ls[j]? = some y → sameB s y = false) : idxF ls s = some i := by
  obtain ⟨hi, rfl⟩ := List.getElem?_eq_some_iff.1 hx
  unfold idxF
  rw [List.findIdx?_eq_some_iff_getElem]
  exact ⟨hi, he, fun j hj => by rw [hb j _ hj (List.getElem?_eq_getElem (by omega))]; simp⟩
theorem idx_none {ls : List ByteArray} {s : ByteArray} (hb : ∀ (j : Nat) y, ls[j]? = some y → sameB s y = false) : idxF ls s = none := by
  unfold idxF
  rw [List.findIdx?_eq_none_iff]
  intro x hx
  obtain ⟨j, hj⟩ := List.getElem?_of_mem hx
  rw [hb j x hj]
theorem idx_lt {ls : List ByteArray} {s : ByteArray} {i : Nat} (h : idxF ls s = some i) : i < ls.length := by
  unfold idxF at h
  rw [List.findIdx?_eq_some_iff_getElem] at h
  exact h.1
theorem atF_le (ls : List ByteArray) (s : ByteArray) : atF ls s ≤ ls.length + 1 := by
  unfold atF
  cases h : idxF ls s with
  | some i => have := idx_lt h; dsimp only; omega
  | none => dsimp only; split <;> omega

set_option maxHeartbeats 2000000 in
theorem idx_any (p : Option Addr) (n cap : Nat) (l : List ByteArray) (s : ByteArray) (w : World) (hL : Lies w 1 strC p l) (hn : n = l.length) (h1 : n ≤ 1000000) :
    Calls Tryz.prog 53 #[.slice p n cap, .string s] w (RetB w (.int .i64 (idxV l s))) := by
  have HL := Lib.hid hL
  have HN := Lib.hid hn
  clear hL hn
  go_enter Tryz.func53, Tryz.ntmps53
  go_wp2
  go_loopw [8] (fun v wr => ∃ i : Nat, i ≤ n ∧ v = .int .i64 i ∧ Below w.heap.size w wr ∧ Hid (∀ j y, j < i → l[j]? = some y → sameB s y = false)) (fun v _ => n - (intOf v).toNat)
  case atStart => exact ⟨0, by omega, rfl, Below.refl _ _, Lib.hid (fun j y h _ => by omega)⟩
  case round =>
    obtain ⟨i, hi, rfl, hW, HB⟩ := hrel
    by_cases hlt : i < n
    · obtain ⟨g, o, rfl⟩ := HL.out.addr (by have := HN.out; omega)
      obtain ⟨x, hx⟩ : ∃ x, l[i]? = some x := ⟨_, List.getElem?_eq_getElem (by have := HN.out; omega)⟩
      have r0 := (HL.out.below hW HL.out.lt).st hx
      have HX := Lib.hid hx
      clear hx
      cases hs : sameB s x with
      | true =>
        have HR : Hid (idxV l s = (i : Int)) := Lib.hid (by unfold idxV; rw [idx_some HX.out hs HB.out])
        have e1 : (s.toList == x.toList) = true := hs
        clear hs
        go_wp2
        go_ret
        exact RetB.mk' (by rw [HR.out]; rfl) hW
      | false =>
        have HB2 : Hid (∀ j y, j < i + 1 → l[j]? = some y → sameB s y = false) := Lib.hid (fun j y hj hy => by
          rcases Nat.lt_or_ge j i with h' | h'
          · exact HB.out j y h' hy
          · obtain rfl : j = i := by omega
            have := HX.out
            rw [hy] at this
            cases this
            exact hs)
        have e1 : (s.toList == x.toList) = false := hs
        clear hs HB
        go_wp2
        go_roundw
        case rel => exact ⟨i + 1, by omega, by go_num, hW, HB2⟩
        case measure => simp [intOf]; omega
    · obtain rfl : i = n := by omega
      have HR : Hid (idxV l s = -1) := Lib.hid (by unfold idxV; rw [idx_none (fun j y hy => HB.out j y (by have := (List.getElem?_eq_some_iff.1 hy).1; have := HN.out; omega) hy)])
      clear HB
      go_wp2
      go_ret
      exact RetB.mk' (by rw [HR.out]; rfl) hW

set_option maxHeartbeats 2000000 in
theorem langAt_any (b : Nat) (p : Option Addr) (n cap : Nat) (l : List ByteArray) (s : ByteArray) (w : World) (c0 : Box w b #[.slice p n cap] 36) (hL : Lies w 1 strC p l) (hn : n = l.length) (h1 : n ≤ 1000000) :
    Calls Tryz.prog 52 #[.string s, .pointer (some ⟨b, 0, none⟩)] w (RetB w (.int .i64 (atF l s : Nat))) := by
  have hc := idx_any p n cap l s w hL hn h1
  have HN := Lib.hid hn
  clear hL hn
  have r0 := c0.cell
  go_enter Tryz.func52, Tryz.ntmps52
  cases hi : idxF l s with
  | some i =>
    have HR : Hid (atF l s = i) := Lib.hid (by unfold atF; rw [hi])
    have hv : idxV l s = (i : Int) := by unfold idxV; rw [hi]
    rw [hv] at hc
    clear hv hi
    go_wp2_with fail
    refine hc.mono ?_
    rintro e w1 ⟨rfl, hb⟩
    have h0 : (0 : Int) ≤ (i : Int) := by omega
    clear r0
    go_wp2
    go_ret
    exact RetB.mk' (by rw [HR.out]; rfl) hb
  | none =>
    have hv : idxV l s = -1 := by unfold idxV; rw [hi]
    rw [hv] at hc
    by_cases hs : s.toList = []
    · have HR : Hid (atF l s = n) := Lib.hid (by unfold atF; rw [hi]; dsimp only; rw [if_pos hs, HN.out])
      have e1 : (s.toList == []) = true := by rw [hs]; rfl
      clear hv hi hs
      go_wp2_with fail
      refine hc.mono ?_
      rintro e w1 ⟨rfl, hb⟩
      have c1 := c0.below hb c0.lt
      have r1 := c1.cell
      clear r0
      go_wp2
      go_ret
      exact RetB.mk' (by rw [HR.out]; rfl) hb
    · have HR : Hid (atF l s = n + 1) := Lib.hid (by unfold atF; rw [hi]; dsimp only; rw [if_neg hs, HN.out])
      have e1 : (s.toList == []) = false := beq_eq_false_iff_ne.2 hs
      clear hv hi hs
      go_wp2_with fail
      refine hc.mono ?_
      rintro e w1 ⟨rfl, hb⟩
      have c1 := c0.below hb c0.lt
      have r1 := c1.cell
      clear r0
      go_wp2
      go_ret
      exact RetB.mk' (by rw [HR.out]; push_cast; rfl) hb
end Go.Proofs.YtaggohobdjidjaaGreatDoor

/- name.Best: the best name of an object. -/
namespace Go.Proofs.YtaggohobdjidjaaGreatDoor
open Go.RowKit Go.Sort Go.Shelf
attribute [local go_sem] Oper.semAt_some

def bestStep (ls : List ByteArray) (b : Tg × Nat) (x : ByteArray × Tg) : Tg × Nat := if atF ls x.1 < b.2 then (x.2, atF ls x.1) else b
def bestG (ls : List ByteArray) (l : List (ByteArray × Tg)) : Tg × Nat := l.foldl (bestStep ls) ((⟨#[]⟩, ⟨#[]⟩), ls.length + 2)
/-- The tag of the best name; empty if there is none. -/
def bestF (ts : List Tg) (ls : List ByteArray) : Tg := if tagsB ts then (bestG ls (namesF ts)).1 else (⟨#[]⟩, ⟨#[]⟩)
theorem bestG_snoc (ls : List ByteArray) (l : List (ByteArray × Tg)) (x : ByteArray × Tg) : bestG ls (l ++ [x]) = bestStep ls (bestG ls l) x := by unfold bestG; rw [List.foldl_append]; rfl
theorem bestG_le (ls : List ByteArray) (l : List (ByteArray × Tg)) : (bestG ls l).2 ≤ ls.length + 2 := by
  unfold bestG
  suffices h : ∀ (b : Tg × Nat), b.2 ≤ ls.length + 2 → (l.foldl (bestStep ls) b).2 ≤ ls.length + 2 from h _ (Nat.le_refl _)
  intro b hb
  induction l generalizing b with
  | nil => exact hb
  | cons x l ih =>
    refine ih _ ?_
    unfold bestStep
    split
    · have := atF_le ls x.1; dsimp only; omega
    · exact hb
theorem tagsB_keys {ts : List Tg} (h : tagsB ts = true) : ∀ t ∈ ts, (∀ c ∈ t.1.data.toList, c.toNat < 128) ∧ t.1.size ≤ 24 := by
  unfold tagsB at h
  rw [Bool.and_eq_true] at h
  intro t ht
  have h1 := chain_all okT Prod.fst ts _ h.1 t ht
  unfold okT at h1
  rw [Bool.and_eq_true] at h1
  have h2 := h1.1
  refine ⟨nameB_ascii h2, ?_⟩
  rw [nameB_eq, Bool.and_eq_true] at h2
  have := of_decide_eq_true h2.2
  simpa using this
theorem tagsB_len {ts : List Tg} (h : tagsB ts = true) : ts.length ≤ 60 := by
  unfold tagsB at h
  rw [Bool.and_eq_true] at h
  exact of_decide_eq_true h.2

theorem Box.own {X Y : World} {b : Nat} {cs : Array Value} {t : TypeId} {row : Option Nat} (h : Box X b cs t) (hg : X.grownBy Y row) (hr : ∀ r, row = some r → ∃ o, X.heap[r]? = some o ∧ o.isCells = false) : Box Y b cs t := by
  refine (hg.block b h.lt fun e => ?_).trans h
  obtain ⟨o, ho, hc⟩ := hr b e.symm
  unfold Box at h
  rw [h] at ho
  cases ho
  cases hc
theorem keep1_put {n₀ b0 : Nat} {w : World} (hn : n₀ ≤ w.heap.size) (h0 : b0 < w.heap.size) : ∀ (W : World) (l : Nat) (o o' : Obj), w.heap.size ≤ l → W.heap[l]? = some o → o.isCells = false → o.isWalk = false → Keep1 n₀ b0 W (W.putObj l o') :=
  fun W l o o' hl ho hc hw => by
    have hlt := (Array.getElem?_eq_some_iff.1 ho).1
    exact ⟨belowK_b hn W l o o' hl ho hc hw, (grownBy_putObj' W l o').block b0 (by omega) (by simp; omega)⟩
theorem keeps_below {W W' : World} (h : Below W.heap.size W W') (B : Nat) : KeepsFrom B W W' :=
  ⟨h.size, fun k _ _ hk _ => (h.block k (Array.getElem?_eq_some_iff.1 hk).1).trans hk⟩

/-- What the loop holds: the languages, the best name and its place; the function that says a language's place. -/
structure BestI (A B C D : Nat) (lv : Value) (g : Tg × Nat) (n₀ s : Nat) (w W : World) : Prop where
  cA : Box W A #[lv] 36
  cB : Box W B #[.string g.1.1, .string g.1.2] 69
  cC : Box W C #[.int .i64 (g.2 : Nat)] 3
  cD : Box W D #[.func (.func 52) #[] #[.pointer (some ⟨A, 0, none⟩)]] 89
  below : Below n₀ w W
  size : s ≤ W.heap.size

set_option maxRecDepth 100000 in
set_option maxHeartbeats 4000000 in
theorem best_in (F : Fence) (n : Nat) (f1 : F.fn 29) (f2 : F.fn 54) (f3 : F.fn 86) (f4 : F.fn 52) (f5 : F.fn 51) (f6 : F.fn 87) (hro : F.round = none) (hn : 6 ≤ n)
    (tp : Option Addr) (tn tc : Nat) (ts : List Tg) (lp : Option Addr) (ln lc : Nat) (ls : List ByteArray) (w : World) (hL : Lies w 2 tagC tp ts) (htn : tn = ts.length) (hln : ln = ls.length) (hl1 : ln ≤ 1000)
    (hV : ∀ k W, Below w.heap.size w W → CallsIn F k Tryz.prog 51 #[.slice tp tn tc] W (RetB W (.bool (tagsB ts))))
    (hLang : ∀ (k : ByteArray) (w : World), (∀ c ∈ k.data.toList, c.toNat < 128) → k.size ≤ 24 → CallsIn F (n - 1 - 1) Tryz.prog 87 #[.string k] w (RetB w (.tuple #[.string ⟨(langT k.data.toList).toArray⟩, .bool (langB k.data.toList)])))
    (hAt : ∀ k b W own, Below w.heap.size w W → Box W b #[.slice lp ln lc] 36 → CallsIn F k Tryz.prog 52 #[.string own, .pointer (some ⟨b, 0, none⟩)] W (RetB W (.int .i64 (atF ls own : Nat)))) :
    CallsIn F n Tryz.prog 29 #[.slice tp tn tc, .slice lp ln lc] w (RetB w (.tuple #[.string (bestF ts ls).2, .string (bestF ts ls).1])) := by
  have h1 : 1 ≤ n := by omega
  have HL := Lib.hid hL
  have HTN := Lib.hid htn
  have HLN := Lib.hid hln
  have HG := Lib.hid hLang
  have HAT := Lib.hid hAt
  have HV := Lib.hid hV
  clear hL htn hln hLang hAt hV
  refine callsIn_of_wp_marks Tryz.func29 rfl f1 ?_ hro
  simp only [Tryz.ntmps29, List.size_toArray, List.length_cons, List.length_nil, Nat.reduceAdd, Nat.reduceSub, Array.replicate_succ, Array.replicate_zero, List.push_toArray, List.append_toArray, List.nil_append, List.cons_append]
  gi_wp2_with fail
  refine (HV.out _ _ (by repeat (first | assumption | exact Below.refl _ _ | refine Below.setCell ?_ (by first | (simp; done) | (simp; omega) | omega) _ | refine Below.alloc ?_ (by first | (simp; done) | (simp; omega) | omega) _))).mono ?_
  rintro e w1 ⟨rfl, hb⟩
  have bA : Box w1 w.heap.size #[.slice lp ln lc] 36 := ((Box.new _ _ _).alloc _).below hb (by simp; omega)
  have bB : Box w1 (w.heap.size + 1) #[.string ⟨#[]⟩, .string ⟨#[]⟩] 69 := (Box.new' (by simp) _ _).below hb (by simp)
  have hs := hb.size
  simp only [World.size_alloc] at hs
  have hW : Below w.heap.size w w1 := Below.trans (b := (w.alloc (.cells #[.slice lp ln lc] 36)).alloc (.cells #[.string ⟨#[]⟩, .string ⟨#[]⟩] 69)) (by repeat (first | assumption | exact Below.refl _ _ | refine Below.setCell ?_ (by first | (simp; done) | (simp; omega) | omega) _ | refine Below.alloc ?_ (by first | (simp; done) | (simp; omega) | omega) _)) (hb.mono (by simp; omega))
  clear hb
  cases ht : tagsB ts with
  | false =>
    have HR : Hid (bestF ts ls = (⟨#[]⟩, ⟨#[]⟩)) := Lib.hid (by unfold bestF; rw [ht]; rfl)
    clear ht
    gi_wp2
    exact ⟨_, results_tmp2 rfl _ _ _, RetB.mk' (by rw [HR.out]; rfl) hW⟩
  | true =>
    have HR : Hid (bestF ts ls = (bestG ls (namesF ts)).1) := Lib.hid (by unfold bestF; rw [ht]; rfl)
    have HK := Lib.hid (tagsB_keys ht)
    have HTL := Lib.hid (tagsB_len ht)
    clear ht
    have rA := bA.cell
    have kA := bA.lt
    gi_wp2_with (gi_at_call 54; refine (names_in F (n - 1) f2 hro _ _ _ _).mono ?_; rintro e w2 ⟨rfl, rfl⟩)
    obtain ⟨kb, hkb⟩ : ∃ kb, w1.heap.size = kb := ⟨_, rfl⟩
    obtain ⟨W0, hB0, bA, bB, bC, bD, bN, hsz, hW0⟩ : ∃ W0, Below w.heap.size w W0 ∧ Box W0 w.heap.size #[.slice lp ln lc] 36 ∧ Box W0 (w.heap.size + 1) #[.string ⟨#[]⟩, .string ⟨#[]⟩] 69 ∧ Box W0 kb #[.int .i64 ((ln : Int) + 2)] 3 ∧
        Box W0 (kb + 1) #[.func (.func 52) #[] #[.pointer (some ⟨w.heap.size, 0, none⟩)]] 89 ∧ Box W0 (kb + 1 + 1) #[.slice tp tn tc] 57 ∧ W0.heap.size = kb + 1 + 1 + 1 ∧
        ((w1.alloc (.cells #[.int .i64 ((ln : Int) + 2)] 3)).alloc (.cells #[.func (.func 52) #[] #[.pointer (some ⟨w.heap.size, 0, none⟩)]] 89)).alloc (.cells #[.slice tp tn tc] 57) = W0 :=
      ⟨_, ((hW.alloc hW.size _).alloc (by simp; omega) _).alloc (by simp; omega) _, ((bA.alloc _).alloc _).alloc _, ((bB.alloc _).alloc _).alloc _, ((Box.new' hkb.symm _ _).alloc _).alloc _, (Box.new' (by simp; omega) _ _).alloc _, Box.new' (by simp; omega) _ _, by simp; omega, rfl⟩
    rw [hW0, hkb]
    have hkw : w.heap.size + 1 + 1 ≤ kb := by omega
    clear hW0 hkb rA kA hW hs
    refine wpIn_rangeFunc_ownH hro h1 (gf := 86) (lb := #[.pointer (some ⟨kb + 1 + 1, 0, none⟩)]) rfl f3 (enters_of Tryz.func86 (by kernel_rfl) rfl)
      (names_stops F (n - 1) f3 f6 hro (by omega) (fun k W h1 h2 => HG.out k W h1 h2) (kb + 1 + 1) tp tn tc ts w W0 HL.out HTN.out (by rw [HTN.out]; have := HTL.out; omega) HK.out hB0 (by omega) bN) Keep1.trans (keep1_put (by omega) (by omega)) (Below.refl _ _) (fun _ => rfl)
      (fun pre W => BestI w.heap.size (w.heap.size + 1) kb (kb + 1) (.slice lp ln lc) (bestG ls pre) w.heap.size W0.heap.size w W)
      (fun _ _ _ => False)
      ?hI
      (fun _ _ _ _ _ hs _ _ => hs)
      ?h0
      (fun x a' W => ∃ Bx, W0.heap.size ≤ Bx ∧ Box W Bx #[.string x.2.1, .string x.2.2] 69 ∧ a' = { tmps := #[.slice tp tn tc, .slice lp ln lc, undef, .pointer (some ⟨w.heap.size, 0, none⟩), .string ⟨#[]⟩, .string ⟨#[]⟩, .pointer (some ⟨w.heap.size + 1, 0, none⟩), .pointer (some ⟨kb, 0, none⟩), .pointer (some ⟨kb + 1, 0, none⟩),
        .string x.1, .pointer (some ⟨Bx, 0, none⟩), undef, .slice tp tn tc, .bool true, .bool false, .slice lp ln lc, .int .i64 ln, .int .i64 ((ln : Int) + 2), .func (.func 52) #[] #[.pointer (some ⟨w.heap.size, 0, none⟩)], .slice tp tn tc, .func (.func 86) #[] #[.pointer (some ⟨kb + 1 + 1, 0, none⟩)],
        .string x.1, .agg #[.string x.2.1, .string x.2.2], undef, undef, undef, undef, undef, undef, undef, undef, undef, undef, undef, undef], defers := [] })
      (fun x a' _ X Y row hs hg hr => by obtain ⟨Bx, h1, h2, h3⟩ := hs; exact ⟨Bx, h1, h2.own hg (fun r e => (hr r e).2), h3⟩)
      ?assign ?body ?done ?stop
    case hI =>
      intro s X Y row hs hg hr
      have hc := fun r e => (hr r e).2
      exact ⟨hs.cA.own hg hc, hs.cB.own hg hc, hs.cC.own hg hc, hs.cD.own hg hc, (ownFrom_below (β := Unit) (Nat.le_refl _) hB0.size) () X Y row hs.below hg hr, Nat.le_trans hs.size hg.size⟩
    case h0 => exact ⟨bA, bB, by rw [HLN.out] at bC; exact bC, bD, hB0, Nat.le_refl _⟩
    case assign =>
      rintro l pre x W K hI hK
      unfold encN
      gi_wp2
      have hsW := hI.size
      exact hK _ _ ((KeepsOthers.alloc _ _).from _) ⟨(Below.refl _ W).alloc hI.below.size _, Below.heap_alloc _ _ _ (by omega)⟩ ⟨hI.cA.alloc _, hI.cB.alloc _, hI.cC.alloc _, hI.cD.alloc _, hI.below.alloc hI.below.size _, by simp; omega⟩ ⟨W.heap.size, hsW, Box.new _ _ _, rfl⟩
    case body =>
      rintro l pre x a' W hl ⟨r, hr⟩ ⟨cA, cB, cC, cD, hB, hS⟩ ⟨Bx, hBx, bX, rfl⟩ hlt
      have cd := cD.cell
      gi_wp2_with fail
      refine ⟨fun _ => by omega, (CallsIn.inRound l (HAT.out _ _ _ _ hB cA)).mono ?_⟩
      rintro e w2 ⟨rfl, hb⟩
      have hkeep := keeps_below hb W0.heap.size
      have hple := bestG_le ls pre
      have hale := atF_le ls x.1
      have hbs := hb.size
      have hk1 : Keep1 w.heap.size (kb + 1 + 1) W w2 := ⟨hb.mono hB.size, hb.block _ (by omega)⟩
      replace cA := cA.below hb cA.lt
      replace cB := cB.below hb cB.lt
      replace cC := cC.below hb cC.lt
      replace cD := cD.below hb cD.lt
      replace bX := bX.below hb bX.lt
      replace hB := hB.trans (hb.mono hB.size)
      have cv := cC.cell
      have cx := bX.cell
      have hsn := bestG_snoc ls pre x
      rw [← HLN.out] at hple hale
      obtain ⟨⟨bt, pl⟩, hbg⟩ : ∃ q, bestG ls pre = q := ⟨_, rfl⟩
      obtain ⟨av, hav⟩ : ∃ q, atF ls x.1 = q := ⟨_, rfl⟩
      unfold bestStep at hsn
      rw [hbg, hav] at hsn
      rw [hav] at hale ⊢
      rw [hbg] at hple cB cC cv
      dsimp only at hsn hple cB cC cv
      have fB := cB.frozen
      have rB := cB.cell
      have fC := cC.frozen
      clear hb cd hbg hav
      by_cases hc : av < pl
      · have HS : Hid (bestG ls (pre ++ [x]) = (x.2, av)) := Lib.hid (by rw [hsn, if_pos hc])
        have e1 : decide ((av : Int) < (pl : Int)) = true := decide_eq_true (by omega)
        have e2 : decide (av < pl) = true := decide_eq_true hc
        clear hsn
        gi_wp2
        refine ⟨?_, ?_, ?_⟩
        · exact hkeep.trans ((((KeepsOthers.setCell _ _ _).trans (KeepsOthers.setCell _ _ _)).trans (KeepsOthers.setCell _ _ _)).from _)
        · refine hk1.trans ⟨?_, ?_⟩
          · exact ((Below.refl _ _).setCell (by simp) _).setCell (by simp) _ |>.setCell (by simp; omega) _
          · exact (Below.heap_setCell _ _ _ _ (by show _ ≠ _; dsimp only; omega)).trans ((Below.heap_setCell _ _ _ _ (by show _ ≠ _; dsimp only; omega)).trans (Below.heap_setCell _ _ _ _ (by show _ ≠ _; dsimp only; omega)))
        · show BestI _ _ _ _ _ (bestG ls (pre ++ [x])) _ _ _ _
          rw [HS.out]
          exact ⟨((cA.set_other (by omega) _ _).set_other (by omega) _ _).set_other (by omega) _ _, (cB.set2 _ _).set_other (by omega) _ _, ((cC.set_other (by omega) _ _).set_other (by omega) _ _).set 0 _, ((cD.set_other (by omega) _ _).set_other (by omega) _ _).set_other (by omega) _ _,
            ((hB.setCell (by simp) _).setCell (by simp) _).setCell (by simp; omega) _, by simp; omega⟩
      · have HS : Hid (bestG ls (pre ++ [x]) = (bt, pl)) := Lib.hid (by rw [hsn, if_neg hc])
        have e1 : decide ((av : Int) < (pl : Int)) = false := decide_eq_false (by omega)
        have e2 : decide (av < pl) = false := decide_eq_false hc
        clear hsn
        gi_wp2
        exact ⟨hkeep, hk1, by show BestI _ _ _ _ _ (bestG ls (pre ++ [x])) _ _ _ _; rw [HS.out]; exact ⟨cA, cB, cC, cD, hB, by omega⟩⟩
    case done =>
      rintro D ys W hD rfl ⟨cA, cB, cC, cD, hB, hS⟩ hK
      rw [← HR.out] at cB
      have rB := cB.cell
      gi_wp2
      refine wpIn_region_quiet_lit hro (by kernel_rfl) (by kernel_rfl) ?_
      repeat (gi_big_quiet_step (fail))
      refine wpQuietIn_nil ?_
      rintro _ ⟨nq, rfl⟩
      gi_wp2
      have hD' : Below W.heap.size W (W.drewN nq) := ⟨rfl, rfl, rfl, Nat.le_refl _, fun _ _ => rfl⟩
      have hK' : (W.drewN nq).heap[D]? = some (.deferred (some [])) := (hD'.block D (Array.getElem?_eq_some_iff.1 hK).1).trans hK
      refine ⟨by simp, .inl ⟨_, _, rfl, run_takeDeferred hK', ?_⟩⟩
      exact ⟨_, results_tmp2 rfl _ _ _, rfl, (hB.trans (hD'.mono hB.size)).trans (belowK_b (w := W0) hB0.size _ D _ _ hD hK' rfl rfl)⟩
    case stop =>
      rintro D c pre W _ _ h _
      exact h.elim

theorem best_any (tp : Option Addr) (tn tc : Nat) (ts : List Tg) (lp : Option Addr) (ln lc : Nat) (ls : List ByteArray) (w : World) (hL : Lies w 2 tagC tp ts) (htn : tn = ts.length) (hz : SmallT ts) (ht1 : tn ≤ 1000000) (hS : Lies w 1 strC lp ls) (hln : ln = ls.length) (hl1 : ln ≤ 1000) :
    Calls Tryz.prog 29 #[.slice tp tn tc, .slice lp ln lc] w (RetB w (.tuple #[.string (bestF ts ls).2, .string (bestF ts ls).1])) :=
  (callsIn_wide (n := 6)).1 (best_in Fence.wide 6 trivial trivial trivial trivial trivial trivial rfl (Nat.le_refl _) tp tn tc ts lp ln lc ls w hL htn hln hl1
    (fun k W hW => callsIn_wide.2 (tagValid_any tp tn tc ts W (hL.below hW (Nat.le_refl _)) htn hz ht1))
    (fun k W ha hs => callsIn_wide.2 (language_any k W ha hs))
    (fun k b W own hW hb => callsIn_wide.2 (langAt_any b lp ln lc ls own W hb (hS.below hW (Nat.le_refl _)) hln (by omega))))
end Go.Proofs.YtaggohobdjidjaaGreatDoor

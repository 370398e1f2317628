import Derived.Test.YtaggohobdjidjaaGreatDoorJF
import Derived.Maps.OwnSet
import Derived.Test.YtaggohobdjidjaaGreatDoorJE
import Derived.Lib.Bytealg
import Derived.Test.YtaggohobdjidjaaGreatDoorJD
import Derived.Deep.AppendLies

/- object.Valid's closure; ContainsFunc at texts, with a closure that keeps a state. -/
namespace Go.Proofs.YtaggohobdjidjaaGreatDoor
open Go.Shelf Go.RowKit Go.Sort

def strC (s : ByteArray) : List Value := [.string s]
theorem strC_len (s : ByteArray) : (strC s).length = 1 := rfl
theorem Lies.st {W : World} {g o i : Nat} {l : List ByteArray} {x : ByteArray} (h : Lies W 1 strC (some ⟨g, o, none⟩) l) (hx : l[i]? = some x) : W.cell? ⟨g, o + i, none⟩ = some (.string x) := by
  have := h.cell g o rfl i x hx 0 (by omega)
  rw [Nat.mul_one] at this
  exact this

/-- The call returns a place or -1, and a world of the closure's. -/
def RetJ (J : Nat → World → Prop) (b : Bool) (e : Ending) (w' : World) : Prop := ∃ (r : Int) (j : Nat), e = .returned (.int .i64 r) ∧ decide (0 ≤ r) = b ∧ J j w'
def RetJB (J : Nat → World → Prop) (b : Bool) (e : Ending) (w' : World) : Prop := ∃ (j : Nat), e = .returned (.bool b) ∧ J j w'

theorem range_any_mono {n i : Nat} {bad : Nat → Bool} (hi : i < n) (h : bad i = true) : (List.range n).any bad = true := by
  rw [List.any_eq_true]
  exact ⟨i, List.mem_range.2 hi, h⟩
theorem range_any_succ {i : Nat} {bad : Nat → Bool} (h : (List.range i).any bad = false) (hb : bad i = false) : (List.range (i + 1)).any bad = false := by
  rw [List.range_succ, List.any_append, h]
  simp [hb]

set_option maxHeartbeats 1000000 in
theorem indexS_any (p : Option Addr) (n cap : Nat) (l : List ByteArray) (bad : Nat → Bool) (gf : Nat) (cb : Array Value) (J : Nat → World → Prop) (w : World) (hn : n = l.length) (h1 : n ≤ 1000000) (hJ : J 0 w)
    (eg : ∀ args w, (callFunc gf args).run Tryz.prog w = .ok (.enter gf args) w) (hL : ∀ i W, J i W → Lies W 1 strC p l) (hp : ∀ i x W, l[i]? = some x → J i W → Calls Tryz.prog gf (#[.string x] ++ cb) W fun e W' => e = .returned (.bool (bad i)) ∧ J (i + 1) W') :
    Calls Tryz.prog 109 #[.slice p n cap, .func (.func gf) #[] cb] w (RetJ J ((List.range n).any bad)) := by
  have HJ := Lib.hid hJ
  have HL := Lib.hid hL
  have HN := Lib.hid hn
  have HP := Lib.hid hp
  clear hJ hL hn hp
  go_enter Tryz.func109, Tryz.ntmps109
  go_wp2
  go_loopw [5, 8] (fun _ vi wr => ∃ i : Nat, i ≤ n ∧ vi = .int .i64 i ∧ Hid (J i wr) ∧ Hid ((List.range i).any bad = false)) (fun _ vi _ => n - (intOf vi).toNat)
  case atStart => exact ⟨0, by omega, rfl, HJ, Lib.hid (by simp)⟩
  case round =>
    clear HJ
    obtain ⟨i, hi, rfl, HJ, HF⟩ := hrel
    by_cases hlt : i < n
    · have hl := HL.out i wr HJ.out
      obtain ⟨g, o, rfl⟩ := hl.addr (by have := HN.out; omega)
      obtain ⟨x, hx⟩ : ∃ x, l[i]? = some x := ⟨_, List.getElem?_eq_getElem (by have := HN.out; omega)⟩
      have r0 := hl.st hx
      have hc := HP.out i x wr hx HJ.out
      clear hl hx
      cases hb : bad i with
      | true =>
        rw [hb] at hc
        have HR : Hid ((List.range n).any bad = true) := Lib.hid (range_any_mono hlt hb)
        have HC := Lib.hid hc
        clear hb hc
        go_wp2_with fail
        refine HC.out.mono ?_
        rintro e w1 ⟨rfl, hj⟩
        have HJ1 := Lib.hid hj
        clear r0 HC hj
        go_wp2
        go_ret
        exact ⟨i, i + 1, rfl, by rw [HR.out]; simp, HJ1.out⟩
      | false =>
        rw [hb] at hc
        have HR : Hid ((List.range (i + 1)).any bad = false) := Lib.hid (range_any_succ HF.out hb)
        have HC := Lib.hid hc
        clear hb hc
        go_wp2_with fail
        refine HC.out.mono ?_
        rintro e w1 ⟨rfl, hj⟩
        have HJ1 := Lib.hid hj
        clear r0 HC hj
        go_wp2
        go_roundw
        case rel => exact ⟨i + 1, by omega, by go_num, HJ1, HR⟩
        case measure => simp [intOf]; omega
    · have HE : Hid (i = n) := Lib.hid (by omega)
      go_wp2
      go_ret
      exact ⟨-1, i, rfl, by rw [← HE.out, HF.out]; rfl, HJ.out⟩

set_option maxHeartbeats 1000000 in
theorem containsS_any (p : Option Addr) (n cap : Nat) (l : List ByteArray) (bad : Nat → Bool) (gf : Nat) (cb : Array Value) (J : Nat → World → Prop) (w : World) (hn : n = l.length) (h1 : n ≤ 1000000) (hJ : J 0 w)
    (eg : ∀ args w, (callFunc gf args).run Tryz.prog w = .ok (.enter gf args) w) (hL : ∀ i W, J i W → Lies W 1 strC p l) (hp : ∀ i x W, l[i]? = some x → J i W → Calls Tryz.prog gf (#[.string x] ++ cb) W fun e W' => e = .returned (.bool (bad i)) ∧ J (i + 1) W') :
    Calls Tryz.prog 84 #[.slice p n cap, .func (.func gf) #[] cb] w (RetJB J ((List.range n).any bad)) := by
  have HC := Lib.hid (indexS_any p n cap l bad gf cb J w hn h1 hJ eg hL hp)
  clear hJ hL hn hp
  go_enter Tryz.func84, Tryz.ntmps84
  go_wp2_with fail
  refine HC.out.mono ?_
  rintro e w1 ⟨r, j, rfl, hr, hj⟩
  have HR := Lib.hid hr
  have HJ := Lib.hid hj
  clear hr hj
  go_wp2
  go_ret
  exact ⟨j, by rw [← HR.out]; simp, HJ.out⟩

/-- The object's cells; the closure's state behind i references. -/
structure WrongJ (w0 : World) (ob lb sb mb : Nat) (cs : Array Value) (l : List ByteArray) (i : Nat) (W : World) : Prop where
  low : Below w0.heap.size w0 W
  b0 : Box W ob cs 59
  b1 : Box W lb #[.string (lastR l i)] 9
  b2 : Box W sb #[.map (some mb)] 114
  seen : Seen W mb (l.take i).reverse
  far : w0.heap.size ≤ ob ∧ w0.heap.size ≤ lb ∧ w0.heap.size ≤ mb ∧ lb ≠ ob ∧ lb ≠ sb ∧ lb ≠ mb ∧ mb ≠ ob ∧ mb ≠ sb

theorem lastR_succ {l : List ByteArray} {i : Nat} {x : ByteArray} (hx : l[i]? = some x) : lastR l (i + 1) = x := by
  obtain ⟨hi, rfl⟩ := List.getElem?_eq_some_iff.1 hx
  unfold lastR
  rw [if_neg (by omega), Nat.add_sub_cancel, getElem!_pos l i hi]
theorem take_rev_succ {l : List ByteArray} {i : Nat} {x : ByteArray} (hx : l[i]? = some x) : (l.take (i + 1)).reverse = x :: (l.take i).reverse := by
  obtain ⟨hi, rfl⟩ := List.getElem?_eq_some_iff.1 hx
  rw [List.take_succ_eq_append_getElem hi]
  simp

/-- Behind the map's update and the other stores. -/
theorem wrongJ_next {w0 W W1 : World} {ob lb sb mb : Nat} {cs : Array Value} {l : List ByteArray} {i : Nat} {x : ByteArray} (J : WrongJ w0 ob lb sb mb cs l i W) (hx : l[i]? = some x)
    (hs : W1.ownsMap Tryz.prog 9 (plainElem (H := Unit) Tryz.prog 4) mb ((l.take i).reverse.length + 1) ((seenD (l.take i).reverse).put (.string x.data.toList) (.lit (.bool true)))) (hg : W.grownBy W1 (some mb)) :
    WrongJ w0 ob lb sb mb cs l (i + 1) (W1.setCell ⟨lb, 0, none⟩ (.string x)) := by
  obtain ⟨h0, h1, h2, n1, n2, n3, n4, n5⟩ := J.far
  have hb : ∀ k, k < W.heap.size → k ≠ mb → W1.heap[k]? = W.heap[k]? := fun k hk hne => hg.block k hk (fun e => hne (by injection e))
  refine ⟨?_, ?_, ?_, ?_, ?_, J.far⟩
  · exact (J.low.trans ⟨hg.os, hg.tape, hg.output, hg.size, fun k hk => hb k (Nat.lt_of_lt_of_le hk J.low.size) (by omega)⟩).setCell (p := ⟨lb, 0, none⟩) h1 _
  · exact Box.set_other ((hb ob J.b0.lt (Ne.symm n4)).trans J.b0) (Ne.symm n1) _ _
  · have : Box W1 lb #[.string (lastR l i)] 9 := (hb lb J.b1.lt n3).trans J.b1
    have h := this.set 0 (.string x)
    rw [lastR_succ hx]
    exact h
  · exact Box.set_other ((hb sb J.b2.lt (Ne.symm n5)).trans J.b2) (Ne.symm n2) _ _
  · rw [take_rev_succ hx]
    have : Seen W1 mb (x :: (l.take i).reverse) := hs
    exact this.set_other (Ne.symm n3) _ _
theorem wrongJ_below {w0 W W1 : World} {ob lb sb mb : Nat} {cs : Array Value} {l : List ByteArray} {i : Nat} (J : WrongJ w0 ob lb sb mb cs l i W) (hb : Below W.heap.size W W1) : WrongJ w0 ob lb sb mb cs l i W1 :=
  ⟨J.low.trans (hb.mono J.low.size), J.b0.below hb J.b0.lt, J.b1.below hb J.b1.lt, J.b2.below hb J.b2.lt, J.seen.below hb J.seen.lt, J.far⟩

set_option maxHeartbeats 4000000 in
set_option maxRecDepth 100000 in
theorem wrong_any (w0 : World) (ob lb sb mb : Nat) (id : ByteArray) (kind x0 y0 : Int) (rv tv : Value) (l : List ByteArray) (i : Nat) (x : ByteArray) (W : World) (hx : l[i]? = some x) (hz : x.size ≤ 1000000) (hlen : l.length ≤ 1000000)
    (J : WrongJ w0 ob lb sb mb #[.string id, .int .i64 kind, .int .i64 x0, .int .i64 y0, rv, tv] l i W) :
    Calls Tryz.prog 83 #[.string x, .pointer (some ⟨ob, 0, none⟩), .pointer (some ⟨lb, 0, none⟩), .pointer (some ⟨sb, 0, none⟩)] W fun e W' => e = .returned (.bool (badR kind l i)) ∧ WrongJ w0 ob lb sb mb #[.string id, .int .i64 kind, .int .i64 x0, .int .i64 y0, rv, tv] l (i + 1) W' := by
  have hm : x.size ≤ maxLen := by unfold maxLen; omega
  have hil : i < l.length := (List.getElem?_eq_some_iff.1 hx).1
  have hxe : l[i]! = x := by obtain ⟨hi, h⟩ := List.getElem?_eq_some_iff.1 hx; rw [getElem!_pos l i hi, h]
  have r0 := J.b0.cell
  have r1 := J.b1.cell
  have r2 := J.b2.cell
  have f1 := J.b1.frozen
  obtain ⟨-, -, -, n1, n2, n3, n4, n5⟩ := J.far
  have hlook := J.seen.look hm
  have hany : (l.take i).reverse.any (fun u => u.toList == x.toList) = (l.take i).any (fun u => u.toList == x.toList) := List.any_reverse
  rw [hany] at hlook
  clear hany
  have HB : Hid (badR kind l i = ((decide (kind = 2) && (x.toList == (lastR l i).toList)) || (decide (kind = 3) && (l.take i).any (fun u => u.toList == x.toList)) || !nameB x.data.toList)) := Lib.hid (by unfold badR; rw [hxe])
  have hown := J.seen
  have HJ := Lib.hid J
  have HX := Lib.hid hx
  have hnl : (l.take i).reverse.length < maxLen := by simp; unfold maxLen; omega
  clear J hxe hx
  have HUP : Hid (∀ W1, W1.ownsMap Tryz.prog 9 (plainElem (H := Unit) Tryz.prog 4) mb ((l.take i).reverse.length + 1) ((seenD (l.take i).reverse).put (.string x.data.toList) (.lit (.bool true))) → W.grownBy W1 (some mb) → W1.cell? ⟨sb, 0, none⟩ = some (.map (some mb)) ∧ W1.cell? ⟨lb, 0, none⟩ = some (.string (lastR l i)) ∧ W1.frozen? ⟨lb, 0, none⟩ = false) := Lib.hid fun W1 _ hg => by
    have hb : ∀ k, k < W.heap.size → k ≠ mb → W1.heap[k]? = W.heap[k]? := fun k hk hne => hg.block k hk (fun e => hne (by injection e))
    have B1 : Box W1 lb #[.string (lastR l i)] 9 := (hb lb HJ.out.b1.lt n3).trans HJ.out.b1
    have B2 : Box W1 sb #[.map (some mb)] 114 := (hb sb HJ.out.b2.lt (Ne.symm n5)).trans HJ.out.b2
    exact ⟨B2.cell 0, B1.cell 0, B1.frozen 0⟩
  generalize (l.take i).any (fun u => u.toList == x.toList) = sn at hlook HB
  by_cases k2 : kind = 2
  · subst k2
    cases heq : (x.toList == (lastR l i).toList) with
    | true =>
      have HR : Hid (badR 2 l i = true) := Lib.hid (by rw [HB.out, heq]; simp)
      go_enter Tryz.func83, Tryz.ntmps83
      go_wp2_with (at_mapUpdate; refine wpList_mapUpdate_own _ rfl _ _ _ 114 rfl 9 4 keyedStr Tryz.underlying114 _ mb _ _ rfl hown hnl _ _ _ rfl rfl (keyStr hm) _ [] (plainElem_bool Tryz.underlying4 true) ?_; intro w1 hown1 hgrow1; obtain ⟨u2, u1, uf⟩ := HUP.out w1 hown1 hgrow1)
      go_ret
      exact ⟨ret_bool HR.out.symm, wrongJ_next HJ.out HX.out hown1 hgrow1⟩
    | false =>
      go_enter Tryz.func83, Tryz.ntmps83
      cases hnm : nameB x.data.toList with
      | true =>
        have HR : Hid (badR 2 l i = false) := Lib.hid (by rw [HB.out, hnm]; rw [heq]; simp)
        have hcall := fun w => name_any x w hm
        rw [hnm] at hcall
        clear hnm
        go_wp2_with (at_mapUpdate; refine wpList_mapUpdate_own _ rfl _ _ _ 114 rfl 9 4 keyedStr Tryz.underlying114 _ mb _ _ rfl hown hnl _ _ _ rfl rfl (keyStr hm) _ [] (plainElem_bool Tryz.underlying4 true) ?_; intro w1 hown1 hgrow1; obtain ⟨u2, u1, uf⟩ := HUP.out w1 hown1 hgrow1)
        refine (hcall _).mono ?_
        rintro e w2 ⟨rfl, hb⟩
        go_wp2
        go_ret
        exact ⟨ret_bool HR.out.symm, wrongJ_below (wrongJ_next HJ.out HX.out hown1 hgrow1) hb⟩
      | false =>
        have HR : Hid (badR 2 l i = true) := Lib.hid (by rw [HB.out, hnm]; simp)
        have hcall := fun w => name_any x w hm
        rw [hnm] at hcall
        clear hnm
        go_wp2_with (at_mapUpdate; refine wpList_mapUpdate_own _ rfl _ _ _ 114 rfl 9 4 keyedStr Tryz.underlying114 _ mb _ _ rfl hown hnl _ _ _ rfl rfl (keyStr hm) _ [] (plainElem_bool Tryz.underlying4 true) ?_; intro w1 hown1 hgrow1; obtain ⟨u2, u1, uf⟩ := HUP.out w1 hown1 hgrow1)
        refine (hcall _).mono ?_
        rintro e w2 ⟨rfl, hb⟩
        go_wp2
        go_ret
        exact ⟨ret_bool HR.out.symm, wrongJ_below (wrongJ_next HJ.out HX.out hown1 hgrow1) hb⟩
  · have e2 : (kind == 2) = false := beq_eq_false_iff_ne.2 k2
    by_cases k3 : kind = 3
    · subst k3
      cases sn with
      | true =>
        have HR : Hid (badR 3 l i = true) := Lib.hid (by rw [HB.out]; simp)
        clear k2
        go_enter Tryz.func83, Tryz.ntmps83
        go_wp2_with (at_mapUpdate; refine wpList_mapUpdate_own _ rfl _ _ _ 114 rfl 9 4 keyedStr Tryz.underlying114 _ mb _ _ rfl hown hnl _ _ _ rfl rfl (keyStr hm) _ [] (plainElem_bool Tryz.underlying4 true) ?_; intro w1 hown1 hgrow1; obtain ⟨u2, u1, uf⟩ := HUP.out w1 hown1 hgrow1)
        go_ret
        exact ⟨ret_bool HR.out.symm, wrongJ_next HJ.out HX.out hown1 hgrow1⟩
      | false =>
        clear k2
        go_enter Tryz.func83, Tryz.ntmps83
        cases hnm : nameB x.data.toList with
        | true =>
          have HR : Hid (badR 3 l i = false) := Lib.hid (by rw [HB.out, hnm]; simp)
          have hcall := fun w => name_any x w hm
          rw [hnm] at hcall
          clear hnm
          go_wp2_with (at_mapUpdate; refine wpList_mapUpdate_own _ rfl _ _ _ 114 rfl 9 4 keyedStr Tryz.underlying114 _ mb _ _ rfl hown hnl _ _ _ rfl rfl (keyStr hm) _ [] (plainElem_bool Tryz.underlying4 true) ?_; intro w1 hown1 hgrow1; obtain ⟨u2, u1, uf⟩ := HUP.out w1 hown1 hgrow1)
          refine (hcall _).mono ?_
          rintro e w2 ⟨rfl, hb⟩
          go_wp2
          go_ret
          exact ⟨ret_bool HR.out.symm, wrongJ_below (wrongJ_next HJ.out HX.out hown1 hgrow1) hb⟩
        | false =>
          have HR : Hid (badR 3 l i = true) := Lib.hid (by rw [HB.out, hnm]; simp)
          have hcall := fun w => name_any x w hm
          rw [hnm] at hcall
          clear hnm
          go_wp2_with (at_mapUpdate; refine wpList_mapUpdate_own _ rfl _ _ _ 114 rfl 9 4 keyedStr Tryz.underlying114 _ mb _ _ rfl hown hnl _ _ _ rfl rfl (keyStr hm) _ [] (plainElem_bool Tryz.underlying4 true) ?_; intro w1 hown1 hgrow1; obtain ⟨u2, u1, uf⟩ := HUP.out w1 hown1 hgrow1)
          refine (hcall _).mono ?_
          rintro e w2 ⟨rfl, hb⟩
          go_wp2
          go_ret
          exact ⟨ret_bool HR.out.symm, wrongJ_below (wrongJ_next HJ.out HX.out hown1 hgrow1) hb⟩
    · have e3 : (kind == 3) = false := beq_eq_false_iff_ne.2 k3
      have HK : Hid (decide (kind = 2) = false ∧ decide (kind = 3) = false) := Lib.hid ⟨decide_eq_false k2, decide_eq_false k3⟩
      clear k2 k3
      go_enter Tryz.func83, Tryz.ntmps83
      cases hnm : nameB x.data.toList with
      | true =>
        have HR : Hid (badR kind l i = false) := Lib.hid (by rw [HB.out, hnm]; rw [HK.out.1, HK.out.2]; simp)
        have hcall := fun w => name_any x w hm
        rw [hnm] at hcall
        clear hnm
        go_wp2_with (at_mapUpdate; refine wpList_mapUpdate_own _ rfl _ _ _ 114 rfl 9 4 keyedStr Tryz.underlying114 _ mb _ _ rfl hown hnl _ _ _ rfl rfl (keyStr hm) _ [] (plainElem_bool Tryz.underlying4 true) ?_; intro w1 hown1 hgrow1; obtain ⟨u2, u1, uf⟩ := HUP.out w1 hown1 hgrow1)
        refine (hcall _).mono ?_
        rintro e w2 ⟨rfl, hb⟩
        go_wp2
        go_ret
        exact ⟨ret_bool HR.out.symm, wrongJ_below (wrongJ_next HJ.out HX.out hown1 hgrow1) hb⟩
      | false =>
        have HR : Hid (badR kind l i = true) := Lib.hid (by rw [HB.out, hnm]; simp)
        have hcall := fun w => name_any x w hm
        rw [hnm] at hcall
        clear hnm
        go_wp2_with (at_mapUpdate; refine wpList_mapUpdate_own _ rfl _ _ _ 114 rfl 9 4 keyedStr Tryz.underlying114 _ mb _ _ rfl hown hnl _ _ _ rfl rfl (keyStr hm) _ [] (plainElem_bool Tryz.underlying4 true) ?_; intro w1 hown1 hgrow1; obtain ⟨u2, u1, uf⟩ := HUP.out w1 hown1 hgrow1)
        refine (hcall _).mono ?_
        rintro e w2 ⟨rfl, hb⟩
        go_wp2
        go_ret
        exact ⟨ret_bool HR.out.symm, wrongJ_below (wrongJ_next HJ.out HX.out hown1 hgrow1) hb⟩
end Go.Proofs.YtaggohobdjidjaaGreatDoor

/- object.Valid. -/
namespace Go.Proofs.YtaggohobdjidjaaGreatDoor
open Go.Shelf Go.RowKit Go.Sort

/-- An object as it lies in memory: its two slices as values. -/
structure OV where
  id : ByteArray
  kind : Int
  x : Int
  y : Int
  pr : Option Addr
  nr : Nat
  cr : Nat
  pt : Option Addr
  nt : Nat
  ct : Nat
instance : Inhabited OV := ⟨⟨ByteArray.empty, 0, 0, 0, none, 0, 0, none, 0, 0⟩⟩
def ovC (v : OV) : List Value := [.string v.id, .int .i64 v.kind, .int .i64 v.x, .int .i64 v.y, .slice v.pr v.nr v.cr, .slice v.pt v.nt v.ct]
def ovV (v : OV) : Value := .agg #[.string v.id, .int .i64 v.kind, .int .i64 v.x, .int .i64 v.y, .slice v.pr v.nr v.cr, .slice v.pt v.nt v.ct]
theorem ovC_len (v : OV) : (ovC v).length = 6 := rfl
/-- It reads as this object. -/
structure ObAt (W : World) (v : OV) (o : Ob) : Prop where
  id : v.id = o.id
  kind : v.kind = o.kind
  x : v.x = o.x
  y : v.y = o.y
  nr : v.nr = o.refs.length
  nt : v.nt = o.tags.length
  refs : Lies W 1 strC v.pr o.refs
  tags : Lies W 2 tagC v.pt o.tags
  cr : v.nr ≤ v.cr
  ct : v.nt ≤ v.ct
theorem ObAt.below {W W' : World} {v : OV} {o : Ob} {B : Nat} (h : ObAt W v o) (hb : Below B W W') (hB : W.heap.size ≤ B) : ObAt W' v o :=
  ⟨h.id, h.kind, h.x, h.y, h.nr, h.nt, h.refs.below hb hB, h.tags.below hb hB, h.cr, h.ct⟩
/-- All its texts and lists are small. -/
structure SmallO (o : Ob) : Prop where
  id : o.id.size ≤ 1000000
  refs : ∀ s ∈ o.refs, s.size ≤ 1000000
  tags : SmallT o.tags
  nr : o.refs.length ≤ 1000000
  nt : o.tags.length ≤ 1000000

theorem okO_kind {o : Ob} (h : ¬(1 ≤ o.kind ∧ o.kind ≤ 5)) : okO o = false := by unfold okO; rw [decide_eq_false h]; rfl
theorem okO_id {o : Ob} (h : nameB o.id.data.toList = false) : okO o = false := by unfold okO; rw [h]; simp
theorem okO_tags {o : Ob} (h : tagsB o.tags = false) : okO o = false := by unfold okO; rw [h]; simp
theorem okO_least {o : Ob} (h : ¬ leastF o.kind ≤ o.refs.length) : okO o = false := by unfold okO; rw [decide_eq_false h]; simp
theorem okO_most {o : Ob} (h : ¬ o.refs.length ≤ 2000) : okO o = false := by unfold okO; rw [decide_eq_false h]; simp
theorem okO_refs {o : Ob} (h : refsOk o.kind o.refs = false) : okO o = false := by unfold okO; rw [h]; simp
theorem okO_rest {o : Ob} (h1 : 1 ≤ o.kind ∧ o.kind ≤ 5) (h2 : nameB o.id.data.toList = true) (h3 : tagsB o.tags = true) (h4 : leastF o.kind ≤ o.refs.length) (h5 : o.refs.length ≤ 2000) (h6 : refsOk o.kind o.refs = true) :
    okO o = (if o.kind = 1 then decide (o.refs.length = 0) && onB o.x o.y else decide (o.kind = 5 → o.refs.length = 3) && decide (o.x = 0 ∧ o.y = 0)) := by
  unfold okO
  rw [decide_eq_true h1, h2, h3, decide_eq_true h4, decide_eq_true h5, h6]
  simp
theorem leastF_bd (k : Int) : 0 ≤ leastF k ∧ leastF k ≤ 3 := by
  unfold leastF
  constructor <;> (repeat' split) <;> omega

set_option maxHeartbeats 8000000 in
set_option maxRecDepth 100000 in
theorem objValid_any (v : OV) (o : Ob) (w : World) (h : ObAt w v o) (hz : SmallO o) : Calls Tryz.prog 50 #[ovV v] w (RetB w (.bool (okO o))) := by
  obtain ⟨id, kind, x, y, refs, tags⟩ := o
  obtain ⟨vid, vkind, vx, vy, pr, nr, cr, pt, nt, ct⟩ := v
  obtain ⟨rfl, rfl, rfl, rfl, hnr, hnt, hR, hT, hcr, hct⟩ := h
  obtain ⟨z1, z2, z3, z4, z5⟩ := hz
  dsimp only at hnr hnt hR hT hcr hct z1 z2 z3 z4 z5 ⊢
  have HR := Lib.hid hR
  have HT := Lib.hid hT
  have HN := Lib.hid (And.intro hnr hnt)
  have Z2 := Lib.hid z2
  have Z3 := Lib.hid z3
  have hnr1 : nr ≤ 1000000 := by omega
  have hnt1 : nt ≤ 1000000 := by omega
  obtain ⟨ob, hob⟩ : ∃ o : Ob, o = ⟨vid, vkind, vx, vy, refs, tags⟩ := ⟨_, rfl⟩
  rw [← hob]
  have HO := Lib.hid hob
  clear hob hR hT hnr hnt z2 z3 z4 z5
  unfold ovV
  dsimp only
  go_enter Tryz.func50, Tryz.ntmps50
  go_wp2_with fail
  refine wp_abs (fun W => Below w.heap.size w W ∧ Box W w.heap.size #[.string vid, .int .i64 vkind, .int .i64 vx, .int .i64 vy, .slice pr nr cr, .slice pt nt ct] 59) ⟨(Below.refl _ _).alloc (Nat.le_refl _) _, Box.new _ _ _⟩ ?_
  rintro W ⟨hW, b0⟩
  have g0 := cell_regrown (b0.cell 0)
  have g1 := cell_regrown (b0.cell 1)
  have g3 := cell_regrown (b0.cell 4)
  have g4 := cell_regrown (b0.cell 5)
  have cW := quietC (W := W) (fun w' _ => word_any vkind w')
  have cN := quietC (W := W) (fun w' _ => name_any vid w' (by unfold maxLen; omega))
  have cT := quietC (W := W) (fun w' hb => tagValid_any pt nt ct tags w' ((HT.out.below hW HT.out.lt).below hb (Nat.le_refl _)) HN.out.2 Z3.out hnt1)
  by_cases h15 : 1 ≤ vkind ∧ vkind ≤ 5
  case neg =>
    have HRB : Hid (okO ob = false) := Lib.hid (okO_kind (by rw [HO.out]; exact h15))
    rw [wordF_bad h15] at cW
    have cL := cW
    clear h15
    refine wp_region_quiet_below (by kernel_rfl) (by kernel_rfl) ?_
    repeat (go_big_quiet_step (first | (with_reducible exact cW _ _) | (with_reducible exact cN _ _) | (with_reducible exact cT _ _) | (with_reducible exact cL _ _)))
    refine wpQuiet_nil ?_
    rintro W2 hw2
    replace hw2 := below_of_regrown hw2
    go_wp2
    go_ret
    exact RetB.mk' (congrArg Value.bool HRB.out.symm) (hW.trans (hw2.mono hW.size))
  have HK := Lib.hid h15
  obtain ⟨e1, e1'⟩ := (⟨wordF_ok h15, by intro e; have := wordF_ok h15; rw [e] at this; cases this⟩ : (wordF vkind).toList.isEmpty = false ∧ (wordF vkind).toList ≠ [])
  have cL := quietC (W := W) (fun w' _ => least_any vkind h15 w')
  have hlf := leastF_bd vkind
  generalize hlk : leastF vkind = lf at cL hlf
  have HLF := Lib.hid hlk
  clear hlk h15
  obtain ⟨hl0, hl3⟩ := hlf
  generalize wordF vkind = wd at cW e1 e1'
  cases hnm : nameB vid.data.toList with
  | false =>
    have HRB : Hid (okO ob = false) := Lib.hid (okO_id (by rw [HO.out]; exact hnm))
    rw [hnm] at cN
    clear hnm
    refine wp_region_quiet_below (by kernel_rfl) (by kernel_rfl) ?_
    repeat (go_big_quiet_step (first | (with_reducible exact cW _ _) | (with_reducible exact cN _ _) | (with_reducible exact cT _ _) | (with_reducible exact cL _ _)))
    refine wpQuiet_nil ?_
    rintro W2 hw2
    replace hw2 := below_of_regrown hw2
    go_wp2
    go_ret
    exact RetB.mk' (congrArg Value.bool HRB.out.symm) (hW.trans (hw2.mono hW.size))
  | true =>
  have HNM := Lib.hid hnm
  rw [hnm] at cN
  clear hnm
  cases htg : tagsB tags with
  | false =>
    have HRB : Hid (okO ob = false) := Lib.hid (okO_tags (by rw [HO.out]; exact htg))
    rw [htg] at cT
    clear htg
    refine wp_region_quiet_below (by kernel_rfl) (by kernel_rfl) ?_
    repeat (go_big_quiet_step (first | (with_reducible exact cW _ _) | (with_reducible exact cN _ _) | (with_reducible exact cT _ _) | (with_reducible exact cL _ _)))
    refine wpQuiet_nil ?_
    rintro W2 hw2
    replace hw2 := below_of_regrown hw2
    go_wp2
    go_ret
    exact RetB.mk' (congrArg Value.bool HRB.out.symm) (hW.trans (hw2.mono hW.size))
  | true =>
  have HTG := Lib.hid htg
  rw [htg] at cT
  clear htg
  by_cases hlt : (nr : Int) < lf
  · have HRB : Hid (okO ob = false) := Lib.hid (okO_least (by rw [HO.out]; dsimp only; rw [HLF.out, ← HN.out.1]; omega))
    refine wp_region_quiet_below (by kernel_rfl) (by kernel_rfl) ?_
    repeat (go_big_quiet_step (first | (with_reducible exact cW _ _) | (with_reducible exact cN _ _) | (with_reducible exact cT _ _) | (with_reducible exact cL _ _)))
    refine wpQuiet_nil ?_
    rintro W2 hw2
    replace hw2 := below_of_regrown hw2
    go_wp2
    go_ret
    exact RetB.mk' (congrArg Value.bool HRB.out.symm) (hW.trans (hw2.mono hW.size))
  have hlt4 : decide ((nr : Int) < lf) = false := decide_eq_false hlt
  by_cases hgt : 2000 < nr
  · have HRB : Hid (okO ob = false) := Lib.hid (okO_most (by rw [HO.out]; dsimp only; rw [← HN.out.1]; omega))
    refine wp_region_quiet_below (by kernel_rfl) (by kernel_rfl) ?_
    repeat (go_big_quiet_step (first | (with_reducible exact cW _ _) | (with_reducible exact cN _ _) | (with_reducible exact cT _ _) | (with_reducible exact cL _ _)))
    refine wpQuiet_nil ?_
    rintro W2 hw2
    replace hw2 := below_of_regrown hw2
    go_wp2
    go_ret
    exact RetB.mk' (congrArg Value.bool HRB.out.symm) (hW.trans (hw2.mono hW.size))
  have hgt4 : decide ((2000 : Int) < (nr : Int)) = false := decide_eq_false (by omega)
  refine wp_region_quiet_below (by kernel_rfl) (by kernel_rfl) ?_
  repeat (go_big_quiet_step (first | (with_reducible exact cW _ _) | (with_reducible exact cN _ _) | (with_reducible exact cT _ _) | (with_reducible exact cL _ _)))
  refine wpQuiet_nil ?_
  rintro W2 hw2
  replace hw2 := below_of_regrown hw2
  have HST := Lib.hid (And.intro hlt hgt)
  replace hW := hW.trans (hw2.mono hW.size)
  replace b0 := b0.below hw2 b0.lt
  clear hw2 cW cN cT cL g0 g1 g3 g4 e1 e1' hl0 hl3 hlt hlt4 hgt hgt4
  have hmm := @run_makeMap Tryz.prog
  have r0 := b0.cell
  have k0 := b0.lt
  have k1 : w.heap.size < W2.heap.size + 1 := by omega
  have k2 : w.heap.size < W2.heap.size + 1 + 1 := by omega
  go_wp2_with fail
  clear hmm r0 k0 k1 k2
  refine calls_abs (fun W => WrongJ w w.heap.size (W2.heap.size + 1 + 1) (W2.heap.size + 1) W2.heap.size #[.string vid, .int .i64 vkind, .int .i64 vx, .int .i64 vy, .slice pr nr cr, .slice pt nt ct] refs 0 W)
    ⟨((hW.alloc hW.size _).alloc (by have := hW.size; simp; omega) _).alloc (by have := hW.size; simp; omega) _, ((b0.alloc _).alloc _).alloc _, Box.new' (by simp) _ _, (Box.new' (by simp) _ _).alloc _, ((Seen.made W2).alloc _).alloc _, by have := hW.size; have := b0.lt; omega⟩ ?_
  clear b0
  rintro W3 J0
  have hJL : ∀ i W, WrongJ w w.heap.size (W2.heap.size + 1 + 1) (W2.heap.size + 1) W2.heap.size #[.string vid, .int .i64 vkind, .int .i64 vx, .int .i64 vy, .slice pr nr cr, .slice pt nt ct] refs i W → Lies W 1 strC pr refs := fun i W J => HR.out.below J.low HR.out.lt
  have hcall := containsS_any pr nr cr refs (badR vkind refs) 83 #[.pointer (some ⟨w.heap.size, 0, none⟩), .pointer (some ⟨W2.heap.size + 1 + 1, 0, none⟩), .pointer (some ⟨W2.heap.size + 1, 0, none⟩)] (WrongJ w w.heap.size (W2.heap.size + 1 + 1) (W2.heap.size + 1) W2.heap.size #[.string vid, .int .i64 vkind, .int .i64 vx, .int .i64 vy, .slice pr nr cr, .slice pt nt ct] refs) W3 HN.out.1 hnr1 J0
    (enters_of Tryz.func83 (by kernel_rfl) rfl) hJL (fun i x W hx J => wrong_any w _ _ _ _ _ _ _ _ _ _ _ i x W hx (Z2.out x (List.mem_of_getElem? hx)) (by have := HN.out.1; omega) J)
  refine hcall.mono ?_
  clear hcall J0 hJL hW
  rintro e W4 ⟨j, rfl, J⟩
  have hW := J.low
  have b0 := J.b0
  clear J
  have hro : refsOk vkind refs = !(List.range nr).any (badR vkind refs) := by unfold refsOk; rw [HN.out.1]
  cases hbad : (List.range nr).any (badR vkind refs) with
  | true =>
    have HRB : Hid (okO ob = false) := Lib.hid (okO_refs (by rw [HO.out]; dsimp only; rw [hro, hbad]; rfl))
    clear hbad hro
    go_wp2
    go_ret
    exact RetB.mk' (congrArg Value.bool HRB.out.symm) hW
  | false =>
  have HRO : Hid (okO ob = (if vkind = 1 then decide (refs.length = 0) && onB vx vy else decide (vkind = 5 → refs.length = 3) && decide (vx = 0 ∧ vy = 0))) := Lib.hid (by
    rw [HO.out]
    exact okO_rest (o := ⟨vid, vkind, vx, vy, refs, tags⟩) HK.out HNM.out HTG.out (by dsimp only; rw [HLF.out, ← HN.out.1]; have := HST.out.1; omega) (by dsimp only; rw [← HN.out.1]; have := HST.out.2; omega) (by dsimp only; rw [hro, hbad]; rfl))
  clear hbad hro
  have r0 := b0.cell
  by_cases k1 : vkind = 1
  · have HRO2 : Hid (okO ob = (decide (refs.length = 0) && onB vx vy)) := Lib.hid (by rw [HRO.out, if_pos k1])
    clear HRO
    subst k1
    by_cases hn0 : nr = 0
    · have HE : Hid (refs.length = 0) := Lib.hid (by rw [← HN.out.1]; exact hn0)
      subst hn0
      go_wp2_with fail
      refine (on_any vx vy W4).mono ?_
      rintro e W5 ⟨rfl, hb⟩
      go_wp2
      go_ret
      exact RetB.mk' (congrArg Value.bool (by rw [HRO2.out, decide_eq_true HE.out, Bool.true_and])) (hW.trans (hb.mono hW.size))
    · have HE : Hid (¬ refs.length = 0) := Lib.hid (by rw [← HN.out.1]; exact hn0)
      have hn1 : ((nr : Int) == 0) = false := by rw [beq_eq_false_iff_ne]; omega
      go_wp2
      go_ret
      exact RetB.mk' (congrArg Value.bool (by rw [HRO2.out, decide_eq_false HE.out, Bool.false_and])) hW
  · have e1 : (vkind == 1) = false := beq_eq_false_iff_ne.2 k1
    have HRO2 : Hid (okO ob = (decide (vkind = 5 → refs.length = 3) && decide (vx = 0 ∧ vy = 0))) := Lib.hid (by rw [HRO.out, if_neg k1])
    clear HRO k1
    have hpt : ∀ w, (binOp .eql 24 (.agg #[.int .i64 vx, .int .i64 vy]) (.agg #[.int .i64 0, .int .i64 0])).run Tryz.prog w = .ok (.bool (decide (vx = 0 ∧ vy = 0))) w := fun w => point_eql vx vy 0 0 w
    obtain ⟨pb, hpb⟩ : ∃ pb, decide (vx = 0 ∧ vy = 0) = pb := ⟨_, rfl⟩
    rw [hpb] at hpt
    have HPB := Lib.hid hpb
    clear hpb
    by_cases k5 : vkind = 5
    · have HRO3 : Hid (okO ob = (decide (nr = 3) && pb)) := Lib.hid (by rw [HRO2.out, HPB.out, ← HN.out.1]; simp [k5])
      clear HRO2
      subst k5
      by_cases hn3 : nr = 3
      · have HE : Hid (okO ob = pb) := Lib.hid (by rw [HRO3.out, decide_eq_true hn3, Bool.true_and])
        subst hn3
        go_wp2
        go_ret
        exact RetB.mk' (congrArg Value.bool HE.out.symm) hW
      · have HE : Hid (okO ob = false) := Lib.hid (by rw [HRO3.out, decide_eq_false hn3, Bool.false_and])
        have hn1 : ((nr : Int) == 3) = false := by rw [beq_eq_false_iff_ne]; omega
        go_wp2
        go_ret
        exact RetB.mk' (congrArg Value.bool HE.out.symm) hW
    · have e5 : (vkind == 5) = false := beq_eq_false_iff_ne.2 k5
      have HE : Hid (okO ob = pb) := Lib.hid (by rw [HRO2.out, HPB.out, decide_eq_true (fun h => absurd h k5), Bool.true_and])
      clear k5
      go_wp2
      go_ret
      exact RetB.mk' (congrArg Value.bool HE.out.symm) hW
end Go.Proofs.YtaggohobdjidjaaGreatDoor

/- atlas.Valid. -/
namespace Go.Proofs.YtaggohobdjidjaaGreatDoor
open Go.Shelf Go.RowKit Go.Sort

/-- The slice at p reads as these objects. -/
def Objs (W : World) (p : Option Addr) (l : List Ob) : Prop := ∃ lv : List OV, Lies W 6 ovC p lv ∧ lv.length = l.length ∧ ∀ (i : Nat) v o, lv[i]? = some v → l[i]? = some o → ObAt W v o
theorem Objs.lt {W : World} {p : Option Addr} {l : List Ob} (_ : Objs W p l) : W.heap.size ≤ W.heap.size := Nat.le_refl _
theorem Objs.below {W W' : World} {p : Option Addr} {l : List Ob} {B : Nat} (h : Objs W p l) (hb : Below B W W') (hB : W.heap.size ≤ B) : Objs W' p l := by
  obtain ⟨lv, h1, h2, h3⟩ := h
  exact ⟨lv, h1.below hb hB, h2, fun i v o hv ho => (h3 i v o hv ho).below hb hB⟩
theorem Objs.alloc {W : World} {p : Option Addr} {l : List Ob} (h : Objs W p l) (o : Obj) : Objs (W.alloc o) p l := h.below ((Below.refl W.heap.size W).alloc (Nat.le_refl _) o) (Nat.le_refl _)
theorem Objs.addr {W : World} {p : Option Addr} {l : List Ob} (h : Objs W p l) (hl : 0 < l.length) : ∃ g o, p = some ⟨g, o, none⟩ := by
  obtain ⟨lv, h1, h2, h3⟩ := h
  exact h1.addr (by omega)
/-- The cells of the i-th. -/
theorem Objs.at {W : World} {g o i : Nat} {l : List Ob} {x : Ob} (h : Objs W (some ⟨g, o, none⟩) l) (hx : l[i]? = some x) :
    ∃ v : OV, ObAt W v x ∧ W.cell? ⟨g, o + i * 6, none⟩ = some (.string v.id) ∧ W.cell? ⟨g, o + i * 6 + 1, none⟩ = some (.int .i64 v.kind) ∧ W.cell? ⟨g, o + i * 6 + 2, none⟩ = some (.int .i64 v.x) ∧ W.cell? ⟨g, o + i * 6 + 3, none⟩ = some (.int .i64 v.y) ∧
      W.cell? ⟨g, o + i * 6 + 4, none⟩ = some (.slice v.pr v.nr v.cr) ∧ W.cell? ⟨g, o + i * 6 + 5, none⟩ = some (.slice v.pt v.nt v.ct) := by
  obtain ⟨lv, h1, h2, h3⟩ := h
  have hi := (List.getElem?_eq_some_iff.1 hx).1
  obtain ⟨v, hv⟩ : ∃ v, lv[i]? = some v := ⟨_, List.getElem?_eq_getElem (by omega)⟩
  exact ⟨v, h3 i v x hv hx, h1.cell g o rfl i v hv 0 (by omega), h1.cell g o rfl i v hv 1 (by omega), h1.cell g o rfl i v hv 2 (by omega), h1.cell g o rfl i v hv 3 (by omega), h1.cell g o rfl i v hv 4 (by omega), h1.cell g o rfl i v hv 5 (by omega)⟩

def SmallM (l : List Ob) : Prop := ∀ o ∈ l, SmallO o

set_option maxHeartbeats 4000000 in
set_option maxRecDepth 100000 in
theorem mapValid_any (p : Option Addr) (n cap : Nat) (l : List Ob) (w : World) (hL : Objs w p l) (hn : n = l.length) (hz : SmallM l) (hn1 : n ≤ 1000000) :
    Calls Tryz.prog 26 #[.agg #[.slice p n cap]] w (RetB w (.bool (mapB l))) := by
  have HL := Lib.hid hL
  have HN := Lib.hid hn
  have HZ := Lib.hid hz
  clear hL hn hz
  go_enter Tryz.func26, Tryz.ntmps26
  go_wp2_with fail
  refine wp_abs (fun W => Below w.heap.size w W ∧ Box W w.heap.size #[.slice p n cap] 35) ⟨(Below.refl _ _).alloc (Nat.le_refl _) _, Box.new _ _ _⟩ ?_
  rintro W ⟨hW, bM⟩
  have rM := bM.cell
  go_wp2
  clear rM
  go_loopw [3, 9] (fun vl vi wr => ∃ (i : Nat) (last : ByteArray), i ≤ n ∧ vi = .int .i64 i ∧ vl = .string last ∧ Below w.heap.size w wr ∧ Box wr w.heap.size #[.slice p n cap] 35 ∧ Hid (last = lastK Ob.id ByteArray.empty l i ∧ chainB okO Ob.id ByteArray.empty (l.take i) = true)) (fun _ vi _ => n - (intOf vi).toNat)
  case atStart => exact ⟨0, _, by omega, rfl, rfl, hW, bM, Lib.hid ⟨(lastK_zero _ _ _).symm, chain_zero _ _ _ _⟩⟩
  case round =>
    clear hW bM
    obtain ⟨i, last, hi, rfl, rfl, hW, bM, HF⟩ := hrel
    by_cases hlt : i < n
    · obtain ⟨g, o, rfl⟩ := HL.out.addr (by have := HN.out; omega)
      obtain ⟨x, hx⟩ : ∃ x, l[i]? = some x := ⟨_, List.getElem?_eq_getElem (by have := HN.out; omega)⟩
      obtain ⟨v, hat, r0, r1, r2, r3, r4, r5⟩ := (HL.out.below hW HL.out.lt).at hx
      have hsm := HZ.out x (List.mem_of_getElem? hx)
      have HAT := Lib.hid hat
      have HX := Lib.hid hx
      have HSM := Lib.hid hsm
      have hs := hW.size
      clear hx hat hsm
      have HBAD : Hid (∀ b, (okO x && Op.bytesLess last.toList x.id.toList) = false → b = false → Hid (b = mapB l)) := Lib.hid fun b h hb => Lib.hid (by
        unfold mapB
        rw [chain_bad okO Ob.id l ByteArray.empty i x HX.out (by rw [← HF.out.1]; exact h), Bool.false_and, hb])
      go_wp2_with fail
      refine calls_abs (fun W => Below w.heap.size w W ∧ Box W w.heap.size #[.slice (some ⟨g, o, none⟩) n cap] 35 ∧ Box W wr.heap.size #[.string v.id, .int .i64 v.kind, .int .i64 v.x, .int .i64 v.y, .slice v.pr v.nr v.cr, .slice v.pt v.nt v.ct] 59 ∧ Hid (ObAt W v x)) ⟨hW.alloc hW.size _, bM.alloc _, Box.new _ _ _, Lib.hid (HAT.out.below ((Below.refl wr.heap.size wr).alloc (Nat.le_refl _) _) (Nat.le_refl _))⟩ ?_
      clear hW r0 r1 r2 r3 r4 r5 bM HAT
      rintro W ⟨hW, bM, b0, HAT⟩
      have hcall := objValid_any v x W HAT.out HSM.out
      unfold ovV at hcall
      have hid := HAT.out.id
      refine hcall.mono ?_
      clear hcall HAT
      rintro e w1 ⟨rfl, hb⟩
      replace hW := hW.trans (hb.mono hW.size)
      replace b0 := b0.below hb b0.lt
      replace bM := bM.below hb bM.lt
      clear hb
      have r0 := b0.cell
      have lo : (Op.bytesLess v.id.toList last.toList || v.id.toList == last.toList) = !Op.bytesLess last.toList v.id.toList := less_or _ _
      have HID := Lib.hid hid
      clear hid
      cases hnm : okO x with
      | false =>
        have HR := HBAD.out false (by rw [hnm]; rfl) rfl
        clear hnm lo
        go_wp2
        go_ret
        exact RetB.mk' (congrArg Value.bool HR.out) hW
      | true =>
        have HNM := Lib.hid hnm
        clear hnm
        cases hls : Op.bytesLess last.toList v.id.toList with
        | false =>
          have HR := HBAD.out false (by rw [← HID.out, hls, Bool.and_false]) rfl
          rw [hls, Bool.not_false] at lo
          clear hls
          go_wp2
          go_ret
          exact RetB.mk' (congrArg Value.bool HR.out) hW
        | true =>
          have HF2 : Hid (v.id = lastK Ob.id ByteArray.empty l (i + 1) ∧ chainB okO Ob.id ByteArray.empty (l.take (i + 1)) = true) := Lib.hid ⟨HID.out.trans (lastK_succ Ob.id l _ i _ HX.out).symm, by
            rw [chain_succ okO Ob.id l _ i _ HX.out, HF.out.2, ← HF.out.1, HNM.out, ← HID.out, hls]; rfl⟩
          rw [hls, Bool.not_true] at lo
          clear hls
          go_wp2
          go_roundw
          case rel => exact ⟨i + 1, v.id, by omega, by go_num, rfl, hW, bM, HF2⟩
          case measure => simp [intOf]; omega
    · have HE : Hid (i = n) := Lib.hid (by omega)
      have HR : Hid (mapB l = decide (n ≤ 1000000)) := Lib.hid (by
        have h := HF.out.2
        rw [List.take_of_length_le (by have := HE.out; have := HN.out; omega)] at h
        unfold mapB
        rw [h, Bool.true_and, HN.out])
      have rM := bM.cell
      go_wp2
      go_ret
      exact RetB.mk' (congrArg Value.bool (by rw [HR.out]; simp; try omega)) hW

/-- One map, as the variadic form wants it. -/
theorem validM1_any (p : Option Addr) (n cap : Nat) (l : List Ob) (w : World) (hL : Objs w p l) (hn : n = l.length) (hz : SmallM l) (hn1 : n ≤ 1000000) :
    Calls Tryz.prog 121 #[.agg #[.slice p n cap]] w (RetB w (.bool (!mapB l))) := by
  have HC := Lib.hid (fun W (hW : Below w.heap.size w W) => mapValid_any p n cap l W (hL.below hW hL.lt) hn hz hn1)
  clear hL hn hz
  go_enter Tryz.func121, Tryz.ntmps121
  go_wp2_with fail
  refine (HC.out _ ((Below.refl _ _).alloc (Nat.le_refl _) _)).mono ?_
  rintro e w1 ⟨rfl, hb⟩
  go_wp2
  go_ret
  exact RetB.mk' rfl (((Below.refl _ _).alloc (Nat.le_refl _) _).trans (hb.mono (by simp)))

def idxM (b : Bool) : Int := if b then -1 else 0

set_option maxHeartbeats 1000000 in
theorem indexM1_any (g : Nat) (p : Option Addr) (n cap : Nat) (l : List Ob) (w : World) (hL : Objs w p l) (hn : n = l.length) (hz : SmallM l) (hn1 : n ≤ 1000000) (h0 : w.cell? ⟨g, 0, none⟩ = some (.slice p n cap)) :
    Calls Tryz.prog 140 #[.slice (some ⟨g, 0, none⟩) 1 1, .func (.func 121) #[] #[]] w (RetB w (.int .i64 (idxM (mapB l)))) := by
  have HC := Lib.hid (validM1_any p n cap l w hL hn hz hn1)
  clear hL hn hz
  go_enter Tryz.func140, Tryz.ntmps140
  go_wp2
  go_loopw [5, 8] (fun _ vi wr => ∃ j : Nat, j ≤ 1 ∧ vi = .int .i64 j ∧ Below w.heap.size w wr ∧ Hid ((j = 0 ∧ wr = w) ∨ (j = 1 ∧ mapB l = true))) (fun _ vi _ => 1 - (intOf vi).toNat)
  case atStart => exact ⟨0, by omega, rfl, Below.refl _ _, Lib.hid (.inl ⟨rfl, rfl⟩)⟩
  case round =>
    obtain ⟨j, hj, rfl, hW, HJ⟩ := hrel
    rcases HJ.out with ⟨rfl, hwr⟩ | ⟨rfl, HM⟩
    · subst hwr
      clear HJ hW
      cases hm : mapB l with
      | true =>
        have HC2 := HC.out
        rw [hm] at HC2
        have HM := Lib.hid hm
        have HC3 := Lib.hid HC2
        clear hm HC2
        go_wp2_with fail
        refine HC3.out.mono ?_
        rintro e w1 ⟨rfl, hb⟩
        go_wp2
        go_roundw
        case rel => exact ⟨1, by omega, rfl, hb, Lib.hid (.inr ⟨rfl, by first | exact HM.out | trivial⟩)⟩
        case measure => simp [intOf]
      | false =>
        have HC2 := HC.out
        rw [hm] at HC2
        have HM := Lib.hid hm
        have HC3 := Lib.hid HC2
        clear hm HC2
        go_wp2_with fail
        refine HC3.out.mono ?_
        rintro e w1 ⟨rfl, hb⟩
        go_wp2
        go_ret
        exact RetB.mk' (by first | rfl | (rw [HM.out]; rfl)) hb
    · have HM2 := Lib.hid HM
      clear HM HJ
      go_wp2
      go_ret
      exact RetB.mk' (by rw [HM2.out]; rfl) hW

theorem containsM1_any (g : Nat) (p : Option Addr) (n cap : Nat) (l : List Ob) (w : World) (hL : Objs w p l) (hn : n = l.length) (hz : SmallM l) (hn1 : n ≤ 1000000) (h0 : w.cell? ⟨g, 0, none⟩ = some (.slice p n cap)) :
    Calls Tryz.prog 120 #[.slice (some ⟨g, 0, none⟩) 1 1, .func (.func 121) #[] #[]] w (RetB w (.bool (!mapB l))) := by
  have HC := Lib.hid (indexM1_any g p n cap l w hL hn hz hn1 h0)
  clear hL hn hz h0
  cases hm : mapB l with
  | true =>
    have HC2 := HC.out
    rw [hm] at HC2
    unfold idxM at HC2
    rw [if_pos rfl] at HC2
    have HC3 := Lib.hid HC2
    clear HC2
    go_enter Tryz.func120, Tryz.ntmps120
    go_wp2_with fail
    refine HC3.out.mono ?_
    rintro e w1 ⟨rfl, hb⟩
    go_wp2
    go_ret
    exact RetB.mk' rfl hb
  | false =>
    have HC2 := HC.out
    rw [hm] at HC2
    unfold idxM at HC2
    rw [if_neg (by simp)] at HC2
    have HC3 := Lib.hid HC2
    clear HC2
    go_enter Tryz.func120, Tryz.ntmps120
    go_wp2_with fail
    refine HC3.out.mono ?_
    rintro e w1 ⟨rfl, hb⟩
    go_wp2
    go_ret
    exact RetB.mk' rfl hb

theorem validV_any (g : Nat) (p : Option Addr) (n cap : Nat) (l : List Ob) (w : World) (hL : Objs w p l) (hn : n = l.length) (hz : SmallM l) (hn1 : n ≤ 1000000) (h0 : w.cell? ⟨g, 0, none⟩ = some (.slice p n cap)) :
    Calls Tryz.prog 97 #[.slice (some ⟨g, 0, none⟩) 1 1] w (RetB w (.bool (mapB l))) := by
  have HC := Lib.hid (containsM1_any g p n cap l w hL hn hz hn1 h0)
  clear hL hn hz h0
  go_enter Tryz.func97, Tryz.ntmps97
  go_wp2_with fail
  refine HC.out.mono ?_
  rintro e w1 ⟨rfl, hb⟩
  go_wp2
  go_ret
  exact RetB.mk' (by simp) hb
end Go.Proofs.YtaggohobdjidjaaGreatDoor

/- An object found by its Id: plain lists. -/
namespace Go.Proofs.YtaggohobdjidjaaGreatDoor

def findO (l : List Ob) (id : ByteArray) : Option Ob := l.find? fun o => o.id.toList == id.toList
def cmpB (a b : ByteArray) : Int := Lib.compareBytes a.data.toList b.data.toList

theorem compare_less : ∀ a b : List UInt8, (Lib.compareBytes a b < 0 ↔ Op.bytesLess a b = true) ∧ (Lib.compareBytes a b = 0 ↔ a = b)
  | [], [] => by simp [Lib.compareBytes, Op.bytesLess]
  | [], b :: bs => by simp [Lib.compareBytes, Op.bytesLess]
  | a :: u, [] => by simp [Lib.compareBytes, Op.bytesLess]
  | a :: u, b :: bs => by
    have ih := compare_less u bs
    have e1 : Op.bytesLess (a :: u) (b :: bs) = (decide (a < b) || (a == b && Op.bytesLess u bs)) := rfl
    have e2 : Lib.compareBytes (a :: u) (b :: bs) = if a < b then -1 else if b < a then 1 else Lib.compareBytes u bs := rfl
    rw [e1, e2]
    by_cases h1 : a < b
    · have hne : a ≠ b := fun e => by subst e; exact absurd h1 (UInt8.lt_irrefl a)
      simp [h1, hne]
    · by_cases h2 : b < a
      · have hne : a ≠ b := fun e => by subst e; exact absurd h2 (UInt8.lt_irrefl a)
        simp [h1, h2, hne]
      · have he : a = b := UInt8.le_antisymm (UInt8.not_lt.1 h2) (UInt8.not_lt.1 h1)
        subst he
        simp [ih]
theorem cmpB_lt {a b : ByteArray} : cmpB a b < 0 ↔ Op.bytesLess a.toList b.toList = true := by unfold cmpB; rw [ByteArray.toList_eq, ByteArray.toList_eq]; exact (compare_less _ _).1
theorem cmpB_eq {a b : ByteArray} : cmpB a b = 0 ↔ a.toList = b.toList := by unfold cmpB; rw [ByteArray.toList_eq, ByteArray.toList_eq]; exact (compare_less _ _).2

/-- Ids rise. -/
def Rising (l : List Ob) : Prop := l.Pairwise fun a b => Op.bytesLess a.id.toList b.id.toList = true
theorem chain_rising : ∀ (l : List Ob) (last : ByteArray), chainB okO Ob.id last l = true → Rising l ∧ ∀ o ∈ l, Op.bytesLess last.toList o.id.toList = true
  | [], _, _ => ⟨List.Pairwise.nil, fun o h => by cases h⟩
  | x :: l, last, h => by
    simp only [chainB, Bool.and_eq_true] at h
    obtain ⟨⟨-, h1⟩, h2⟩ := h
    obtain ⟨i1, i2⟩ := chain_rising l x.id h2
    refine ⟨List.pairwise_cons.2 ⟨i2, i1⟩, fun o ho => ?_⟩
    rcases List.mem_cons.1 ho with rfl | ho
    · exact h1
    · exact bytesLess_trans _ _ _ h1 (i2 o ho)
theorem mapB_rising {l : List Ob} (h : mapB l = true) : Rising l := by
  unfold mapB at h
  rw [Bool.and_eq_true] at h
  exact (chain_rising l _ h.1).1
theorem mapB_ok {l : List Ob} (h : mapB l = true) : ∀ o ∈ l, okO o = true := by
  unfold mapB at h
  rw [Bool.and_eq_true] at h
  exact chain_all okO Ob.id l _ h.1

theorem rising_lt {l : List Ob} (h : Rising l) {i j : Nat} {a b : Ob} (hi : l[i]? = some a) (hj : l[j]? = some b) (hij : i < j) : Op.bytesLess a.id.toList b.id.toList = true := by
  obtain ⟨h1, rfl⟩ := List.getElem?_eq_some_iff.1 hi
  obtain ⟨h2, rfl⟩ := List.getElem?_eq_some_iff.1 hj
  exact List.pairwise_iff_getElem.1 h i j h1 h2 hij

/-- Where the search ends. -/
theorem find_at {l : List Ob} (h : Rising l) {id : ByteArray} {i : Nat} (hi : i ≤ l.length) (h0 : ∀ (j : Nat) o, l[j]? = some o → j < i → Op.bytesLess o.id.toList id.toList = true) (h1 : ∀ (j : Nat) o, l[j]? = some o → i ≤ j → Op.bytesLess o.id.toList id.toList = false) :
    findO l id = match l[i]? with | some o => if o.id.toList = id.toList then some o else none | none => none := by
  have hne : ∀ (j : Nat) o, l[j]? = some o → j < i → (o.id.toList == id.toList) = false := fun j o hj hlt => by
    rw [beq_eq_false_iff_ne]
    intro e
    have := h0 j o hj hlt
    rw [e, bytesLess_irrefl] at this
    cases this
  have hgt : ∀ (j : Nat) o, l[j]? = some o → i < j → (o.id.toList == id.toList) = false := fun j o hj hlt => by
    have hil : i < l.length := by have := (List.getElem?_eq_some_iff.1 hj).1; omega
    have hx : l[i]? = some l[i] := List.getElem?_eq_getElem hil
    rw [beq_eq_false_iff_ne]
    intro e
    have k1 := rising_lt h hx hj hlt
    rw [e] at k1
    rw [h1 i _ hx (Nat.le_refl _)] at k1
    cases k1
  unfold findO
  cases hx : l[i]? with
  | none =>
    rw [List.find?_eq_none]
    intro o ho
    obtain ⟨j, hj⟩ := List.getElem?_of_mem ho
    have hjl := (List.getElem?_eq_some_iff.1 hj).1
    have : i = l.length := by have := List.getElem?_eq_none_iff.1 hx; omega
    rw [hne j o hj (by omega)]
    simp
  | some x =>
    dsimp only
    by_cases he : x.id.toList = id.toList
    · rw [if_pos he]
      have hil := (List.getElem?_eq_some_iff.1 hx).1
      rw [List.find?_eq_some_iff_getElem]
      refine ⟨by rw [he]; simp, i, hil, (List.getElem?_eq_some_iff.1 hx).2, fun j hj => ?_⟩
      rw [hne j _ (List.getElem?_eq_getElem (by omega)) hj]
      rfl
    · rw [if_neg he, List.find?_eq_none]
      intro o ho
      obtain ⟨j, hj⟩ := List.getElem?_of_mem ho
      rcases Nat.lt_trichotomy j i with h' | h' | h'
      · rw [hne j o hj h']; simp
      · subst h'
        rw [hx] at hj
        cases hj
        rw [beq_eq_false_iff_ne.2 he]; simp
      · rw [hgt j o hj h']; simp

/-- The points of the nodes that are referred to. -/
def refPt (l : List Ob) (r : ByteArray) : Option (Int × Int) := match findO l r with
  | some k => if k.kind = 1 then some (k.x, k.y) else none
  | none => none
def refPts (l : List Ob) : List ByteArray → Option (List (Int × Int))
  | [] => some []
  | r :: rs => match refPt l r with
    | some p => (refPts l rs).map (p :: ·)
    | none => none
/-- The points of an object, and the error. -/
def ptsO (l : List Ob) (o : Ob) : List (Int × Int) × Int :=
  if o.kind = 1 then ([(o.x, o.y)], 0) else if o.kind = 2 ∨ o.kind = 3 then match refPts l o.refs with
      | some ps => (ps, 0)
      | none => ([], 14)
    else ([], 13)
def pointsF (l : List Ob) (id : ByteArray) : List (Int × Int) × Int := match findO l id with
  | none => ([], 11)
  | some o => ptsO l o
theorem pointsF_none {l : List Ob} {id : ByteArray} (h : findO l id = none) : pointsF l id = ([], 11) := by unfold pointsF; rw [h]
theorem pointsF_some {l : List Ob} {id : ByteArray} {o : Ob} (h : findO l id = some o) : pointsF l id = ptsO l o := by unfold pointsF; rw [h]
theorem ptsO_node {l : List Ob} {o : Ob} (h : o.kind = 1) : ptsO l o = ([(o.x, o.y)], 0) := by unfold ptsO; rw [if_pos h]
theorem ptsO_some {l : List Ob} {o : Ob} {ps : List (Int × Int)} (h : o.kind = 2 ∨ o.kind = 3) (hp : refPts l o.refs = some ps) : ptsO l o = (ps, 0) := by unfold ptsO; rw [if_neg (by omega), if_pos h, hp]
theorem ptsO_none {l : List Ob} {o : Ob} (h : o.kind = 2 ∨ o.kind = 3) (hp : refPts l o.refs = none) : ptsO l o = ([], 14) := by unfold ptsO; rw [if_neg (by omega), if_pos h, hp]
theorem ptsO_other {l : List Ob} {o : Ob} (h1 : o.kind ≠ 1) (h : ¬(o.kind = 2 ∨ o.kind = 3)) : ptsO l o = ([], 13) := by unfold ptsO; rw [if_neg h1, if_neg h]

theorem refPts_snoc (l : List Ob) : ∀ (rs : List ByteArray) (r : ByteArray), refPts l (rs ++ [r]) = match refPts l rs with
      | some ps => (refPt l r).map fun p => ps ++ [p]
      | none => none
  | [], r => by
    show (match refPt l r with | some p => (some []).map (p :: ·) | none => none) = _
    cases refPt l r <;> rfl
  | s :: rs, r => by
    rw [List.cons_append]
    show (match refPt l s with | some p => (refPts l (rs ++ [r])).map (p :: ·) | none => none) = _
    rw [refPts_snoc l rs r]
    show _ = match (match refPt l s with | some p => (refPts l rs).map (p :: ·) | none => none) with | some ps => (refPt l r).map fun p => ps ++ [p] | none => none
    cases refPt l s with
    | none => rfl
    | some p =>
      cases refPts l rs with
      | none => rfl
      | some ps => cases refPt l r <;> rfl
theorem refPts_succ (l : List Ob) {rs : List ByteArray} {i : Nat} {r : ByteArray} (hr : rs[i]? = some r) {ps : List (Int × Int)} (h : refPts l (rs.take i) = some ps) : refPts l (rs.take (i + 1)) = (refPt l r).map fun p => ps ++ [p] := by
  obtain ⟨hi, rfl⟩ := List.getElem?_eq_some_iff.1 hr
  rw [List.take_succ_eq_append_getElem hi, refPts_snoc, h]
theorem refPts_none (l : List Ob) : ∀ (rs : List ByteArray) (i : Nat), refPts l (rs.take i) = none → refPts l rs = none
  | [], i, h => by simp [refPts] at h
  | s :: rs, 0, h => by simp [refPts] at h
  | s :: rs, i + 1, h => by
    rw [List.take_succ_cons] at h
    unfold refPts at h ⊢
    cases hs : refPt l s with
    | none => rfl
    | some p =>
      rw [hs] at h
      have : refPts l (rs.take i) = none := by
        cases hq : refPts l (rs.take i) with
        | none => rfl
        | some q => simp [hq] at h
      rw [refPts_none l rs i this]
      rfl
theorem refPts_length (l : List Ob) : ∀ (rs : List ByteArray) (ps : List (Int × Int)), refPts l rs = some ps → ps.length = rs.length
  | [], ps, h => by
    have : ([] : List (Int × Int)) = ps := Option.some.inj h
    rw [← this]; rfl
  | s :: rs, ps, h => by
    unfold refPts at h
    cases hs : refPt l s with
    | none => rw [hs] at h; cases h
    | some p =>
      rw [hs] at h
      cases hq : refPts l rs with
      | none => simp [hq] at h
      | some q =>
        simp [hq] at h
        rw [← h]
        simp [refPts_length l rs q hq]
end Go.Proofs.YtaggohobdjidjaaGreatDoor

/- atlas.at: an object found by its Id. -/
namespace Go.Proofs.YtaggohobdjidjaaGreatDoor
open Go.Shelf Go.RowKit Go.Sort

theorem compareT_any (a b : ByteArray) (w : World) : Calls Tryz.prog 124 #[.string a, .string b] w fun e w' => e = .returned (.int .i64 (cmpB a b)) ∧ w = w' :=
  (Tryz.strings_Compare a b w).mono fun _ _ ⟨he, hw⟩ => ⟨he, hw.symm⟩

theorem atCmp_any (v : OV) (id : ByteArray) (w : World) : Calls Tryz.prog 123 #[ovV v, .string id] w (RetB w (.int .i64 (cmpB v.id id))) := by
  unfold ovV
  go_enter Tryz.func123, Tryz.ntmps123
  go_wp2_with fail
  refine (compareT_any _ _ _).mono ?_
  rintro e w' ⟨rfl, rfl⟩
  go_wp2
  go_ret
  exact RetB.mk' rfl (by repeat (first | assumption | exact Below.refl _ _ | refine Below.setCell ?_ (by first | (simp; done) | (simp; omega) | omega) _ | refine Below.alloc ?_ (by first | (simp; done) | (simp; omega) | omega) _))

/-- The call returns a place, and whether the object is there. -/
def AtR (l : List Ob) (id : ByteArray) (w : World) (e : Ending) (w' : World) : Prop :=
  ∃ i : Nat, e = .returned (.tuple #[.int .i64 i, .bool (findO l id).isSome]) ∧ i ≤ l.length ∧ (∀ o, findO l id = some o → l[i]? = some o) ∧ Below w.heap.size w w'

set_option maxHeartbeats 4000000 in
set_option maxRecDepth 100000 in
theorem bsearch_any (p : Option Addr) (n cap : Nat) (l : List Ob) (id : ByteArray) (w : World) (hL : Objs w p l) (hn : n = l.length) (hr : Rising l) (hn1 : n ≤ 1000000) :
    Calls Tryz.prog 122 #[.slice p n cap, .string id, .func (.func 123) #[] #[]] w (AtR l id w) := by
  have HL := Lib.hid hL
  have HN := Lib.hid hn
  have HR := Lib.hid hr
  clear hL hn hr
  go_enter Tryz.func122, Tryz.ntmps122
  go_wp2
  go_loopw [9, 10, 11] (fun vi vj _ wr => ∃ i j : Nat, vi = .int .i64 i ∧ vj = .int .i64 j ∧ i ≤ j ∧ j ≤ n ∧ Below w.heap.size w wr ∧
      Hid ((∀ (t : Nat) o, l[t]? = some o → t < i → Op.bytesLess o.id.toList id.toList = true) ∧ (∀ (t : Nat) o, l[t]? = some o → j ≤ t → Op.bytesLess o.id.toList id.toList = false))) (fun vi vj _ _ => (intOf vj - intOf vi).toNat)
  case atStart => exact ⟨0, n, rfl, rfl, by omega, Nat.le_refl _, Below.refl _ _, Lib.hid ⟨fun t o _ h => by omega, fun t o ht h => by have := (List.getElem?_eq_some_iff.1 ht).1; have := HN.out; omega⟩⟩
  case round =>
    obtain ⟨i, j, rfl, rfl, hij, hjn, hW, HI⟩ := hrel
    by_cases hlt : i < j
    · obtain ⟨g, o, rfl⟩ := HL.out.addr (by have := HN.out; omega)
      obtain ⟨h, hh1, hh2, hH⟩ : ∃ h : Nat, 2 * h ≤ i + j ∧ i + j ≤ 2 * h + 1 ∧ ((i : Int) + (j : Int)) / 2 = (h : Int) := ⟨(i + j) / 2, by omega, by omega, by omega⟩
      obtain ⟨x, hx⟩ : ∃ x, l[h]? = some x := ⟨_, List.getElem?_eq_getElem (by have := HN.out; omega)⟩
      obtain ⟨v, hat, r0, r1, r2, r3, r4, r5⟩ := (HL.out.below hW HL.out.lt).at hx
      have HX := Lib.hid hx
      have HID := Lib.hid hat.id
      clear hx hat
      have hcall := atCmp_any v id
      unfold ovV at hcall
      have HCL := Lib.hid hcall
      clear hcall
      by_cases hc : cmpB v.id id < 0
      · have HI2 : Hid ((∀ (t : Nat) o, l[t]? = some o → t < h + 1 → Op.bytesLess o.id.toList id.toList = true) ∧ (∀ (t : Nat) o, l[t]? = some o → j ≤ t → Op.bytesLess o.id.toList id.toList = false)) := Lib.hid ⟨fun t o ht hlt' => by
          have k : Op.bytesLess x.id.toList id.toList = true := by rw [← HID.out]; exact cmpB_lt.1 hc
          rcases Nat.lt_or_ge t h with h' | h'
          · exact bytesLess_trans _ _ _ (rising_lt HR.out ht HX.out h') k
          · obtain rfl : t = h := by omega
            have := HX.out
            rw [ht] at this
            cases this
            exact k, HI.out.2⟩
        go_wp2_with fail
        refine (HCL.out _).mono ?_
        rintro e w1 ⟨rfl, hb⟩
        replace hW := hW.trans (hb.mono hW.size)
        clear r0 r1 r2 r3 r4 r5 hb HCL
        go_wp2
        go_roundw
        case rel => exact ⟨h + 1, j, by go_num, rfl, by omega, hjn, hW, HI2⟩
        case measure => simp [intOf]; omega
      · have HI2 : Hid ((∀ (t : Nat) o, l[t]? = some o → t < i → Op.bytesLess o.id.toList id.toList = true) ∧ (∀ (t : Nat) o, l[t]? = some o → h ≤ t → Op.bytesLess o.id.toList id.toList = false)) := Lib.hid ⟨HI.out.1, fun t o ht hlt' => by
          have k : Op.bytesLess x.id.toList id.toList = false := by
            rw [← HID.out]
            cases kk : Op.bytesLess v.id.toList id.toList with
            | false => rfl
            | true => exact absurd (cmpB_lt.2 kk) hc
          rcases Nat.lt_or_ge h t with h' | h'
          · cases kk : Op.bytesLess o.id.toList id.toList with
            | false => rfl
            | true =>
              have := bytesLess_trans _ _ _ (rising_lt HR.out HX.out ht h') kk
              rw [k] at this
              cases this
          · obtain rfl : t = h := by omega
            have := HX.out
            rw [ht] at this
            cases this
            exact k⟩
        go_wp2_with fail
        refine (HCL.out _).mono ?_
        rintro e w1 ⟨rfl, hb⟩
        replace hW := hW.trans (hb.mono hW.size)
        clear r0 r1 r2 r3 r4 r5 hb HCL
        go_wp2
        go_roundw
        case rel => exact ⟨i, h, rfl, rfl, by omega, by omega, hW, HI2⟩
        case measure => simp [intOf]; omega
    · have HE : Hid (i = j) := Lib.hid (by omega)
      have HF : Hid (findO l id = match l[i]? with | some o => if o.id.toList = id.toList then some o else none | none => none) := Lib.hid (find_at HR.out (by have := HN.out; omega) HI.out.1 (fun t o ht h => HI.out.2 t o ht (by have := HE.out; omega)))
      by_cases hlt2 : i < n
      · obtain ⟨g, o, rfl⟩ := HL.out.addr (by have := HN.out; omega)
        obtain ⟨x, hx⟩ : ∃ x, l[i]? = some x := ⟨_, List.getElem?_eq_getElem (by have := HN.out; omega)⟩
        obtain ⟨v, hat, r0, r1, r2, r3, r4, r5⟩ := (HL.out.below hW HL.out.lt).at hx
        have HX := Lib.hid hx
        have HID := Lib.hid hat.id
        clear hx hat
        have hcall := atCmp_any v id
        unfold ovV at hcall
        have HCL := Lib.hid hcall
        clear hcall
        by_cases hc : cmpB v.id id = 0
        · have hF : findO l id = some x := by
            rw [HF.out, HX.out]
            exact if_pos (by rw [← HID.out]; exact cmpB_eq.1 hc)
          have HF2 := Lib.hid hF
          have hcz : (cmpB v.id id == 0) = true := beq_iff_eq.2 hc
          clear hF hc
          go_wp2_with fail
          refine (HCL.out _).mono ?_
          rintro e w1 ⟨rfl, hb⟩
          replace hW := hW.trans (hb.mono hW.size)
          clear r0 r1 r2 r3 r4 r5 hb HCL
          go_wp2
          go_ret2
          exact ⟨i, by rw [HF2.out]; rfl, by have := HN.out; omega, fun o ho => by rw [HF2.out] at ho; cases ho; exact HX.out, hW⟩
        · have hF : findO l id = none := by
            rw [HF.out, HX.out]
            exact if_neg (fun h => hc (cmpB_eq.2 (by rw [HID.out]; exact h)))
          have HF2 := Lib.hid hF
          have hcz : (cmpB v.id id == 0) = false := beq_eq_false_iff_ne.2 hc
          clear hF hc
          go_wp2_with fail
          refine (HCL.out _).mono ?_
          rintro e w1 ⟨rfl, hb⟩
          replace hW := hW.trans (hb.mono hW.size)
          clear r0 r1 r2 r3 r4 r5 hb HCL
          go_wp2
          go_ret2
          exact ⟨i, by rw [HF2.out]; rfl, by have := HN.out; omega, fun o ho => (by rw [HF2.out] at ho; cases ho), hW⟩
      · have hF : findO l id = none := by
          rw [HF.out, List.getElem?_eq_none (by have := HN.out; omega)]
        have HF2 := Lib.hid hF
        clear hF
        have hd : decide (i < n) = false := decide_eq_false hlt2
        go_wp2
        go_ret2
        exact ⟨i, by rw [HF2.out]; rfl, by have := HN.out; omega, fun o ho => (by rw [HF2.out] at ho; cases ho), hW⟩

theorem at_any (p : Option Addr) (n cap : Nat) (l : List Ob) (id : ByteArray) (w : World) (hL : Objs w p l) (hn : n = l.length) (hr : Rising l) (hn1 : n ≤ 1000000) :
    Calls Tryz.prog 98 #[.agg #[.slice p n cap], .string id] w (AtR l id w) := by
  have HC := Lib.hid (fun W (hW : Below w.heap.size w W) => bsearch_any p n cap l id W (hL.below hW hL.lt) hn hr hn1)
  clear hL hn hr
  go_enter Tryz.func98, Tryz.ntmps98
  go_wp2_with fail
  refine (HC.out _ ((Below.refl _ _).alloc (Nat.le_refl _) _)).mono ?_
  rintro e w1 ⟨i, rfl, h1, h2, hb⟩
  have H := Lib.hid (And.intro h1 h2)
  clear h1 h2
  go_wp2
  go_ret2
  exact ⟨i, rfl, H.out.1, H.out.2, ((Below.refl _ _).alloc (Nat.le_refl _) _).trans (hb.mono (by simp))⟩
end Go.Proofs.YtaggohobdjidjaaGreatDoor

/- atlas.Points, of a valid map. -/
namespace Go.Proofs.YtaggohobdjidjaaGreatDoor
open Go.Shelf Go.RowKit Go.Sort

abbrev Pt := Int × Int
def ptC (p : Pt) : List Value := [.int .i64 p.1, .int .i64 p.2]
theorem ptC_len (p : Pt) : (ptC p).length = 2 := rfl
theorem infoPt : (Tryz.prog.info? 24).map (fun i => (i.zero, i.size, i.bytes)) = some (some (.agg #[.int .i64 0, .int .i64 0]), 2, 16) := by kernel_rfl

/-- The call returns points and an error. -/
def PtsR (ps : List Pt) (er : Int) (w : World) (e : Ending) (w' : World) : Prop :=
  ∃ p n cap, e = .returned (.tuple #[.slice p n cap, .int .i64 er]) ∧ n = ps.length ∧ n ≤ cap ∧ Lies w' 2 ptC p ps ∧ (∀ a, p = some a → w.heap.size ≤ a.block) ∧ Below w.heap.size w w'
theorem PtsR.nil {w w' : World} {er : Int} (h : Below w.heap.size w w') : PtsR [] er w (.returned (.tuple #[.slice none 0 0, .int .i64 er])) w' :=
  ⟨none, 0, 0, rfl, rfl, Nat.le_refl _, ⟨.inl rfl, fun a e => (by cases e), fun g o e => (by cases e)⟩, fun a e => (by cases e), h⟩

set_option maxHeartbeats 8000000 in
set_option maxRecDepth 100000 in
theorem points_any (p : Option Addr) (n cap : Nat) (l : List Ob) (id : ByteArray) (w : World) (hL : Objs w p l) (hn : n = l.length) (hv : mapB l = true) (hz : SmallM l) (hn1 : n ≤ 1000000) :
    Calls Tryz.prog 69 #[.agg #[.slice p n cap], .string id] w (PtsR (pointsF l id).1 (pointsF l id).2 w) := by
  obtain ⟨i0, hi, hz0, hz1, hz2⟩ := info_parts infoPt
  have HL := Lib.hid hL
  have HN := Lib.hid hn
  have HV := Lib.hid hv
  have HZ := Lib.hid hz
  have HR := Lib.hid (mapB_rising hv)
  clear hL hn hv hz
  go_enter Tryz.func69, Tryz.ntmps69
  go_wp2_with fail
  refine calls_abs (fun W => Below w.heap.size w W ∧ Box W w.heap.size #[.slice p n cap] 35 ∧ W.cell? ⟨w.heap.size + 1, 0, none⟩ = some (.slice p n cap)) ⟨((Below.refl _ _).alloc (Nat.le_refl _) _).alloc (by simp) _, (Box.new _ _ _).alloc _, (Box.new' (by simp) #[.slice p n cap] 35).cell 0⟩ ?_
  rintro W ⟨hW, bM, hc⟩
  have hcall := validV_any (w.heap.size + 1) p n cap l W (HL.out.below hW HL.out.lt) HN.out HZ.out hn1 hc
  rw [HV.out] at hcall
  refine hcall.mono ?_
  clear hcall hc
  rintro e w1 ⟨rfl, hb⟩
  replace hW := hW.trans (hb.mono hW.size)
  replace bM := bM.below hb bM.lt
  clear hb
  have rM := bM.cell
  go_wp2_with fail
  clear rM
  refine (at_any p n cap l id w1 (HL.out.below hW HL.out.lt) HN.out HR.out hn1).mono ?_
  rintro e w2 ⟨i, rfl, hil, hfo, hb⟩
  replace hW := hW.trans (hb.mono hW.size)
  replace bM := bM.below hb bM.lt
  clear hb
  cases hf : findO l id with
  | none =>
    have HP : Hid (pointsF l id = ([], 11)) := Lib.hid (pointsF_none hf)
    clear hf hfo
    go_wp2
    go_ret2
    rw [HP.out]
    exact PtsR.nil hW
  | some x =>
    have hx := hfo x hf
    have HP : Hid (pointsF l id = ptsO l x) := Lib.hid (pointsF_some hf)
    have hi' : i < n := by have := (List.getElem?_eq_some_iff.1 hx).1; have := HN.out; omega
    obtain ⟨g, o, rfl⟩ := HL.out.addr (by have := HN.out; omega)
    obtain ⟨v, hat, r0, r1, r2, r3, r4, r5⟩ := (HL.out.below hW HL.out.lt).at hx
    obtain ⟨a1, a2, a3, a4, a5, -, a7, -, -, -⟩ := hat
    have HRL : Hid (Lies w2 1 strC v.pr x.refs) := Lib.hid a7
    have HAT := Lib.hid (And.intro a2 (And.intro a3 (And.intro a4 a5)))
    have hsr := (HZ.out x (List.mem_of_getElem? hx)).nr
    have HREF := Lib.hid (HZ.out x (List.mem_of_getElem? hx)).refs
    have HSR := Lib.hid (show v.nr ≤ 1000000 by rw [a5]; exact hsr)
    have hsr2 : v.nr ≤ 1000000 := HSR.out
    clear hf hfo hx a1 a2 a3 a4 a5 a7 hsr
    have rM := bM.cell
    by_cases k1 : v.kind = 1
    · have HP2 : Hid (pointsF l id = ([(v.x, v.y)], 0)) := Lib.hid (by rw [HP.out, ptsO_node (by rw [← HAT.out.1]; exact k1), HAT.out.2.1, HAT.out.2.2.1])
      have e1 : (v.kind == 1) = true := beq_iff_eq.2 k1
      clear HP k1
      go_wp2
      go_ret2
      rw [HP2.out]
      refine ⟨some ⟨w2.heap.size + 1, 0, none⟩, 1, 1, rfl, rfl, Nat.le_refl _, ?_, fun a e => (by cases e; show w.heap.size ≤ w2.heap.size + 1; have := hW.size; omega), (hW.alloc hW.size _).alloc (by have := hW.size; simp; omega) _⟩
      exact Lies.of_box (rest := []) ptC_len (Box.new' (by simp) #[.int .i64 v.x, .int .i64 v.y] 24)
    · have e1 : (v.kind == 1) = false := beq_eq_false_iff_ne.2 k1
      by_cases k23 : v.kind = 2 ∨ v.kind = 3
      · have HK : Hid (x.kind = 2 ∨ x.kind = 3) := Lib.hid (by rw [← HAT.out.1]; exact k23)
        have hloop : ∃ ek : Bool, (v.kind == 2) = ek ∧ (ek = false → (v.kind == 3) = true) := ⟨_, rfl, fun h => by
          rcases k23 with k | k
          · rw [k] at h; cases h
          · rw [k]; rfl⟩
        obtain ⟨ek, he2, he3⟩ := hloop
        have hsz : ∀ s ∈ x.refs, s.size ≤ 1000000 := fun s _ => HREF.out s ‹_›
        clear k1 k23 hsz
        have hw2 := hW.size
        have hwb := bM.lt
        have HW0 := Lib.hid hW
        have HM0 := Lib.hid bM
        cases ek
        all_goals
          first | (replace he3 := he3 rfl) | clear he3
          go_wp2
          clear r0 r1 r2 r3 r4 r5 rM
          go_loopw [9, 44] (fun vo vk wr => ∃ (k : Nat) (ov : Value), k ≤ v.nr ∧ vk = .int .i64 k ∧ ov = vo ∧ Below w2.heap.size w2 wr ∧
            Hid (∃ ps, refPts l (x.refs.take k) = some ps ∧ ps.length = k ∧ wr.ownsRow w2.heap.size 24 2 ov k (ps.flatMap ptC))) (fun _ vk _ => v.nr - (intOf vk).toNat)
          case atStart => exact ⟨0, _, by omega, rfl, rfl, (Below.refl _ _).alloc (Nat.le_refl _) _, Lib.hid ⟨[], by simp [refPts], rfl, World.ownsRow_nil _ _ _ _⟩⟩
          case round =>
            clear hW bM
            obtain ⟨k, ov, hk, rfl, rfl, hB2, HO⟩ := hrel
            have hW := HW0.out.trans (hB2.mono hw2)
            have bM := HM0.out.below hB2 hwb
            have hsB := hB2.size
            by_cases hlt : k < v.nr
            · obtain ⟨r, hr⟩ : ∃ r, x.refs[k]? = some r := ⟨_, List.getElem?_eq_getElem (by have := HAT.out.2.2.2; omega)⟩
              have hrl := (HRL.out.below hB2 HRL.out.lt)
              obtain ⟨g2, o2, hpr⟩ := hrl.addr (by have := HAT.out.2.2.2; omega)
              obtain ⟨pr, hpr2⟩ : ∃ pr, pr = v.pr := ⟨_, rfl⟩
              rw [← hpr2] at hpr
              rw [← hpr2] at hrl ⊢
              clear hpr2
              subst hpr
              have rr := hrl.st hr
              have rM := bM.cell
              have HRR := Lib.hid hr
              clear hrl hr
              go_wp2_with fail
              clear rr rM
              refine (at_any (some ⟨g, o, none⟩) n cap l r _ (HL.out.below hW HL.out.lt) HN.out HR.out hn1).mono ?_
              rintro e w3 ⟨i2, rfl, hil2, hfo2, hb⟩
              replace hW := hW.trans (hb.mono hW.size)
              replace hB2 := hB2.trans (hb.mono hB2.size)
              replace hsB := hB2.size
              replace bM := bM.below hb bM.lt
              replace HO := Lib.hid (show ∃ ps, refPts l (x.refs.take k) = some ps ∧ ps.length = k ∧ w3.ownsRow w2.heap.size 24 2 ov k (ps.flatMap ptC) by obtain ⟨ps, h1, h2, h3⟩ := HO.out; exact ⟨ps, h1, h2, owns_below h3 hb (Nat.le_refl _)⟩)
              have hs3 := hb.size
              clear hb
              have BAD : refPt l r = none → Hid (pointsF l id = ([], 14)) := fun hn => Lib.hid (by
                obtain ⟨ps, h1, -, -⟩ := HO.out
                rw [HP.out, ptsO_none HK.out]
                refine refPts_none l x.refs (k + 1) ?_
                rw [refPts_succ l HRR.out h1, hn]; rfl)
              have HBAD := Lib.hid BAD
              clear BAD
              cases hf2 : findO l r with
              | none =>
                have HP2 := HBAD.out (by unfold refPt; rw [hf2])
                clear hf2 hfo2 HBAD
                go_wp2
                go_ret2
                rw [HP2.out]
                exact PtsR.nil hW
              | some y =>
                have hy := hfo2 y hf2
                obtain ⟨v2, hat2, q0, q1, q2, q3, q4, q5⟩ := (HL.out.below hW HL.out.lt).at hy
                have hi2 : i2 < n := by have := (List.getElem?_eq_some_iff.1 hy).1; have := HN.out; omega
                have HAT2 := Lib.hid (And.intro hat2.kind (And.intro hat2.x hat2.y))
                have HF2 := Lib.hid hf2
                clear hf2 hfo2 hy hat2
                have rM := bM.cell
                by_cases ky : v2.kind = 1
                · have HPT : Hid (refPt l r = some (v2.x, v2.y)) := Lib.hid (by
                    unfold refPt
                    rw [HF2.out]
                    dsimp only
                    rw [if_pos (by rw [← HAT2.out.1]; exact ky), HAT2.out.2.1, HAT2.out.2.2])
                  have ey : (v2.kind != 1) = false := by rw [bne_eq_false_iff_eq]; exact ky
                  have ey2 : (v2.kind == 1) = true := by rw [beq_iff_eq]; exact ky
                  obtain ⟨ps, h1, h2, hown⟩ := HO.out
                  have HPS : Hid (refPts l (x.refs.take (k + 1)) = some (ps ++ [(v2.x, v2.y)])) := Lib.hid (by rw [refPts_succ l HRR.out h1, HPT.out]; rfl)
                  have HPL := Lib.hid h2
                  have hw3 := hW.size
                  clear h1 h2 HO ky HBAD
                  go_wp2_with (at_builtin; refine halted ?_)
                  refine Halted.on ?_
                  refine wpList_append_own _ rfl _ _ 104 rfl w2.heap.size 24 i0 (.agg #[.int .i64 0, .int .i64 0]) 2 16 Tryz.underlying104 hi hz0 hz1 hz2 rfl (by decide) _ k _ rfl (hown.alloc _) ⟨w3.heap.size, 0, none⟩ 1 1 (ptC (v2.x, v2.y)) rfl ?qa ?qb ?qc ?qd ?qe ?qf ?_
                  case qa => rfl
                  case qb => exact World.news_of_block (cs := (ptC (v2.x, v2.y)).toArray) (t := 24) (fr := (0, 0)) (heap_alloc_new w3 _)
                  case qc => simp [ptC, Value.oneCell']
                  case qd => unfold maxLen; omega
                  case qe => omega
                  case qf => simp; omega
                  intro v' w7 hown' hgrow _
                  have hb := below_append hown hgrow (by omega)
                  replace hB2 := hB2.trans hb
                  clear hW bM
                  rw [show ps.flatMap ptC ++ ptC (v2.x, v2.y) = (ps ++ [(v2.x, v2.y)]).flatMap ptC by simp] at hown'
                  have HO2 : Hid (∃ ps, refPts l (x.refs.take (k + 1)) = some ps ∧ ps.length = k + 1 ∧ w7.ownsRow w2.heap.size 24 2 v' (k + 1) (ps.flatMap ptC)) := Lib.hid ⟨_, HPS.out, by rw [List.length_append, HPL.out]; rfl, hown'⟩
                  clear hgrow hb hown q0 q1 q2 q3 q4 q5 rM hown'
                  go_wp2
                  go_roundw
                  case rel => exact ⟨k + 1, v', by omega, by go_num, rfl, hB2, HO2⟩
                  case measure => simp [intOf]; omega
                · have ey : (v2.kind != 1) = true := by rw [bne_iff_ne]; exact ky
                  have ey2 : (v2.kind == 1) = false := by rw [beq_eq_false_iff_ne]; exact ky
                  have HP2 := HBAD.out (by
                    unfold refPt
                    rw [HF2.out]
                    dsimp only
                    rw [if_neg (by rw [← HAT2.out.1]; exact ky)])
                  clear ky HBAD
                  go_wp2
                  go_ret2
                  rw [HP2.out]
                  exact PtsR.nil hW
            · have HE : Hid (k = v.nr) := Lib.hid (by omega)
              obtain ⟨ps, h1, h2, hown⟩ := HO.out
              have HP2 : Hid (pointsF l id = (ps, 0)) := Lib.hid (by
                rw [HP.out]
                rw [List.take_of_length_le (by have := HE.out; have := HAT.out.2.2.2; omega)] at h1
                exact ptsO_some HK.out h1)
              have HPL := Lib.hid h2
              have HOW := Lib.hid hown
              clear h1 h2 hown HO
              go_wp2
              go_ret2
              rw [HP2.out]
              obtain ⟨p2, cap2, rfl, c1, c2, c3, -⟩ := Lies.of_owns ptC_len HOW.out HPL.out
              exact ⟨p2, k, cap2, rfl, HPL.out.symm, c1, c2, fun a e => Nat.le_trans hw2 (c3 a e), hW⟩
      · have e2 : (v.kind == 2) = false := beq_eq_false_iff_ne.2 (fun h => k23 (.inl h))
        have e3 : (v.kind == 3) = false := beq_eq_false_iff_ne.2 (fun h => k23 (.inr h))
        have HP2 : Hid (pointsF l id = ([], 13)) := Lib.hid (by rw [HP.out, ptsO_other (by rw [← HAT.out.1]; exact k1) (by rw [← HAT.out.1]; exact k23)])
        clear HP k1 k23
        go_wp2
        go_ret2
        rw [HP2.out]
        exact PtsR.nil (hW.alloc hW.size _)
end Go.Proofs.YtaggohobdjidjaaGreatDoor

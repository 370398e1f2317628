import Derived.Test.YtaggohobdjidjaaGreatDoorJI
import Derived.Test.YtaggohobdjidjaaGreatDoorJH
import Derived.Test.YtaggohobdjidjaaGreatDoorJD
import Derived.Test.YtaggohobdjidjaaGreatDoorJJ
import Derived.Test.YtaggohobdjidjaaGreatDoorJG
import Derived.Test.YtaggohobdjidjaaGreatDoorJ0
import Derived.Test.YtaggohobdjidjaaGreatDoorJF
import Derived.Test.YtaggohobdjidjaaGreatDoorJP

/- The labels of a map: plain. -/
namespace Go.Proofs.YtaggohobdjidjaaGreatDoor
open Go.RowKit Go.Sort Go.Shelf

/-- The label of an object, if it has one. -/
def labF (l : List Ob) (z : Int) (ls : List ByteArray) (o : Ob) : Option Lab :=
  if (bestF o.tags ls).2.toList = [] ∨ z < lvlF o.tags then none
  else (anchF l o).map fun p => ⟨o.id, (pixelF z 0 0 p.1 p.2).x, (pixelF z 0 0 p.1 p.2).y, 6 * (bestF o.tags ls).2.size, 12, 10 * lvlF o.tags + o.kind⟩
def labsG (l : List Ob) (z : Int) (ls : List ByteArray) (k : List Ob) : List Lab := k.filterMap (labF l z ls)
def labsF (l : List Ob) (z : Int) (ls : List ByteArray) : List Lab := if mapB l = true ∧ 0 ≤ z ∧ z ≤ 17 then isort ltL (labsG l z ls l) else []
theorem labsG_succ {l : List Ob} {z : Int} {ls : List ByteArray} {k : List Ob} {i : Nat} {o : Ob} (h : k[i]? = some o) : labsG l z ls (k.take (i + 1)) = labsG l z ls (k.take i) ++ (labF l z ls o).toList := by
  obtain ⟨hi, rfl⟩ := List.getElem?_eq_some_iff.1 h
  unfold labsG
  rw [List.take_succ_eq_append_getElem hi, List.filterMap_append]
  cases hh : labF l z ls k[i] <;> simp [hh]
theorem labsG_len (l : List Ob) (z : Int) (ls : List ByteArray) (k : List Ob) : (labsG l z ls k).length ≤ k.length := List.length_filterMap_le _ _

theorem best_mem (ls : List ByteArray) (l : List (ByteArray × Tg)) : (bestG ls l).1 = (⟨#[]⟩, ⟨#[]⟩) ∨ ∃ x ∈ l, x.2 = (bestG ls l).1 := by
  unfold bestG
  suffices h : ∀ (b : Tg × Nat), (l.foldl (bestStep ls) b).1 = b.1 ∨ ∃ x ∈ l, x.2 = (l.foldl (bestStep ls) b).1 from h _
  intro b
  induction l generalizing b with
  | nil => exact .inl rfl
  | cons x l ih =>
    rcases ih (bestStep ls b x) with h | ⟨y, hy, h⟩
    · rw [List.foldl_cons, h]
      unfold bestStep
      split
      · exact .inr ⟨x, by simp, rfl⟩
      · exact .inl rfl
    · exact .inr ⟨y, by simp [hy], h⟩
theorem names_mem {l : List Tg} {x : ByteArray × Tg} (h : x ∈ namesF l) : x.2 ∈ l := by
  unfold namesF at h
  obtain ⟨t, ht, he⟩ := List.mem_filterMap.1 h
  unfold nameF at he
  split at he
  · cases he; exact ht
  · cases he
theorem best_small (ts : List Tg) (ls : List ByteArray) : (bestF ts ls).2.size ≤ 200 := by
  unfold bestF
  split
  · rename_i h
    rcases best_mem ls (namesF ts) with h' | ⟨x, hx, h'⟩
    · rw [h']; exact Nat.zero_le _
    · rw [← h']
      unfold tagsB at h
      rw [Bool.and_eq_true] at h
      have := chain_all okT Prod.fst ts _ h.1 x.2 (names_mem hx)
      unfold okT at this
      simp only [Bool.and_eq_true] at this
      exact of_decide_eq_true this.2.2
  · exact Nat.zero_le _
theorem lvlF_bd (l : List Tg) : 0 ≤ lvlF l ∧ lvlF l ≤ 17 := by
  unfold lvlF
  have := lvlN_le (getF l levelKey).data.toList
  omega
theorem anch_bd {l : List Ob} (hv : mapB l = true) {o : Ob} {p : Int × Int} (h : anchF l o = some p) : (0 ≤ p.1 ∧ p.1 ≤ 1048576) ∧ 0 ≤ p.2 ∧ p.2 ≤ 1048576 := by
  unfold anchF at h
  have hp := points_on hv o.id
  obtain ⟨⟨ps, er⟩, hq⟩ : ∃ q, pointsF l o.id = q := ⟨_, rfl⟩
  rw [hq] at h hp
  dsimp only at h hp
  split at h
  · rename_i hc
    cases h
    unfold midF
    have hl : 0 < ps.length := List.length_pos_iff.2 hc.2
    split
    · have hs := sum_bd ps hp.1
      dsimp only
      have h0 : (0 : Int) < ps.length := by omega
      exact ⟨⟨Int.ediv_nonneg hs.1.1 (by omega), Int.ediv_le_of_le_mul h0 (by rw [Int.mul_comm]; exact hs.1.2)⟩, Int.ediv_nonneg hs.2.1 (by omega), Int.ediv_le_of_le_mul h0 (by rw [Int.mul_comm]; exact hs.2.2)⟩
    · rw [getElem!_pos ps (ps.length / 2) (by omega)]
      have := hp.1 _ (List.getElem_mem (show ps.length / 2 < ps.length by omega))
      unfold OnP at this
      omega
  · cases h
end Go.Proofs.YtaggohobdjidjaaGreatDoor

/- A region that draws its order, as in wip/grid's Tail, but its first operation is a move that nothing waits for until the end: it may come up late. -/
namespace Go.Proofs.YtaggohobdjidjaaGreatDoor
open Go Go.Sort Go.RowKit

section
variable {P : Program} {ops : Array Oper} {md : Region.Mode} {C : World → Prop}

def sinkM (md : Region.Mode) (ops : Array Oper) (n : Nat) : Bool :=
  (List.range n).all fun i => decide (i = 0) || (List.range (n + 1)).any fun j => decide (i < j) && Region.waitsFor md ops j i

theorem tailM_waits {n : Nat} {listed : Array Bool} (hs : sinkM md ops n = true) (hc : Region.chainB md ops n = true) (hn : n < ops.size) (inv : HeadInv md ops n listed) :
    ∀ (d i : Nat), n - i = d → 0 < i → i < n → listed.getD i true = false → ∀ t, n ≤ t → t ∉ Region.ready md ops listed := by
  intro d
  induction d using Nat.strongRecOn with
  | _ d ih =>
    intro i hd h0 hi hun t ht hr
    obtain ⟨_, ot, hot, hall⟩ := mem_ready.1 hr
    have htlt : t < ops.size := (Array.getElem?_eq_some_iff.1 hot).1
    by_cases htn : t = n
    · subst htn
      have h1 := List.all_eq_true.1 hs i (List.mem_range.2 hi)
      have h1' : ((List.range (t + 1)).any fun j => decide (i < j) && Region.waitsFor md ops j i) = true := by
        rcases Bool.or_eq_true _ _ ▸ h1 with h | h
        · have := of_decide_eq_true h; omega
        · exact h
      obtain ⟨j, hj, hj2⟩ := List.any_eq_true.1 h1'
      simp only [Bool.and_eq_true, decide_eq_true_eq] at hj2
      obtain ⟨oj, hoj, e, he, hb, hon⟩ := Region.waitsFor_spec hj2.2
      have hjle : j ≤ t := by have := List.mem_range.1 hj; omega
      by_cases hjt : j = t
      · subst hjt
        have : oj = ot := Option.some.inj (hoj.symm.trans hot)
        subst this
        have h2 := hall e he hb
        rw [hon, getD_both hun] at h2
        cases h2
      · cases hl : listed.getD j false with
        | true =>
          have h2 := inv.closed j oj hoj hl e he hb
          rw [hon, getD_both hun] at h2
          cases h2
        | false =>
          have hjs : j < listed.size := by rw [inv.size]; omega
          exact ih (t - j) (by omega) j rfl (by omega) (by omega) (getD_in hjs hl) t (Nat.le_refl _) hr
    · have h1 := List.all_eq_true.1 hc t (List.mem_range.2 htlt)
      simp only [Bool.or_eq_true, decide_eq_true_eq] at h1
      rcases h1 with h1 | h1
      · omega
      · obtain ⟨o', ho', e, he, hb, hon⟩ := Region.waitsFor_spec h1
        have : o' = ot := Option.some.inj (ho'.symm.trans hot)
        subst this
        have h2 := hall e he hb
        rw [hon, getD_both (inv.tail (t - 1) (by omega) (by omega))] at h2
        cases h2

theorem headM_first {n i : Nat} {oi : Oper} {v : Value} {L : Array Bool → Act → Prop} (hi : ops[i]? = some oi) (hsel : ∀ (j : Nat) (o : Oper) cs b, ops[j]? = some o → o.op ≠ .select cs b)
    (hs : sinkM md ops n = true) (hc : Region.chainB md ops n = true) (hn : n < ops.size) (hi0 : 0 < i) (hin : i < n) (hdone : ∀ listed a, L listed a → ∀ j ∈ Region.ready md ops listed, n ≤ j) :
    ∀ (f : Nat) (listed : Array Bool) (a : Act), HeadInv md ops n listed →
      (∀ j oj, ops[j]? = some oj → j ≠ i → listed.getD j true = false → (∀ e ∈ oj.after, Region.binds md e = true → e.on ≠ i) → oi.apart ops oj = true) →
      i ∈ Region.ready md ops listed → YieldsIn P ops C oi v a → headQ P md ops C n L f (listed.setIfInBounds i true) (a.put oi.dst v) → headQ P md ops C n L (f + 1) listed a := by
  intro f
  induction f with
  | zero =>
    intro listed a inv _ hr hy H
    refine ⟨fun h => (by rw [h] at hr; cases hr), fun j hj => ?_⟩
    have hjn : j < n := Nat.lt_of_not_le fun h => tailM_waits hs hc hn inv _ i rfl hi0 hin (mem_ready.1 hr).1 j h hj
    refine ⟨hjn, ?_⟩
    by_cases e : j = i
    · subst e
      exact hy.qOp hi H
    · have := hdone _ _ H j (ready_mono hj e)
      omega
  | succ f ih =>
    intro listed a inv free hr hy H
    have hun := (mem_ready.1 hr).1
    refine ⟨fun h => (by rw [h] at hr; cases hr), fun j hj => ?_⟩
    have hjn : j < n := Nat.lt_of_not_le fun h => tailM_waits hs hc hn inv _ i rfl hi0 hin hun j h hj
    refine ⟨hjn, ?_⟩
    by_cases e : j = i
    · subst e
      exact hy.qOp hi H
    · obtain ⟨hjun, oj, hoj, hall⟩ := mem_ready.1 hj
      have hnot : ∀ e ∈ oj.after, Region.binds md e = true → e.on ≠ i := fun e' he hb heq => by
        have h1 := hall e' he hb
        rw [heq, getD_both hun] at h1
        cases h1
      have h2 := qOp_put hoj (free j oj hoj e hjun hnot) (fun cs b => hsel i oi cs b hi) (fun cs b => hsel j oj cs b hoj) hy ((H.2 j (ready_mono hj e)).2)
      refine qOp_mono (fun a' h3 => ih (listed.setIfInBounds j true) a' (inv.set hj hjn) ?_ (ready_mono hr (Ne.symm e)) h3.1 ?_) h2
      · intro k ok hk hki hunk hno
        refine free k ok hk hki ?_ hno
        by_cases hjk : j = k
        · subst hjk; exact hjun
        · rw [getD_set_ne true hjk] at hunk; exact hunk
      · rw [Array.setIfInBounds_comm _ _ e]
        exact h3.2

theorem headM_lex {n g : Nat} {Lq : Act → Prop} (hsel : Region.noSelect ops = true) (hs : sinkM md ops n = true) (hc : Region.chainB md ops n = true) (hn : n < ops.size) :
    ∀ (l : List Oper) (k : Nat) (listed : Array Bool) (a : Act), 0 < k → (∀ j, j < l.length → l[j]? = ops[k + j]?) → k + l.length = n → HeadInv md ops n listed →
    Region.lexHead md ops g l.length k listed = true → wpQuiet P ops C Lq l a →
    headQ P md ops C n (fun listed' a' => Region.seqB md ops g n listed' = true ∧ Lq a') l.length listed a
  | [], k, listed, a, _, _, hk, _, hB, h => by
    have e : k = n := by simpa using hk
    subst e
    exact ⟨by simpa [Region.lexHead] using hB, h⟩
  | o :: l, k, listed, a, hk0, hl, hk, inv, hB, h => by
    have h0 : ops[k]? = some o := by simpa using (hl 0 (by simp)).symm
    simp only [List.length_cons, Region.lexHead, Bool.and_eq_true] at hB
    have hkn : k < n := by simp only [List.length_cons] at hk; omega
    have hr : k ∈ Region.ready md ops listed := by simpa using hB.1.1
    have hq : qOp P ops C k (wpQuiet P ops C Lq l) a := by unfold qOp; simp only [h0]; exact h
    obtain ⟨v, hy, hK⟩ := yieldsIn_of_qOp h0 hq
    refine headM_first h0 (Region.noSelect_spec hsel) hs hc hn hk0 hkn (fun listed' a' hL => seqB_ready hL.1) l.length listed a inv (Region.free_spec h0 hB.1.2) hr hy ?_
    exact headM_lex hsel hs hc hn l (k + 1) _ _ (by omega) (fun j hj => by
      have := hl (j + 1) (by simp; omega)
      simpa [Nat.add_assoc, Nat.add_comm 1 j] using this) (by simp only [List.length_cons] at hk; omega) (inv.set hr hkn) hB.2 hK

def lexTailM (ops : Array Oper) (n : Nat) : Bool :=
  Region.noSelect ops && decide (n < ops.size) && sinkM .any ops n && Region.chainB .any ops n && Region.lexHead .any ops (ops.size - n) (n - 1) 1 ((Array.replicate ops.size false).setIfInBounds 0 true) &&
    Region.free .any ops (Array.replicate ops.size false) 0 && (Region.ready .any ops (Array.replicate ops.size false)).contains 0

/-- The region's law: the move; n - 1 operations more of the head, in any world of the class; then the tail. -/
theorem wp_region_headM {id : Nat} {Q : Exit → Act → World → Prop} {a : Act} {w : World} {o0 : Oper} {l : List Oper} {v : Value} (n : Nat) (hm : P.follows .mixedOrders = true) (hB : lexTailM (o0 :: l).toArray n = true)
    (hQ : ∀ c a w, Q (.panic c) (a.put o0.dst v) w → Q (.panic c) a w) (hy : Yields P (o0 :: l).toArray o0 v a)
    (hC : C { w with drawn := w.drawn + 1 }) (h : wpQuiet P (o0 :: l).toArray C (fun a' => ∀ w', C w' → wpList P (o0 :: l).toArray Q (l.drop (n - 1)) a' w') (l.take (n - 1)) (a.put o0.dst v)) (h1 : 1 ≤ n) : (Code.region id (o0 :: l).toArray true).wp P Q a w := by
  simp only [lexTailM, Bool.and_eq_true, decide_eq_true_eq] at hB
  obtain ⟨⟨⟨⟨⟨⟨hsel, hn⟩, hs⟩, hc⟩, hlex⟩, hfree⟩, hready⟩ := hB
  have hn' : n < l.length + 1 := by simpa using hn
  have htl : (l.take (n - 1)).length = n - 1 := by simp; omega
  have hdl : (l.drop (n - 1)).length = (o0 :: l).toArray.size - n := by simp; omega
  have inv0 : HeadInv .any (o0 :: l).toArray n (Array.replicate (o0 :: l).toArray.size false) :=
    ⟨by simp, fun j oj _ hl => (by rw [getD_replicate_false] at hl; cases hl), fun t _ ht => getD_in (by simpa using ht) (getD_replicate_false _ _)⟩
  have inv1 := inv0.set (by simpa using hready) (show 0 < n by omega)
  have H := headM_lex (md := .any) (C := C) (g := (o0 :: l).toArray.size - n) hsel hs hc hn (l.take (n - 1)) 1 _ (a.put o0.dst v) (by omega) (fun j hj => by
    have hj' : j < n - 1 := by rw [htl] at hj; exact hj
    simp [hj', Nat.add_comm 1 j]) (by rw [htl]; omega) inv1 (by rw [htl]; exact hlex) h
  refine wp_region_any hm ?_
  have := any_of_headQ (Q' := Q) (g := (o0 :: l).toArray.size - n) (fun listed a' w' hw' hL => by
    have h1 := wpAny_of_seq (P := P) (md := .any) (ops := (o0 :: l).toArray) (Q' := Q) (l.drop (n - 1)) n listed a' w' (fun j => by
      simp
      rw [show n + j = (n - 1 + j) + 1 by omega]
      simp) (by rw [hdl]; exact hL.1) (hL.2 w' hw')
    rw [hdl] at h1
    exact h1) _ _ _ _ hC H
  rw [htl] at this
  have e : n - 1 + ((o0 :: l).toArray.size - n) = l.length := by simp; omega
  rw [e] at this
  have e2 : (o0 :: l).toArray.size = l.length + 1 := by simp
  rw [e2] at this ⊢
  exact wpAny_take (i := 0) (oi := o0) (by simp) hsel (by rw [e2] at hfree; exact hfree) (by rw [e2] at hready; exact hready) hQ hy this
end

theorem wp_region_below_tailM {P : Program} {id : Nat} {Q : Exit → Act → World → Prop} {a : Act} {w : World} {o0 : Oper} {l : List Oper} {x : Operand} (v : Value) (n : Nat) (hm : P.follows .mixedOrders = true) (hB : lexTailM (o0 :: l).toArray n = true) (h1 : 1 ≤ n)
    (hg : o0.guard = none) (ho : o0.op = .move x) (hv : a.eval x = v) (hQ : ∀ c a w, Q (.panic c) (a.put o0.dst v) w → Q (.panic c) a w)
    (h : wpQuiet P (o0 :: l).toArray (fun w' => ∃ p : Regrown, w' = grow (redrawn w p.d) p.os) (fun a' => ∀ w', Below w.heap.size w w' → wpList P (o0 :: l).toArray Q (l.drop (n - 1)) a' w') (l.take (n - 1)) (a.put o0.dst v)) : (Code.region id (o0 :: l).toArray true).wp P Q a w :=
  wp_region_headM (C := fun w' => ∃ p : Regrown, w' = grow (redrawn w p.d) p.os) n hm hB hQ (.inl ⟨by simp [Region.wanted, hg], fun w => by subst hv; simp [execOp, ho, go_sem]⟩) ⟨⟨w.drawn + 1, #[]⟩, by rw [grow_empty]; rfl⟩
    (by
      have mono : ∀ (l' : List Oper) (a' : Act), wpQuiet P (o0 :: l).toArray (fun w' => ∃ p : Regrown, w' = grow (redrawn w p.d) p.os) (fun a' => ∀ w', Below w.heap.size w w' → wpList P (o0 :: l).toArray Q (l.drop (n - 1)) a' w') l' a' →
          wpQuiet P (o0 :: l).toArray (fun w' => ∃ p : Regrown, w' = grow (redrawn w p.d) p.os) (fun a' => ∀ w', (∃ p : Regrown, w' = grow (redrawn w p.d) p.os) → wpList P (o0 :: l).toArray Q (l.drop (n - 1)) a' w') l' a' := by
        intro l'
        induction l' with
        | nil => exact fun a' h w' ⟨p, hp⟩ => h w' (by rw [hp]; exact below_regrown _ _ _)
        | cons o r ih =>
          intro a' h
          unfold wpQuiet at h ⊢
          split
          · rename_i hw
            rw [if_pos hw] at h
            exact Oper.quiet_mono ih h
          · rename_i hw
            rw [if_neg hw] at h
            exact ih _ h
      exact mono _ _ h) h1
end Go.Proofs.YtaggohobdjidjaaGreatDoor

/- label.Labels. -/
namespace Go.Proofs.YtaggohobdjidjaaGreatDoor
open Go.RowKit Go.Sort Go.Shelf

theorem RetL.nil {w w' : World} {k : Nat} {α : Type} {enc : α → List Value} (h : Below w.heap.size w w') : RetL w k enc [] (.returned (.slice none 0 0)) w' :=
  ⟨none, 0, 0, rfl, rfl, Nat.le_refl _, ⟨.inl rfl, fun a e => (by cases e), fun g o e => (by cases e)⟩, fun a e => (by cases e), fun _ => ⟨rfl, rfl⟩, h⟩

theorem okO_kindB {o : Ob} (h : okO o = true) : 1 ≤ o.kind ∧ o.kind ≤ 5 := by
  unfold okO at h
  simp only [Bool.and_eq_true] at h
  exact of_decide_eq_true h.1.1.1.1.1.1

set_option maxHeartbeats 8000000 in
set_option maxRecDepth 100000 in
theorem labels_any (p : Option Addr) (n cap : Nat) (l : List Ob) (z : Int) (lp : Option Addr) (ln lc : Nat) (ls : List ByteArray) (w : World) (hL : Objs w p l) (hn : n = l.length) (hz : SmallM l) (hn1 : n ≤ 40) (hS : Lies w 1 strC lp ls) (hln : ln = ls.length) (hl1 : ln ≤ 1000) (hG : Gw w) :
    Calls Tryz.prog 18 #[.agg #[.slice p n cap], .int .i64 z, .slice lp ln lc] w (RetL w 6 labC (labsF l z ls)) := by
  obtain ⟨i0, hi, hz0, hz1, hz2⟩ := info_parts infoLab
  have HL := Lib.hid hL
  have HN := Lib.hid hn
  have HZ := Lib.hid hz
  have HS := Lib.hid hS
  have HLN := Lib.hid hln
  have HG := Lib.hid hG
  have hval := fun W (hW : Below w.heap.size w W) => mapValid_any p n cap l W (hL.below hW (Nat.le_refl _)) hn hz (by omega)
  have HVAL := Lib.hid hval
  clear hL hn hz hS hln hG hval
  go_enter Tryz.func18, Tryz.ntmps18
  go_wp2_with fail
  refine calls_abs (fun W => Below w.heap.size w W ∧ Box W w.heap.size #[.slice p n cap] 35) ⟨(Below.refl _ _).alloc (Nat.le_refl _) _, Box.new _ _ _⟩ ?_
  rintro W ⟨hW, b0⟩
  have hWs : w.heap.size + 1 ≤ W.heap.size := b0.lt
  refine (HVAL.out W hW).mono ?_
  rintro e w1 ⟨rfl, hb_⟩
  replace hW := hW.trans (hb_.mono hW.size)
  replace b0 := b0.below hb_ b0.lt
  clear hb_
  have r0 := b0.cell
  have k0 := b0.lt
  cases hv : mapB l with
  | false =>
    have HR : Hid (labsF l z ls = []) := Lib.hid (by unfold labsF; rw [if_neg (by rw [hv]; simp)])
    clear hv HVAL
    go_wp2
    go_ret
    rw [HR.out]
    exact RetL.nil hW
  | true =>
    by_cases hz1' : z < 0
    · have HR : Hid (labsF l z ls = []) := Lib.hid (by unfold labsF; rw [if_neg (by omega)])
      clear hv HVAL
      go_wp2
      go_ret
      rw [HR.out]
      exact RetL.nil hW
    · by_cases hz2' : 17 < z
      · have HR : Hid (labsF l z ls = []) := Lib.hid (by unfold labsF; rw [if_neg (by omega)])
        clear hv HVAL
        go_wp2
        go_ret
        rw [HR.out]
        exact RetL.nil hW
      · have HR : Hid (labsF l z ls = isort ltL (labsG l z ls l)) := Lib.hid (by unfold labsF; rw [if_pos ⟨hv, by omega, by omega⟩])
        have HV := Lib.hid hv
        have d1 : decide (z < 0) = false := decide_eq_false hz1'
        have d2 : decide (17 < z) = false := decide_eq_false hz2'
        clear hv HVAL
        go_wp2
        clear r0 d1 d2
        have hs1 := hW.size
        go_loopw [7, 30] (fun vo vi wr => ∃ (i : Nat) (ov : Value), i ≤ n ∧ vi = .int .i64 i ∧ ov = vo ∧ Below w.heap.size w wr ∧ Box wr w.heap.size #[.slice p n cap] 35 ∧ w1.heap.size ≤ wr.heap.size ∧
          Hid (wr.ownsRow w1.heap.size 47 6 ov (labsG l z ls (l.take i)).length ((labsG l z ls (l.take i)).flatMap labC))) (fun _ vi _ => n - (intOf vi).toNat)
        case atStart => exact ⟨0, _, by omega, rfl, rfl, hW, b0, Nat.le_refl _, Lib.hid (World.ownsRow_nil _ _ _ _)⟩
        case round =>
          clear hW b0
          obtain ⟨i, ov, hi2, rfl, rfl, hW, b0, hwr, HO⟩ := hrel
          have r0 := b0.cell
          by_cases hlt : i < n
          · obtain ⟨x, hx⟩ : ∃ x, l[i]? = some x := ⟨_, List.getElem?_eq_getElem (by have := HN.out; omega)⟩
            obtain ⟨g, o, rfl⟩ := HL.out.addr (by have := HN.out; omega)
            have hLr := HL.out.below hW (Nat.le_refl _)
            obtain ⟨v, hat, c0, c1, c2, c3, c4, c5⟩ := hLr.at hx
            have HAT := Lib.hid hat
            have hsx := HZ.out x (List.mem_of_getElem? hx)
            have HX := Lib.hid (labsG_succ (l := l) (z := z) (ls := ls) hx)
            have HSX := Lib.hid hsx
            have hcb := fun W2 (h2 : Below wr.heap.size wr W2) => best_any v.pt v.nt v.ct x.tags lp ln lc ls W2 (hat.tags.below h2 (Nat.le_refl _)) hat.nt hsx.tags (by rw [hat.nt]; exact hsx.nt) (HS.out.below (hW.trans (h2.mono hW.size)) (Nat.le_refl _)) HLN.out hl1
            have HCB := Lib.hid hcb
            have HXM := Lib.hid (List.mem_of_getElem? hx)
            clear hat hsx hx hcb hLr
            obtain ⟨⟨bk, bv⟩, hbf⟩ : ∃ q, bestF x.tags ls = q := ⟨_, rfl⟩
            have hbv : bv.size ≤ 200 := by have := best_small x.tags ls; rw [hbf] at this; exact this
            have HLF : Hid (labF l z ls x = if bv.toList = [] ∨ z < lvlF x.tags then none
              else (anchF l x).map fun p => ⟨x.id, (pixelF z 0 0 p.1 p.2).x, (pixelF z 0 0 p.1 p.2).y, 6 * bv.size, 12, 10 * lvlF x.tags + x.kind⟩) := Lib.hid (by unfold labF; rw [hbf])
            rw [hbf] at HCB
            dsimp only at HCB
            clear hbf
            have hvs := (HAT.out).kind
            have SKIP : labF l z ls x = none → Hid (labsG l z ls (l.take (i + 1)) = labsG l z ls (l.take i)) := fun h => Lib.hid (by rw [HX.out, h]; simp)
            have HSKIP := Lib.hid SKIP
            have hlv := fun W2 (h2 : Below wr.heap.size wr W2) => level_any v x W2 (HAT.out.below h2 (Nat.le_refl _)) HSX.out (HG.out.below (hW.trans (h2.mono hW.size)) HG.out.size)
            have han := fun W2 (h2 : Below wr.heap.size wr W2) => anchor_any (some ⟨g, o, none⟩) n cap l v x W2 (HL.out.below (hW.trans (h2.mono hW.size)) (Nat.le_refl _)) HN.out HV.out HZ.out (by omega) HAT.out.id HAT.out.kind
            unfold ovV at hlv han
            have HLV := Lib.hid hlv
            have HAN := Lib.hid han
            clear SKIP hlv han hvs
            obtain ⟨lv, hlvl⟩ : ∃ q, lvlF x.tags = q := ⟨_, rfl⟩
            have hlb := lvlF_bd x.tags
            rw [hlvl] at HLF HLV hlb
            clear hlvl
            go_wp2_with fail
            refine (HCB.out _ ((Below.refl _ _).alloc (Nat.le_refl _) _)).mono ?_
            rintro e w2 ⟨rfl, hb⟩
            have hB2 : Below wr.heap.size wr w2 := ((Below.refl _ _).alloc (Nat.le_refl _) _).trans (hb.mono (by simp))
            have bO : Box w2 wr.heap.size #[.string v.id, .int .i64 v.kind, .int .i64 v.x, .int .i64 v.y, .slice v.pr v.nr v.cr, .slice v.pt v.nt v.ct] 59 := (Box.new _ _ _).below hb (by simp)
            clear hb c0 c1 c2 c3 c4 c5 HCB
            have rO := bO.cell
            have kO := bO.lt
            by_cases hbe : bv.toList = []
            · have HK := HSKIP.out (by rw [HLF.out, if_pos (.inl hbe)])
              have e1 : (bv.toList == []) = true := by rw [hbe]; rfl
              have HO2 := Lib.hid (owns_below HO.out hB2 (Nat.le_refl _))
              have hsz2 := hB2.size
              replace b0 := b0.below hB2 b0.lt
              replace hW := hW.trans (hB2.mono hW.size)
              clear hbe HLF HO r0 rO HSKIP
              go_wp2
              go_roundw
              case rel => exact ⟨i + 1, ov, by omega, by go_num, rfl, hW, b0, Nat.le_trans hwr hsz2, by rw [HK.out]; exact HO2⟩
              case measure => simp [intOf]; omega
            · have e1 : (bv.toList == []) = false := beq_eq_false_iff_ne.2 hbe
              go_wp2_with fail
              refine (HLV.out _ hB2).mono ?_
              rintro e w3 ⟨rfl, hb⟩
              replace bO := bO.below hb bO.lt
              replace hB2 := hB2.trans (hb.mono hB2.size)
              clear hb r0 rO
              have rO := bO.cell
              have kO := bO.lt
              by_cases hzl : z < lv
              · have HK := HSKIP.out (by rw [HLF.out, if_pos (.inr hzl)])
                have e2 : decide (z < lv) = true := decide_eq_true hzl
                have HO2 := Lib.hid (owns_below HO.out hB2 (Nat.le_refl _))
                have hsz2 := hB2.size
                replace b0 := b0.below hB2 b0.lt
                replace hW := hW.trans (hB2.mono hW.size)
                clear hbe hzl HLF HO rO HSKIP
                go_wp2
                go_roundw
                case rel => exact ⟨i + 1, ov, by omega, by go_num, rfl, hW, b0, Nat.le_trans hwr hsz2, by rw [HK.out]; exact HO2⟩
                case measure => simp [intOf]; omega
              · have e2 : decide (z < lv) = false := decide_eq_false hzl
                have HLF2 : Hid (labF l z ls x = (anchF l x).map fun p => ⟨x.id, (pixelF z 0 0 p.1 p.2).x, (pixelF z 0 0 p.1 p.2).y, 6 * bv.size, 12, 10 * lv + x.kind⟩) := Lib.hid (by rw [HLF.out, if_neg (fun h => h.elim hbe hzl)])
                have b1 := b0.below hB2 b0.lt
                have r1 := b1.cell
                have han2 := HAN.out _ hB2
                have HAV : Hid (∃ q, anchF l x = q) := Lib.hid ⟨_, rfl⟩
                clear hbe hzl HLF b0 HAN
                cases hal : anchF l x with
                | none =>
                  have HK := HSKIP.out (by rw [HLF2.out, hal]; rfl)
                  rw [hal] at han2
                  unfold anchV at han2
                  dsimp only at han2
                  have HA2 := Lib.hid han2
                  clear hal han2 HSKIP
                  go_wp2_with fail
                  refine HA2.out.mono ?_
                  rintro e w4 ⟨rfl, hb⟩
                  replace hB2 := hB2.trans (hb.mono hB2.size)
                  replace b1 := b1.below hb b1.lt
                  have HO2 := Lib.hid (owns_below HO.out hB2 (Nat.le_refl _))
                  have hsz2 := hB2.size
                  replace hW := hW.trans (hB2.mono hW.size)
                  clear rO r1 HO HA2 hb
                  go_wp2
                  go_roundw
                  case rel => exact ⟨i + 1, ov, by omega, by go_num, rfl, hW.alloc hW.size _, b1.alloc _, Nat.le_trans hwr (Nat.le_trans hsz2 (by simp)), by rw [HK.out]; exact Lib.hid (HO2.out.alloc _)⟩
                  case measure => simp [intOf]; omega
                | some q =>
                  obtain ⟨px, py⟩ := q
                  rw [hal] at han2
                  unfold anchV at han2
                  dsimp only at han2
                  have HA2 := Lib.hid han2
                  obtain ⟨⟨ax, ay, ae⟩, hpx⟩ : ∃ r, pixelF z 0 0 px py = r := ⟨_, rfl⟩
                  have HLF3 : Hid (labF l z ls x = some ⟨x.id, ax, ay, 6 * bv.size, 12, 10 * lv + x.kind⟩) := Lib.hid (by rw [HLF2.out, hal]; show some _ = some _; dsimp only; rw [hpx])
                  have hpix := fun W2 => Gr.pixel_any z 0 0 px py W2
                  rw [hpx] at hpix
                  unfold PE.v at hpix
                  dsimp only at hpix
                  have HPX := Lib.hid hpix
                  clear hal han2 HSKIP hpx hpix HLF2
                  go_wp2_with fail
                  refine HA2.out.mono ?_
                  rintro e w4 ⟨rfl, hb⟩
                  replace hB2 := hB2.trans (hb.mono hB2.size)
                  replace b1 := b1.below hb b1.lt
                  replace bO := bO.below hb bO.lt
                  clear rO r1 HA2 hb
                  go_wp2_with fail
                  refine (HPX.out _).mono ?_
                  rintro e w5 ⟨rfl, hb⟩
                  have hs4 := hB2.size
                  replace hB2 := (hB2.alloc hB2.size _).trans (hb.mono (by simp; omega))
                  replace b1 := (b1.alloc _).below hb (b1.alloc _).lt
                  replace bO := (bO.alloc _).below hb (bO.alloc _).lt
                  clear hb HPX hs4
                  go_wp2_with fail
                  have hs5 := hB2.size
                  have hbo := bO.lt
                  refine wp_abs (fun W6 => Below wr.heap.size wr W6 ∧ Box W6 w.heap.size #[.slice (some ⟨g, o, none⟩) n cap] 35 ∧ Box W6 wr.heap.size #[.string v.id, .int .i64 v.kind, .int .i64 v.x, .int .i64 v.y, .slice v.pr v.nr v.cr, .slice v.pt v.nt v.ct] 59 ∧
                    Box W6 w5.heap.size #[.int .i64 ax, .int .i64 ay] 24 ∧ wr.heap.size < w5.heap.size) ⟨hB2.alloc hs5 _, b1.alloc _, bO.alloc _, Box.new _ _ _, hbo⟩ ?_
                  clear hB2 b1 bO hs5 hbo
                  rintro W6 ⟨hB2, b1, bO, bP, h56⟩
                  obtain ⟨k5, hk5⟩ : ∃ k, w5.heap.size = k := ⟨_, rfl⟩
                  rw [hk5] at bP h56 ⊢
                  have q0 := cell_regrown (bO.cell 0)
                  have q1 := cell_regrown (bO.cell 1)
                  have q2 := cell_regrown (bO.cell 2)
                  have q3 := cell_regrown (bO.cell 3)
                  have q4 := cell_regrown (bO.cell 4)
                  have q5 := cell_regrown (bO.cell 5)
                  have q6 := cell_regrown (bP.cell 0)
                  have q7 := cell_regrown (bP.cell 1)
                  have cL := quietC (W := W6) (fun w' hb => HLV.out w' (hB2.trans (hb.mono hB2.size)))
                  have hkd := HAT.out.kind
                  have hko := okO_kindB (mapB_ok HV.out x (HXM.out))
                  rw [← hkd] at hko
                  clear hk5 hkd HLV
                  refine wp_region_below_tailM ov 14 (by kernel_rfl) (by kernel_rfl) (by decide) rfl rfl rfl (fun _ _ _ h => h) ?_
                  simp only [Act.put, List.setIfInBounds_toArray, List.set_cons_zero, List.set_cons_succ, List.take_succ_cons, List.take_zero, List.drop_succ_cons, List.drop_zero, Nat.reduceSub]
                  repeat (go_big_quiet_step (first | (with_reducible exact cL _ _)))
                  refine wpQuiet_nil ?_
                  rintro W8 hb8
                  replace hB2 := hB2.trans (hb8.mono hB2.size)
                  replace b1 := b1.below hb8 b1.lt
                  have hown := owns_below HO.out hB2 (Nat.le_refl _)
                  have hw8 := hB2.size
                  have hll := labsG_len l z ls (l.take i)
                  rw [List.length_take] at hll
                  have HK : Hid (labsG l z ls (l.take (i + 1)) = labsG l z ls (l.take i) ++ [⟨x.id, ax, ay, 6 * bv.size, 12, 10 * lv + x.kind⟩]) := Lib.hid (by rw [HX.out, HLF3.out]; rfl)
                  have HID := Lib.hid (And.intro HAT.out.id HAT.out.kind)
                  replace hW := hW.trans (hB2.mono hW.size)
                  clear q0 q1 q2 q3 q4 q5 q6 q7 cL bO bP HO hb8 HLF3 HX
                  go_wp2_with (at_builtin; refine halted ?_)
                  refine Halted.on ?_
                  refine wpList_append_own _ rfl _ _ 22 rfl w1.heap.size 47 i0 (.agg #[.string ⟨#[]⟩, .int .i64 0, .int .i64 0, .int .i64 0, .int .i64 0, .int .i64 0]) 6 56 Tryz.underlying22 hi hz0 hz1 hz2 rfl (by decide) _ _ _ rfl (hown.alloc _) ⟨W8.heap.size, 0, none⟩ 1 1 (labC ⟨x.id, ax, ay, 6 * bv.size, 12, 10 * lv + x.kind⟩) rfl ?qa ?qb ?qc ?qd ?qe ?qf ?_
                  case qa => rfl
                  case qb => rw [← HID.out.1, ← HID.out.2]; exact World.news_of_block (cs := (labC ⟨v.id, ax, ay, 6 * bv.size, 12, 10 * lv + v.kind⟩).toArray) (t := 47) (fr := (0, 0)) (heap_alloc_new W8 _)
                  case qc => simp [labC, Value.oneCell']
                  case qd => unfold maxLen; omega
                  case qe => omega
                  case qf => simp; omega
                  intro v' w9 hown' hgrow _
                  have hb := below_append hown hgrow (by omega)
                  have hw9 := hb.size
                  replace hW := hW.trans (hb.mono hs1)
                  replace b1 := b1.below hb (by omega)
                  have HO2 : Hid (w9.ownsRow w1.heap.size 47 6 v' (labsG l z ls (l.take (i + 1))).length ((labsG l z ls (l.take (i + 1))).flatMap labC)) := Lib.hid (by rw [HK.out, List.length_append, List.flatMap_append]; simpa using hown')
                  clear hb hown hown' hgrow HK
                  go_wp2
                  go_roundw
                  case rel => exact ⟨i + 1, v', by omega, by go_num, rfl, hW, b1, by omega, HO2⟩
                  case measure => simp [intOf]; omega
          · obtain rfl : i = n := by omega
            have HE : Hid (l.take i = l) := Lib.hid (by rw [HN.out]; exact List.take_length)
            rw [HE.out] at HO
            have hll := labsG_len l z ls l
            rw [← HN.out] at hll
            obtain ⟨p2, cap2, rfl, d1, d2, d3, d4⟩ := Lies.of_owns labC_len HO.out rfl
            have HC := Lib.hid (sorted_any p2 _ cap2 _ wr d2 rfl (by omega) d4)
            clear d1 d2 d3 d4 HO
            go_wp2_with fail
            refine HC.out.mono ?_
            rintro e w3 ⟨p3, n3, cap3, rfl, e1, e2, e3, e4, e5, e6⟩
            have HF := Lib.hid (And.intro e1 (And.intro e2 (And.intro e3 (And.intro e4 (And.intro e5 e6)))))
            clear e1 e2 e3 e4 e5 e6 HC r0
            go_wp2
            go_ret
            rw [HR.out]
            obtain ⟨e1, e2, e3, e4, e5, e6⟩ := HF.out
            exact ⟨p3, n3, cap3, rfl, e1, e2, e3, fun a e => Nat.le_trans hW.size (e4 a e), e5, hW.trans (e6.mono hW.size)⟩
end Go.Proofs.YtaggohobdjidjaaGreatDoor

/- Placed labels, labels and boxes are equal exactly if their cells are. -/
namespace Go.Proofs.YtaggohobdjidjaaGreatDoor
open Go.RowKit Go.Sort

theorem box_in (d : Nat) (a b c e a' b' c' e' : Int) (w : World) : (Op.equalIn (d + 3) 26 (.agg #[.int .i64 a, .int .i64 b, .int .i64 c, .int .i64 e]) (.agg #[.int .i64 a', .int .i64 b', .int .i64 c', .int .i64 e'])).run Tryz.prog w = .ok (decide (a = a' ∧ b = b' ∧ c = c' ∧ e = e')) w := by
  rw [run_equalIn_struct (P := Tryz.prog) w (d + 2) 26 _ _ (by kernel_rfl) (by kernel_rfl)]
  simp [go_sem, Program.fieldsOf, Tryz.underlying26, Tryz.underlying24]
  by_cases h0 : a = a' <;> by_cases h1 : b = b' <;> by_cases h2 : c = c' <;> by_cases h3 : e = e' <;> simp [h0, h1, h2, h3]

theorem placed_eql (s s' : ByteArray) (a b c e a' b' c' e' : Int) (w : World) : (binOp .eql 43 (.agg #[.string s, .int .i64 a, .int .i64 b, .int .i64 c, .int .i64 e]) (.agg #[.string s', .int .i64 a', .int .i64 b', .int .i64 c', .int .i64 e'])).run Tryz.prog w =
    .ok (.bool (s.toList == s'.toList && decide (a = a' ∧ b = b' ∧ c = c' ∧ e = e'))) w := by
  rw [run_eql_struct, run_equalIn_struct (P := Tryz.prog) w 9999 43 _ _ (by kernel_rfl) (by kernel_rfl)]
  simp [go_sem, Program.fieldsOf, Tryz.underlying43, Tryz.underlying26, Tryz.underlying9]
  by_cases hs : s.toList = s'.toList <;> by_cases h0 : a = a' <;> by_cases h1 : b = b' <;> by_cases h2 : c = c' <;> by_cases h3 : e = e' <;> simp [hs, h0, h1, h2, h3]
theorem label_eql (s s' : ByteArray) (a b c e f a' b' c' e' f' : Int) (w : World) : (binOp .eql 47 (.agg #[.string s, .int .i64 a, .int .i64 b, .int .i64 c, .int .i64 e, .int .i64 f]) (.agg #[.string s', .int .i64 a', .int .i64 b', .int .i64 c', .int .i64 e', .int .i64 f'])).run Tryz.prog w =
    .ok (.bool (s.toList == s'.toList && decide (a = a' ∧ b = b' ∧ c = c' ∧ e = e' ∧ f = f'))) w := by
  rw [run_eql_struct, run_equalIn_struct (P := Tryz.prog) w 9999 47 _ _ (by kernel_rfl) (by kernel_rfl)]
  simp [go_sem, Program.fieldsOf, Tryz.underlying47, Tryz.underlying24, Tryz.underlying9, Tryz.underlying3]
  by_cases hs : s.toList = s'.toList <;> by_cases h0 : a = a' <;> by_cases h1 : b = b' <;> by_cases h2 : c = c' <;> by_cases h3 : e = e' <;> by_cases h4 : f = f' <;> simp [hs, h0, h1, h2, h3, h4]

theorem placed_same (x : Pl) (w : World) : (binOp .eql 43 (plV x) (plV x)).run Tryz.prog w = .ok (.bool true) w := by
  unfold plV
  rw [placed_eql]
  simp
theorem label_same (x : Lab) (w : World) : (binOp .eql 47 (labV x) (labV x)).run Tryz.prog w = .ok (.bool true) w := by
  unfold labV
  rw [label_eql]
  simp
end Go.Proofs.YtaggohobdjidjaaGreatDoor

/- planisphereref43.Same, All: of equal lists they say true. -/
namespace Go.Proofs.YtaggohobdjidjaaGreatDoor
open Go.RowKit Go.Sort Go.Shelf

set_option maxHeartbeats 4000000 in
theorem same_any (p : Option Addr) (n cap : Nat) (q : Option Addr) (m cap2 : Nat) (l : List Pl) (w : World) (hL : Lies w 5 plC p l) (hn : n = l.length) (hM : Lies w 5 plC q l) (hm : m = l.length) (h1 : n ≤ 1000000) :
    Calls Tryz.prog 12 #[.slice p n cap, .slice q m cap2] w (RetB w (.bool true)) := by
  obtain rfl : m = n := by omega
  have HL := Lib.hid hL
  have HM := Lib.hid hM
  have HN := Lib.hid hn
  clear hL hM hn hm
  go_enter Tryz.func12, Tryz.ntmps12
  have e0 : ((m : Int) != (m : Int)) = false := by simp
  go_wp2
  go_loopw [5] (fun vi wr => ∃ i : Nat, i ≤ m ∧ vi = .int .i64 i ∧ Below w.heap.size w wr) (fun vi _ => m - (intOf vi).toNat)
  case atStart => exact ⟨0, by omega, rfl, Below.refl _ _⟩
  case round =>
    obtain ⟨i, hi, rfl, hW⟩ := hrel
    by_cases hlt : i < m
    · obtain ⟨x, hx⟩ : ∃ x, l[i]? = some x := ⟨_, List.getElem?_eq_getElem (by have := HN.out; omega)⟩
      obtain ⟨g, o, rfl⟩ := HL.out.addr (by have := HN.out; omega)
      obtain ⟨g2, o2, rfl⟩ := HM.out.addr (by have := HN.out; omega)
      have r0 := (HL.out.below hW (Nat.le_refl _)).pl hx
      have s0 := (HM.out.below hW (Nat.le_refl _)).pl hx
      obtain ⟨r0, r1, r2, r3, r4⟩ := r0
      obtain ⟨s0, s1, s2, s3, s4⟩ := s0
      have hxs := placed_same x
      unfold plV at hxs
      clear hx
      have q1 : decide (i < m) = true := decide_eq_true hlt
      go_wp2_with fail
      have hh := hW.size
      have a0 := cell_regrown r0
      have a1 := cell_regrown r1
      have a2 := cell_regrown r2
      have a3 := cell_regrown r3
      have a4 := cell_regrown r4
      have b0 := cell_regrown s0
      have b1 := cell_regrown s1
      have b2 := cell_regrown s2
      have b3 := cell_regrown s3
      have b4 := cell_regrown s4
      refine wp_region_quiet_below (by kernel_rfl) (by kernel_rfl) ?_
      repeat (go_big_quiet_step (fail))
      refine wpQuiet_nil ?_
      rintro W2 hb2
      replace hb2 := below_of_regrown hb2
      replace hW := hW.trans (hb2.mono hh)
      clear r0 r1 r2 r3 r4 s0 s1 s2 s3 s4 a0 a1 a2 a3 a4 b0 b1 b2 b3 b4
      go_wp2
      go_roundw
      case rel => exact ⟨i + 1, by omega, by go_num, hW⟩
      case measure => simp [intOf]; omega
    · obtain rfl : i = m := by omega
      go_wp2
      go_ret
      exact RetB.mk' rfl hW

set_option maxHeartbeats 4000000 in
theorem all43_any (p : Option Addr) (n cap : Nat) (q : Option Addr) (m cap2 : Nat) (l : List Lab) (w : World) (hL : Lies w 6 labC p l) (hn : n = l.length) (hM : Lies w 6 labC q l) (hm : m = l.length) (h1 : n ≤ 1000000) :
    Calls Tryz.prog 17 #[.slice p n cap, .slice q m cap2] w (RetB w (.bool true)) := by
  obtain rfl : m = n := by omega
  have HL := Lib.hid hL
  have HM := Lib.hid hM
  have HN := Lib.hid hn
  clear hL hM hn hm
  go_enter Tryz.func17, Tryz.ntmps17
  have e0 : ((m : Int) != (m : Int)) = false := by simp
  go_wp2
  go_loopw [5] (fun vi wr => ∃ i : Nat, i ≤ m ∧ vi = .int .i64 i ∧ Below w.heap.size w wr) (fun vi _ => m - (intOf vi).toNat)
  case atStart => exact ⟨0, by omega, rfl, Below.refl _ _⟩
  case round =>
    obtain ⟨i, hi, rfl, hW⟩ := hrel
    by_cases hlt : i < m
    · obtain ⟨x, hx⟩ : ∃ x, l[i]? = some x := ⟨_, List.getElem?_eq_getElem (by have := HN.out; omega)⟩
      obtain ⟨g, o, rfl⟩ := HL.out.addr (by have := HN.out; omega)
      obtain ⟨g2, o2, rfl⟩ := HM.out.addr (by have := HN.out; omega)
      have r0 := (HL.out.below hW (Nat.le_refl _)).lab hx
      have s0 := (HM.out.below hW (Nat.le_refl _)).lab hx
      obtain ⟨r0, r1, r2, r3, r4, r5⟩ := r0
      obtain ⟨s0, s1, s2, s3, s4, s5⟩ := s0
      have hxs := label_same x
      unfold labV at hxs
      clear hx
      have q1 : decide (i < m) = true := decide_eq_true hlt
      go_wp2_with fail
      have hh := hW.size
      have a0 := cell_regrown r0
      have a1 := cell_regrown r1
      have a2 := cell_regrown r2
      have a3 := cell_regrown r3
      have a4 := cell_regrown r4
      have a5 := cell_regrown r5
      have b0 := cell_regrown s0
      have b1 := cell_regrown s1
      have b2 := cell_regrown s2
      have b3 := cell_regrown s3
      have b4 := cell_regrown s4
      have b5 := cell_regrown s5
      refine wp_region_quiet_below (by kernel_rfl) (by kernel_rfl) ?_
      repeat (go_big_quiet_step (fail))
      refine wpQuiet_nil ?_
      rintro W2 hb2
      replace hb2 := below_of_regrown hb2
      replace hW := hW.trans (hb2.mono hh)
      clear r0 r1 r2 r3 r4 r5 s0 s1 s2 s3 s4 s5 a0 a1 a2 a3 a4 a5 b0 b1 b2 b3 b4 b5
      go_wp2
      go_roundw
      case rel => exact ⟨i + 1, by omega, by go_num, hW⟩
      case measure => simp [intOf]; omega
    · obtain rfl : i = m := by omega
      go_wp2
      go_ret
      exact RetB.mk' rfl hW
end Go.Proofs.YtaggohobdjidjaaGreatDoor

import Derived.StillTail
import Derived.Lib.QuietBelow
import Derived.Test.YtaggohobdjidjaaGreatDoorProg
import Derived.WalkKit
import Derived.WalkSpells
import Derived.WalkLawsBesides
import Derived.BigQuiet
import Derived.Deep.QuietTactic
import Derived.Outline
import Derived.Lib.Hide
import Derived.Deep.RegionHeld3
import Derived.Deep.DrawnRows
import Derived.StillTailTactics
import Derived.Deep.MidRow
import Derived.RowKit
import Derived.Lib.SplitLaws
import Derived.Lib.AtoiAll
import Derived.Lib.ItoaNum

/- A region that draws its order: its first n operations read, and its calls keep what was there; what follows comes up in the order of the text. No condition. -/
namespace Go.Proofs.YtaggohobdjidjaaGreatDoor
open Go Go.Sort Go.RowKit

section
variable {P : Program} {ops : Array Oper} {md : Region.Mode} {C : World → Prop}

def headQ (P : Program) (md : Region.Mode) (ops : Array Oper) (C : World → Prop) (n : Nat) (L : Array Bool → Act → Prop) : Nat → Array Bool → Act → Prop
  | 0, listed, a => L listed a
  | f + 1, listed, a => Region.ready md ops listed ≠ [] ∧ ∀ i ∈ Region.ready md ops listed, i < n ∧ qOp P ops C i (headQ P md ops C n L f (listed.setIfInBounds i true)) a

theorem any_of_headQ {n g : Nat} {L : Array Bool → Act → Prop} {Q' : Exit → Act → World → Prop} (hL : ∀ listed a w, C w → L listed a → wpAny P md ops Q' g listed a w) :
    ∀ (f : Nat) (listed : Array Bool) (a : Act) (w : World), C w → headQ P md ops C n L f listed a → wpAny P md ops Q' (f + g) listed a w
  | 0, _, _, _, hw, h => by rw [Nat.zero_add]; exact hL _ _ _ hw h
  | f + 1, listed, a, w, hw, h => by
    have e : f + 1 + g = (f + g) + 1 := by omega
    rw [e]
    refine ⟨fun h0 => absurd h0 h.1, fun i hi => ?_⟩
    exact wpOp_of_qOp hw (fun a' w' hw' hk => any_of_headQ hL f _ a' w' hw' hk) (h.2 i hi).2

theorem headQ_first {n i : Nat} {oi : Oper} {v : Value} {L : Array Bool → Act → Prop} (hi : ops[i]? = some oi) (hsel : ∀ (j : Nat) (o : Oper) cs b, ops[j]? = some o → o.op ≠ .select cs b)
    (hs : Region.sinkB md ops n = true) (hc : Region.chainB md ops n = true) (hn : n < ops.size) (hin : i < n) (hdone : ∀ listed a, L listed a → ∀ j ∈ Region.ready md ops listed, n ≤ j) :
    ∀ (f : Nat) (listed : Array Bool) (a : Act), HeadInv md ops n listed →
      (∀ j oj, ops[j]? = some oj → j ≠ i → listed.getD j true = false → (∀ e ∈ oj.after, Region.binds md e = true → e.on ≠ i) → oi.apart ops oj = true) →
      i ∈ Region.ready md ops listed → YieldsIn P ops C oi v a → headQ P md ops C n L f (listed.setIfInBounds i true) (a.put oi.dst v) → headQ P md ops C n L (f + 1) listed a := by
  intro f
  induction f with
  | zero =>
    intro listed a inv _ hr hy H
    refine ⟨fun h => (by rw [h] at hr; cases hr), fun j hj => ?_⟩
    have hjn : j < n := Nat.lt_of_not_le fun h => tail_waits hs hc hn inv _ i rfl hin (mem_ready.1 hr).1 j h hj
    refine ⟨hjn, ?_⟩
    by_cases e : j = i
    · subst e
      exact hy.qOp hi H
    · have := hdone _ _ H j (ready_mono hj e)
      omega
  | succ f ih =>
    intro listed a inv free hr hy H
    have hun := (mem_ready.1 hr).1
    refine ⟨fun h => (by rw [h] at hr; cases hr), fun j hj => ?_⟩
    have hjn : j < n := Nat.lt_of_not_le fun h => tail_waits hs hc hn inv _ i rfl hin hun j h hj
    refine ⟨hjn, ?_⟩
    by_cases e : j = i
    · subst e
      exact hy.qOp hi H
    · obtain ⟨hjun, oj, hoj, hall⟩ := mem_ready.1 hj
      have hnot : ∀ e ∈ oj.after, Region.binds md e = true → e.on ≠ i := fun e' he hb heq => by
        have h1 := hall e' he hb
        rw [heq, getD_both hun] at h1
        cases h1
      have h2 := qOp_put hoj (free j oj hoj e hjun hnot) (fun cs b => hsel i oi cs b hi) (fun cs b => hsel j oj cs b hoj) hy ((H.2 j (ready_mono hj e)).2)
      refine qOp_mono (fun a' h3 => ih (listed.setIfInBounds j true) a' (inv.set hj hjn) ?_ (ready_mono hr (Ne.symm e)) h3.1 ?_) h2
      · intro k ok hk hki hunk hno
        refine free k ok hk hki ?_ hno
        by_cases hjk : j = k
        · subst hjk; exact hjun
        · rw [getD_set_ne true hjk] at hunk; exact hunk
      · rw [Array.setIfInBounds_comm _ _ e]
        exact h3.2

theorem headQ_lex {n g : Nat} {Lq : Act → Prop} (hsel : Region.noSelect ops = true) (hs : Region.sinkB md ops n = true) (hc : Region.chainB md ops n = true) (hn : n < ops.size) :
    ∀ (l : List Oper) (k : Nat) (listed : Array Bool) (a : Act), (∀ j, j < l.length → l[j]? = ops[k + j]?) → k + l.length = n → HeadInv md ops n listed →
    Region.lexHead md ops g l.length k listed = true → wpQuiet P ops C Lq l a →
    headQ P md ops C n (fun listed' a' => Region.seqB md ops g n listed' = true ∧ Lq a') l.length listed a
  | [], k, listed, a, _, hk, _, hB, h => by
    have e : k = n := by simpa using hk
    subst e
    exact ⟨by simpa [Region.lexHead] using hB, h⟩
  | o :: l, k, listed, a, hl, hk, inv, hB, h => by
    have h0 : ops[k]? = some o := by simpa using (hl 0 (by simp)).symm
    simp only [List.length_cons, Region.lexHead, Bool.and_eq_true] at hB
    have hkn : k < n := by simp only [List.length_cons] at hk; omega
    have hr : k ∈ Region.ready md ops listed := by simpa using hB.1.1
    have hq : qOp P ops C k (wpQuiet P ops C Lq l) a := by unfold qOp; simp only [h0]; exact h
    obtain ⟨v, hy, hK⟩ := yieldsIn_of_qOp h0 hq
    refine headQ_first h0 (Region.noSelect_spec hsel) hs hc hn hkn (fun listed' a' hL => seqB_ready hL.1) l.length listed a inv (Region.free_spec h0 hB.1.2) hr hy ?_
    exact headQ_lex hsel hs hc hn l (k + 1) _ _ (fun j hj => by
      have := hl (j + 1) (by simp; omega)
      simpa [Nat.add_assoc, Nat.add_comm 1 j] using this) (by simp only [List.length_cons] at hk; omega) (inv.set hr hkn) hB.2 hK

/-- The region's law: n operations of the head, in any world of the class; then the tail. -/
theorem wp_region_head {id : Nat} {Q : Exit → Act → World → Prop} {a : Act} {w : World} {l : List Oper} (n : Nat) (hm : P.follows .mixedOrders = true) (hB : Region.lexTailB .any l.toArray n = true)
    (hC : C { w with drawn := w.drawn + 1 }) (h : wpQuiet P l.toArray C (fun a' => ∀ w', C w' → wpList P l.toArray Q (l.drop n) a' w') (l.take n) a) : (Code.region id l.toArray true).wp P Q a w := by
  simp only [Region.lexTailB, Bool.and_eq_true, decide_eq_true_eq] at hB
  obtain ⟨⟨⟨⟨hsel, hn⟩, hs⟩, hc⟩, hlex⟩ := hB
  have hn' : n < l.length := by simpa using hn
  have htl : (l.take n).length = n := by simp; omega
  have hdl : (l.drop n).length = l.toArray.size - n := by simp
  have inv0 : HeadInv .any l.toArray n (Array.replicate l.toArray.size false) :=
    ⟨by simp, fun j oj _ hl => (by rw [getD_replicate_false] at hl; cases hl), fun t _ ht => getD_in (by simpa using ht) (getD_replicate_false _ _)⟩
  have H := headQ_lex (md := .any) (C := C) (g := l.toArray.size - n) hsel hs hc hn (l.take n) 0 _ a (fun j hj => by
    have hj' : j < n := by rw [htl] at hj; exact hj
    simp [hj']) (by simpa using htl) inv0 (by rw [htl]; exact hlex) h
  refine wp_region_any hm ?_
  have := any_of_headQ (Q' := Q) (g := l.toArray.size - n) (fun listed a' w' hw' hL => by
    have h1 := wpAny_of_seq (P := P) (md := .any) (ops := l.toArray) (Q' := Q) (l.drop n) n listed a' w' (fun j => by simp) (by rw [hdl]; exact hL.1) (hL.2 w' hw')
    rw [hdl] at h1
    exact h1) _ _ _ _ hC H
  rw [htl] at this
  have e : n + (l.toArray.size - n) = l.toArray.size := by simp; omega
  rw [e] at this
  exact this
end

theorem wp_region_below_tail {P : Program} {id : Nat} {Q : Exit → Act → World → Prop} {a : Act} {w : World} {l : List Oper} (n : Nat) (hm : P.follows .mixedOrders = true) (hB : Region.lexTailB .any l.toArray n = true)
    (h : wpQuiet P l.toArray (fun w' => ∃ p : Regrown, w' = grow (redrawn w p.d) p.os) (fun a' => ∀ w', Below w.heap.size w w' → wpList P l.toArray Q (l.drop n) a' w') (l.take n) a) : (Code.region id l.toArray true).wp P Q a w :=
  wp_region_head (C := fun w' => ∃ p : Regrown, w' = grow (redrawn w p.d) p.os) n hm hB ⟨⟨w.drawn + 1, #[]⟩, by rw [grow_empty]; rfl⟩
    (by
      have mono : ∀ (l' : List Oper) (a' : Act), wpQuiet P l.toArray (fun w' => ∃ p : Regrown, w' = grow (redrawn w p.d) p.os) (fun a' => ∀ w', Below w.heap.size w w' → wpList P l.toArray Q (l.drop n) a' w') l' a' →
          wpQuiet P l.toArray (fun w' => ∃ p : Regrown, w' = grow (redrawn w p.d) p.os) (fun a' => ∀ w', (∃ p : Regrown, w' = grow (redrawn w p.d) p.os) → wpList P l.toArray Q (l.drop n) a' w') l' a' := by
        intro l'
        induction l' with
        | nil => exact fun a' h w' ⟨p, hp⟩ => h w' (by rw [hp]; exact below_regrown _ _ _)
        | cons o r ih =>
          intro a' h
          unfold wpQuiet at h ⊢
          split
          · rename_i hw
            rw [if_pos hw] at h
            exact Oper.quiet_mono ih h
          · rename_i hw
            rw [if_neg hw] at h
            exact ih _ h
      exact mono _ _ h)
end Go.Proofs.YtaggohobdjidjaaGreatDoor

/- Words that every walk of this seat uses: how a call ends, and what the world keeps. No condition. -/
namespace Go.Proofs.YtaggohobdjidjaaGreatDoor
open Go.RowKit Go.Sort

theorem ret_bool {a b : Bool} (h : a = b) : Ending.returned (.bool a) = .returned (.bool b) := by rw [h]
theorem ret_int {k : IntKind} {a b : Int} (h : a = b) : Ending.returned (.int k a) = .returned (.int k b) := by rw [h]

/-- The call returns v; below the heap's size when it began nothing has turned. -/
def RetB (w : World) (v : Value) (e : Ending) (w' : World) : Prop := e = .returned v ∧ Below w.heap.size w w'
theorem RetB.mk' {w w' : World} {v v' : Value} (h : v' = v) (hb : Below w.heap.size w w') : RetB w v (.returned v') w' := ⟨by rw [h], hb⟩

/-- What lay below reads as before. -/
theorem bcell {W w1 : World} (hb : Below W.heap.size W w1) : (∀ b o, b < W.heap.size → w1.cell? ⟨b, o, none⟩ = W.cell? ⟨b, o, none⟩) ∧ (∀ b o, b < W.heap.size → w1.frozen? ⟨b, o, none⟩ = W.frozen? ⟨b, o, none⟩) :=
  ⟨fun b o h => hb.cell (p := ⟨b, o, none⟩) h, fun b o h => hb.frozen (p := ⟨b, o, none⟩) h⟩

theorem below_of_regrown {w w' : World} (h : ∃ p : Regrown, w' = grow (redrawn w p.d) p.os) : Below w.heap.size w w' := by
  obtain ⟨p, rfl⟩ := h
  exact below_regrown _ _ _
/-- A contract, as a region that draws its order wants it. -/
theorem quietC {P : Program} {f : FuncId} {args : Array Value} {v : Value} {W : World} (h : ∀ w', Below W.heap.size W w' → Calls P f args w' (RetB w' v)) :
    ∀ d os, Calls P f args (grow (redrawn W d) os) fun e w'' => e = .returned v ∧ ∃ p : Regrown, w'' = grow (redrawn W p.d) p.os :=
  fun _ _ => Calls.regrown_of (h _ (below_regrown _ _ _))

/-- From here on the world is a letter: what is known of it stands in S. -/
theorem wp_abs {P : Program} {c : Code} {Q : Exit → Act → World → Prop} {a : Act} {w : World} (S : World → Prop) (hS : S w) (h : ∀ w', S w' → c.wp P Q a w') : c.wp P Q a w := h w hS

/-- Block b holds just these cells, none of them frozen. -/
def Box (w : World) (b : Nat) (cs : Array Value) (t : TypeId) : Prop := w.heap[b]? = some (.cells cs t (0, 0))

theorem Box.cell {w : World} {b : Nat} {cs : Array Value} {t : TypeId} (h : Box w b cs t) (i : Nat) : w.cell? ⟨b, i, none⟩ = cs[i]? := by
  unfold Box at h; simp [World.cell?, h]
theorem Box.frozen {w : World} {b : Nat} {cs : Array Value} {t : TypeId} (h : Box w b cs t) (i : Nat) : w.frozen? ⟨b, i, none⟩ = false := by
  unfold Box at h; simp [World.frozen?, h]
theorem Box.lt {w : World} {b : Nat} {cs : Array Value} {t : TypeId} (h : Box w b cs t) : b < w.heap.size := (Array.getElem?_eq_some_iff.1 h).1
theorem Box.below {w w' : World} {B b : Nat} {cs : Array Value} {t : TypeId} (h : Box w b cs t) (hb : Below B w w') (hB : b < B) : Box w' b cs t := (hb.block b hB).trans h
theorem Box.new (w : World) (cs : Array Value) (t : TypeId) : Box (w.alloc (.cells cs t)) w.heap.size cs t := heap_alloc_new w _
theorem Box.new' {w : World} {b : Nat} (h : b = w.heap.size) (cs : Array Value) (t : TypeId) : Box (w.alloc (.cells cs t)) b cs t := by subst h; exact heap_alloc_new w _
theorem Box.alloc {w : World} {b : Nat} {cs : Array Value} {t : TypeId} (h : Box w b cs t) (o : Obj) : Box (w.alloc o) b cs t := (Below.heap_alloc w o b h.lt).trans h
theorem Box.set {w : World} {b : Nat} {cs : Array Value} {t : TypeId} (h : Box w b cs t) (i : Nat) (v : Value) : Box (w.setCell ⟨b, i, none⟩ v) b (cs.setIfInBounds i v) t := by
  unfold Box at *; simp [World.setCell, Array.getElem?_modify, h]
theorem Box.set_other {w : World} {b b' : Nat} {cs : Array Value} {t : TypeId} (h : Box w b cs t) (hne : b ≠ b') (i : Nat) (v : Value) : Box (w.setCell ⟨b', i, none⟩ v) b cs t :=
  (Below.heap_setCell w ⟨b', i, none⟩ v b hne).trans h

theorem Box.setCells {b : Nat} {t : TypeId} : ∀ (vs : List Value) (o : Nat) (pre : List Value) (w : World) (cs : List Value), o = pre.length → cs.length = vs.length → Box w b (pre ++ cs).toArray t →
    Box (w.setCells b o vs) b (pre ++ vs).toArray t
  | [], o, pre, w, cs, _, hl, h => by
    have : cs = [] := List.length_eq_zero_iff.1 (by simpa using hl)
    subst this
    exact h
  | v :: vs, o, pre, w, cs, ho, hl, h => by
    obtain ⟨c, cs, rfl⟩ : ∃ c cs', cs = c :: cs' := by cases cs with | nil => simp at hl | cons c cs' => exact ⟨c, cs', rfl⟩
    have h1 := h.set o v
    have e : (pre ++ c :: cs).toArray.setIfInBounds o v = ((pre ++ [v]) ++ cs).toArray := by subst ho; simp
    rw [e] at h1
    have h2 := Box.setCells vs (o + 1) (pre ++ [v]) _ cs (by simp [ho]) (by simpa using hl) h1
    have e2 : (pre ++ [v]) ++ vs = pre ++ v :: vs := by simp
    rw [e2] at h2
    exact h2
theorem Box.setAll {w : World} {b : Nat} {cs vs : Array Value} {t : TypeId} (h : Box w b cs t) (hl : cs.size = vs.size) : Box (w.setCells b 0 vs.toList) b vs t := by
  have := Box.setCells vs.toList 0 [] w cs.toList rfl (by simpa using hl) (by simpa using h)
  simpa using this
theorem setCells_other {b k : Nat} (hne : k ≠ b) : ∀ (vs : List Value) (o : Nat) (w : World), (w.setCells b o vs).heap[k]? = w.heap[k]?
  | [], _, _ => rfl
  | v :: vs, o, w => (setCells_other hne vs (o + 1) _).trans (Below.heap_setCell w ⟨b, o, none⟩ v k hne)
theorem Below.setCells' {B b : Nat} {a : World} (hp : B ≤ b) : ∀ (vs : List Value) (o : Nat) (w : World), Below B a w → Below B a (w.setCells b o vs)
  | [], _, _, h => h
  | v :: vs, o, _, h => Below.setCells' hp vs (o + 1) _ (h.setCell (p := ⟨b, o, none⟩) hp v)
theorem Box.there {w : World} {b : Nat} {cs : Array Value} {t : TypeId} (h : Box w b cs t) : w.there b 0 cs.size := fun j hj => by
  refine ⟨?_, ?_⟩
  · rw [Nat.zero_add, h.cell j]; simpa using hj
  · rw [Nat.zero_add]; exact h.frozen j

/-- Is a type's value written out in several cells? -/
def aggB : TypeDesc → Bool
  | .struct _ | .array _ _ => true
  | _ => false
theorem load_box {P : Program} {w : World} {b : Nat} {cs : Array Value} {t ty : TypeId} {d : TypeDesc} (hb : Box w b cs t) (hu : P.underlying ty = some d) (hd : aggB d = true) (hi : (P.info? ty).map (·.size) = some cs.size) :
    (loadVar ty ⟨b, 0, none⟩).run P w = .ok (.agg cs) w :=
  run_loadVar_row w b t ty cs (0, 0) d hb hu (by cases d <;> first | rfl | cases hd) hi
/-- A call's end: its one result lies in a box. -/
theorem ret_box {P : Program} {fn : Func} {R : Ending → World → Prop} {a : Act} {w : World} {p : Tmp} {ty : TypeId} {b : Nat} {cs : Array Value} {t : TypeId} {d : TypeDesc} (hres : fn.results = #[.cell p ty])
    (hp : a.tmps.getD p undef = .pointer (some ⟨b, 0, none⟩)) (hb : Box w b cs t) (hu : P.underlying ty = some d) (hd : aggB d = true) (hi : (P.info? ty).map (·.size) = some cs.size) (hdf : a.defers = [])
    (hR : R (.returned (.agg cs)) w) : bodyPost P fn R .ret a w := by
  refine bodyPost_ret (v := .agg cs) ?_ hdf hR
  have hp' : a.tmps[p]?.getD undef = .pointer (some ⟨b, 0, none⟩) := by simpa using hp
  simp [results, hres, hp', asAddr, load_box hb hu hd hi]
/-- .. of two results the first. -/
theorem ret_box2 {P : Program} {fn : Func} {R : Ending → World → Prop} {a : Act} {w : World} {p q : Tmp} {ty : TypeId} {b : Nat} {cs : Array Value} {t : TypeId} {d : TypeDesc} {v : Value} (hres : fn.results = #[.cell p ty, .tmp q])
    (hp : a.tmps.getD p undef = .pointer (some ⟨b, 0, none⟩)) (hq : a.tmps.getD q undef = v) (hb : Box w b cs t) (hu : P.underlying ty = some d) (hd : aggB d = true) (hi : (P.info? ty).map (·.size) = some cs.size) (hdf : a.defers = [])
    (hR : R (.returned (.tuple #[.agg cs, v])) w) : bodyPost P fn R .ret a w := by
  refine bodyPost_ret (v := .tuple #[.agg cs, v]) ?_ hdf hR
  have hp' : a.tmps[p]?.getD undef = .pointer (some ⟨b, 0, none⟩) := by simpa using hp
  have hq' : a.tmps[q]?.getD undef = v := by simpa using hq
  simp [results, hres, hp', hq', asAddr, load_box hb hu hd hi]

theorem calls_abs {P : Program} {f : FuncId} {args : Array Value} {R : Ending → World → Prop} {w : World} (S : World → Prop) (hS : S w) (h : ∀ w', S w' → Calls P f args w' R) : Calls P f args w R := h w hS

theorem Box.set2 {w : World} {b : Nat} {t : TypeId} {a0 a1 : Value} (h : Box w b #[a0, a1] t) (v0 v1 : Value) : Box ((w.setCell ⟨b, 0, none⟩ v0).setCell ⟨b, 1, none⟩ v1) b #[v0, v1] t := (h.set 0 v0).set 1 v1
theorem Box.set3 {w : World} {b : Nat} {t : TypeId} {a0 a1 a2 : Value} (h : Box w b #[a0, a1, a2] t) (v0 v1 v2 : Value) : Box (((w.setCell ⟨b, 0, none⟩ v0).setCell ⟨b, 1, none⟩ v1).setCell ⟨b, 2, none⟩ v2) b #[v0, v1, v2] t := ((h.set 0 v0).set 1 v1).set 2 v2
theorem Box.set4 {w : World} {b : Nat} {t : TypeId} {a0 a1 a2 a3 : Value} (h : Box w b #[a0, a1, a2, a3] t) (v0 v1 v2 v3 : Value) : Box ((((w.setCell ⟨b, 0, none⟩ v0).setCell ⟨b, 1, none⟩ v1).setCell ⟨b, 2, none⟩ v2).setCell ⟨b, 3, none⟩ v3) b #[v0, v1, v2, v3] t := (((h.set 0 v0).set 1 v1).set 2 v2).set 3 v3

/-- Where the walk shall stand still. -/
def Halted (p : Prop) : Prop := p
theorem halted {p : Prop} (h : Halted p) : p := h
theorem Halted.on {p : Prop} (h : p) : Halted p := h
end Go.Proofs.YtaggohobdjidjaaGreatDoor

/- Layer 7 in plain numbers: no program, no memory. -/
namespace Go.Proofs.YtaggohobdjidjaaGreatDoor

def levelB (z : Int) : Bool := decide (0 ≤ z ∧ z ≤ 17)
def insideB (x y : Int) : Bool := decide (0 ≤ x ∧ x < 1048576 ∧ 0 ≤ y ∧ y < 1048576)
def validB (z x y : Int) : Bool := decide ((0 ≤ z ∧ z ≤ 17) ∧ 0 ≤ x ∧ x < 2 ^ z.toNat ∧ 0 ≤ y ∧ y < 2 ^ z.toNat)
/-- The side of a zoom level. -/
def side (z : Int) : Int := 2 ^ (20 - z.toNat)

theorem lev17 {z : Int} (h0 : 0 ≤ z) (h1 : z ≤ 17) : z = 0 ∨ z = 1 ∨ z = 2 ∨ z = 3 ∨ z = 4 ∨ z = 5 ∨ z = 6 ∨ z = 7 ∨ z = 8 ∨ z = 9 ∨ z = 10 ∨ z = 11 ∨ z = 12 ∨ z = 13 ∨ z = 14 ∨ z = 15 ∨ z = 16 ∨ z = 17 := by omega

theorem pow_le17 (z : Int) (h0 : 0 ≤ z) (h1 : z ≤ 17) : (1 : Int) ≤ 2 ^ z.toNat ∧ (2 : Int) ^ z.toNat ≤ 131072 := by
  rcases lev17 h0 h1 with rfl | rfl | rfl | rfl | rfl | rfl | rfl | rfl | rfl | rfl | rfl | rfl | rfl | rfl | rfl | rfl | rfl | rfl <;> decide
theorem side_bd (z : Int) (h0 : 0 ≤ z) (h1 : z ≤ 17) : 8 ≤ side z ∧ side z ≤ 1048576 := by
  rcases lev17 h0 h1 with rfl | rfl | rfl | rfl | rfl | rfl | rfl | rfl | rfl | rfl | rfl | rfl | rfl | rfl | rfl | rfl | rfl | rfl <;> decide
theorem side_pow (z : Int) (h0 : 0 ≤ z) (h1 : z ≤ 17) : side z * 2 ^ z.toNat = 1048576 := by
  rcases lev17 h0 h1 with rfl | rfl | rfl | rfl | rfl | rfl | rfl | rfl | rfl | rfl | rfl | rfl | rfl | rfl | rfl | rfl | rfl | rfl <;> decide

/-- A tile and an error. -/
structure TE where
  z : Int
  x : Int
  y : Int
  e : Int
/-- A box and an error. -/
structure BE where
  a : Int
  b : Int
  c : Int
  d : Int
  e : Int
/-- A point and an error. -/
structure PE where
  x : Int
  y : Int
  e : Int

def ofF (x y z : Int) : TE := if levelB z then if insideB x y then ⟨z, x / side z, y / side z, 0⟩ else ⟨0, 0, 0, 10⟩ else ⟨0, 0, 0, 1⟩
def boxF (z x y : Int) : BE := if validB z x y then ⟨x * side z, y * side z, x * side z + side z - 1, y * side z + side z - 1, 0⟩ else ⟨0, 0, 0, 0, 1⟩
def upF (z x y : Int) : TE := if validB z x y then if z = 0 then ⟨0, 0, 0, 11⟩ else ⟨z - 1, x / 2, y / 2, 0⟩ else ⟨0, 0, 0, 1⟩
def farB (x y : Int) : Bool := decide (x < -2097152 ∨ y < -2097152 ∨ 2097152 < x ∨ 2097152 < y)
/-- A coordinate of a pixel: n is the distance to the box's corner. -/
def scaleF (z n : Int) : Int := n * 256 / side z
def pixelF (z x y px py : Int) : PE :=
  if validB z x y then if farB px py then ⟨0, 0, 10⟩ else ⟨scaleF z (px - x * side z), scaleF z (py - y * side z), 0⟩ else ⟨0, 0, 1⟩

/-- What a valid tile's numbers are. -/
theorem valid_spec {z x y : Int} (h : validB z x y = true) : 0 ≤ z ∧ z ≤ 17 ∧ 0 ≤ x ∧ x * side z + side z ≤ 1048576 ∧ 0 ≤ y ∧ y * side z + side z ≤ 1048576 := by
  have h' : (0 ≤ z ∧ z ≤ 17) ∧ 0 ≤ x ∧ x < 2 ^ z.toNat ∧ 0 ≤ y ∧ y < 2 ^ z.toNat := by simpa [validB] using h
  obtain ⟨⟨h0, h1⟩, hx, hx2, hy, hy2⟩ := h'
  have hp := side_pow z h0 h1
  have hs := side_bd z h0 h1
  refine ⟨h0, h1, hx, ?_, hy, ?_⟩
  · have : (x + 1) * side z ≤ 2 ^ z.toNat * side z := Int.mul_le_mul_of_nonneg_right (by omega) (by omega)
    rw [Int.add_mul, Int.one_mul, Int.mul_comm (2 ^ z.toNat)] at this
    omega
  · have : (y + 1) * side z ≤ 2 ^ z.toNat * side z := Int.mul_le_mul_of_nonneg_right (by omega) (by omega)
    rw [Int.add_mul, Int.one_mul, Int.mul_comm (2 ^ z.toNat)] at this
    omega

theorem valid_le {z x y : Int} (h : validB z x y = true) : x < 131072 ∧ y < 131072 := by
  have h' : (0 ≤ z ∧ z ≤ 17) ∧ 0 ≤ x ∧ x < 2 ^ z.toNat ∧ 0 ≤ y ∧ y < 2 ^ z.toNat := by simpa [validB] using h
  have := pow_le17 z h'.1.1 h'.1.2
  omega

/-- The number that Atoi finds, or -1. -/
def numF (l : List UInt8) : Int := match Lib.atoiAll l with
  | .ok v => v
  | _ => -1

/-- The text of three numbers. -/
def tripL (z x y : Int) : List UInt8 := Lib.itoa z ++ [47] ++ Lib.itoa x ++ [47] ++ Lib.itoa y

/-- What the first word says. -/
def numH : List ByteArray → Int
  | [] => -1
  | s :: _ => numF s.data.toList

/-- The pieces of a text between strokes. -/
def piecesF (text : ByteArray) : List ByteArray := Lib.splitB ⟨#[47]⟩ 0 (Lib.countB text ⟨#[47]⟩) text
/-- What Parse returns. -/
def parseF (text : ByteArray) : TE :=
  if validB (numH (piecesF text)) (numH (piecesF text).tail) (numH (piecesF text).tail.tail) = true ∧ tripL (numH (piecesF text)) (numH (piecesF text).tail) (numH (piecesF text).tail.tail) = text.data.toList
  then ⟨numH (piecesF text), numH (piecesF text).tail, numH (piecesF text).tail.tail, 0⟩ else ⟨0, 0, 0, 5⟩

end Go.Proofs.YtaggohobdjidjaaGreatDoor

/- Words that every walk of this seat uses: how a call ends, and what the world keeps. No condition. -/
import Derived.Test.YthggpflfjghooaaDoorProg
import Derived.WalkKit
import Derived.WalkSpells
import Derived.WalkLawsBesides
import Derived.BigQuiet
import Derived.Deep.QuietTactic
import Derived.Outline
import Derived.Lib.Hide
import Derived.Deep.RegionHeld3
import Derived.Deep.DrawnRows
import Derived.StillTailTactics
import Derived.Lib.QuietBelow
import Derived.Deep.MidRow
import Derived.Test.YthggpflfjghooaaDoorTail
namespace Go.Proofs.YthggpflfjghooaaDoor
open Go.RowKit Go.Sort

theorem ret_bool {a b : Bool} (h : a = b) : Ending.returned (.bool a) = .returned (.bool b) := by rw [h]
theorem ret_int {k : IntKind} {a b : Int} (h : a = b) : Ending.returned (.int k a) = .returned (.int k b) := by rw [h]

/-- The call returns v; below the heap's size when it began nothing has turned. -/
def RetB (w : World) (v : Value) (e : Ending) (w' : World) : Prop := e = .returned v ∧ Below w.heap.size w w'
theorem RetB.mk' {w w' : World} {v v' : Value} (h : v' = v) (hb : Below w.heap.size w w') : RetB w v (.returned v') w' := ⟨by rw [h], hb⟩

/-- What lay below reads as before. -/
theorem bcell {W w1 : World} (hb : Below W.heap.size W w1) : (∀ b o, b < W.heap.size → w1.cell? ⟨b, o, none⟩ = W.cell? ⟨b, o, none⟩) ∧ (∀ b o, b < W.heap.size → w1.frozen? ⟨b, o, none⟩ = W.frozen? ⟨b, o, none⟩) :=
  ⟨fun b o h => hb.cell (p := ⟨b, o, none⟩) h, fun b o h => hb.frozen (p := ⟨b, o, none⟩) h⟩

theorem below_of_regrown {w w' : World} (h : ∃ p : Regrown, w' = grow (redrawn w p.d) p.os) : Below w.heap.size w w' := by
  obtain ⟨p, rfl⟩ := h
  exact below_regrown _ _ _
/-- A contract, as a region that draws its order wants it. -/
theorem quietC {P : Program} {f : FuncId} {args : Array Value} {v : Value} {W : World} (h : ∀ w', Below W.heap.size W w' → Calls P f args w' (RetB w' v)) :
    ∀ d os, Calls P f args (grow (redrawn W d) os) fun e w'' => e = .returned v ∧ ∃ p : Regrown, w'' = grow (redrawn W p.d) p.os :=
  fun d os => Calls.regrown_of (h _ (below_regrown _ _ _))

/-- From here on the world is a letter: what is known of it stands in S. -/
theorem wp_abs {P : Program} {c : Code} {Q : Exit → Act → World → Prop} {a : Act} {w : World} (S : World → Prop) (hS : S w) (h : ∀ w', S w' → c.wp P Q a w') : c.wp P Q a w := h w hS

/-- Block b holds just these cells, none of them frozen. -/
def Box (w : World) (b : Nat) (cs : Array Value) (t : TypeId) : Prop := w.heap[b]? = some (.cells cs t (0, 0))

theorem Box.cell {w : World} {b : Nat} {cs : Array Value} {t : TypeId} (h : Box w b cs t) (i : Nat) : w.cell? ⟨b, i, none⟩ = cs[i]? := by
  unfold Box at h; simp [World.cell?, h]
theorem Box.frozen {w : World} {b : Nat} {cs : Array Value} {t : TypeId} (h : Box w b cs t) (i : Nat) : w.frozen? ⟨b, i, none⟩ = false := by
  unfold Box at h; simp [World.frozen?, h]
theorem Box.lt {w : World} {b : Nat} {cs : Array Value} {t : TypeId} (h : Box w b cs t) : b < w.heap.size := (Array.getElem?_eq_some_iff.1 h).1
theorem Box.below {w w' : World} {B b : Nat} {cs : Array Value} {t : TypeId} (h : Box w b cs t) (hb : Below B w w') (hB : b < B) : Box w' b cs t := (hb.block b hB).trans h
theorem Box.new (w : World) (cs : Array Value) (t : TypeId) : Box (w.alloc (.cells cs t)) w.heap.size cs t := heap_alloc_new w _
theorem Box.new' {w : World} {b : Nat} (h : b = w.heap.size) (cs : Array Value) (t : TypeId) : Box (w.alloc (.cells cs t)) b cs t := by subst h; exact heap_alloc_new w _
theorem Box.alloc {w : World} {b : Nat} {cs : Array Value} {t : TypeId} (h : Box w b cs t) (o : Obj) : Box (w.alloc o) b cs t := (Below.heap_alloc w o b h.lt).trans h
theorem Box.set {w : World} {b : Nat} {cs : Array Value} {t : TypeId} (h : Box w b cs t) (i : Nat) (v : Value) : Box (w.setCell ⟨b, i, none⟩ v) b (cs.setIfInBounds i v) t := by
  unfold Box at *; simp [World.setCell, Array.getElem?_modify, h]
theorem Box.set_other {w : World} {b b' : Nat} {cs : Array Value} {t : TypeId} (h : Box w b cs t) (hne : b ≠ b') (i : Nat) (v : Value) : Box (w.setCell ⟨b', i, none⟩ v) b cs t :=
  (Below.heap_setCell w ⟨b', i, none⟩ v b hne).trans h

theorem Box.setCells {w : World} {b : Nat} {t : TypeId} : ∀ (vs : List Value) (o : Nat) (pre : List Value) (w : World) (cs : List Value), o = pre.length → cs.length = vs.length → Box w b (pre ++ cs).toArray t →
    Box (w.setCells b o vs) b (pre ++ vs).toArray t
  | [], o, pre, w, cs, _, hl, h => by
    have : cs = [] := List.length_eq_zero_iff.1 (by simpa using hl)
    subst this
    exact h
  | v :: vs, o, pre, w, cs, ho, hl, h => by
    obtain ⟨c, cs, rfl⟩ : ∃ c cs', cs = c :: cs' := by cases cs with | nil => simp at hl | cons c cs' => exact ⟨c, cs', rfl⟩
    have h1 := h.set o v
    have e : (pre ++ c :: cs).toArray.setIfInBounds o v = ((pre ++ [v]) ++ cs).toArray := by subst ho; simp
    rw [e] at h1
    have h2 := Box.setCells (w := w) vs (o + 1) (pre ++ [v]) _ cs (by simp [ho]) (by simpa using hl) h1
    have e2 : (pre ++ [v]) ++ vs = pre ++ v :: vs := by simp
    rw [e2] at h2
    exact h2
theorem Box.setAll {w : World} {b : Nat} {cs vs : Array Value} {t : TypeId} (h : Box w b cs t) (hl : cs.size = vs.size) : Box (w.setCells b 0 vs.toList) b vs t := by
  have := Box.setCells (w := w) vs.toList 0 [] w cs.toList rfl (by simpa using hl) (by simpa using h)
  simpa using this
theorem setCells_other {b k : Nat} (hne : k ≠ b) : ∀ (vs : List Value) (o : Nat) (w : World), (w.setCells b o vs).heap[k]? = w.heap[k]?
  | [], _, _ => rfl
  | v :: vs, o, w => (setCells_other hne vs (o + 1) _).trans (Below.heap_setCell w ⟨b, o, none⟩ v k hne)
theorem Below.setCells' {B b : Nat} {a : World} (hp : B ≤ b) : ∀ (vs : List Value) (o : Nat) (w : World), Below B a w → Below B a (w.setCells b o vs)
  | [], _, _, h => h
  | v :: vs, o, _, h => Below.setCells' hp vs (o + 1) _ (h.setCell (p := ⟨b, o, none⟩) hp v)
theorem Box.there {w : World} {b : Nat} {cs : Array Value} {t : TypeId} (h : Box w b cs t) : w.there b 0 cs.size := fun j hj => by
  refine ⟨?_, ?_⟩
  · rw [Nat.zero_add, h.cell j]; simpa using hj
  · rw [Nat.zero_add]; exact h.frozen j

/-- Is a type's value written out in several cells? -/
def aggB : TypeDesc → Bool
  | .struct _ | .array _ _ => true
  | _ => false
theorem load_box {P : Program} {w : World} {b : Nat} {cs : Array Value} {t ty : TypeId} {d : TypeDesc} (hb : Box w b cs t) (hu : P.underlying ty = some d) (hd : aggB d = true) (hi : (P.info? ty).map (·.size) = some cs.size) :
    (loadVar ty ⟨b, 0, none⟩).run P w = .ok (.agg cs) w :=
  run_loadVar_row w b t ty cs (0, 0) d hb hu (by cases d <;> first | rfl | cases hd) hi
/-- A call's end: its one result lies in a box. -/
theorem ret_box {P : Program} {fn : Func} {R : Ending → World → Prop} {a : Act} {w : World} {p : Tmp} {ty : TypeId} {b : Nat} {cs : Array Value} {t : TypeId} {d : TypeDesc} (hres : fn.results = #[.cell p ty])
    (hp : a.tmps.getD p undef = .pointer (some ⟨b, 0, none⟩)) (hb : Box w b cs t) (hu : P.underlying ty = some d) (hd : aggB d = true) (hi : (P.info? ty).map (·.size) = some cs.size) (hdf : a.defers = [])
    (hR : R (.returned (.agg cs)) w) : bodyPost P fn R .ret a w := by
  refine bodyPost_ret (v := .agg cs) ?_ hdf hR
  have hp' : a.tmps[p]?.getD undef = .pointer (some ⟨b, 0, none⟩) := by simpa using hp
  simp [results, hres, hp', asAddr, load_box hb hu hd hi]
/-- .. of two results the first. -/
theorem ret_box2 {P : Program} {fn : Func} {R : Ending → World → Prop} {a : Act} {w : World} {p q : Tmp} {ty : TypeId} {b : Nat} {cs : Array Value} {t : TypeId} {d : TypeDesc} {v : Value} (hres : fn.results = #[.cell p ty, .tmp q])
    (hp : a.tmps.getD p undef = .pointer (some ⟨b, 0, none⟩)) (hq : a.tmps.getD q undef = v) (hb : Box w b cs t) (hu : P.underlying ty = some d) (hd : aggB d = true) (hi : (P.info? ty).map (·.size) = some cs.size) (hdf : a.defers = [])
    (hR : R (.returned (.tuple #[.agg cs, v])) w) : bodyPost P fn R .ret a w := by
  refine bodyPost_ret (v := .tuple #[.agg cs, v]) ?_ hdf hR
  have hp' : a.tmps[p]?.getD undef = .pointer (some ⟨b, 0, none⟩) := by simpa using hp
  have hq' : a.tmps[q]?.getD undef = v := by simpa using hq
  simp [results, hres, hp', hq', asAddr, load_box hb hu hd hi]

theorem calls_abs {P : Program} {f : FuncId} {args : Array Value} {R : Ending → World → Prop} {w : World} (S : World → Prop) (hS : S w) (h : ∀ w', S w' → Calls P f args w' R) : Calls P f args w R := h w hS

theorem Box.set2 {w : World} {b : Nat} {t : TypeId} {a0 a1 : Value} (h : Box w b #[a0, a1] t) (v0 v1 : Value) : Box ((w.setCell ⟨b, 0, none⟩ v0).setCell ⟨b, 1, none⟩ v1) b #[v0, v1] t := (h.set 0 v0).set 1 v1
theorem Box.set3 {w : World} {b : Nat} {t : TypeId} {a0 a1 a2 : Value} (h : Box w b #[a0, a1, a2] t) (v0 v1 v2 : Value) : Box (((w.setCell ⟨b, 0, none⟩ v0).setCell ⟨b, 1, none⟩ v1).setCell ⟨b, 2, none⟩ v2) b #[v0, v1, v2] t := ((h.set 0 v0).set 1 v1).set 2 v2
theorem Box.set4 {w : World} {b : Nat} {t : TypeId} {a0 a1 a2 a3 : Value} (h : Box w b #[a0, a1, a2, a3] t) (v0 v1 v2 v3 : Value) : Box ((((w.setCell ⟨b, 0, none⟩ v0).setCell ⟨b, 1, none⟩ v1).setCell ⟨b, 2, none⟩ v2).setCell ⟨b, 3, none⟩ v3) b #[v0, v1, v2, v3] t := (((h.set 0 v0).set 1 v1).set 2 v2).set 3 v3

/-- Where the walk shall stand still. -/
def Halted (p : Prop) : Prop := p
theorem halted {p : Prop} (h : Halted p) : p := h
theorem Halted.on {p : Prop} (h : p) : Halted p := h
end Go.Proofs.YthggpflfjghooaaDoor

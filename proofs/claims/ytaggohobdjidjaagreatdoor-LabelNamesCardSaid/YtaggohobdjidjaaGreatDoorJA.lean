import Derived.Test.YtaggohobdjidjaaGreatDoorJ0
import Derived.Laws.AppendOwn
import Derived.Sort.Statements
import Derived.Sort.Defs
import Derived.Sort.Walk0

/- Slices that read as lists, whatever their elements: no condition. -/
namespace Go.Proofs.YtaggohobdjidjaaGreatDoor
open Go.RowKit Go.Sort

section
variable {α : Type} {W W' : World} {k : Nat} {enc : α → List Value} {p : Option Addr} {l : List α}

/-- The slice at p reads as l: its elements have k cells each. -/
structure Lies (W : World) (k : Nat) {α : Type} (enc : α → List Value) (p : Option Addr) (l : List α) : Prop where
  form : l = [] ∨ ∃ g o, p = some ⟨g, o, none⟩
  low : ∀ a, p = .some a → l ≠ [] → a.block < W.heap.size
  cell : ∀ g o, p = .some ⟨g, o, none⟩ → ∀ i x, l[i]? = .some x → ∀ j, j < k → W.cell? ⟨g, o + i * k + j, none⟩ = (enc x)[j]?

theorem ne_nil_at {α : Type} {l : List α} {i : Nat} {x : α} (h : l[i]? = .some x) : l ≠ [] := fun e => by subst e; simp at h
theorem Lies.addr (h : Lies W k enc p l) (hl : 0 < l.length) : ∃ g o, p = some ⟨g, o, none⟩ := by
  rcases h.form with rfl | h
  · simp at hl
  · exact h
theorem Lies.lt (_ : Lies W k enc p l) : W.heap.size ≤ W.heap.size := Nat.le_refl _
theorem Lies.below (h : Lies W k enc p l) {B : Nat} (hb : Below B W W') (hB : W.heap.size ≤ B) : Lies W' k enc p l :=
  ⟨h.form, fun a e hl => Nat.lt_of_lt_of_le (h.low a e hl) hb.size, fun g o e i x hx j hj => (hb.cell (p := ⟨g, o + i * k + j, none⟩) (Nat.lt_of_lt_of_le (h.low ⟨g, o, none⟩ e (ne_nil_at hx)) hB)).trans (h.cell g o e i x hx j hj)⟩
theorem Lies.alloc (h : Lies W k enc p l) (o : Obj) : Lies (W.alloc o) k enc p l := h.below ((Below.refl W.heap.size W).alloc (Nat.le_refl _) o) h.lt
/-- At a block aside. -/
theorem Lies.set_other (h : Lies W k enc p l) {b : Nat} (hb : ∀ a, p = .some a → a.block ≠ b) (i : Nat) (v : Value) : Lies (W.setCell ⟨b, i, none⟩ v) k enc p l :=
  ⟨h.form, fun a e hl => by simpa [World.setCell] using h.low a e hl, fun g o e i' x hx j hj => by
    have hn : g ≠ b := hb _ e
    have := Below.heap_setCell W ⟨b, i, none⟩ v g hn
    rw [← h.cell g o e i' x hx j hj]
    simp only [World.cell?, this]⟩
theorem Lies.take (h : Lies W k enc p l) (n : Nat) : Lies W k enc p (l.take n) :=
  ⟨h.form.imp (fun h => by rw [h]; simp) id, fun a e hl => h.low a e (fun e' => hl (by rw [e']; simp)), fun g o e i x hx j hj => h.cell g o e i x (by
    rw [List.getElem?_take] at hx
    split at hx
    · exact hx
    · cases hx) j hj⟩
theorem Lies.drop (h : Lies W k enc p l) (n : Nat) {g o : Nat} (e : p = .some ⟨g, o, none⟩) : Lies W k enc (.some ⟨g, o + n * k, none⟩) (l.drop n) :=
  ⟨.inr ⟨_, _, rfl⟩, fun a e' hl => by cases e'; exact h.low ⟨g, o, none⟩ e (fun e' => hl (by rw [e']; simp)), fun g' o' e' i x hx j hj => by
    cases e'
    rw [List.getElem?_drop] at hx
    rw [← h.cell g o e (n + i) x hx j hj, Nat.add_mul]
    congr 2
    omega⟩

/-- The row of an element, as k facts. -/
theorem Lies.row (h : Lies W k enc p l) {g o i : Nat} {x : α} (e : p = .some ⟨g, o, none⟩) (hx : l[i]? = .some x) : ∀ j, j < k → W.cell? ⟨g, o + i * k + j, none⟩ = (enc x)[j]? := h.cell g o e i x hx

theorem flat_at (hk : ∀ x, (enc x).length = k) (rest : List Value) : ∀ (l : List α) (i : Nat) (x : α), l[i]? = .some x → ∀ j, j < k → (l.flatMap enc ++ rest)[i * k + j]? = (enc x)[j]?
  | [], i, x, h, _, _ => by simp at h
  | y :: l, 0, x, h, j, hj => by
    obtain rfl : y = x := by simpa using h
    have e : ((y :: l).flatMap enc ++ rest) = enc y ++ (l.flatMap enc ++ rest) := by simp
    rw [e, List.getElem?_append_left (by rw [hk]; omega)]
    congr 1
    omega
  | y :: l, i + 1, x, h, j, hj => by
    have e : ((y :: l).flatMap enc ++ rest) = enc y ++ (l.flatMap enc ++ rest) := by simp
    have e1 : (i + 1) * k + j = i * k + j + k := by rw [Nat.add_mul]; omega
    rw [e, List.getElem?_append_right (by rw [hk, e1]; omega), hk, e1, Nat.add_sub_cancel]
    exact flat_at hk rest l i x (by simpa using h) j hj
theorem flat_length (hk : ∀ x, (enc x).length = k) : ∀ l : List α, (l.flatMap enc).length = l.length * k
  | [] => by simp
  | y :: l => by
    have e : (y :: l).flatMap enc = enc y ++ l.flatMap enc := by simp
    rw [e, List.length_append, hk, flat_length hk l, List.length_cons, Nat.add_mul]
    omega

/-- A row that the call owns. -/
theorem Lies.of_owns {B n : Nat} {e : TypeId} {v : Value} (hk : ∀ x, (enc x).length = k) (h : W.ownsRow B e k v n (l.flatMap enc)) (hn : l.length = n) :
    ∃ p cap, v = .slice p n cap ∧ n ≤ cap ∧ Lies W k enc p l ∧ (∀ a, p = .some a → B ≤ a.block) ∧ (p = none → cap = 0) := by
  obtain ⟨-, h⟩ := h
  rcases h with ⟨rfl, rfl⟩ | ⟨g, cap, cur, rfl, hB, hg, hc, -, hsz, ht⟩
  · exact ⟨none, 0, rfl, Nat.le_refl _, ⟨.inl (List.length_eq_zero_iff.1 hn), fun a e => (by cases e), fun g o e => (by cases e)⟩, fun a e => (by cases e), fun _ => rfl⟩
  · refine ⟨.some ⟨g, 0, none⟩, cap, rfl, hc, ⟨.inr ⟨g, 0, rfl⟩, fun a e _ => ?_, fun g' o' e i x hx j hj => ?_⟩, fun a e => ?_, fun e => (by cases e)⟩
    · cases e; exact (Array.getElem?_eq_some_iff.1 hg).1
    · cases e
      have hf := flat_at hk [] l i x hx j hj
      rw [List.append_nil, ← ht, List.getElem?_take] at hf
      rw [Nat.zero_add]
      split at hf
      · rw [← hf]
        simp [World.cell?, hg]
      · rw [← hf]
        rename_i hge
        exfalso
        apply hge
        have h1 : i < l.length := (List.getElem?_eq_some_iff.1 hx).1
        have h2 : (i + 1) * k ≤ n * k := Nat.mul_le_mul_right _ (by omega)
        rw [Nat.add_mul] at h2
        omega
    · cases e; exact hB
def FormP (q : Option Addr) : Prop := q = none ∨ ∃ g o, q = some ⟨g, o, none⟩
theorem form_of_owns {B n : Nat} {e : TypeId} {p : Option Addr} {m cap : Nat} {xs : List Value} (h : W.ownsRow B e k (.slice p m cap) n xs) : FormP p := by
  obtain ⟨-, h⟩ := h
  rcases h with ⟨h, -⟩ | ⟨g, cap, cur, h, -⟩
  · cases h; exact .inl rfl
  · cases h; exact .inr ⟨g, 0, rfl⟩
/-- .. and one in a box. -/
theorem Lies.of_box {g : Nat} {t : TypeId} {rest : List Value} (hk : ∀ x, (enc x).length = k) (h : Box W g (l.flatMap enc ++ rest).toArray t) : Lies W k enc (.some ⟨g, 0, none⟩) l :=
  ⟨.inr ⟨g, 0, rfl⟩, fun a e _ => by cases e; exact h.lt, fun g' o' e i x hx j hj => by
    cases e
    have := h.cell (0 + i * k + j)
    rw [List.getElem?_toArray, Nat.zero_add, flat_at hk rest l i x hx j hj] at this
    rw [Nat.zero_add]
    exact this⟩

/-- Cell for cell. -/
theorem Lies.flat (h : Lies W k enc p l) (hk : ∀ x, (enc x).length = k) {g o : Nat} (e : p = .some ⟨g, o, none⟩) : ∀ j u, (l.flatMap enc)[j]? = .some u → W.cell? ⟨g, o + j, none⟩ = .some u := by
  intro j u hj
  have hlt : j < l.length * k := by
    have := (List.getElem?_eq_some_iff.1 hj).1
    rwa [flat_length hk] at this
  have hk0 : 0 < k := by
    rcases Nat.eq_zero_or_pos k with rfl | h
    · omega
    · exact h
  have hi : j / k < l.length := by rw [Nat.div_lt_iff_lt_mul hk0]; exact hlt
  have hx : l[j / k]? = .some l[j / k] := List.getElem?_eq_getElem hi
  have e2 : j / k * k + j % k = j := by rw [Nat.mul_comm]; exact Nat.div_add_mod j k
  have h1 := h.cell g o e (j / k) _ hx (j % k) (Nat.mod_lt _ hk0)
  have h2 := flat_at hk [] l (j / k) _ hx (j % k) (Nat.mod_lt _ hk0)
  rw [List.append_nil, e2] at h2
  rw [Nat.add_assoc, e2, ← h2, hj] at h1
  exact h1

/-- The call returns a list: its slice is new (or nil). -/
def RetL (w : World) (k : Nat) {α : Type} (enc : α → List Value) (l : List α) (e : Ending) (w' : World) : Prop :=
  ∃ p n cap, e = .returned (.slice p n cap) ∧ n = l.length ∧ n ≤ cap ∧ Lies w' k enc p l ∧ (∀ a, p = .some a → w.heap.size ≤ a.block) ∧ (p = none → n = 0 ∧ cap = 0) ∧ Below w.heap.size w w'
theorem RetL.of_owns {w w' : World} {B n : Nat} {e : TypeId} {v : Value} (hk : ∀ x, (enc x).length = k) (h : w'.ownsRow B e k v n (l.flatMap enc)) (hn : n = l.length) (hB : w.heap.size ≤ B) (hb : Below w.heap.size w w') : RetL w k enc l (.returned v) w' := by
  obtain ⟨p, cap, rfl, h1, h2, h3, h4⟩ := Lies.of_owns hk h hn.symm
  refine ⟨p, n, cap, rfl, hn, h1, h2, fun a e => Nat.le_trans hB (h3 a e), fun e => ⟨?_, h4 e⟩, hb⟩
  have := h4 e
  omega
end
end Go.Proofs.YtaggohobdjidjaaGreatDoor

/- Sorting that keeps what is equal in order, in plain lists: no program, no memory. -/
namespace Go.Proofs.YtaggohobdjidjaaGreatDoor
open Go.Sort

theorem snoc_ind {α : Type} {motive : List α → Prop} (nil : motive []) (snoc : ∀ l x, motive l → motive (l ++ [x])) (l : List α) : motive l := by
  have h : ∀ r : List α, motive r.reverse := fun r => by
    induction r with
    | nil => exact nil
    | cons x r ih => rw [List.reverse_cons]; exact snoc _ _ ih
  simpa using h l.reverse

section
variable {α : Type} (lt : α → α → Bool)

/-- x into a list that is given from its end: behind the last element that is not greater. -/
def insRev (x : α) : List α → List α
  | [] => [x]
  | y :: l => if lt x y then y :: insRev x l else x :: y :: l
def insR (x : α) (l : List α) : List α := (insRev lt x l.reverse).reverse
/-- The sort by insertion. -/
def isort (l : List α) : List α := l.foldl (fun acc x => insR lt x acc) []

theorem insR_nil (x : α) : insR lt x [] = [x] := rfl
theorem insR_snoc (x y : α) (l : List α) : insR lt x (l ++ [y]) = if lt x y then insR lt x l ++ [y] else l ++ [y, x] := by
  unfold insR
  rw [List.reverse_append]
  show (insRev lt x (y :: l.reverse)).reverse = _
  have e : insRev lt x (y :: l.reverse) = if lt x y then y :: insRev lt x l.reverse else x :: y :: l.reverse := rfl
  rw [e]
  split
  · simp
  · simp
theorem isort_snoc (l : List α) (x : α) : isort lt (l ++ [x]) = insR lt x (isort lt l) := by unfold isort; rw [List.foldl_append]; rfl
theorem insR_length (x : α) : ∀ l : List α, (insR lt x l).length = l.length + 1 := by
  intro l
  have : ∀ l : List α, (insRev lt x l).length = l.length + 1 := by
    intro l
    induction l with
    | nil => rfl
    | cons y l ih =>
      unfold insRev
      split
      · simp [ih]
      · simp
  unfold insR
  rw [List.length_reverse, this, List.length_reverse]
theorem isort_length (l : List α) : (isort lt l).length = l.length := by
  induction l using snoc_ind with
  | nil => rfl
  | snoc l x ih => rw [isort_snoc, insR_length, ih, List.length_append]; rfl

/-- In order. -/
def Srt (l : List α) : Prop := l.Pairwise fun x y => lt y x = false

/-- The merge that keeps what is equal in order: the first list's ahead. -/
def mrg : List α → List α → List α
  | [], ys => ys
  | xs, [] => xs
  | x :: xs, y :: ys => if lt y x then y :: mrg (x :: xs) ys else x :: mrg xs (y :: ys)
termination_by xs ys => xs.length + ys.length

theorem mrg_nil_left (ys : List α) : mrg lt [] ys = ys := by unfold mrg; rfl
theorem mrg_nil_right (xs : List α) : mrg lt xs [] = xs := by cases xs <;> (unfold mrg; rfl)
theorem mrg_cons (x y : α) (xs ys : List α) : mrg lt (x :: xs) (y :: ys) = if lt y x then y :: mrg lt (x :: xs) ys else x :: mrg lt xs (y :: ys) := by
  conv => lhs; unfold mrg

theorem mrg_length : ∀ (xs ys : List α), (mrg lt xs ys).length = xs.length + ys.length
  | [], ys => by rw [mrg_nil_left]; simp
  | x :: xs, [] => by rw [mrg_nil_right]; simp
  | x :: xs, y :: ys => by
    rw [mrg_cons]
    split
    · rw [List.length_cons, mrg_length (x :: xs) ys]; simp; omega
    · rw [List.length_cons, mrg_length xs (y :: ys)]; simp; omega
termination_by xs ys => xs.length + ys.length

/-- All of the first list lie ahead: nothing moves. -/
theorem mrg_apart : ∀ (xs ys : List α), (∀ x ∈ xs, ∀ y ∈ ys, lt y x = false) → mrg lt xs ys = xs ++ ys
  | [], ys, _ => mrg_nil_left lt ys
  | x :: xs, [], _ => by rw [mrg_nil_right]; simp
  | x :: xs, y :: ys, h => by
    rw [mrg_cons, if_neg (by rw [h x (by simp) y (by simp)]; simp), mrg_apart xs (y :: ys) (fun a ha b hb => h a (by simp [ha]) b hb)]
    rfl
termination_by xs ys => xs.length + ys.length

/-- All of the second list lie ahead. -/
theorem mrg_before : ∀ (xs ys zs : List α), (∀ x ∈ xs, ∀ y ∈ ys, lt y x = true) → mrg lt xs (ys ++ zs) = ys ++ mrg lt xs zs
  | [], ys, zs, _ => by rw [mrg_nil_left, mrg_nil_left]
  | x :: xs, [], zs, _ => rfl
  | x :: xs, y :: ys, zs, h => by
    rw [List.cons_append, mrg_cons, if_pos (h x (by simp) y (by simp)), mrg_before (x :: xs) ys zs (fun a ha b hb => h a ha b (by simp [hb]))]
    rfl
termination_by xs ys _ => xs.length + ys.length

/-- The merge falls into two where the lists are cut alike. -/
theorem mrg_split : ∀ (a1 a2 b1 b2 : List α), (∀ x ∈ a1, ∀ y ∈ b2, lt y x = false) → (∀ x ∈ a2, ∀ y ∈ b1, lt y x = true) → mrg lt (a1 ++ a2) (b1 ++ b2) = mrg lt a1 b1 ++ mrg lt a2 b2
  | [], a2, b1, b2, _, h2 => by rw [List.nil_append, mrg_nil_left, mrg_before lt a2 b1 b2 h2]
  | x :: a1, a2, [], b2, h1, h2 => by
    rw [List.nil_append, mrg_nil_right]
    cases b2 with
    | nil => rw [mrg_nil_right, mrg_nil_right]
    | cons y b2 =>
      have ih := mrg_split a1 a2 [] (y :: b2) (fun a ha b hb => h1 a (by simp [ha]) b hb) h2
      rw [List.nil_append, mrg_nil_right] at ih
      rw [List.cons_append, mrg_cons, if_neg (by rw [h1 x (by simp) y (by simp)]; simp), ih]
      rfl
  | x :: a1, a2, y :: b1, b2, h1, h2 => by
    rw [List.cons_append, List.cons_append, mrg_cons, mrg_cons]
    split
    · have ih := mrg_split (x :: a1) a2 b1 b2 h1 (fun a ha b hb => h2 a ha b (by simp [hb]))
      rw [List.cons_append] at ih
      rw [ih]; rfl
    · have ih := mrg_split a1 a2 (y :: b1) b2 (fun a ha b hb => h1 a (by simp [ha]) b hb) h2
      rw [List.cons_append] at ih
      rw [ih]; rfl
termination_by a1 _ b1 _ => a1.length + b1.length

/-- x into a list from its head: ahead of the first element that is greater. -/
def insL (x : α) : List α → List α
  | [] => [x]
  | y :: l => if lt x y then x :: y :: l else y :: insL x l

theorem insL_last (x : α) : ∀ l : List α, (∀ z ∈ l, lt x z = false) → insL lt x l = l ++ [x]
  | [], _ => rfl
  | y :: l, h => by
    unfold insL
    rw [if_neg (by rw [h y (by simp)]; simp), insL_last x l (fun z hz => h z (by simp [hz]))]
    rfl
theorem insL_snoc (x y : α) (h : lt x y = true) : ∀ l : List α, insL lt x (l ++ [y]) = insL lt x l ++ [y]
  | [] => by
    show insL lt x [y] = _
    unfold insL
    rw [if_pos h]
    rfl
  | z :: l => by
    rw [List.cons_append]
    unfold insL
    split
    · rfl
    · rw [insL_snoc x y h l]; rfl

variable {lt} (S : SWO lt)
include S

theorem swo_asymm {x y : α} (h : lt x y = true) : lt y x = false := by
  cases k : lt y x with
  | false => rfl
  | true => have := S.trans x y x h k; rw [S.irrefl] at this; cases this

theorem insR_eq (x : α) (l : List α) (h : Srt lt l) : insR lt x l = insL lt x l := by
  induction l using snoc_ind with
  | nil => rfl
  | snoc l y ih =>
    rw [insR_snoc]
    have hp := List.pairwise_append.1 h
    split
    · rename_i hxy
      rw [insL_snoc lt x y hxy, ih hp.1]
    · rename_i hxy
      have hxy' : lt x y = false := by simpa using hxy
      rw [insL_last]
      · simp
      · intro z hz
        rcases List.mem_append.1 hz with hz | hz
        · exact S.ntrans x y z hxy' (hp.2.2 z hz y (by simp))
        · simp at hz; rw [hz]; exact hxy'

omit S in
theorem mem_insL {x z : α} : ∀ {l : List α}, z ∈ insL lt x l → z = x ∨ z ∈ l
  | [], h => by simpa [insL] using h
  | y :: l, h => by
    unfold insL at h
    split at h
    · simpa using h
    · rcases List.mem_cons.1 h with h | h
      · exact .inr (by simp [h])
      · rcases mem_insL h with h | h
        · exact .inl h
        · exact .inr (by simp [h])

theorem insL_srt (x : α) : ∀ l : List α, Srt lt l → Srt lt (insL lt x l)
  | [], _ => List.pairwise_singleton _ _
  | y :: l, h => by
    have hp := List.pairwise_cons.1 h
    unfold insL
    split
    · rename_i hxy
      refine List.pairwise_cons.2 ⟨fun z hz => ?_, h⟩
      rcases List.mem_cons.1 hz with rfl | hz
      · exact swo_asymm S hxy
      · exact S.ntrans z y x (hp.1 z hz) (swo_asymm S hxy)
    · rename_i hxy
      refine List.pairwise_cons.2 ⟨fun z hz => ?_, insL_srt x l hp.2⟩
      rcases mem_insL hz with rfl | hz
      · simpa using hxy
      · exact hp.1 z hz

theorem isort_srt (l : List α) : Srt lt (isort lt l) := by
  induction l using snoc_ind with
  | nil => exact List.Pairwise.nil
  | snoc l x ih =>
    rw [isort_snoc, insR_eq S x _ ih]
    exact insL_srt S x _ ih

theorem mrg_insL (y : α) : ∀ (xs ys : List α), mrg lt xs (insL lt y ys) = insL lt y (mrg lt xs ys)
  | [], ys => by rw [mrg_nil_left, mrg_nil_left]
  | x :: xs, [] => by
    rw [mrg_nil_right]
    show mrg lt (x :: xs) [y] = _
    rw [mrg_cons]
    conv => rhs; unfold insL
    split
    · rw [mrg_nil_right]
    · have ih := mrg_insL y xs []
      rw [mrg_nil_right] at ih
      rw [← ih]; rfl
  | x :: xs, z :: ys => by
    have e : insL lt y (z :: ys) = if lt y z then y :: z :: ys else z :: insL lt y ys := by conv => lhs; unfold insL
    rw [mrg_cons]
    by_cases hzx : lt z x = true
    · rw [if_pos hzx]
      have e2 : ∀ M, insL lt y (z :: M) = if lt y z then y :: z :: M else z :: insL lt y M := fun M => by conv => lhs; unfold insL
      rw [e, e2]
      by_cases hyz : lt y z = true
      · rw [if_pos hyz, if_pos hyz, mrg_cons, if_pos (S.trans y z x hyz hzx), mrg_cons, if_pos hzx]
      · rw [if_neg hyz, if_neg hyz, mrg_cons, if_pos hzx, mrg_insL y (x :: xs) ys]
    · rw [if_neg hzx]
      have e2 : ∀ M, insL lt y (x :: M) = if lt y x then y :: x :: M else x :: insL lt y M := fun M => by conv => lhs; unfold insL
      have ih := mrg_insL y xs (z :: ys)
      rw [e, e2]
      rw [e] at ih
      by_cases hyz : lt y z = true
      · rw [if_pos hyz, mrg_cons]
        rw [if_pos hyz] at ih
        by_cases hyx : lt y x = true
        · rw [if_pos hyx, if_pos hyx, mrg_cons, if_neg hzx]
        · rw [if_neg hyx, if_neg hyx, ih]
      · rw [if_neg hyz, mrg_cons, if_neg hzx]
        rw [if_neg hyz] at ih
        have hyx : lt y x = false := S.ntrans y z x (by simpa using hyz) (by simpa using hzx)
        rw [if_neg (by rw [hyx]; simp), ih]
termination_by xs ys => xs.length + ys.length

/-- Two sorted parts, merged: the whole, sorted. -/
theorem mrg_isort (l1 l2 : List α) : mrg lt (isort lt l1) (isort lt l2) = isort lt (l1 ++ l2) := by
  induction l2 using snoc_ind with
  | nil =>
    rw [List.append_nil]
    exact mrg_nil_right lt _
  | snoc l2 y ih =>
    rw [isort_snoc, insR_eq S y _ (isort_srt S _), mrg_insL S, ih, ← List.append_assoc, isort_snoc, insR_eq S y _ (isort_srt S _)]
end
end Go.Proofs.YtaggohobdjidjaaGreatDoor

/- The library's insertion sort on an array is the sort by insertion of the list. -/
namespace Go.Proofs.YtaggohobdjidjaaGreatDoor
open Go.Sort

section
variable {α : Type} [Inhabited α] (lt : α → α → Bool)

theorem at_mid {d : Array α} {p q : List α} {x : α} (h : d.toList = p ++ x :: q) {i : Nat} (hi : i = p.length) : d[i]! = x := by
  subst hi
  have hs : p.length < d.size := by
    have := congrArg List.length h
    simp at this; omega
  rw [getElem!_pos d p.length hs, ← Array.getElem_toList]
  simp [h]

theorem swp_list {d : Array α} {p q : List α} {x y : α} (h : d.toList = p ++ y :: x :: q) {i : Nat} (hi : i = p.length) : (swp d (i + 1) i).toList = p ++ x :: y :: q := by
  subst hi
  have e1 : d[p.length]! = y := at_mid h rfl
  have e2 : d[p.length + 1]! = x := at_mid (p := p ++ [y]) (q := q) (by rw [h]; simp) (by simp)
  unfold swp
  rw [e1, e2, Array.toList_setIfInBounds, Array.toList_setIfInBounds, h]
  have s1 : (p ++ y :: x :: q).set (p.length + 1) y = p ++ y :: y :: q := by
    rw [List.set_append_right _ _ (by omega)]
    simp [Nat.add_sub_cancel_left]
  rw [s1, List.set_append_right _ _ (by omega)]
  simp

theorem insInner_list (a : Nat) (x : α) : ∀ (l : List α) (pre post : List α) (d : Array α), pre.length = a → d.toList = pre ++ l ++ x :: post → (insInner lt a (a + l.length) d).toList = pre ++ insR lt x l ++ post := by
  intro l
  induction l using snoc_ind with
  | nil =>
    intro pre post d hp hd
    have e : insInner lt a (a + 0) d = d := by
      cases a with
      | zero => rfl
      | succ a => show (if _ then _ else _) = _; rw [if_neg (by simp)]
    show (insInner lt a (a + 0) d).toList = _
    rw [e, hd, insR_nil]
    simp
  | snoc l y ih =>
    intro pre post d hp hd
    have hd' : d.toList = (pre ++ l) ++ y :: x :: post := by rw [hd]; simp
    have hlen : (pre ++ l).length = a + l.length := by rw [List.length_append, hp]
    have ex : d[a + l.length + 1]! = x := at_mid (p := pre ++ l ++ [y]) (q := post) (by rw [hd']; simp) (by rw [List.length_append, hlen]; rfl)
    have ey : d[a + l.length]! = y := at_mid hd' hlen.symm
    rw [List.length_append, List.length_singleton, ← Nat.add_assoc]
    show (if a + l.length + 1 > a && lt d[a + l.length + 1]! d[a + l.length]! then insInner lt a (a + l.length) (swp d (a + l.length + 1) (a + l.length)) else d).toList = _
    rw [ex, ey, insR_snoc]
    by_cases hxy : lt x y = true
    · have e3 : (swp d (a + l.length + 1) (a + l.length)).toList = pre ++ l ++ x :: (y :: post) := swp_list hd' hlen.symm
      rw [if_pos (by simp [hxy]; omega), if_pos hxy, ih pre (y :: post) _ hp e3]
      simp
    · rw [if_neg (by simp [hxy]), if_neg hxy, hd]
      simp

theorem insOuter_list (a : Nat) : ∀ (r s pre post : List α) (d : Array α), pre.length = a → d.toList = pre ++ s ++ r ++ post → (insOuter lt a (a + s.length + r.length) (a + s.length) d).toList = pre ++ r.foldl (fun acc x => insR lt x acc) s ++ post := by
  intro r
  induction r with
  | nil =>
    intro s pre post d hp hd
    rw [insOuter, if_neg (by simp), hd]
    simp
  | cons x r ih =>
    intro s pre post d hp hd
    rw [insOuter, if_pos (by simp)]
    have h1 := insInner_list lt a x s pre (r ++ post) d hp (by rw [hd]; simp)
    have h2 := ih (insR lt x s) pre post (insInner lt a (a + s.length) d) hp (by rw [h1]; simp)
    rw [insR_length] at h2
    have e1 : a + (s.length + 1) + r.length = a + s.length + (x :: r).length := by simp; omega
    have e2 : a + (s.length + 1) = a + s.length + 1 := by omega
    rw [e1, e2] at h2
    exact h2

theorem insertionSort_list (l pre post : List α) (d : Array α) (hd : d.toList = pre ++ l ++ post) : (insertionSort lt d pre.length (pre.length + l.length)).toList = pre ++ isort lt l ++ post := by
  unfold insertionSort isort
  cases l with
  | nil =>
    rw [insOuter, if_neg (by simp), hd]
    rfl
  | cons x r =>
    have h := insOuter_list lt pre.length r [x] pre post d rfl (by rw [hd]; simp)
    have e1 : pre.length + [x].length + r.length = pre.length + (x :: r).length := by simp; omega
    rw [e1] at h
    exact h
end
end Go.Proofs.YtaggohobdjidjaaGreatDoor

/- Labels in plain numbers, and their order: no program, no memory. -/
namespace Go.Proofs.YtaggohobdjidjaaGreatDoor
open Go Go.Sort

/-- A label: its Id, its point, its size, its rank. -/
structure Lab where
  id : ByteArray
  x : Int
  y : Int
  w : Int
  h : Int
  r : Int
instance : Inhabited Lab := ⟨⟨ByteArray.empty, 0, 0, 0, 0, 0⟩⟩

theorem bytesLess_irrefl : ∀ x : List UInt8, Op.bytesLess x x = false
  | [] => rfl
  | a :: x => by
    show (decide (a < a) || (a == a && Op.bytesLess x x)) = false
    rw [bytesLess_irrefl x]
    simp
/-- Three texts: one of three. -/
theorem bytesLess_tri : ∀ x y : List UInt8, Op.bytesLess x y = false → Op.bytesLess y x = false → x = y
  | [], [], _, _ => rfl
  | [], _ :: _, h, _ => by cases h
  | _ :: _, [], _, h => by cases h
  | a :: x, b :: y, h1, h2 => by
    have e1 : Op.bytesLess (a :: x) (b :: y) = (decide (a < b) || (a == b && Op.bytesLess x y)) := rfl
    have e2 : Op.bytesLess (b :: y) (a :: x) = (decide (b < a) || (b == a && Op.bytesLess y x)) := rfl
    rw [e1] at h1
    rw [e2] at h2
    simp only [Bool.or_eq_false_iff, decide_eq_false_iff_not] at h1 h2
    have hab : a = b := UInt8.le_antisymm (UInt8.not_lt.1 h2.1) (UInt8.not_lt.1 h1.1)
    subst hab
    simp only [beq_self_eq_true, Bool.true_and] at h1 h2
    rw [bytesLess_tri x y h1.2 h2.2]
theorem bytesLess_trans : ∀ x y z : List UInt8, Op.bytesLess x y = true → Op.bytesLess y z = true → Op.bytesLess x z = true
  | [], [], _, h, _ => by cases h
  | _ :: _, [], _, h, _ => by cases h
  | _, _ :: _, [], _, h => by cases h
  | [], _ :: _, _ :: _, _, _ => rfl
  | a :: x, b :: y, c :: z, h1, h2 => by
    have e1 : Op.bytesLess (a :: x) (b :: y) = (decide (a < b) || (a == b && Op.bytesLess x y)) := rfl
    have e2 : Op.bytesLess (b :: y) (c :: z) = (decide (b < c) || (b == c && Op.bytesLess y z)) := rfl
    have e3 : Op.bytesLess (a :: x) (c :: z) = (decide (a < c) || (a == c && Op.bytesLess x z)) := rfl
    rw [e1] at h1
    rw [e2] at h2
    rw [e3]
    simp only [Bool.or_eq_true, decide_eq_true_eq, Bool.and_eq_true, beq_iff_eq] at h1 h2 ⊢
    rcases h1 with h1 | ⟨rfl, h1⟩
    · rcases h2 with h2 | ⟨rfl, h2⟩
      · exact .inl (UInt8.lt_trans h1 h2)
      · exact .inl h1
    · rcases h2 with h2 | ⟨rfl, h2⟩
      · exact .inl h2
      · exact .inr ⟨rfl, bytesLess_trans x y z h1 h2⟩

/-- The more important one: by rank, then by Id. -/
def ltL (a b : Lab) : Bool := decide (a.r < b.r) || (decide (a.r = b.r) && Op.bytesLess a.id.toList b.id.toList)

theorem ltL_swo : SWO ltL where
  irrefl x := by unfold ltL; rw [bytesLess_irrefl]; simp
  trans x y z h1 h2 := by
    unfold ltL at *
    simp only [Bool.or_eq_true, decide_eq_true_eq, Bool.and_eq_true] at h1 h2 ⊢
    rcases h1 with h1 | ⟨e1, h1⟩
    · rcases h2 with h2 | ⟨e2, h2⟩
      · exact .inl (by omega)
      · exact .inl (by omega)
    · rcases h2 with h2 | ⟨e2, h2⟩
      · exact .inl (by omega)
      · exact .inr ⟨by omega, bytesLess_trans _ _ _ h1 h2⟩
  ntrans x y z h1 h2 := by
    unfold ltL at *
    simp only [Bool.or_eq_false_iff, decide_eq_false_iff_not, Bool.and_eq_false_iff] at h1 h2 ⊢
    refine ⟨by omega, ?_⟩
    by_cases e : x.r = z.r
    · right
      have e1 : x.r = y.r := by omega
      have e2 : y.r = z.r := by omega
      have k1 : Op.bytesLess x.id.toList y.id.toList = false := h1.2.resolve_left (fun h => h e1)
      have k2 : Op.bytesLess y.id.toList z.id.toList = false := h2.2.resolve_left (fun h => h e2)
      cases k : Op.bytesLess x.id.toList z.id.toList with
      | false => rfl
      | true =>
        cases k3 : Op.bytesLess y.id.toList x.id.toList with
        | true =>
          have := bytesLess_trans _ _ _ k3 k
          rw [k2] at this; cases this
        | false =>
          have := bytesLess_tri _ _ k1 k3
          rw [this, k2] at k; cases k
    · exact .inl e
end Go.Proofs.YtaggohobdjidjaaGreatDoor

/- Where the merge may be cut in two: in plain lists. -/
namespace Go.Proofs.YtaggohobdjidjaaGreatDoor
open Go.Sort

section
variable {α : Type} {lt : α → α → Bool} (S : SWO lt)
include S

theorem srt_last {p : List α} {x z : α} (h : Srt lt (p ++ [x])) (hz : z ∈ p ++ [x]) : lt x z = false := by
  rcases List.mem_append.1 hz with hz | hz
  · exact (List.pairwise_append.1 h).2.2 z hz x (by simp)
  · simp at hz; rw [hz]; exact S.irrefl x
theorem srt_head {q : List α} {y z : α} (h : Srt lt (y :: q)) (hz : z ∈ y :: q) : lt z y = false := by
  rcases List.mem_cons.1 hz with rfl | hz
  · exact S.irrefl z
  · exact (List.pairwise_cons.1 h).1 z hz

theorem mrg_cut {a1 a2 b1 b2 : List α} (hA : Srt lt (a1 ++ a2)) (hB : Srt lt (b1 ++ b2))
    (h1 : a1 = [] ∨ b2 = [] ∨ ∃ p x y q, a1 = p ++ [x] ∧ b2 = y :: q ∧ lt y x = false)
    (h2 : a2 = [] ∨ b1 = [] ∨ ∃ x q p y, a2 = x :: q ∧ b1 = p ++ [y] ∧ lt y x = true) : mrg lt (a1 ++ a2) (b1 ++ b2) = mrg lt a1 b1 ++ mrg lt a2 b2 := by
  have A := List.pairwise_append.1 hA
  have B := List.pairwise_append.1 hB
  apply mrg_split
  · intro x' hx y' hy
    rcases h1 with rfl | rfl | ⟨p, x, y, q, rfl, rfl, h⟩
    · cases hx
    · cases hy
    · exact S.ntrans y' x x' (S.ntrans y' y x (srt_head S B.2.1 hy) h) (srt_last S A.1 hx)
  · intro x' hx y' hy
    rcases h2 with rfl | rfl | ⟨x, q, p, y, rfl, rfl, h⟩
    · cases hx
    · cases hy
    · cases k : lt y' x' with
      | true => rfl
      | false =>
        have := S.ntrans y y' x (srt_last S B.1 hy) (S.ntrans y' x' x k (srt_head S A.2.1 hx))
        rw [h] at this; cases this

omit S in
/-- One element ahead of a sorted list, and behind one. -/
theorem mrg_one_left (x : α) : ∀ (p q : List α), (∀ z ∈ p, lt z x = true) → (∀ z ∈ q, lt z x = false) → mrg lt [x] (p ++ q) = p ++ x :: q := by
  intro p q hp hq
  rw [mrg_before lt [x] p q (fun a ha b hb => by simp at ha; rw [ha]; exact hp b hb), mrg_apart lt [x] q (fun a ha b hb => by simp at ha; rw [ha]; exact hq b hb)]
  rfl
end

section
variable {α : Type} {lt : α → α → Bool}
theorem mrg_one_right (y : α) : ∀ (p q : List α), (∀ z ∈ p, lt y z = false) → (∀ z ∈ q, lt y z = true) → mrg lt (p ++ q) [y] = p ++ y :: q
  | [], [], _, _ => by rw [List.nil_append, mrg_nil_left]; rfl
  | [], z :: q, _, hq => by
    rw [List.nil_append, mrg_cons, if_pos (hq z (by simp)), mrg_nil_right]
    rfl
  | z :: p, q, hp, hq => by
    rw [List.cons_append, mrg_cons, if_neg (by rw [hp z (by simp)]; simp), mrg_one_right y p q (fun a ha => hp a (by simp [ha])) hq]
    rfl
end
end Go.Proofs.YtaggohobdjidjaaGreatDoor

/- Two parts of a list exchanged, element for element: in plain lists. -/
namespace Go.Proofs.YtaggohobdjidjaaGreatDoor

section
variable {α : Type}
/-- Behind i exchanges. -/
def swapped (pre X mid Y post : List α) (i : Nat) : List α := pre ++ (Y.take i ++ X.drop i) ++ mid ++ (X.take i ++ Y.drop i) ++ post

theorem swapped_zero (pre X mid Y post : List α) : swapped pre X mid Y post 0 = pre ++ X ++ mid ++ Y ++ post := by simp [swapped]
theorem swapped_all (pre X mid Y post : List α) (h : X.length = Y.length) : swapped pre X mid Y post X.length = pre ++ Y ++ mid ++ X ++ post := by
  unfold swapped
  rw [List.take_of_length_le (by omega), List.drop_of_length_le (Nat.le_refl _), List.take_of_length_le (Nat.le_refl _), List.drop_of_length_le (by omega)]
  simp
/-- The step, as the cut lists show it. -/
theorem swapped_cut (pre X mid Y post : List α) (h : X.length = Y.length) {i : Nat} (hi : i < X.length) :
    ∃ x y A B C, X.drop i = x :: X.drop (i + 1) ∧ A = pre ++ Y.take i ∧ B = X.drop (i + 1) ++ mid ++ X.take i ∧ C = Y.drop (i + 1) ++ post ∧
      swapped pre X mid Y post i = A ++ x :: (B ++ y :: C) ∧ swapped pre X mid Y post (i + 1) = A ++ y :: (B ++ x :: C) ∧ A.length = pre.length + i ∧ B.length + 1 = X.length + mid.length := by
  have hy : i < Y.length := by omega
  have d1 : X.drop i = X[i] :: X.drop (i + 1) := List.drop_eq_getElem_cons hi
  have d2 : Y.drop i = Y[i] :: Y.drop (i + 1) := List.drop_eq_getElem_cons hy
  have e1 : X.take (i + 1) = X.take i ++ [X[i]] := List.take_succ_eq_append_getElem hi
  have e2 : Y.take (i + 1) = Y.take i ++ [Y[i]] := List.take_succ_eq_append_getElem hy
  have l1 : (Y.take i).length = i := by simp; omega
  have l2 : (X.take i).length = i := by simp; omega
  have l3 : (X.drop (i + 1)).length = X.length - (i + 1) := by simp
  refine ⟨X[i], Y[i], _, _, _, d1, rfl, rfl, rfl, ?_, ?_, ?_, ?_⟩
  · unfold swapped
    rw [d1, d2]
    generalize X[i] = x
    generalize Y[i] = y
    generalize X.drop (i + 1) = X'
    generalize Y.drop (i + 1) = Y'
    simp
  · unfold swapped
    rw [e1, e2]
    generalize X[i] = x
    generalize Y[i] = y
    generalize X.drop (i + 1) = X'
    generalize Y.drop (i + 1) = Y'
    simp
  · rw [List.length_append, l1]
  · rw [List.length_append, List.length_append, l2, l3]; omega
end
end Go.Proofs.YtaggohobdjidjaaGreatDoor

/- Two parts of an array exchanged, and its list: no program, no memory. -/
namespace Go.Proofs.YtaggohobdjidjaaGreatDoor
open Go.Sort

section
variable {α : Type} [Inhabited α]
/-- i exchanges: p + j with q + j. -/
def swapR (d : Array α) (p q : Nat) : Nat → Array α
  | 0 => d
  | i + 1 => swp (swapR d p q i) (p + i) (q + i)

@[simp] theorem size_swapR (d : Array α) (p q i : Nat) : (swapR d p q i).size = d.size := by
  induction i with
  | zero => rfl
  | succ i ih => unfold swapR; unfold swp; rw [Array.size_setIfInBounds, Array.size_setIfInBounds, ih]

theorem swp_far {d : Array α} {A B C : List α} {x y : α} (h : d.toList = A ++ x :: (B ++ y :: C)) {i j : Nat} (hi : i = A.length) (hj : j = A.length + (B.length + 1)) : (swp d i j).toList = A ++ y :: (B ++ x :: C) := by
  have e1 : d[i]! = x := at_mid h hi
  have e2 : d[j]! = y := at_mid (p := A ++ x :: B) (q := C) (by rw [h]; simp) (by simp; omega)
  unfold swp
  rw [e1, e2, Array.toList_setIfInBounds, Array.toList_setIfInBounds, h]
  subst hi hj
  simp [List.set_append_right]

theorem swapR_list {d : Array α} {pre X mid Y post : List α} (h : d.toList = pre ++ X ++ mid ++ Y ++ post) (hl : X.length = Y.length) {p q : Nat} (hp : p = pre.length) (hq : q = pre.length + X.length + mid.length) :
    ∀ i, i ≤ X.length → (swapR d p q i).toList = swapped pre X mid Y post i
  | 0, _ => by rw [swapped_zero]; exact h
  | i + 1, hi => by
    obtain ⟨x, y, A, B, C, -, -, -, -, e1, e2, hA, hB⟩ := swapped_cut pre X mid Y post hl (i := i) (by omega)
    have ih := swapR_list h hl hp hq i (by omega)
    rw [e1] at ih
    rw [e2]
    unfold swapR
    exact swp_far ih (by omega) (by omega)
theorem swapR_all {d : Array α} {pre X mid Y post : List α} (h : d.toList = pre ++ X ++ mid ++ Y ++ post) (hl : X.length = Y.length) {p q n : Nat} (hp : p = pre.length) (hq : q = pre.length + X.length + mid.length) (hn : n = X.length) :
    (swapR d p q n).toList = pre ++ Y ++ mid ++ X ++ post := by
  subst hn
  rw [swapR_list h hl hp hq _ (Nat.le_refl _), swapped_all pre X mid Y post hl]
end
end Go.Proofs.YtaggohobdjidjaaGreatDoor

import Derived.Test.YtaggohobdjidjaaGreatDoorJD
import Derived.Test.YtaggohobdjidjaaGreatDoorJA
import Derived.Deep.AppendLies
import Derived.Laws.OwnMore
import Derived.Test.YtaggohobdjidjaaGreatDoorJP
import Derived.Deep.RegionHeld3

/- append of a list to a list that the call owns; insertion at a place. -/
namespace Go.Proofs.YtaggohobdjidjaaGreatDoor
open Go.RowKit Go.Sort

section
variable {P : Program} {α : Type} {enc : α → List Value} {k : Nat}

theorem grown_none {w : World} (row : Option Nat) : w.grownBy w row := ⟨rfl, rfl, rfl, Nat.le_refl _, fun _ _ _ => rfl⟩

theorem run_append_lst {w : World} (hk : ∀ x, (enc x).length = k) (hone : ∀ x, ∀ u ∈ enc x, u.oneCell' = true) (base : Nat) (t ty e : TypeId) (i : TypeInfo) (z : Value) (bytes : Nat) (ht : P.underlying t = some (.slice e)) (hi : P.info? e = some i) (hz : i.zero = some z)
    (hsize : i.size = k) (hby : i.bytes = bytes) (hzs : z.cells.size = k) (hsz : 0 < k) (v : Value) (n : Nat) (l1 l2 : List α) (hown : w.ownsRow base e k v n (l1.flatMap enc)) (q : Option Addr) (m c : Nat) (hL : Lies w k enc q l2) (hm : m = l2.length) (hq : q = none → c = 0)
    (h63 : n + m ≤ maxLen) (hbytes : (n + m) * bytes ≤ 140737488355328) (hbase : base ≤ w.heap.size) :
    ∃ v' w', (Builtin.append_ #[t, t] ty #[v, .slice q m c]).run P w = .ok v' w' ∧ w'.ownsRow base e k v' (n + m) ((l1 ++ l2).flatMap enc) ∧ w.grownBy w' v.ownBlock := by
  rcases q with _ | ad
  · obtain rfl : l2 = [] := by
      rcases hL.form with h | ⟨_, _, h⟩
      · exact h
      · cases h
    obtain rfl : m = 0 := hm
    obtain rfl : c = 0 := hq rfl
    exact ⟨v, w, run_append_owned_none (w := w) base t ty e i k ht hi v n _ hown, by simpa using hown, grown_none _⟩
  · obtain ⟨v', w', hr, h2, h3, -, -⟩ := run_append_own_at (P := P) w base t ty e i z k bytes ht hi hz hsize hby hzs hsz v n _ hown ad m c (l2.flatMap enc) (by rw [flat_length hk, hm]) (fun j u hu => by
      obtain ⟨g, o, rfl⟩ : ∃ g o, ad = ⟨g, o, none⟩ := by
        rcases hL.form with h | ⟨g, o, h⟩
        · rw [h] at hu; simp at hu
        · cases h; exact ⟨g, o, rfl⟩
      have := hL.flat hk rfl j u hu
      rw [← this]
      congr 1
      unfold Addr.add
      split
      · rename_i h0; rw [h0]; rfl
      · rfl) (fun u hu => by
      obtain ⟨x, -, hx⟩ := List.mem_flatMap.1 hu
      exact hone x u hx) h63 hbytes hbase
    exact ⟨v', w', hr, by rw [List.flatMap_append]; exact h2, h3⟩

/-- Behind an append to a row that the call owns. -/
theorem below_own {w w' W : World} {B : Nat} {e : TypeId} {v : Value} {n : Nat} {xs : List Value} (hb : Below B W w) (hB : B ≤ w.heap.size) (hown : w.ownsRow B e k v n xs) (hg : w.grownBy w' v.ownBlock) : Below B W w' :=
  hb.grown hg hB (fun g h => (hown.lt g h).1)
theorem step_append_lst {w : World} {ops : Array Oper} {o : Oper} {a : Act} {K : Act → World → Prop} {Q : Exit → Act → World → Prop} {E : Prop} (hk : ∀ x, (enc x).length = k) (hone : ∀ x, ∀ u ∈ enc x, u.oneCell' = true) (hgd : o.guard = none) (s x : Operand) (t : TypeId)
    (ho : o.op = .call { callee := .builtin .append, args := #[s, x], argTypes := #[t, t] })
    (W : World) (hbw : Below W.heap.size W w) (e : TypeId) (i : TypeInfo) (z : Value) (bytes : Nat) (ht : P.underlying t = some (.slice e)) (hi : P.info? e = some i) (hz : i.zero = some z)
    (hsize : i.size = k) (hby : i.bytes = bytes) (hzs : z.cells.size = k) (hsz : 0 < k) (v : Value) (n : Nat) (l1 l2 : List α) (hs : a.eval s = v) (hown : w.ownsRow W.heap.size e k v n (l1.flatMap enc)) (q : Option Addr) (m c : Nat) (hx : a.eval x = .slice q m c) (hL : Lies w k enc q l2) (hm : m = l2.length) (hq : q = none → c = 0)
    (h63 : n + m ≤ maxLen) (hbytes : (n + m) * bytes ≤ 140737488355328)
    (h : ∀ v' w', w'.ownsRow W.heap.size e k v' (n + m) ((l1 ++ l2).flatMap enc) → w.grownBy w' v.ownBlock → Below W.heap.size W w' → K (a.put o.dst v') w') :
    if Region.wanted o (yielded ops a.tmps) = true then Oper.wp P o a w K Q else E := by
  have hw : Region.wanted o (yielded ops a.tmps) = true := by simp [Region.wanted, hgd]
  rw [if_pos hw]
  obtain ⟨v', w', hr, h2, h3⟩ := run_append_lst (P := P) (w := w) hk hone W.heap.size t o.type e i z bytes ht hi hz hsize hby hzs hsz v n l1 l2 hown q m c hL hm hq h63 hbytes hbw.size
  unfold Oper.wp execOp
  simp only [ho, resolve, invoke, builtin, Sem.run_bind, Sem.run_pure, Result.andThen_ok, List.map_toArray, List.map_cons, List.map_nil, hs, hx, hr]
  exact h v' w' h2 h3 (below_own hbw hbw.size hown h3)

/-- An empty slice that was made right now. -/
theorem owns_empty (w : World) {B : Nat} {e : TypeId} (hB : B ≤ w.heap.size) : (w.alloc (.cells #[] e)).ownsRow B e k (.slice (some ⟨w.heap.size, 0, none⟩) 0 0) 0 (([] : List α).flatMap enc) := by
  have := World.ownsRow_lit (size := k) (e := e) w #[] 0 hB (by decide) (by simp)
  simpa using this
theorem below_drew' {B : Nat} {W X : World} (h : Below B W X) : Below B W X.drew := h.trans ⟨rfl, rfl, rfl, Nat.le_refl _, fun _ _ => rfl⟩
theorem below_alloc' {W X : World} {o : Obj} (h : Below W.heap.size W X) : Below W.heap.size W (X.alloc o) := h.alloc h.size o
theorem owns_drew {w : World} {B : Nat} {e : TypeId} {v : Value} {n : Nat} {xs : List Value} (h : w.ownsRow B e k v n xs) : w.drew.ownsRow B e k v n xs := h
theorem owns_alloc {w : World} {B : Nat} {e : TypeId} {v : Value} {n : Nat} {xs : List Value} {o : Obj} (h : w.ownsRow B e k v n xs) : (w.alloc o).ownsRow B e k v n xs := h.alloc o
theorem owns_empty' {w : World} {B g : Nat} {e : TypeId} (hg : g = w.heap.size) (hB : B ≤ w.heap.size) : (w.alloc (.cells #[] e)).ownsRow B e k (.slice (some ⟨g, 0, none⟩) 0 0) 0 (([] : List α).flatMap enc) := by subst hg; exact owns_empty w hB
end

section
variable {α : Type} (lt : α → α → Bool)
theorem insR_over (x : α) (l : List α) : ∀ r : List α, (∀ y ∈ r, lt x y = true) → insR lt x (l ++ r) = insR lt x l ++ r := by
  intro r
  induction r using snoc_ind with
  | nil => intro _; simp
  | snoc r y ih =>
    intro h
    rw [← List.append_assoc, insR_snoc, if_pos (h y (by simp)), ih (fun z hz => h z (by simp [hz])), List.append_assoc]
theorem insR_cut (x : α) (l : List α) (n : Nat) (hn : n ≤ l.length) (hr : ∀ (j : Nat) y, n ≤ j → l[j]? = some y → lt x y = true) (hs : n = 0 ∨ 0 < n ∧ ∃ y, l[n - 1]? = some y ∧ lt x y = false) : insR lt x l = l.take n ++ [x] ++ l.drop n := by
  have e : l = l.take n ++ l.drop n := (List.take_append_drop n l).symm
  have h1 : insR lt x (l.take n ++ l.drop n) = insR lt x (l.take n) ++ l.drop n := insR_over lt x _ _ (fun y hy => by
    obtain ⟨j, hj⟩ := List.getElem?_of_mem hy
    rw [List.getElem?_drop] at hj
    exact hr (n + j) y (by omega) hj)
  rw [← e] at h1
  rw [h1]
  congr 1
  rcases hs with rfl | ⟨hn0, y, hy, hf⟩
  · simp [insR_nil]
  · have e2 : l.take n = l.take (n - 1) ++ [y] := by
      obtain ⟨hi, rfl⟩ := List.getElem?_eq_some_iff.1 hy
      have := List.take_succ_eq_append_getElem hi
      rwa [show n - 1 + 1 = n by omega] at this
    rw [e2, insR_snoc, if_neg (by rw [hf]; simp)]
    simp
end
end Go.Proofs.YtaggohobdjidjaaGreatDoor

/- planisphereref43.Sorted. -/
namespace Go.Proofs.YtaggohobdjidjaaGreatDoor
open Go.RowKit Go.Sort Go.Shelf

theorem ltL_yes {x y : Lab} (h : ltL x y = true) : x.r < y.r ∨ (¬ x.r < y.r ∧ x.r = y.r ∧ Op.bytesLess x.id.toList y.id.toList = true) := by
  unfold ltL at h
  simp only [Bool.or_eq_true, decide_eq_true_eq, Bool.and_eq_true] at h
  rcases h with h | h
  · exact .inl h
  · exact .inr ⟨by omega, h⟩
theorem ltL_no {x y : Lab} (h : ltL x y = false) : ¬ x.r < y.r ∧ (x.r ≠ y.r ∨ (x.r = y.r ∧ Op.bytesLess x.id.toList y.id.toList = false)) := by
  unfold ltL at h
  simp only [Bool.or_eq_false_iff, decide_eq_false_iff_not, Bool.and_eq_false_iff] at h
  refine ⟨h.1, ?_⟩
  by_cases e : x.r = y.r
  · exact .inr ⟨e, by rcases h.2 with h2 | h2; exact absurd e h2; exact h2⟩
  · exact .inl e

def SixC (W : World) (g o : Nat) (x : Lab) : Prop := W.cell? ⟨g, o, none⟩ = some (.string x.id) ∧ W.cell? ⟨g, o + 1, none⟩ = some (.int .i64 x.x) ∧ W.cell? ⟨g, o + 2, none⟩ = some (.int .i64 x.y) ∧ W.cell? ⟨g, o + 3, none⟩ = some (.int .i64 x.w) ∧ W.cell? ⟨g, o + 4, none⟩ = some (.int .i64 x.h) ∧ W.cell? ⟨g, o + 5, none⟩ = some (.int .i64 x.r)
theorem heldX {W X : World} {g o i : Nat} {l : List Lab} {x : Lab} (h : Lies W 6 labC (some ⟨g, o, none⟩) l) (hx : l[i]? = some x) (hb : Below W.heap.size W X) : SixC X g (o + i * 6) x ∧ Below W.heap.size W X := ⟨(h.below hb (Nat.le_refl _)).lab hx, hb⟩
theorem belowD {W1 X : World} {p : Prop} (h : p ∧ Below W1.heap.size W1 X) (o : Obj) : Below W1.heap.size W1 (X.alloc o).drew := (h.2.alloc h.2.size o).trans ⟨rfl, rfl, rfl, Nat.le_refl _, fun _ _ => rfl⟩
theorem belowA {W1 X : World} {p : Prop} (h : p ∧ Below W1.heap.size W1 X) (o : Obj) : Below W1.heap.size W1 (X.alloc o) := h.2.alloc h.2.size o

theorem labBox {W : World} {g : Nat} {x : Lab} {t : TypeId} (h : W.heap[g]? = some (.cells #[.string x.id, .int .i64 x.x, .int .i64 x.y, .int .i64 x.w, .int .i64 x.h, .int .i64 x.r] t (0, 0))) : Lies W 6 labC (some ⟨g, 0, none⟩) [x] :=
  Lies.of_box (rest := []) labC_len h

set_option maxHeartbeats 8000000 in
set_option maxRecDepth 100000 in
theorem rsorted_any (p : Option Addr) (n cap : Nat) (l : List Lab) (w : World) (hL : Lies w 6 labC p l) (hn : n = l.length) (h40 : n ≤ 1000) :
    Calls Tryz.prog 21 #[.slice p n cap] w (RetL w 6 labC (isort ltL l)) := by
  obtain ⟨i0, hi, hz0, hz1, hz2⟩ := info_parts infoLab
  have HL := Lib.hid hL
  have HN := Lib.hid hn
  clear hL hn
  go_enter Tryz.func21, Tryz.ntmps21
  go_wp2
  go_loopw [3, 4] (fun vo vi wr => ∃ (i : Nat) (q : Option Addr) (c : Nat), i ≤ n ∧ vi = .int .i64 i ∧ .slice q i c = vo ∧ i ≤ c ∧ Below w.heap.size w wr ∧ Hid (Lies wr 6 labC q (isort ltL (l.take i)) ∧ (q = none → c = 0) ∧ (∀ a, q = some a → w.heap.size ≤ a.block) ∧ FormP q)) (fun _ vi _ => n - (intOf vi).toNat)
  case atStart => exact ⟨0, none, 0, by omega, rfl, rfl, Nat.le_refl _, Below.refl _ _, Lib.hid ⟨⟨.inl (by simp [isort]), fun a e => (by cases e), fun g o e => (by cases e)⟩, fun _ => rfl, fun a e => (by cases e), .inl rfl⟩⟩
  case round =>
    obtain ⟨i, q, c, hin, rfl, rfl, hic, hW, HO⟩ := hrel
    by_cases hlt : i < n
    · obtain ⟨x, hx⟩ : ∃ x, l[i]? = some x := ⟨_, List.getElem?_eq_getElem (by have := HN.out; omega)⟩
      obtain ⟨g, o, rfl⟩ := HL.out.addr (by have := HN.out; omega)
      have q0 : decide (i < n) = true := decide_eq_true hlt
      go_wp2
      have hws := hW.size
      have HX := Lib.hid hx
      obtain ⟨os, hos⟩ : ∃ os, isort ltL (l.take i) = os := ⟨_, rfl⟩
      have hol : os.length = i := by rw [← hos, isort_length, List.length_take]; have := HN.out; omega
      have HSUC : Hid (isort ltL (l.take (i + 1)) = insR ltL x os) := Lib.hid (by
        obtain ⟨hi', rfl⟩ := List.getElem?_eq_some_iff.1 hx
        rw [List.take_succ_eq_append_getElem hi', isort_snoc, hos])
      rw [hos] at HO
      have HOL := Lib.hid hol
      clear hx hol hos q0
      go_loopw [5] (fun va W => ∃ at_ : Nat, at_ ≤ i ∧ va = .int .i64 at_ ∧ Below wr.heap.size wr W ∧ Hid (∀ (j : Nat) y, at_ ≤ j → os[j]? = some y → ltL x y = true)) (fun va _ => (intOf va).toNat)
      case atStart => exact ⟨i, Nat.le_refl _, rfl, Below.refl _ _, Lib.hid (fun j y h1 h2 => by have := (List.getElem?_eq_some_iff.1 h2).1; have := HOL.out; omega)⟩
      case round =>
        obtain ⟨at_, hai, rfl, hB, HB⟩ := hrel
        have hbs := hB.size
        obtain ⟨x0, x1, x2, x3, x4, x5⟩ := (HL.out.below (hW.trans (hB.mono hws)) (Nat.le_refl _)).lab HX.out
        have STOP : (at_ = 0 ∨ 0 < at_ ∧ ∃ y, os[at_ - 1]? = some y ∧ ltL x y = false) → Hid (isort ltL (l.take (i + 1)) = os.take at_ ++ [x] ++ os.drop at_) := fun h => Lib.hid (by
          rw [HSUC.out]
          exact insR_cut ltL x os at_ (by rw [HOL.out]; exact hai) HB.out h)
        have HSTOP := Lib.hid STOP
        clear STOP
        rcases Nat.eq_zero_or_pos at_ with h0 | hpos
        · have HR := HSTOP.out (.inl h0)
          have q0 : decide (0 < at_) = false := decide_eq_false (by omega)
          have q0' : decide ((0 : Int) < (at_ : Int)) = false := decide_eq_false (by omega)
          clear HSTOP HSUC h0
          go_wp2_with fail
          have a4 := cell_regrown x5
          refine wp_region_quiet_below (by kernel_rfl) (by kernel_rfl) ?_
          repeat (go_big_quiet_step (fail))
          refine wpQuiet_nil ?_
          rintro W2 hb2
          replace hb2 := below_of_regrown hb2
          replace hB := hB.trans (hb2.mono hbs)
          clear a4 x0 x1 x2 x3 x4 x5 hb2 hbs
          go_wp2_with fail
          have HLL := Lib.hid (HL.out.below (hW.trans (hB.mono hws)) (Nat.le_refl _))
          have HLX := Lib.hid ((HL.out.below (hW.trans (hB.mono hws)) (Nat.le_refl _)).lab HX.out)
          have HQ := Lib.hid (HO.out.1.below hB (Nat.le_refl _))
          rcases HO.out.2.2.2 with rfl | ⟨g2, o2, rfl⟩
          · obtain ⟨x0, x1, x2, x3, x4, x5⟩ := HLX.out
            have hac : at_ ≤ c := by omega
            have hos : os = [] := by
              rcases HQ.out.form with h | ⟨_, _, h⟩
              · exact h
              · cases h
            have hi0 : i = 0 := by rw [← HOL.out, hos]; rfl
            have hc0 : c = 0 := HO.out.2.1 rfl
            have HC0 := Lib.hid hc0
            have HD : Hid (Lies W2 6 labC none (os.drop at_)) := Lib.hid (by
              rw [hos, List.drop_nil]
              have := HQ.out
              rwa [hos] at this)
            clear hos hi0 hc0
            have hac' : (at_ : Int) ≤ (c : Int) := by omega
            have hai' : (at_ : Int) ≤ (i : Int) := by omega
            have hic' : (i : Int) ≤ (c : Int) := by omega
            go_region_held3 (fun X => (X.cell? ⟨g, o + i * 6, none⟩ = some (.string x.id) ∧ X.cell? ⟨g, o + i * 6 + 1, none⟩ = some (.int .i64 x.x) ∧ X.cell? ⟨g, o + i * 6 + 2, none⟩ = some (.int .i64 x.y) ∧ X.cell? ⟨g, o + i * 6 + 3, none⟩ = some (.int .i64 x.w) ∧ X.cell? ⟨g, o + i * 6 + 4, none⟩ = some (.int .i64 x.h) ∧ X.cell? ⟨g, o + i * 6 + 5, none⟩ = some (.int .i64 x.r)) ∧ Below W2.heap.size W2 X)
              (exact heldX HLL.out HX.out (by repeat (first | with_reducible assumption | exact Below.refl _ _ | refine below_drew' ?_ | refine below_alloc' ?_)))
              (first
                | (fail_if_success (have hh := hown2)
                   refine step_append_lst labC_len labC_one rfl (.tmp 64) (.tmp 69) 22 rfl W2 (by repeat (first | with_reducible assumption | exact Below.refl _ _ | refine below_drew' ?_ | refine below_alloc' ?_)) 47 i0 (.agg #[.string ⟨#[]⟩, .int .i64 0, .int .i64 0, .int .i64 0, .int .i64 0, .int .i64 0]) 56 Tryz.underlying22 hi hz0 hz1 hz2 rfl (by decide) v1 (0 + at_) ([] ++ os.take at_) [x] rfl
                    (by first | exact hown1 | exact owns_alloc hown1) (some ⟨_, 0, none⟩) 1 1 rfl (labBox (by first | exact Box.new' (by simp) _ _ | exact (hgrow1.block _ (by simp) (by simp [Value.ownBlock])).trans (Box.new' (by simp) _ _) | exact (hgrow1.block _ (by simp; omega) (by simp [Value.ownBlock])).trans ((Box.new' (by simp) _ _).alloc _))) rfl (fun e => by cases e) (by unfold maxLen; omega) (by omega) ?_; intro v2 w5 hown2 hgrow2 hbw2)
                | (fail_if_success (have hh := hown1)
                   refine step_append_lst labC_len labC_one rfl (.tmp 60) (.tmp 63) 22 rfl W2 (by repeat (first | with_reducible assumption | exact Below.refl _ _ | refine below_drew' ?_ | refine below_alloc' ?_)) 47 i0 (.agg #[.string ⟨#[]⟩, .int .i64 0, .int .i64 0, .int .i64 0, .int .i64 0, .int .i64 0]) 56 Tryz.underlying22 hi hz0 hz1 hz2 rfl (by decide) (.slice (some ⟨_, 0, none⟩) 0 0) 0 [] (os.take at_) rfl
                    (by repeat (first | exact owns_empty' (by simp) (by simp) | refine owns_drew ?_ | refine owns_alloc ?_)) none _ _ rfl ((HQ.out.take _).below (by repeat (first | with_reducible assumption | exact Below.refl _ _ | refine below_drew' ?_ | refine below_alloc' ?_)) (Nat.le_refl _)) (by rw [List.length_take]; have := HOL.out; omega) (fun _ => by have := HC0.out; omega) (by unfold maxLen; omega) (by omega) ?_; intro v1 w4 hown1 hgrow1 hbw1)
                | (refine step_append_lst labC_len labC_one rfl (.tmp 70) (.tmp 73) 22 rfl W2 (by repeat (first | with_reducible assumption | exact Below.refl _ _ | refine below_drew' ?_ | refine below_alloc' ?_)) 47 i0 (.agg #[.string ⟨#[]⟩, .int .i64 0, .int .i64 0, .int .i64 0, .int .i64 0, .int .i64 0]) 56 Tryz.underlying22 hi hz0 hz1 hz2 rfl (by decide) v2 (0 + at_ + 1) ([] ++ os.take at_ ++ [x]) (os.drop at_) rfl
                    hown2 none _ _ rfl (HD.out.below (by repeat (first | with_reducible assumption | exact Below.refl _ _ | refine below_drew' ?_ | refine below_alloc' ?_)) (Nat.le_refl _)) (by rw [List.length_drop]; have := HOL.out; omega) (fun _ => by have := HC0.out; omega) (by unfold maxLen; omega) (by omega) ?_; intro v3 w6 hown3 hgrow3 hbw3))
            all_goals
              have hnn : 0 + at_ + 1 + (i - at_) = i + 1 := by omega
              rw [hnn] at hown3
              obtain ⟨q3, c3, rfl, e1, e2, e3, e4⟩ := Lies.of_owns (l := os.take at_ ++ [x] ++ os.drop at_) labC_len (by simpa using hown3) (by simp; have := HOL.out; omega)
              have HN3 : Hid (Lies w6 6 labC q3 (isort ltL (l.take (i + 1))) ∧ (q3 = none → c3 = 0) ∧ (∀ a, q3 = some a → w.heap.size ≤ a.block) ∧ FormP q3) := Lib.hid ⟨by rw [HR.out]; exact e2, e4, fun a e => Nat.le_trans (Nat.le_trans hws hB.size) (e3 a e), form_of_owns hown3⟩
              have hWW := hW.trans ((hB.trans (hbw3.mono hB.size)).mono hws)
              clear hown1 hgrow1 hown2 hgrow2 hown3 hgrow3 e2 e3 e4
              go_wp2
              go_roundw
              case rel => exact ⟨i + 1, q3, c3, by omega, by go_num, rfl, e1, hWW, HN3⟩
              case measure => simp [intOf]; omega
          · obtain ⟨x0, x1, x2, x3, x4, x5⟩ := HLX.out
            have hac : at_ ≤ c := by omega
            have HD : Hid (Lies W2 6 labC (if c = at_ then some ⟨g2, o2, none⟩ else some ⟨g2, o2 + at_ * 6, none⟩) (os.drop at_)) := Lib.hid (by
              split
              · rw [List.drop_eq_nil_of_le (by have := HOL.out; omega)]
                have := HQ.out.take 0
                rwa [List.take_zero] at this
              · exact HQ.out.drop at_ rfl)
            have hac' : (at_ : Int) ≤ (c : Int) := by omega
            have hai' : (at_ : Int) ≤ (i : Int) := by omega
            have hic' : (i : Int) ≤ (c : Int) := by omega
            go_region_held3 (fun X => (X.cell? ⟨g, o + i * 6, none⟩ = some (.string x.id) ∧ X.cell? ⟨g, o + i * 6 + 1, none⟩ = some (.int .i64 x.x) ∧ X.cell? ⟨g, o + i * 6 + 2, none⟩ = some (.int .i64 x.y) ∧ X.cell? ⟨g, o + i * 6 + 3, none⟩ = some (.int .i64 x.w) ∧ X.cell? ⟨g, o + i * 6 + 4, none⟩ = some (.int .i64 x.h) ∧ X.cell? ⟨g, o + i * 6 + 5, none⟩ = some (.int .i64 x.r)) ∧ Below W2.heap.size W2 X)
              (exact heldX HLL.out HX.out (by repeat (first | with_reducible assumption | exact Below.refl _ _ | refine below_drew' ?_ | refine below_alloc' ?_)))
              (first
                | (fail_if_success (have hh := hown2)
                   refine step_append_lst labC_len labC_one rfl (.tmp 64) (.tmp 69) 22 rfl W2 (by repeat (first | with_reducible assumption | exact Below.refl _ _ | refine below_drew' ?_ | refine below_alloc' ?_)) 47 i0 (.agg #[.string ⟨#[]⟩, .int .i64 0, .int .i64 0, .int .i64 0, .int .i64 0, .int .i64 0]) 56 Tryz.underlying22 hi hz0 hz1 hz2 rfl (by decide) v1 (0 + at_) ([] ++ os.take at_) [x] rfl
                    (by first | exact hown1 | exact owns_alloc hown1) (some ⟨_, 0, none⟩) 1 1 rfl (labBox (by first | exact Box.new' (by simp) _ _ | exact (hgrow1.block _ (by simp) (by simp [Value.ownBlock])).trans (Box.new' (by simp) _ _) | exact (hgrow1.block _ (by simp; omega) (by simp [Value.ownBlock])).trans ((Box.new' (by simp) _ _).alloc _))) rfl (fun e => by cases e) (by unfold maxLen; omega) (by omega) ?_; intro v2 w5 hown2 hgrow2 hbw2)
                | (fail_if_success (have hh := hown1)
                   refine step_append_lst labC_len labC_one rfl (.tmp 60) (.tmp 63) 22 rfl W2 (by repeat (first | with_reducible assumption | exact Below.refl _ _ | refine below_drew' ?_ | refine below_alloc' ?_)) 47 i0 (.agg #[.string ⟨#[]⟩, .int .i64 0, .int .i64 0, .int .i64 0, .int .i64 0, .int .i64 0]) 56 Tryz.underlying22 hi hz0 hz1 hz2 rfl (by decide) (.slice (some ⟨_, 0, none⟩) 0 0) 0 [] (os.take at_) rfl
                    (by repeat (first | exact owns_empty' (by simp) (by simp) | refine owns_drew ?_ | refine owns_alloc ?_)) (some ⟨g2, o2, none⟩) _ _ rfl ((HQ.out.take _).below (by repeat (first | with_reducible assumption | exact Below.refl _ _ | refine below_drew' ?_ | refine below_alloc' ?_)) (Nat.le_refl _)) (by rw [List.length_take]; have := HOL.out; omega) (fun e => by cases e) (by unfold maxLen; omega) (by omega) ?_; intro v1 w4 hown1 hgrow1 hbw1)
                | (refine step_append_lst labC_len labC_one rfl (.tmp 70) (.tmp 73) 22 rfl W2 (by repeat (first | with_reducible assumption | exact Below.refl _ _ | refine below_drew' ?_ | refine below_alloc' ?_)) 47 i0 (.agg #[.string ⟨#[]⟩, .int .i64 0, .int .i64 0, .int .i64 0, .int .i64 0, .int .i64 0]) 56 Tryz.underlying22 hi hz0 hz1 hz2 rfl (by decide) v2 (0 + at_ + 1) ([] ++ os.take at_ ++ [x]) (os.drop at_) rfl
                    hown2 (if c = at_ then some ⟨g2, o2, none⟩ else some ⟨g2, o2 + at_ * 6, none⟩) _ _ rfl (HD.out.below (by repeat (first | with_reducible assumption | exact Below.refl _ _ | refine below_drew' ?_ | refine below_alloc' ?_)) (Nat.le_refl _)) (by rw [List.length_drop]; have := HOL.out; omega) (fun e => by split at e <;> cases e) (by unfold maxLen; omega) (by omega) ?_; intro v3 w6 hown3 hgrow3 hbw3))
            all_goals
              have hnn : 0 + at_ + 1 + (i - at_) = i + 1 := by omega
              rw [hnn] at hown3
              obtain ⟨q3, c3, rfl, e1, e2, e3, e4⟩ := Lies.of_owns (l := os.take at_ ++ [x] ++ os.drop at_) labC_len (by simpa using hown3) (by simp; have := HOL.out; omega)
              have HN3 : Hid (Lies w6 6 labC q3 (isort ltL (l.take (i + 1))) ∧ (q3 = none → c3 = 0) ∧ (∀ a, q3 = some a → w.heap.size ≤ a.block) ∧ FormP q3) := Lib.hid ⟨by rw [HR.out]; exact e2, e4, fun a e => Nat.le_trans (Nat.le_trans hws hB.size) (e3 a e), form_of_owns hown3⟩
              have hWW := hW.trans ((hB.trans (hbw3.mono hB.size)).mono hws)
              clear hown1 hgrow1 hown2 hgrow2 hown3 hgrow3 e2 e3 e4
              go_wp2
              go_roundw
              case rel => exact ⟨i + 1, q3, c3, by omega, by go_num, rfl, e1, hWW, HN3⟩
              case measure => simp [intOf]; omega
        · obtain ⟨km, hkm, hk1⟩ : ∃ km : Nat, (at_ : Int) - 1 = (km : Int) ∧ km + 1 = at_ := ⟨at_ - 1, by omega, by omega⟩
          obtain ⟨y, hy⟩ : ∃ y, os[km]? = some y := ⟨_, List.getElem?_eq_getElem (by have := HOL.out; omega)⟩
          obtain ⟨g2, o2, rfl⟩ := HO.out.1.addr (by have := HOL.out; omega)
          obtain ⟨y0, y1, y2, y3, y4, y5⟩ := (HO.out.1.below hB (Nat.le_refl _)).lab hy
          have q0 : decide (0 < at_) = true := decide_eq_true hpos
          have q0' : decide ((0 : Int) < (at_ : Int)) = true := decide_eq_true (by omega)
          have hki : km < i := by omega
          have hkc : km < c := by omega
          cases hlt2 : ltL x y with
          | true =>
            have HB2 : Hid (∀ (j : Nat) y, km ≤ j → os[j]? = some y → ltL x y = true) := Lib.hid (fun j y' h1 h2 => by
              rcases Nat.lt_or_ge km j with h | h
              · exact HB.out j y' (by omega) h2
              · obtain rfl : j = km := by omega
                rw [hy] at h2
                cases h2
                exact hlt2)
            rcases ltL_yes hlt2 with h | ⟨h1, h2, h3⟩
            · have q1 : decide (x.r < y.r) = true := decide_eq_true h
              clear h hlt2 hy HSTOP HB
              go_wp2_with fail
              have a0 := cell_regrown x0
              have a5 := cell_regrown x5
              have b0 := cell_regrown y0
              have b5 := cell_regrown y5
              refine wp_region_quiet_below (by kernel_rfl) (by kernel_rfl) ?_
              repeat (go_big_quiet_step (fail))
              refine wpQuiet_nil ?_
              rintro W2 hb2
              replace hb2 := below_of_regrown hb2
              replace hB := hB.trans (hb2.mono hbs)
              clear a0 a5 b0 b5 x0 x1 x2 x3 x4 x5 y0 y1 y2 y3 y4 y5 hb2 hbs
              go_wp2
              go_roundw
              case rel => exact ⟨km, by omega, rfl, hB, HB2⟩
              case measure => simp [intOf]; omega
            · have q1 : decide (x.r < y.r) = false := decide_eq_false h1
              have q2 : (x.r == y.r) = true := beq_iff_eq.2 h2
              have q3 : Op.bytesLess x.id.toList y.id.toList = true := h3
              clear h1 h2 h3 hlt2 hy HSTOP HB
              go_wp2_with fail
              have a0 := cell_regrown x0
              have a5 := cell_regrown x5
              have b0 := cell_regrown y0
              have b5 := cell_regrown y5
              refine wp_region_quiet_below (by kernel_rfl) (by kernel_rfl) ?_
              repeat (go_big_quiet_step (fail))
              refine wpQuiet_nil ?_
              rintro W2 hb2
              replace hb2 := below_of_regrown hb2
              replace hB := hB.trans (hb2.mono hbs)
              clear a0 a5 b0 b5 x0 x1 x2 x3 x4 x5 y0 y1 y2 y3 y4 y5 hb2 hbs
              go_wp2
              go_roundw
              case rel => exact ⟨km, by omega, rfl, hB, HB2⟩
              case measure => simp [intOf]; omega
          | false =>
            have HR := HSTOP.out (.inr ⟨hpos, y, by rw [show at_ - 1 = km by omega]; exact hy, hlt2⟩)
            obtain ⟨h1, h2⟩ := ltL_no hlt2
            have q1 : decide (x.r < y.r) = false := decide_eq_false h1
            rcases h2 with h2 | ⟨h2, h3⟩
            · have q2 : (x.r == y.r) = false := beq_eq_false_iff_ne.2 h2
              clear h1 h2 hlt2 hy HSTOP HSUC
              go_wp2_with fail
              have a0 := cell_regrown x0
              have a5 := cell_regrown x5
              have b0 := cell_regrown y0
              have b5 := cell_regrown y5
              refine wp_region_quiet_below (by kernel_rfl) (by kernel_rfl) ?_
              repeat (go_big_quiet_step (fail))
              refine wpQuiet_nil ?_
              rintro W2 hb2
              replace hb2 := below_of_regrown hb2
              replace hB := hB.trans (hb2.mono hbs)
              clear a0 a5 b0 b5 x0 x1 x2 x3 x4 x5 y0 y1 y2 y3 y4 y5 hb2 hbs
              go_wp2_with fail
              have HLL := Lib.hid (HL.out.below (hW.trans (hB.mono hws)) (Nat.le_refl _))
              have HLX := Lib.hid ((HL.out.below (hW.trans (hB.mono hws)) (Nat.le_refl _)).lab HX.out)
              have HQ := Lib.hid (HO.out.1.below hB (Nat.le_refl _))
              obtain ⟨x0, x1, x2, x3, x4, x5⟩ := HLX.out
              have hac : at_ ≤ c := by omega
              have HD : Hid (Lies W2 6 labC (if c = at_ then some ⟨g2, o2, none⟩ else some ⟨g2, o2 + at_ * 6, none⟩) (os.drop at_)) := Lib.hid (by
                split
                · rw [List.drop_eq_nil_of_le (by have := HOL.out; omega)]
                  have := HQ.out.take 0
                  rwa [List.take_zero] at this
                · exact HQ.out.drop at_ rfl)
              have hac' : (at_ : Int) ≤ (c : Int) := by omega
              have hai' : (at_ : Int) ≤ (i : Int) := by omega
              have hic' : (i : Int) ≤ (c : Int) := by omega
              go_region_held3 (fun X => (X.cell? ⟨g, o + i * 6, none⟩ = some (.string x.id) ∧ X.cell? ⟨g, o + i * 6 + 1, none⟩ = some (.int .i64 x.x) ∧ X.cell? ⟨g, o + i * 6 + 2, none⟩ = some (.int .i64 x.y) ∧ X.cell? ⟨g, o + i * 6 + 3, none⟩ = some (.int .i64 x.w) ∧ X.cell? ⟨g, o + i * 6 + 4, none⟩ = some (.int .i64 x.h) ∧ X.cell? ⟨g, o + i * 6 + 5, none⟩ = some (.int .i64 x.r)) ∧ Below W2.heap.size W2 X)
                (exact heldX HLL.out HX.out (by repeat (first | with_reducible assumption | exact Below.refl _ _ | refine below_drew' ?_ | refine below_alloc' ?_)))
                (first
                  | (fail_if_success (have hh := hown2)
                     refine step_append_lst labC_len labC_one rfl (.tmp 64) (.tmp 69) 22 rfl W2 (by repeat (first | with_reducible assumption | exact Below.refl _ _ | refine below_drew' ?_ | refine below_alloc' ?_)) 47 i0 (.agg #[.string ⟨#[]⟩, .int .i64 0, .int .i64 0, .int .i64 0, .int .i64 0, .int .i64 0]) 56 Tryz.underlying22 hi hz0 hz1 hz2 rfl (by decide) v1 (0 + at_) ([] ++ os.take at_) [x] rfl
                      (by first | exact hown1 | exact owns_alloc hown1) (some ⟨_, 0, none⟩) 1 1 rfl (labBox (by first | exact Box.new' (by simp) _ _ | exact (hgrow1.block _ (by simp) (by simp [Value.ownBlock])).trans (Box.new' (by simp) _ _) | exact (hgrow1.block _ (by simp; omega) (by simp [Value.ownBlock])).trans ((Box.new' (by simp) _ _).alloc _))) rfl (fun e => by cases e) (by unfold maxLen; omega) (by omega) ?_; intro v2 w5 hown2 hgrow2 hbw2)
                  | (fail_if_success (have hh := hown1)
                     refine step_append_lst labC_len labC_one rfl (.tmp 60) (.tmp 63) 22 rfl W2 (by repeat (first | with_reducible assumption | exact Below.refl _ _ | refine below_drew' ?_ | refine below_alloc' ?_)) 47 i0 (.agg #[.string ⟨#[]⟩, .int .i64 0, .int .i64 0, .int .i64 0, .int .i64 0, .int .i64 0]) 56 Tryz.underlying22 hi hz0 hz1 hz2 rfl (by decide) (.slice (some ⟨_, 0, none⟩) 0 0) 0 [] (os.take at_) rfl
                      (by repeat (first | exact owns_empty' (by simp) (by simp) | refine owns_drew ?_ | refine owns_alloc ?_)) (some ⟨g2, o2, none⟩) _ _ rfl ((HQ.out.take _).below (by repeat (first | with_reducible assumption | exact Below.refl _ _ | refine below_drew' ?_ | refine below_alloc' ?_)) (Nat.le_refl _)) (by rw [List.length_take]; have := HOL.out; omega) (fun e => by cases e) (by unfold maxLen; omega) (by omega) ?_; intro v1 w4 hown1 hgrow1 hbw1)
                  | (refine step_append_lst labC_len labC_one rfl (.tmp 70) (.tmp 73) 22 rfl W2 (by repeat (first | with_reducible assumption | exact Below.refl _ _ | refine below_drew' ?_ | refine below_alloc' ?_)) 47 i0 (.agg #[.string ⟨#[]⟩, .int .i64 0, .int .i64 0, .int .i64 0, .int .i64 0, .int .i64 0]) 56 Tryz.underlying22 hi hz0 hz1 hz2 rfl (by decide) v2 (0 + at_ + 1) ([] ++ os.take at_ ++ [x]) (os.drop at_) rfl
                      hown2 (if c = at_ then some ⟨g2, o2, none⟩ else some ⟨g2, o2 + at_ * 6, none⟩) _ _ rfl (HD.out.below (by repeat (first | with_reducible assumption | exact Below.refl _ _ | refine below_drew' ?_ | refine below_alloc' ?_)) (Nat.le_refl _)) (by rw [List.length_drop]; have := HOL.out; omega) (fun e => by split at e <;> cases e) (by unfold maxLen; omega) (by omega) ?_; intro v3 w6 hown3 hgrow3 hbw3))
              all_goals
                have hnn : 0 + at_ + 1 + (i - at_) = i + 1 := by omega
                rw [hnn] at hown3
                obtain ⟨q3, c3, rfl, e1, e2, e3, e4⟩ := Lies.of_owns (l := os.take at_ ++ [x] ++ os.drop at_) labC_len (by simpa using hown3) (by simp; have := HOL.out; omega)
                have HN3 : Hid (Lies w6 6 labC q3 (isort ltL (l.take (i + 1))) ∧ (q3 = none → c3 = 0) ∧ (∀ a, q3 = some a → w.heap.size ≤ a.block) ∧ FormP q3) := Lib.hid ⟨by rw [HR.out]; exact e2, e4, fun a e => Nat.le_trans (Nat.le_trans hws hB.size) (e3 a e), form_of_owns hown3⟩
                have hWW := hW.trans ((hB.trans (hbw3.mono hB.size)).mono hws)
                clear hown1 hgrow1 hown2 hgrow2 hown3 hgrow3 e2 e3 e4
                go_wp2
                go_roundw
                case rel => exact ⟨i + 1, q3, c3, by omega, by go_num, rfl, e1, hWW, HN3⟩
                case measure => simp [intOf]; omega
            · have q2 : (x.r == y.r) = true := beq_iff_eq.2 h2
              have q3 : Op.bytesLess x.id.toList y.id.toList = false := h3
              clear h1 h2 h3 hlt2 hy HSTOP HSUC
              go_wp2_with fail
              have a0 := cell_regrown x0
              have a5 := cell_regrown x5
              have b0 := cell_regrown y0
              have b5 := cell_regrown y5
              refine wp_region_quiet_below (by kernel_rfl) (by kernel_rfl) ?_
              repeat (go_big_quiet_step (fail))
              refine wpQuiet_nil ?_
              rintro W2 hb2
              replace hb2 := below_of_regrown hb2
              replace hB := hB.trans (hb2.mono hbs)
              clear a0 a5 b0 b5 x0 x1 x2 x3 x4 x5 y0 y1 y2 y3 y4 y5 hb2 hbs
              go_wp2_with fail
              have HLL := Lib.hid (HL.out.below (hW.trans (hB.mono hws)) (Nat.le_refl _))
              have HLX := Lib.hid ((HL.out.below (hW.trans (hB.mono hws)) (Nat.le_refl _)).lab HX.out)
              have HQ := Lib.hid (HO.out.1.below hB (Nat.le_refl _))
              obtain ⟨x0, x1, x2, x3, x4, x5⟩ := HLX.out
              have hac : at_ ≤ c := by omega
              have HD : Hid (Lies W2 6 labC (if c = at_ then some ⟨g2, o2, none⟩ else some ⟨g2, o2 + at_ * 6, none⟩) (os.drop at_)) := Lib.hid (by
                split
                · rw [List.drop_eq_nil_of_le (by have := HOL.out; omega)]
                  have := HQ.out.take 0
                  rwa [List.take_zero] at this
                · exact HQ.out.drop at_ rfl)
              have hac' : (at_ : Int) ≤ (c : Int) := by omega
              have hai' : (at_ : Int) ≤ (i : Int) := by omega
              have hic' : (i : Int) ≤ (c : Int) := by omega
              go_region_held3 (fun X => (X.cell? ⟨g, o + i * 6, none⟩ = some (.string x.id) ∧ X.cell? ⟨g, o + i * 6 + 1, none⟩ = some (.int .i64 x.x) ∧ X.cell? ⟨g, o + i * 6 + 2, none⟩ = some (.int .i64 x.y) ∧ X.cell? ⟨g, o + i * 6 + 3, none⟩ = some (.int .i64 x.w) ∧ X.cell? ⟨g, o + i * 6 + 4, none⟩ = some (.int .i64 x.h) ∧ X.cell? ⟨g, o + i * 6 + 5, none⟩ = some (.int .i64 x.r)) ∧ Below W2.heap.size W2 X)
                (exact heldX HLL.out HX.out (by repeat (first | with_reducible assumption | exact Below.refl _ _ | refine below_drew' ?_ | refine below_alloc' ?_)))
                (first
                  | (fail_if_success (have hh := hown2)
                     refine step_append_lst labC_len labC_one rfl (.tmp 64) (.tmp 69) 22 rfl W2 (by repeat (first | with_reducible assumption | exact Below.refl _ _ | refine below_drew' ?_ | refine below_alloc' ?_)) 47 i0 (.agg #[.string ⟨#[]⟩, .int .i64 0, .int .i64 0, .int .i64 0, .int .i64 0, .int .i64 0]) 56 Tryz.underlying22 hi hz0 hz1 hz2 rfl (by decide) v1 (0 + at_) ([] ++ os.take at_) [x] rfl
                      (by first | exact hown1 | exact owns_alloc hown1) (some ⟨_, 0, none⟩) 1 1 rfl (labBox (by first | exact Box.new' (by simp) _ _ | exact (hgrow1.block _ (by simp) (by simp [Value.ownBlock])).trans (Box.new' (by simp) _ _) | exact (hgrow1.block _ (by simp; omega) (by simp [Value.ownBlock])).trans ((Box.new' (by simp) _ _).alloc _))) rfl (fun e => by cases e) (by unfold maxLen; omega) (by omega) ?_; intro v2 w5 hown2 hgrow2 hbw2)
                  | (fail_if_success (have hh := hown1)
                     refine step_append_lst labC_len labC_one rfl (.tmp 60) (.tmp 63) 22 rfl W2 (by repeat (first | with_reducible assumption | exact Below.refl _ _ | refine below_drew' ?_ | refine below_alloc' ?_)) 47 i0 (.agg #[.string ⟨#[]⟩, .int .i64 0, .int .i64 0, .int .i64 0, .int .i64 0, .int .i64 0]) 56 Tryz.underlying22 hi hz0 hz1 hz2 rfl (by decide) (.slice (some ⟨_, 0, none⟩) 0 0) 0 [] (os.take at_) rfl
                      (by repeat (first | exact owns_empty' (by simp) (by simp) | refine owns_drew ?_ | refine owns_alloc ?_)) (some ⟨g2, o2, none⟩) _ _ rfl ((HQ.out.take _).below (by repeat (first | with_reducible assumption | exact Below.refl _ _ | refine below_drew' ?_ | refine below_alloc' ?_)) (Nat.le_refl _)) (by rw [List.length_take]; have := HOL.out; omega) (fun e => by cases e) (by unfold maxLen; omega) (by omega) ?_; intro v1 w4 hown1 hgrow1 hbw1)
                  | (refine step_append_lst labC_len labC_one rfl (.tmp 70) (.tmp 73) 22 rfl W2 (by repeat (first | with_reducible assumption | exact Below.refl _ _ | refine below_drew' ?_ | refine below_alloc' ?_)) 47 i0 (.agg #[.string ⟨#[]⟩, .int .i64 0, .int .i64 0, .int .i64 0, .int .i64 0, .int .i64 0]) 56 Tryz.underlying22 hi hz0 hz1 hz2 rfl (by decide) v2 (0 + at_ + 1) ([] ++ os.take at_ ++ [x]) (os.drop at_) rfl
                      hown2 (if c = at_ then some ⟨g2, o2, none⟩ else some ⟨g2, o2 + at_ * 6, none⟩) _ _ rfl (HD.out.below (by repeat (first | with_reducible assumption | exact Below.refl _ _ | refine below_drew' ?_ | refine below_alloc' ?_)) (Nat.le_refl _)) (by rw [List.length_drop]; have := HOL.out; omega) (fun e => by split at e <;> cases e) (by unfold maxLen; omega) (by omega) ?_; intro v3 w6 hown3 hgrow3 hbw3))
              all_goals
                have hnn : 0 + at_ + 1 + (i - at_) = i + 1 := by omega
                rw [hnn] at hown3
                obtain ⟨q3, c3, rfl, e1, e2, e3, e4⟩ := Lies.of_owns (l := os.take at_ ++ [x] ++ os.drop at_) labC_len (by simpa using hown3) (by simp; have := HOL.out; omega)
                have HN3 : Hid (Lies w6 6 labC q3 (isort ltL (l.take (i + 1))) ∧ (q3 = none → c3 = 0) ∧ (∀ a, q3 = some a → w.heap.size ≤ a.block) ∧ FormP q3) := Lib.hid ⟨by rw [HR.out]; exact e2, e4, fun a e => Nat.le_trans (Nat.le_trans hws hB.size) (e3 a e), form_of_owns hown3⟩
                have hWW := hW.trans ((hB.trans (hbw3.mono hB.size)).mono hws)
                clear hown1 hgrow1 hown2 hgrow2 hown3 hgrow3 e2 e3 e4
                go_wp2
                go_roundw
                case rel => exact ⟨i + 1, q3, c3, by omega, by go_num, rfl, e1, hWW, HN3⟩
                case measure => simp [intOf]; omega
    · obtain rfl : i = n := by omega
      have q0 : decide (i < i) = false := decide_eq_false (by omega)
      have HT : Hid (l.take i = l) := Lib.hid (by rw [HN.out]; exact List.take_length)
      rw [HT.out] at HO
      go_wp2
      go_ret
      obtain ⟨h1, h2, h3, -⟩ := HO.out
      exact ⟨q, i, c, rfl, by rw [isort_length]; exact HN.out, hic, h1, h3, fun e => ⟨by have := h2 e; omega, h2 e⟩, hW⟩
end Go.Proofs.YtaggohobdjidjaaGreatDoor

import Derived.Test.YtaggohobdjidjaaGreatDoorJL
import Derived.Test.YtaggohobdjidjaaGreatDoorJU
import Derived.Test.YtaggohobdjidjaaGreatDoorJK

/- planispherelaw43.different: it says whether all labels have different Ids. -/
namespace Go.Proofs.YtaggohobdjidjaaGreatDoor
open Go.RowKit Go.Sort Go.Shelf

/-- The first n labels have different Ids. -/
def DiffL (l : List Lab) (n : Nat) : Prop := ∀ (i k : Nat) (x y : Lab), i < n → k < i → l[i]? = some x → l[k]? = some y → y.id.toList ≠ x.id.toList

theorem box_eql (a b c d a' b' c' d' : Int) (w : World) : (binOp .eql 26 (.agg #[.int .i64 a, .int .i64 b, .int .i64 c, .int .i64 d]) (.agg #[.int .i64 a', .int .i64 b', .int .i64 c', .int .i64 d'])).run Tryz.prog w = .ok (.bool (decide (a = a' ∧ b = b' ∧ c = c' ∧ d = d'))) w := by
  rw [run_eql_struct, box_in 9997]
  rfl
theorem box_yes {a b c d a' b' c' d' : Int} (h : a = a' ∧ b = b' ∧ c = c' ∧ d = d') (w : World) : (binOp .eql 26 (.agg #[.int .i64 a, .int .i64 b, .int .i64 c, .int .i64 d]) (.agg #[.int .i64 a', .int .i64 b', .int .i64 c', .int .i64 d'])).run Tryz.prog w = .ok (.bool true) w := by
  rw [box_eql, decide_eq_true h]
theorem box_no {a b c d a' b' c' d' : Int} (h : ¬ (a = a' ∧ b = b' ∧ c = c' ∧ d = d')) (w : World) : (binOp .eql 26 (.agg #[.int .i64 a, .int .i64 b, .int .i64 c, .int .i64 d]) (.agg #[.int .i64 a', .int .i64 b', .int .i64 c', .int .i64 d'])).run Tryz.prog w = .ok (.bool false) w := by
  rw [box_eql, decide_eq_false h]

set_option maxHeartbeats 4000000 in
theorem different_any (p : Option Addr) (n cap : Nat) (l : List Lab) (w : World) (hL : Lies w 6 labC p l) (hn : n = l.length) (h1 : n ≤ 1000) :
    Calls Tryz.prog 20 #[.slice p n cap] w (FewR w (DiffL l n)) := by
  have HL := Lib.hid hL
  have HN := Lib.hid hn
  clear hL hn
  go_enter Tryz.func20, Tryz.ntmps20
  go_wp2
  go_loopw [3] (fun vi wr => ∃ i : Nat, i ≤ n ∧ vi = .int .i64 i ∧ Below w.heap.size w wr ∧ Hid (DiffL l i)) (fun vi _ => n - (intOf vi).toNat)
  case atStart => exact ⟨0, by omega, rfl, Below.refl _ _, Lib.hid (fun i k x y h _ _ _ => by omega)⟩
  case round =>
    obtain ⟨i, hi, rfl, hW, HD⟩ := hrel
    by_cases hlt : i < n
    · obtain ⟨x, hx⟩ : ∃ x, l[i]? = some x := ⟨_, List.getElem?_eq_getElem (by have := HN.out; omega)⟩
      obtain ⟨g, o, rfl⟩ := HL.out.addr (by have := HN.out; omega)
      have HX := Lib.hid hx
      clear hx
      have q1 : decide (i < n) = true := decide_eq_true hlt
      go_wp2
      go_loopw [4] (fun vk wi => ∃ k : Nat, k ≤ i ∧ vk = .int .i64 k ∧ Below w.heap.size w wi ∧ Hid (∀ (k' : Nat) y, k' < k → l[k']? = some y → y.id.toList ≠ x.id.toList)) (fun vk _ => i - (intOf vk).toNat)
      case atStart => exact ⟨0, by omega, rfl, hW, Lib.hid (fun k' y h _ => by omega)⟩
      case round =>
        clear hW
        obtain ⟨k, hk, rfl, hW, HK⟩ := hrel
        by_cases hki : k < i
        · obtain ⟨y, hy⟩ : ∃ y, l[k]? = some y := ⟨_, List.getElem?_eq_getElem (by have := HN.out; omega)⟩
          obtain ⟨r0, -, -, -, -, -⟩ := (HL.out.below hW (Nat.le_refl _)).lab HX.out
          obtain ⟨s0, -, -, -, -, -⟩ := (HL.out.below hW (Nat.le_refl _)).lab hy
          have q2 : decide (k < i) = true := decide_eq_true hki
          have hkn : k < n := by omega
          have HY := Lib.hid hy
          clear hy
          have hws := hW.size
          obtain ⟨xi, hxi⟩ : ∃ q, x.id = q := ⟨_, rfl⟩
          obtain ⟨yi, hyi⟩ : ∃ q, y.id = q := ⟨_, rfl⟩
          rw [hxi] at r0
          rw [hyi] at s0
          by_cases he : yi.toList = xi.toList
          · have q3 : (yi.toList == xi.toList) = true := beq_iff_eq.2 he
            clear he hxi hyi
            go_wp2_with fail
            have a0 := cell_regrown r0
            have a1 := cell_regrown s0
            refine wp_region_quiet_below (by kernel_rfl) (by kernel_rfl) ?_
            repeat (go_big_quiet_step (fail))
            refine wpQuiet_nil ?_
            rintro W2 hb2
            replace hb2 := below_of_regrown hb2
            replace hW := hW.trans (hb2.mono hws)
            clear a0 a1 r0 s0 hb2
            go_wp2
            go_ret
            exact ⟨false, rfl, fun h => (by cases h), hW⟩
          · have q3 : (yi.toList == xi.toList) = false := beq_eq_false_iff_ne.2 he
            have HK2 : Hid (∀ (k' : Nat) y, k' < k + 1 → l[k']? = some y → y.id.toList ≠ x.id.toList) := Lib.hid (fun k' y' h h2 => by
              rcases Nat.lt_or_ge k' k with h3 | h3
              · exact HK.out k' y' h3 h2
              · obtain rfl : k' = k := by omega
                obtain rfl : y = y' := by have := HY.out; rw [h2] at this; exact (Option.some.inj this).symm
                rw [hxi, hyi]; exact he)
            clear he hxi hyi
            go_wp2_with fail
            have a0 := cell_regrown r0
            have a1 := cell_regrown s0
            refine wp_region_quiet_below (by kernel_rfl) (by kernel_rfl) ?_
            repeat (go_big_quiet_step (fail))
            refine wpQuiet_nil ?_
            rintro W2 hb2
            replace hb2 := below_of_regrown hb2
            replace hW := hW.trans (hb2.mono hws)
            clear a0 a1 r0 s0 hb2
            go_wp2
            go_roundw
            case rel => exact ⟨k + 1, by omega, by go_num, hW, HK2⟩
            case measure => simp [intOf]; omega
        · obtain rfl : k = i := by omega
          have q2 : decide (k < k) = false := decide_eq_false (by omega)
          have HD2 : Hid (DiffL l (k + 1)) := Lib.hid (fun i' k' x' y' h h2 h3 h4 => by
            rcases Nat.lt_or_ge i' k with h5 | h5
            · exact HD.out i' k' x' y' h5 h2 h3 h4
            · obtain rfl : i' = k := by omega
              obtain rfl : x = x' := by have := HX.out; rw [h3] at this; exact (Option.some.inj this).symm
              exact HK.out k' y' h2 h4)
          go_wp2
          go_roundw
          case rel => exact ⟨k + 1, by omega, by go_num, hW, HD2⟩
          case measure => simp [intOf]; omega
    · obtain rfl : i = n := by omega
      have q1 : decide (i < i) = false := decide_eq_false (by omega)
      go_wp2
      go_ret
      exact ⟨true, rfl, fun _ => HD.out, hW⟩
end Go.Proofs.YtaggohobdjidjaaGreatDoor

/- What a step of Place does; the placed labels are found again in their order: plain. -/
namespace Go.Proofs.YtaggohobdjidjaaGreatDoor

theorem insR_perm {α : Type} (lt : α → α → Bool) (x : α) (l : List α) : (insR lt x l).Perm (x :: l) := by
  induction l using snoc_ind with
  | nil => exact List.Perm.refl _
  | snoc l y ih =>
    rw [insR_snoc]
    split
    · exact (ih.append_right [y])
    · have : (l ++ [y, x]).Perm (x :: (l ++ [y])) := by
        rw [show l ++ [y, x] = (l ++ [y]) ++ [x] by simp]
        exact List.perm_append_singleton _ _
      exact this
theorem isort_perm {α : Type} (lt : α → α → Bool) (l : List α) : (isort lt l).Perm l := by
  induction l using snoc_ind with
  | nil => exact List.Perm.refl _
  | snoc l y ih =>
    rw [isort_snoc]
    exact (insR_perm lt y _).trans ((ih.cons y).trans (List.perm_append_singleton y l).symm)

/-- All Ids differ. -/
def DiffP (l : List Lab) : Prop := l.Pairwise fun a b => a.id.toList ≠ b.id.toList
theorem DiffP.perm {l l' : List Lab} (h : DiffP l) (hp : l'.Perm l) : DiffP l' := (List.Perm.pairwise_iff (fun {_ _} h => Ne.symm h) hp.symm).1 h

/-- A step either places the label, at its first free place, or there is none. -/
theorem tryF_cases (b : Bx) (out : List Pl) (x : Lab) : ∀ n k, (tryF b out x k n = out ∧ ∀ j, k ≤ j → j < k + n → freeF b out (boxAt j x) = false) ∨
    ∃ j, k ≤ j ∧ j < k + n ∧ tryF b out x k n = out ++ [⟨x.id, boxAt j x⟩] ∧ freeF b out (boxAt j x) = true ∧ ∀ i, k ≤ i → i < j → freeF b out (boxAt i x) = false
  | 0, k => .inl ⟨rfl, fun j h1 h2 => by omega⟩
  | n + 1, k => by
    unfold tryF
    by_cases hf : freeF b out (boxAt k x) = true
    · rw [if_pos hf]
      exact .inr ⟨k, Nat.le_refl _, by omega, rfl, hf, fun i h1 h2 => by omega⟩
    · rw [if_neg hf]
      have hf' : freeF b out (boxAt k x) = false := by simpa using hf
      rcases tryF_cases b out x n (k + 1) with ⟨h1, h2⟩ | ⟨j, h1, h2, h3, h4, h5⟩
      · refine .inl ⟨h1, fun j h3 h4 => ?_⟩
        rcases Nat.eq_or_lt_of_le h3 with rfl | h5
        · exact hf'
        · exact h2 j h5 (by omega)
      · refine .inr ⟨j, by omega, by omega, h3, h4, fun i h6 h7 => ?_⟩
        rcases Nat.eq_or_lt_of_le h6 with rfl | h8
        · exact hf'
        · exact h5 i h8 h7
theorem fold_prefix (b : Bx) : ∀ (l : List Lab) (out : List Pl), ∃ r, l.foldl (stepF b) out = out ++ r ∧ ∀ y ∈ r, ∃ x ∈ l, y.id = x.id
  | [], out => ⟨[], by simp, fun y h => (by cases h)⟩
  | x :: l, out => by
    rw [List.foldl_cons]
    obtain ⟨r, h1, h2⟩ := fold_prefix b l (stepF b out x)
    have h3 : ∃ s, stepF b out x = out ++ s ∧ ∀ y ∈ s, y.id = x.id := by
      unfold stepF
      split
      · rcases tryF_cases b out x 4 0 with ⟨h, -⟩ | ⟨j, -, -, h, -, -⟩
        · exact ⟨[], by rw [h]; simp, fun y h => (by cases h)⟩
        · exact ⟨_, h, fun y h => by rw [List.mem_singleton] at h; rw [h]⟩
      · exact ⟨[], by simp, fun y h => (by cases h)⟩
    obtain ⟨s, h4, h5⟩ := h3
    refine ⟨s ++ r, by rw [h1, h4, List.append_assoc], fun y hy => ?_⟩
    rcases List.mem_append.1 hy with hy | hy
    · exact ⟨x, List.mem_cons_self, h5 y hy⟩
    · obtain ⟨z, hz, he⟩ := h2 y hy
      exact ⟨z, List.mem_cons_of_mem _ hz, he⟩

/-- Round i of the law: what stands at the place behind those placed so far. -/
inductive RoundP (b : Bx) (ss : List Lab) (i : Nat) (x : Lab) : Prop
  | bad (hv : validL x = false) (hk : foldPl b (ss.take (i + 1)) = foldPl b (ss.take i)) (ho : ∀ y, (foldPl b ss)[(foldPl b (ss.take i)).length]? = some y → y.id.toList ≠ x.id.toList)
  | out (hv : validL x = true) (hk : foldPl b (ss.take (i + 1)) = foldPl b (ss.take i)) (ho : ∀ y, (foldPl b ss)[(foldPl b (ss.take i)).length]? = some y → y.id.toList ≠ x.id.toList)
      (hf : ∀ j, j < 4 → freeF b (foldPl b (ss.take i)) (boxAt j x) = false)
  | put (hv : validL x = true) (j : Nat) (hj : j < 4) (hk : foldPl b (ss.take (i + 1)) = foldPl b (ss.take i) ++ [⟨x.id, boxAt j x⟩]) (ho : (foldPl b ss)[(foldPl b (ss.take i)).length]? = some ⟨x.id, boxAt j x⟩)
      (ht : freeF b (foldPl b (ss.take i)) (boxAt j x) = true) (hf : ∀ k, k < j → freeF b (foldPl b (ss.take i)) (boxAt k x) = false)

theorem foldPl_split (b : Bx) (ss : List Lab) (i : Nat) : ∃ r, foldPl b ss = foldPl b (ss.take i) ++ r ∧ ∀ y ∈ r, ∃ x ∈ ss.drop i, y.id = x.id := by
  obtain ⟨r, h1, h2⟩ := fold_prefix b (ss.drop i) (foldPl b (ss.take i))
  refine ⟨r, ?_, h2⟩
  rw [← h1]
  unfold foldPl
  rw [← List.foldl_append, List.take_append_drop]
theorem late_ne {b : Bx} {ss : List Lab} {i : Nat} {x : Lab} (hd : DiffP ss) (hx : ss[i]? = some x) (hk : foldPl b (ss.take (i + 1)) = foldPl b (ss.take i)) (y : Pl) (hy : (foldPl b ss)[(foldPl b (ss.take i)).length]? = some y) : y.id.toList ≠ x.id.toList := by
  obtain ⟨r, h1, h2⟩ := foldPl_split b ss (i + 1)
  rw [hk] at h1
  rw [h1, List.getElem?_append_right (Nat.le_refl _), Nat.sub_self] at hy
  obtain ⟨z, hz, he⟩ := h2 y (List.mem_of_getElem? hy)
  rw [he]
  obtain ⟨n, hn⟩ := List.getElem?_of_mem hz
  rw [List.getElem?_drop] at hn
  obtain ⟨hi, rfl⟩ := List.getElem?_eq_some_iff.1 hx
  obtain ⟨hj, rfl⟩ := List.getElem?_eq_some_iff.1 hn
  exact Ne.symm (List.pairwise_iff_getElem.1 hd i (i + 1 + n) hi hj (by omega))
theorem roundP (b : Bx) {ss : List Lab} {i : Nat} {x : Lab} (hd : DiffP ss) (hx : ss[i]? = some x) : RoundP b ss i x := by
  have hs := foldPl_succ (b := b) hx
  cases hv : validL x with
  | false =>
    have hk : foldPl b (ss.take (i + 1)) = foldPl b (ss.take i) := by rw [hs]; unfold stepF; rw [hv]; rfl
    exact .bad hv hk (late_ne hd hx hk)
  | true =>
    have hs2 : foldPl b (ss.take (i + 1)) = tryF b (foldPl b (ss.take i)) x 0 4 := by rw [hs]; unfold stepF; rw [hv]; rfl
    rcases tryF_cases b (foldPl b (ss.take i)) x 4 0 with ⟨h1, h2⟩ | ⟨j, -, h2, h3, h4, h5⟩
    · have hk := hs2.trans h1
      exact .out hv hk (late_ne hd hx hk) (fun j hj => h2 j (Nat.zero_le _) (by omega))
    · have hk := hs2.trans h3
      refine .put hv j (by omega) hk ?_ h4 (fun k hk => h5 k (Nat.zero_le _) hk)
      obtain ⟨r, h6, -⟩ := foldPl_split b ss (i + 1)
      rw [hk] at h6
      rw [h6, List.append_assoc, List.getElem?_append_right (Nat.le_refl _), Nat.sub_self]
      rfl
theorem foldPl_take_length (b : Bx) (ss : List Lab) (i : Nat) : (foldPl b (ss.take i)).length ≤ (foldPl b ss).length ∧ (foldPl b ss).take (foldPl b (ss.take i)).length = foldPl b (ss.take i) := by
  obtain ⟨r, h1, -⟩ := foldPl_split b ss i
  rw [h1]
  refine ⟨by simp, ?_⟩
  rw [List.take_left']
  rfl
theorem free_ne {b : Bx} {out : List Pl} {f g : Bx} (h1 : freeF b out f = false) (h2 : freeF b out g = true) : f ≠ g := fun e => by rw [e, h2] at h1; cases h1
theorem bx_ne {f g : Bx} (h : f ≠ g) : ¬ (f.a = g.a ∧ f.b = g.b ∧ f.c = g.c ∧ f.d = g.d) := fun ⟨h1, h2, h3, h4⟩ => h (by cases f; cases g; simp_all)
end Go.Proofs.YtaggohobdjidjaaGreatDoor

/- planispherelaw43.LabelPlaces says true. -/
namespace Go.Proofs.YtaggohobdjidjaaGreatDoor
open Go.RowKit Go.Sort Go.Shelf

theorem DiffL.whole {l : List Lab} {n : Nat} (h : DiffL l n) (hn : n = l.length) : DiffP l := by
  refine List.pairwise_iff_getElem.2 fun i j hi hj hij => ?_
  exact h j i l[j] l[i] (by omega) hij (List.getElem?_eq_getElem hj) (List.getElem?_eq_getElem hi)
theorem placesF_at {x : Lab} {k : Nat} (hk : k < 4) : (placesF x)[k]? = some (boxAt k x) := by
  have : k = 0 ∨ k = 1 ∨ k = 2 ∨ k = 3 := by omega
  rcases this with rfl | rfl | rfl | rfl <;> rfl
theorem placeF_fold (b : Bx) (l : List Lab) : placeF b l = foldPl b (isort ltL l) := rfl


set_option maxHeartbeats 16000000 in
set_option maxRecDepth 100000 in
theorem places_law (p : Option Addr) (n cap : Nat) (l : List Lab) (b : Bx) (w : World) (hL : Lies w 6 labC p l) (hn : n = l.length) (hc : p = none → cap = 0) (h1 : n ≤ maxLen) (hG : Gw w) :
    Calls Tryz.prog 6 #[.slice p n cap, bxV b] w (RetB w (.bool true)) := by
  have HL := Lib.hid hL
  have HN := Lib.hid hn
  have HC := Lib.hid hc
  have HG := Lib.hid hG
  have HM1 := Lib.hid h1
  clear hL hn hc hG h1
  obtain ⟨ba, bb, bc, bd⟩ := b
  unfold bxV
  dsimp only
  go_enter Tryz.func6, Tryz.ntmps6
  go_wp2_with fail
  have hG1 := HG.out.below (B := w.heap.size) ((Below.refl _ _).alloc (Nat.le_refl _) (.cells #[.int .i64 ba, .int .i64 bb, .int .i64 bc, .int .i64 bd] 26)) HG.out.size
  refine (head_any _ hG1).mono ?_
  rintro e w1 ⟨rfl, hb⟩
  have b0 : Box w1 w.heap.size #[.int .i64 ba, .int .i64 bb, .int .i64 bc, .int .i64 bd] 26 := (Box.new _ _ _).below hb (by simp)
  have hW : Below w.heap.size w w1 := ((Below.refl _ _).alloc (Nat.le_refl _) _).trans (hb.mono (by simp))
  clear hb hG1
  go_wp2_with fail
  refine (few_any p n cap l 30 w1 (HL.out.below hW (Nat.le_refl _)) HN.out HM1.out (by decide)).mono ?_
  rintro e w2 ⟨few, rfl, hfew, hb⟩
  replace b0 := b0.below hb b0.lt
  replace hW := hW.trans (hb.mono hW.size)
  clear hb
  cases few with
  | false =>
    go_wp2
    go_ret
    exact RetB.mk' rfl hW
  | true =>
    have h30 : n ≤ 30 := hfew rfl
    clear hfew
    go_wp2_with fail
    refine (different_any p n cap l w2 (HL.out.below hW (Nat.le_refl _)) HN.out (by omega)).mono ?_
    rintro e w3 ⟨df, rfl, hdf, hb⟩
    replace b0 := b0.below hb b0.lt
    replace hW := hW.trans (hb.mono hW.size)
    clear hb
    cases df with
    | false =>
      go_wp2
      go_ret
      exact RetB.mk' rfl hW
    | true =>
      have HD : Hid (DiffP (isort ltL l)) := Lib.hid ((DiffL.whole (hdf rfl) HN.out).perm (isort_perm ltL l))
      have HPC := Lib.hid (place_any p n cap l ⟨ba, bb, bc, bd⟩ w3 (HL.out.below hW (Nat.le_refl _)) HN.out (by omega) HC.out)
      have r0 := b0.cell
      clear hdf
      go_wp2_with fail
      refine HPC.out.mono ?_
      rintro e w4 ⟨q, m, cq, rfl, hm, hcq, hQ, -, -, hb⟩
      replace b0 := b0.below hb b0.lt
      replace hW := hW.trans (hb.mono hW.size)
      have hHS := rsorted_any p n cap l w4 (HL.out.below hW (Nat.le_refl _)) HN.out (by omega)
      have HHS := Lib.hid hHS
      have HQ := Lib.hid hQ
      have HM := Lib.hid hm
      clear hb hHS r0 HPC hQ hm hcq
      go_wp2_with fail
      refine HHS.out.mono ?_
      rintro e w5 ⟨s, sn, cs, rfl, hsn, hcs, hS, -, -, hb⟩
      replace b0 := b0.below hb b0.lt
      replace hW := hW.trans (hb.mono hW.size)
      replace HQ := Lib.hid (HQ.out.below hb (Nat.le_refl _))
      have HSL : Hid (sn = n) := Lib.hid (by rw [hsn, isort_length, HN.out])
      obtain ⟨ss, hss⟩ : ∃ q, isort ltL l = q := ⟨_, rfl⟩
      have hpf := placeF_fold ⟨ba, bb, bc, bd⟩ l
      rw [hss] at hpf hsn hS HD
      obtain ⟨ps, hps⟩ : ∃ q, placeF ⟨ba, bb, bc, bd⟩ l = q := ⟨_, rfl⟩
      rw [hps] at hpf HQ HM
      have HP := Lib.hid hpf
      have HS := Lib.hid hS
      have HSN := Lib.hid hsn
      have HBX := Lib.hid b0
      have HW5 := Lib.hid hW
      have hm30 : m ≤ 30 := by
        have h1 := HM.out
        have h2 := placeF_length ⟨ba, bb, bc, bd⟩ l
        rw [hps] at h2
        have := HN.out
        omega
      have hsn30 : sn ≤ 30 := by have := HSL.out; omega
      clear hb HHS hss hps hpf hS hsn hcs b0 hW HL HN HC HM1 HG h30 HSL
      go_wp2
      go_loopw [7, 9] (fun vk vi wr => ∃ (i k : Nat), i ≤ sn ∧ k ≤ m ∧ vk = .int .i64 k ∧ vi = .int .i64 i ∧ Below w5.heap.size w5 wr ∧ Hid (k = (foldPl ⟨ba, bb, bc, bd⟩ (ss.take i)).length)) (fun _ vi _ => sn - (intOf vi).toNat)
      case atStart => exact ⟨0, 0, by omega, by omega, rfl, rfl, Below.refl _ _, Lib.hid rfl⟩
      case round =>
        obtain ⟨i, k, hi, hkm, rfl, rfl, hB, HK⟩ := hrel
        by_cases hlt : i < sn
        · obtain ⟨x, hx⟩ : ∃ x, ss[i]? = some x := ⟨_, List.getElem?_eq_getElem (by have := HSN.out; omega)⟩
          obtain ⟨gs, os, rfl⟩ := HS.out.addr (by have := HSN.out; omega)
          have hval := fun W2 => rvalid_any x W2
          unfold labV at hval
          have HVL := Lib.hid hval
          have HX := Lib.hid hx
          obtain ⟨hlen, htk⟩ := foldPl_take_length ⟨ba, bb, bc, bd⟩ ss i
          rw [← HP.out, ← HK.out] at htk
          have HPT : Hid (ps.take k = foldPl ⟨ba, bb, bc, bd⟩ (ss.take i)) := Lib.hid htk
          have RP := roundP ⟨ba, bb, bc, bd⟩ HD.out hx
          have q0 : decide (i < sn) = true := decide_eq_true hlt
          have hws := hB.size
          obtain ⟨x0, x1, x2, x3, x4, x5⟩ := (HS.out.below hB (Nat.le_refl _)).lab hx
          obtain ⟨id, hid⟩ : ∃ q, x.id = q := ⟨_, rfl⟩
          rw [hid] at x0
          clear hval hx hlen htk
          have RH := Lib.hid RP
          clear RP
          have hplc := fun (hv : validL x = true) W2 => rplaces_any x hv W2
          unfold labV at hplc
          rw [hid] at hplc HVL
          have HPL := Lib.hid hplc
          clear hplc x1 x2 x3 x4 x5
          rcases RH.out with ⟨hv, hk, ho⟩ | ⟨hv, hk, ho, hf⟩ | ⟨hv, j, hj, hk, ho, ht, hf⟩
          · rcases Nat.lt_or_ge k m with hkm' | hkm'
            ·
              obtain ⟨y, hy⟩ : ∃ y, ps[k]? = some y := ⟨_, List.getElem?_eq_getElem (by have := HM.out; omega)⟩
              obtain ⟨gp, op, rfl⟩ := HQ.out.addr (by have := HM.out; omega)
              have hne := ho y (by rw [← HP.out, ← HK.out]; exact hy)
              rw [hid] at hne
              obtain ⟨y0, -, -, -, -⟩ := (HQ.out.below hB (Nat.le_refl _)).pl hy
              have q1 : decide (k < m) = true := decide_eq_true hkm'
              obtain ⟨yi, hyi⟩ : ∃ q, y.id = q := ⟨_, rfl⟩
              rw [hyi] at hne y0
              have q2 : (yi.toList == id.toList) = false := beq_eq_false_iff_ne.2 hne
              clear hy hne ho hyi
              go_wp2_with fail
              have a_x0 := cell_regrown x0
              have a_y0 := cell_regrown y0
              refine wp_region_quiet_below (by kernel_rfl) (by kernel_rfl) ?_
              repeat (go_big_quiet_step (fail))
              refine wpQuiet_nil ?_
              rintro W2 hb2
              replace hb2 := below_of_regrown hb2
              clear a_x0 a_y0 x0 y0
              replace hB := hB.trans (hb2.mono hws)
              clear hb2 hws q2
              rw [hv] at HVL
              obtain ⟨x0, x1, x2, x3, x4, x5⟩ := (HS.out.below hB (Nat.le_refl _)).lab HX.out
              rw [hid] at x0
              go_wp2_with fail
              refine (HVL.out _).mono ?_
              rintro e w6 ⟨rfl, hb⟩
              replace hB := hB.trans (hb.mono hB.size)
              clear hb HVL x0 x1 x2 x3 x4 x5
              go_wp2
              go_roundw
              case rel => exact ⟨i + 1, k, by omega, hkm, rfl, by go_num, hB, Lib.hid (by rw [hk]; exact HK.out)⟩
              case measure => simp [intOf]; omega
            ·
              have q1 : decide (k < m) = false := decide_eq_false (by omega)
              clear ho
              go_wp2_with fail
              refine wp_region_quiet_below (by kernel_rfl) (by kernel_rfl) ?_
              repeat (go_big_quiet_step (fail))
              refine wpQuiet_nil ?_
              rintro W2 hb2
              replace hb2 := below_of_regrown hb2
              replace hB := hB.trans (hb2.mono hws)
              clear hb2 hws x0
              rw [hv] at HVL
              obtain ⟨x0, x1, x2, x3, x4, x5⟩ := (HS.out.below hB (Nat.le_refl _)).lab HX.out
              rw [hid] at x0
              go_wp2_with fail
              refine (HVL.out _).mono ?_
              rintro e w6 ⟨rfl, hb⟩
              replace hB := hB.trans (hb.mono hB.size)
              clear hb HVL x0 x1 x2 x3 x4 x5
              go_wp2
              go_roundw
              case rel => exact ⟨i + 1, k, by omega, hkm, rfl, by go_num, hB, Lib.hid (by rw [hk]; exact HK.out)⟩
              case measure => simp [intOf]; omega
          · rcases Nat.lt_or_ge k m with hkm' | hkm'
            ·
              obtain ⟨y, hy⟩ : ∃ y, ps[k]? = some y := ⟨_, List.getElem?_eq_getElem (by have := HM.out; omega)⟩
              obtain ⟨gp, op, rfl⟩ := HQ.out.addr (by have := HM.out; omega)
              have hne := ho y (by rw [← HP.out, ← HK.out]; exact hy)
              rw [hid] at hne
              obtain ⟨y0, -, -, -, -⟩ := (HQ.out.below hB (Nat.le_refl _)).pl hy
              have q1 : decide (k < m) = true := decide_eq_true hkm'
              obtain ⟨yi, hyi⟩ : ∃ q, y.id = q := ⟨_, rfl⟩
              rw [hyi] at hne y0
              have q2 : (yi.toList == id.toList) = false := beq_eq_false_iff_ne.2 hne
              clear hy hne ho hyi
              go_wp2_with fail
              have a_x0 := cell_regrown x0
              have a_y0 := cell_regrown y0
              refine wp_region_quiet_below (by kernel_rfl) (by kernel_rfl) ?_
              repeat (go_big_quiet_step (fail))
              refine wpQuiet_nil ?_
              rintro W2 hb2
              replace hb2 := below_of_regrown hb2
              clear a_x0 a_y0 x0 y0
              replace hB := hB.trans (hb2.mono hws)
              clear hb2 hws q2
              rw [hv] at HVL
              obtain ⟨x0, x1, x2, x3, x4, x5⟩ := (HS.out.below hB (Nat.le_refl _)).lab HX.out
              rw [hid] at x0
              go_wp2_with fail
              refine (HVL.out _).mono ?_
              rintro e w6 ⟨rfl, hb⟩
              replace hB := hB.trans (hb.mono hB.size)
              clear hb HVL x0 x1 x2 x3 x4 x5
              obtain ⟨x0, x1, x2, x3, x4, x5⟩ := (HS.out.below hB (Nat.le_refl _)).lab HX.out
              rw [hid] at x0
              go_wp2_with fail
              refine (HPL.out hv _).mono ?_
              rintro e w7 ⟨pq, pn, pc, rfl, hpn, -, hPL, -, -, hb⟩
              obtain rfl : pn = 4 := hpn
              obtain ⟨g3, o3, rfl⟩ := hPL.addr (show 0 < (placesF x).length by unfold placesF; simp)
              have HPLC := Lib.hid hPL
              replace hB := hB.trans (hb.mono hB.size)
              have HB7 := Lib.hid hB
              clear hb hPL hB HPL x0 x1 x2 x3 x4 x5
              go_wp2
              have HF4 := Lib.hid hf
              clear hf
              go_loopw [12] (fun vn W => ∃ nn : Nat, nn ≤ 4 ∧ vn = .int .i64 nn ∧ Below w7.heap.size w7 W) (fun vn _ => 4 - (intOf vn).toNat)
              case atStart => exact ⟨0, by omega, rfl, Below.refl _ _⟩
              case round =>
                obtain ⟨nn, hn4, rfl, hC⟩ := hrel
                by_cases hnn : nn < 4
                · have q4 : decide (nn < 4) = true := decide_eq_true hnn
                  have q5 : decide ((nn : Int) < 4) = true := decide_eq_true (by omega)
                  have hCs := hC.size
                  go_wp2_with fail
                  refine wp_region_quiet_below (by kernel_rfl) (by kernel_rfl) ?_
                  repeat (go_big_quiet_step (fail))
                  refine wpQuiet_nil ?_
                  rintro W4 hb4
                  replace hb4 := below_of_regrown hb4
                  replace hC := hC.trans (hb4.mono hCs)
                  clear hb4 hCs
                  have hFA := placesF_at (x := x) hnn
                  have hFN := HF4.out nn hnn
                  obtain ⟨⟨fa, fb, fc, fd⟩, hFB⟩ : ∃ q, boxAt nn x = q := ⟨_, rfl⟩
                  rw [hFB] at hFA hFN
                  have HF := Lib.hid hFA
                  have HNF := Lib.hid hFN
                  clear hFA hFN hFB
                  have hC3 := HB7.out.trans (hC.mono HB7.out.size)
                  have HXB := HBX.out.below hC3 HBX.out.lt
                  obtain ⟨y0, y1, y2, y3⟩ := (HPLC.out.below hC (Nat.le_refl _)).bx HF.out
                  obtain ⟨z0, z1, z2, z3⟩ : _ ∧ _ ∧ _ ∧ _ := ⟨HXB.cell 0, HXB.cell 1, HXB.cell 2, HXB.cell 3⟩
                  dsimp only at y0 y1 y2 y3
                  have hin := fun W2 => rinside_any ⟨fa, fb, fc, fd⟩ ⟨ba, bb, bc, bd⟩ W2
                  unfold bxV at hin
                  dsimp only at hin
                  have cI := quietC (W := W4) (fun w' _ => hin w')
                  clear hin HXB
                  go_wp2_with fail
                  have hCs := hC.size
                  have a_y0 := cell_regrown y0
                  have a_y1 := cell_regrown y1
                  have a_y2 := cell_regrown y2
                  have a_y3 := cell_regrown y3
                  have a_z0 := cell_regrown z0
                  have a_z1 := cell_regrown z1
                  have a_z2 := cell_regrown z2
                  have a_z3 := cell_regrown z3
                  refine wp_region_quiet_below (by kernel_rfl) (by kernel_rfl) ?_
                  repeat (go_big_quiet_step (exact cI _ _))
                  refine wpQuiet_nil ?_
                  rintro W5 hb5
                  replace hb5 := below_of_regrown hb5
                  clear a_y0 a_y1 a_y2 a_y3 a_z0 a_z1 a_z2 a_z3 y0 y1 y2 y3 z0 z1 z2 z3
                  replace hC := hC.trans (hb5.mono hCs)
                  clear hb5 hCs cI hC3
                  go_wp2
                  go_loopw [13, 14] (fun vt vx W => ∃ (xi : Nat) (tk : Bool), vt = .bool tk ∧ xi ≤ k ∧ vx = .int .i64 xi ∧ Below w7.heap.size w7 W ∧ Hid (tk = (!inF ⟨fa, fb, fc, fd⟩ ⟨ba, bb, bc, bd⟩ || (ps.take xi).any fun p => overF ⟨fa, fb, fc, fd⟩ p.bx))) (fun _ vx _ => k - (intOf vx).toNat)
                  case atStart => exact ⟨0, _, rfl, by omega, rfl, hC, Lib.hid (by simp)⟩
                  case round =>
                    clear hC
                    obtain ⟨xi, tk, rfl, hxl, rfl, hC, HTK⟩ := hrel
                    by_cases hxi : xi < k
                    · obtain ⟨z, hz⟩ : ∃ z, ps[xi]? = some z := ⟨_, List.getElem?_eq_getElem (by have := HM.out; omega)⟩
                      first | (obtain ⟨gp, op, rfl⟩ := HQ.out.addr (by have := HM.out; omega)) | skip
                      have hxm : xi < m := by omega
                      obtain ⟨z0, z1, z2, z3, z4⟩ := (HQ.out.below (HB7.out.trans (hC.mono HB7.out.size)) (Nat.le_refl _)).pl hz
                      obtain ⟨y0, y1, y2, y3⟩ := (HPLC.out.below hC (Nat.le_refl _)).bx HF.out
                      dsimp only at y0 y1 y2 y3
                      have HNX : Hid ((!inF ⟨fa, fb, fc, fd⟩ ⟨ba, bb, bc, bd⟩ || (ps.take (xi + 1)).any fun p => overF ⟨fa, fb, fc, fd⟩ p.bx) = (tk || overF ⟨fa, fb, fc, fd⟩ z.bx)) := Lib.hid (by
                        obtain ⟨hi', rfl⟩ := List.getElem?_eq_some_iff.1 hz
                        rw [HTK.out, List.take_succ_eq_append_getElem hi', List.any_append, Bool.or_assoc]
                        simp)
                      have q2 : decide (xi < k) = true := decide_eq_true hxi
                      have q3 : decide (xi < m) = true := decide_eq_true hxm
                      have hov := fun W2 => roverlap_any ⟨fa, fb, fc, fd⟩ z.bx W2
                      unfold bxV at hov
                      dsimp only at hov
                      clear hz HTK
                      obtain ⟨zid, za, zb, zc, zd⟩ := z
                      dsimp only at z0 z1 z2 z3 z4 hov HNX
                      have hCs := hC.size
                      cases tk with
                      | true =>
                        clear y0 y1 y2 y3 z0 z1 z2 z3 z4 hov
                        go_wp2_with fail
                        refine wp_region_quiet_below (by kernel_rfl) (by kernel_rfl) ?_
                        repeat (go_big_quiet_step (fail))
                        refine wpQuiet_nil ?_
                        rintro W6 hb6
                        replace hb6 := below_of_regrown hb6
                        replace hC := hC.trans (hb6.mono hCs)
                        clear hb6 hCs
                        go_wp2
                        go_roundw
                        case rel => exact ⟨xi + 1, true, rfl, by omega, by go_num, hC, Lib.hid (by rw [HNX.out]; rfl)⟩
                        case measure => simp [intOf]; omega
                      | false =>
                        have cO := quietC (W := wr) (fun w' _ => hov w')
                        clear hov z0
                        go_wp2_with fail
                        have a_y0 := cell_regrown y0
                        have a_y1 := cell_regrown y1
                        have a_y2 := cell_regrown y2
                        have a_y3 := cell_regrown y3
                        have a_z1 := cell_regrown z1
                        have a_z2 := cell_regrown z2
                        have a_z3 := cell_regrown z3
                        have a_z4 := cell_regrown z4
                        refine wp_region_quiet_below (by kernel_rfl) (by kernel_rfl) ?_
                        repeat (go_big_quiet_step (exact cO _ _))
                        refine wpQuiet_nil ?_
                        rintro W6 hb6
                        replace hb6 := below_of_regrown hb6
                        clear a_y0 a_y1 a_y2 a_y3 a_z1 a_z2 a_z3 a_z4 y0 y1 y2 y3 z1 z2 z3 z4
                        replace hC := hC.trans (hb6.mono hCs)
                        clear hb6 hCs cO
                        go_wp2
                        go_roundw
                        case rel => exact ⟨xi + 1, _, rfl, by omega, by go_num, hC, Lib.hid (by rw [HNX.out]; rfl)⟩
                        case measure => simp [intOf]; omega
                    · obtain rfl : xi = k := by omega
                      have q2 : decide (xi < xi) = false := decide_eq_false (by omega)
                      obtain rfl : tk = true := by
                        rw [HTK.out]
                        have := HNF.out
                        rw [← HPT.out] at this
                        unfold freeF at this
                        cases h1 : inF ⟨fa, fb, fc, fd⟩ ⟨ba, bb, bc, bd⟩
                        · rfl
                        · rw [h1] at this; simpa using this
                      clear HTK
                      go_wp2
                      go_roundw
                      case rel => exact ⟨nn + 1, by omega, by go_num, hC⟩
                      case measure => simp [intOf]; omega
                · obtain rfl : nn = 4 := by omega
                  go_wp2
                  go_roundw
                  case rel => exact ⟨i + 1, k, by omega, hkm, rfl, by go_num, HB7.out.trans (hC.mono HB7.out.size), Lib.hid (by rw [hk]; exact HK.out)⟩
                  case measure => simp [intOf]; omega
            ·
              have q1 : decide (k < m) = false := decide_eq_false (by omega)
              clear ho
              go_wp2_with fail
              refine wp_region_quiet_below (by kernel_rfl) (by kernel_rfl) ?_
              repeat (go_big_quiet_step (fail))
              refine wpQuiet_nil ?_
              rintro W2 hb2
              replace hb2 := below_of_regrown hb2
              replace hB := hB.trans (hb2.mono hws)
              clear hb2 hws x0
              rw [hv] at HVL
              obtain ⟨x0, x1, x2, x3, x4, x5⟩ := (HS.out.below hB (Nat.le_refl _)).lab HX.out
              rw [hid] at x0
              go_wp2_with fail
              refine (HVL.out _).mono ?_
              rintro e w6 ⟨rfl, hb⟩
              replace hB := hB.trans (hb.mono hB.size)
              clear hb HVL x0 x1 x2 x3 x4 x5
              obtain ⟨x0, x1, x2, x3, x4, x5⟩ := (HS.out.below hB (Nat.le_refl _)).lab HX.out
              rw [hid] at x0
              go_wp2_with fail
              refine (HPL.out hv _).mono ?_
              rintro e w7 ⟨pq, pn, pc, rfl, hpn, -, hPL, -, -, hb⟩
              obtain rfl : pn = 4 := hpn
              obtain ⟨g3, o3, rfl⟩ := hPL.addr (show 0 < (placesF x).length by unfold placesF; simp)
              have HPLC := Lib.hid hPL
              replace hB := hB.trans (hb.mono hB.size)
              have HB7 := Lib.hid hB
              clear hb hPL hB HPL x0 x1 x2 x3 x4 x5
              go_wp2
              have HF4 := Lib.hid hf
              clear hf
              go_loopw [12] (fun vn W => ∃ nn : Nat, nn ≤ 4 ∧ vn = .int .i64 nn ∧ Below w7.heap.size w7 W) (fun vn _ => 4 - (intOf vn).toNat)
              case atStart => exact ⟨0, by omega, rfl, Below.refl _ _⟩
              case round =>
                obtain ⟨nn, hn4, rfl, hC⟩ := hrel
                by_cases hnn : nn < 4
                · have q4 : decide (nn < 4) = true := decide_eq_true hnn
                  have q5 : decide ((nn : Int) < 4) = true := decide_eq_true (by omega)
                  have hCs := hC.size
                  go_wp2_with fail
                  refine wp_region_quiet_below (by kernel_rfl) (by kernel_rfl) ?_
                  repeat (go_big_quiet_step (fail))
                  refine wpQuiet_nil ?_
                  rintro W4 hb4
                  replace hb4 := below_of_regrown hb4
                  replace hC := hC.trans (hb4.mono hCs)
                  clear hb4 hCs
                  have hFA := placesF_at (x := x) hnn
                  have hFN := HF4.out nn hnn
                  obtain ⟨⟨fa, fb, fc, fd⟩, hFB⟩ : ∃ q, boxAt nn x = q := ⟨_, rfl⟩
                  rw [hFB] at hFA hFN
                  have HF := Lib.hid hFA
                  have HNF := Lib.hid hFN
                  clear hFA hFN hFB
                  have hC3 := HB7.out.trans (hC.mono HB7.out.size)
                  have HXB := HBX.out.below hC3 HBX.out.lt
                  obtain ⟨y0, y1, y2, y3⟩ := (HPLC.out.below hC (Nat.le_refl _)).bx HF.out
                  obtain ⟨z0, z1, z2, z3⟩ : _ ∧ _ ∧ _ ∧ _ := ⟨HXB.cell 0, HXB.cell 1, HXB.cell 2, HXB.cell 3⟩
                  dsimp only at y0 y1 y2 y3
                  have hin := fun W2 => rinside_any ⟨fa, fb, fc, fd⟩ ⟨ba, bb, bc, bd⟩ W2
                  unfold bxV at hin
                  dsimp only at hin
                  have cI := quietC (W := W4) (fun w' _ => hin w')
                  clear hin HXB
                  go_wp2_with fail
                  have hCs := hC.size
                  have a_y0 := cell_regrown y0
                  have a_y1 := cell_regrown y1
                  have a_y2 := cell_regrown y2
                  have a_y3 := cell_regrown y3
                  have a_z0 := cell_regrown z0
                  have a_z1 := cell_regrown z1
                  have a_z2 := cell_regrown z2
                  have a_z3 := cell_regrown z3
                  refine wp_region_quiet_below (by kernel_rfl) (by kernel_rfl) ?_
                  repeat (go_big_quiet_step (exact cI _ _))
                  refine wpQuiet_nil ?_
                  rintro W5 hb5
                  replace hb5 := below_of_regrown hb5
                  clear a_y0 a_y1 a_y2 a_y3 a_z0 a_z1 a_z2 a_z3 y0 y1 y2 y3 z0 z1 z2 z3
                  replace hC := hC.trans (hb5.mono hCs)
                  clear hb5 hCs cI hC3
                  go_wp2
                  go_loopw [13, 14] (fun vt vx W => ∃ (xi : Nat) (tk : Bool), vt = .bool tk ∧ xi ≤ k ∧ vx = .int .i64 xi ∧ Below w7.heap.size w7 W ∧ Hid (tk = (!inF ⟨fa, fb, fc, fd⟩ ⟨ba, bb, bc, bd⟩ || (ps.take xi).any fun p => overF ⟨fa, fb, fc, fd⟩ p.bx))) (fun _ vx _ => k - (intOf vx).toNat)
                  case atStart => exact ⟨0, _, rfl, by omega, rfl, hC, Lib.hid (by simp)⟩
                  case round =>
                    clear hC
                    obtain ⟨xi, tk, rfl, hxl, rfl, hC, HTK⟩ := hrel
                    by_cases hxi : xi < k
                    · obtain ⟨z, hz⟩ : ∃ z, ps[xi]? = some z := ⟨_, List.getElem?_eq_getElem (by have := HM.out; omega)⟩
                      first | (obtain ⟨gp, op, rfl⟩ := HQ.out.addr (by have := HM.out; omega)) | skip
                      have hxm : xi < m := by omega
                      obtain ⟨z0, z1, z2, z3, z4⟩ := (HQ.out.below (HB7.out.trans (hC.mono HB7.out.size)) (Nat.le_refl _)).pl hz
                      obtain ⟨y0, y1, y2, y3⟩ := (HPLC.out.below hC (Nat.le_refl _)).bx HF.out
                      dsimp only at y0 y1 y2 y3
                      have HNX : Hid ((!inF ⟨fa, fb, fc, fd⟩ ⟨ba, bb, bc, bd⟩ || (ps.take (xi + 1)).any fun p => overF ⟨fa, fb, fc, fd⟩ p.bx) = (tk || overF ⟨fa, fb, fc, fd⟩ z.bx)) := Lib.hid (by
                        obtain ⟨hi', rfl⟩ := List.getElem?_eq_some_iff.1 hz
                        rw [HTK.out, List.take_succ_eq_append_getElem hi', List.any_append, Bool.or_assoc]
                        simp)
                      have q2 : decide (xi < k) = true := decide_eq_true hxi
                      have q3 : decide (xi < m) = true := decide_eq_true hxm
                      have hov := fun W2 => roverlap_any ⟨fa, fb, fc, fd⟩ z.bx W2
                      unfold bxV at hov
                      dsimp only at hov
                      clear hz HTK
                      obtain ⟨zid, za, zb, zc, zd⟩ := z
                      dsimp only at z0 z1 z2 z3 z4 hov HNX
                      have hCs := hC.size
                      cases tk with
                      | true =>
                        clear y0 y1 y2 y3 z0 z1 z2 z3 z4 hov
                        go_wp2_with fail
                        refine wp_region_quiet_below (by kernel_rfl) (by kernel_rfl) ?_
                        repeat (go_big_quiet_step (fail))
                        refine wpQuiet_nil ?_
                        rintro W6 hb6
                        replace hb6 := below_of_regrown hb6
                        replace hC := hC.trans (hb6.mono hCs)
                        clear hb6 hCs
                        go_wp2
                        go_roundw
                        case rel => exact ⟨xi + 1, true, rfl, by omega, by go_num, hC, Lib.hid (by rw [HNX.out]; rfl)⟩
                        case measure => simp [intOf]; omega
                      | false =>
                        have cO := quietC (W := wr) (fun w' _ => hov w')
                        clear hov z0
                        go_wp2_with fail
                        have a_y0 := cell_regrown y0
                        have a_y1 := cell_regrown y1
                        have a_y2 := cell_regrown y2
                        have a_y3 := cell_regrown y3
                        have a_z1 := cell_regrown z1
                        have a_z2 := cell_regrown z2
                        have a_z3 := cell_regrown z3
                        have a_z4 := cell_regrown z4
                        refine wp_region_quiet_below (by kernel_rfl) (by kernel_rfl) ?_
                        repeat (go_big_quiet_step (exact cO _ _))
                        refine wpQuiet_nil ?_
                        rintro W6 hb6
                        replace hb6 := below_of_regrown hb6
                        clear a_y0 a_y1 a_y2 a_y3 a_z1 a_z2 a_z3 a_z4 y0 y1 y2 y3 z1 z2 z3 z4
                        replace hC := hC.trans (hb6.mono hCs)
                        clear hb6 hCs cO
                        go_wp2
                        go_roundw
                        case rel => exact ⟨xi + 1, _, rfl, by omega, by go_num, hC, Lib.hid (by rw [HNX.out]; rfl)⟩
                        case measure => simp [intOf]; omega
                    · obtain rfl : xi = k := by omega
                      have q2 : decide (xi < xi) = false := decide_eq_false (by omega)
                      obtain rfl : tk = true := by
                        rw [HTK.out]
                        have := HNF.out
                        rw [← HPT.out] at this
                        unfold freeF at this
                        cases h1 : inF ⟨fa, fb, fc, fd⟩ ⟨ba, bb, bc, bd⟩
                        · rfl
                        · rw [h1] at this; simpa using this
                      clear HTK
                      go_wp2
                      go_roundw
                      case rel => exact ⟨nn + 1, by omega, by go_num, hC⟩
                      case measure => simp [intOf]; omega
                · obtain rfl : nn = 4 := by omega
                  go_wp2
                  go_roundw
                  case rel => exact ⟨i + 1, k, by omega, hkm, rfl, by go_num, HB7.out.trans (hC.mono HB7.out.size), Lib.hid (by rw [hk]; exact HK.out)⟩
                  case measure => simp [intOf]; omega
          ·
            have hkm' : k < m := by
              have := (List.getElem?_eq_some_iff.1 ho).1
              rw [← HK.out, ← HP.out] at this
              have := HM.out
              omega
            obtain ⟨gp, op, rfl⟩ := HQ.out.addr (by have := HM.out; omega)
            rw [← HP.out, ← HK.out] at ho
            have HY := Lib.hid ho
            obtain ⟨y0, -, -, -, -⟩ := (HQ.out.below hB (Nat.le_refl _)).pl ho
            dsimp only at y0
            rw [hid] at y0
            have q1 : decide (k < m) = true := decide_eq_true hkm'
            have q2 : (id.toList == id.toList) = true := beq_iff_eq.2 rfl
            clear ho
            go_wp2_with fail
            have a_x0 := cell_regrown x0
            have a_y0 := cell_regrown y0
            refine wp_region_quiet_below (by kernel_rfl) (by kernel_rfl) ?_
            repeat (go_big_quiet_step (fail))
            refine wpQuiet_nil ?_
            rintro W2 hb2
            replace hb2 := below_of_regrown hb2
            clear a_x0 a_y0 x0 y0
            replace hB := hB.trans (hb2.mono hws)
            clear hb2 hws q2
            rw [hv] at HVL
            obtain ⟨x0, x1, x2, x3, x4, x5⟩ := (HS.out.below hB (Nat.le_refl _)).lab HX.out
            rw [hid] at x0
            go_wp2_with fail
            refine (HVL.out _).mono ?_
            rintro e w6 ⟨rfl, hb⟩
            replace hB := hB.trans (hb.mono hB.size)
            clear hb HVL x0 x1 x2 x3 x4 x5
            obtain ⟨x0, x1, x2, x3, x4, x5⟩ := (HS.out.below hB (Nat.le_refl _)).lab HX.out
            rw [hid] at x0
            go_wp2_with fail
            refine (HPL.out hv _).mono ?_
            rintro e w7 ⟨pq, pn, pc, rfl, hpn, -, hPL, -, -, hb⟩
            obtain rfl : pn = 4 := hpn
            obtain ⟨g3, o3, rfl⟩ := hPL.addr (show 0 < (placesF x).length by unfold placesF; simp)
            have HPLC := Lib.hid hPL
            replace hB := hB.trans (hb.mono hB.size)
            have HB7 := Lib.hid hB
            clear hb hPL hB HPL x0 x1 x2 x3 x4 x5
            go_wp2
            have HFJ := Lib.hid hf
            have HTJ := Lib.hid ht
            clear hf ht
            go_loopw [12] (fun vn W => ∃ nn : Nat, nn ≤ j ∧ vn = .int .i64 nn ∧ Below w7.heap.size w7 W) (fun vn _ => 4 - (intOf vn).toNat)
            case atStart => exact ⟨0, by omega, rfl, Below.refl _ _⟩
            case round =>
              obtain ⟨nn, hnj, rfl, hC⟩ := hrel
              have hnn : nn < 4 := by omega
              have q4 : decide (nn < 4) = true := decide_eq_true hnn
              have q5 : decide ((nn : Int) < 4) = true := decide_eq_true (by omega)
              have hCs := hC.size
              have hC3 := HB7.out.trans (hC.mono HB7.out.size)
              obtain ⟨-, z1, z2, z3, z4⟩ := (HQ.out.below hC3 (Nat.le_refl _)).pl HY.out
              dsimp only at z1 z2 z3 z4
              obtain ⟨⟨ga, gb, gc, gd⟩, hGB⟩ : ∃ q, boxAt j x = q := ⟨_, rfl⟩
              rw [hGB] at z1 z2 z3 z4
              have hFA := placesF_at (x := x) hnn
              obtain ⟨⟨fa, fb, fc, fd⟩, hFB⟩ : ∃ q, boxAt nn x = q := ⟨_, rfl⟩
              rw [hFB] at hFA
              have HF := Lib.hid hFA
              obtain ⟨y0, y1, y2, y3⟩ := (HPLC.out.below hC (Nat.le_refl _)).bx hFA
              dsimp only at y0 y1 y2 y3 z1 z2 z3 z4
              by_cases hlj : nn < j
              · have hFN := HFJ.out nn hlj
                have hbne := bx_ne (free_ne hFN HTJ.out)
                rw [hFB] at hFN hbne
                rw [hGB] at hbne
                have hbn := box_no hbne
                have HNF := Lib.hid hFN
                have q6 : ((nn : Int) == 3) = false := beq_eq_false_iff_ne.2 (by omega)
                clear hbne hFN hFA hFB hGB
                go_wp2_with fail
                have a_y0 := cell_regrown y0
                have a_y1 := cell_regrown y1
                have a_y2 := cell_regrown y2
                have a_y3 := cell_regrown y3
                have a_z1 := cell_regrown z1
                have a_z2 := cell_regrown z2
                have a_z3 := cell_regrown z3
                have a_z4 := cell_regrown z4
                refine wp_region_quiet_below (by kernel_rfl) (by kernel_rfl) ?_
                repeat (go_big_quiet_step (fail))
                refine wpQuiet_nil ?_
                rintro W4 hb4
                replace hb4 := below_of_regrown hb4
                clear a_y0 a_y1 a_y2 a_y3 a_z1 a_z2 a_z3 a_z4 y0 y1 y2 y3 z1 z2 z3 z4
                replace hC := hC.trans (hb4.mono hCs)
                clear hb4 hCs hbn hC3
                have hC3 := HB7.out.trans (hC.mono HB7.out.size)
                have HXB := HBX.out.below hC3 HBX.out.lt
                obtain ⟨y0, y1, y2, y3⟩ := (HPLC.out.below hC (Nat.le_refl _)).bx HF.out
                obtain ⟨z0, z1, z2, z3⟩ : _ ∧ _ ∧ _ ∧ _ := ⟨HXB.cell 0, HXB.cell 1, HXB.cell 2, HXB.cell 3⟩
                dsimp only at y0 y1 y2 y3
                have hin := fun W2 => rinside_any ⟨fa, fb, fc, fd⟩ ⟨ba, bb, bc, bd⟩ W2
                unfold bxV at hin
                dsimp only at hin
                have cI := quietC (W := W4) (fun w' _ => hin w')
                clear hin HXB
                go_wp2_with fail
                have hCs := hC.size
                have a_y0 := cell_regrown y0
                have a_y1 := cell_regrown y1
                have a_y2 := cell_regrown y2
                have a_y3 := cell_regrown y3
                have a_z0 := cell_regrown z0
                have a_z1 := cell_regrown z1
                have a_z2 := cell_regrown z2
                have a_z3 := cell_regrown z3
                refine wp_region_quiet_below (by kernel_rfl) (by kernel_rfl) ?_
                repeat (go_big_quiet_step (exact cI _ _))
                refine wpQuiet_nil ?_
                rintro W5 hb5
                replace hb5 := below_of_regrown hb5
                clear a_y0 a_y1 a_y2 a_y3 a_z0 a_z1 a_z2 a_z3 y0 y1 y2 y3 z0 z1 z2 z3
                replace hC := hC.trans (hb5.mono hCs)
                clear hb5 hCs cI hC3
                go_wp2
                go_loopw [13, 14] (fun vt vx W => ∃ (xi : Nat) (tk : Bool), vt = .bool tk ∧ xi ≤ k ∧ vx = .int .i64 xi ∧ Below w7.heap.size w7 W ∧ Hid (tk = (!inF ⟨fa, fb, fc, fd⟩ ⟨ba, bb, bc, bd⟩ || (ps.take xi).any fun p => overF ⟨fa, fb, fc, fd⟩ p.bx))) (fun _ vx _ => k - (intOf vx).toNat)
                case atStart => exact ⟨0, _, rfl, by omega, rfl, hC, Lib.hid (by simp)⟩
                case round =>
                  clear hC
                  obtain ⟨xi, tk, rfl, hxl, rfl, hC, HTK⟩ := hrel
                  by_cases hxi : xi < k
                  · obtain ⟨z, hz⟩ : ∃ z, ps[xi]? = some z := ⟨_, List.getElem?_eq_getElem (by have := HM.out; omega)⟩
                    first | (obtain ⟨gp, op, rfl⟩ := HQ.out.addr (by have := HM.out; omega)) | skip
                    have hxm : xi < m := by omega
                    obtain ⟨z0, z1, z2, z3, z4⟩ := (HQ.out.below (HB7.out.trans (hC.mono HB7.out.size)) (Nat.le_refl _)).pl hz
                    obtain ⟨y0, y1, y2, y3⟩ := (HPLC.out.below hC (Nat.le_refl _)).bx HF.out
                    dsimp only at y0 y1 y2 y3
                    have HNX : Hid ((!inF ⟨fa, fb, fc, fd⟩ ⟨ba, bb, bc, bd⟩ || (ps.take (xi + 1)).any fun p => overF ⟨fa, fb, fc, fd⟩ p.bx) = (tk || overF ⟨fa, fb, fc, fd⟩ z.bx)) := Lib.hid (by
                      obtain ⟨hi', rfl⟩ := List.getElem?_eq_some_iff.1 hz
                      rw [HTK.out, List.take_succ_eq_append_getElem hi', List.any_append, Bool.or_assoc]
                      simp)
                    have q2 : decide (xi < k) = true := decide_eq_true hxi
                    have q3 : decide (xi < m) = true := decide_eq_true hxm
                    have hov := fun W2 => roverlap_any ⟨fa, fb, fc, fd⟩ z.bx W2
                    unfold bxV at hov
                    dsimp only at hov
                    clear hz HTK
                    obtain ⟨zid, za, zb, zc, zd⟩ := z
                    dsimp only at z0 z1 z2 z3 z4 hov HNX
                    have hCs := hC.size
                    cases tk with
                    | true =>
                      clear y0 y1 y2 y3 z0 z1 z2 z3 z4 hov
                      go_wp2_with fail
                      refine wp_region_quiet_below (by kernel_rfl) (by kernel_rfl) ?_
                      repeat (go_big_quiet_step (fail))
                      refine wpQuiet_nil ?_
                      rintro W6 hb6
                      replace hb6 := below_of_regrown hb6
                      replace hC := hC.trans (hb6.mono hCs)
                      clear hb6 hCs
                      go_wp2
                      go_roundw
                      case rel => exact ⟨xi + 1, true, rfl, by omega, by go_num, hC, Lib.hid (by rw [HNX.out]; rfl)⟩
                      case measure => simp [intOf]; omega
                    | false =>
                      have cO := quietC (W := wr) (fun w' _ => hov w')
                      clear hov z0
                      go_wp2_with fail
                      have a_y0 := cell_regrown y0
                      have a_y1 := cell_regrown y1
                      have a_y2 := cell_regrown y2
                      have a_y3 := cell_regrown y3
                      have a_z1 := cell_regrown z1
                      have a_z2 := cell_regrown z2
                      have a_z3 := cell_regrown z3
                      have a_z4 := cell_regrown z4
                      refine wp_region_quiet_below (by kernel_rfl) (by kernel_rfl) ?_
                      repeat (go_big_quiet_step (exact cO _ _))
                      refine wpQuiet_nil ?_
                      rintro W6 hb6
                      replace hb6 := below_of_regrown hb6
                      clear a_y0 a_y1 a_y2 a_y3 a_z1 a_z2 a_z3 a_z4 y0 y1 y2 y3 z1 z2 z3 z4
                      replace hC := hC.trans (hb6.mono hCs)
                      clear hb6 hCs cO
                      go_wp2
                      go_roundw
                      case rel => exact ⟨xi + 1, _, rfl, by omega, by go_num, hC, Lib.hid (by rw [HNX.out]; rfl)⟩
                      case measure => simp [intOf]; omega
                  · obtain rfl : xi = k := by omega
                    have q2 : decide (xi < xi) = false := decide_eq_false (by omega)
                    obtain rfl : tk = true := by
                      rw [HTK.out]
                      have := HNF.out
                      rw [← HPT.out] at this
                      unfold freeF at this
                      cases h1 : inF ⟨fa, fb, fc, fd⟩ ⟨ba, bb, bc, bd⟩
                      · rfl
                      · rw [h1] at this; simpa using this
                    clear HTK
                    go_wp2
                    go_roundw
                    case rel => exact ⟨nn + 1, by omega, by go_num, hC⟩
                    case measure => simp [intOf]; omega
              · obtain rfl : nn = j := by omega
                have hbe : fa = ga ∧ fb = gb ∧ fc = gc ∧ fd = gd := by
                  rw [hFB] at hGB
                  cases hGB
                  exact ⟨rfl, rfl, rfl, rfl⟩
                have hbn := box_yes hbe
                clear hbe hFA hFB hGB hlj
                go_wp2_with fail
                have a_y0 := cell_regrown y0
                have a_y1 := cell_regrown y1
                have a_y2 := cell_regrown y2
                have a_y3 := cell_regrown y3
                have a_z1 := cell_regrown z1
                have a_z2 := cell_regrown z2
                have a_z3 := cell_regrown z3
                have a_z4 := cell_regrown z4
                refine wp_region_quiet_below (by kernel_rfl) (by kernel_rfl) ?_
                repeat (go_big_quiet_step (fail))
                refine wpQuiet_nil ?_
                rintro W4 hb4
                replace hb4 := below_of_regrown hb4
                clear a_y0 a_y1 a_y2 a_y3 a_z1 a_z2 a_z3 a_z4 y0 y1 y2 y3 z1 z2 z3 z4
                replace hC := hC.trans (hb4.mono hCs)
                clear hb4 hCs hbn hC3
                have hk1 : k + 1 ≤ m := hkm'
                go_wp2
                go_roundw
                case rel => exact ⟨i + 1, k + 1, by omega, hk1, by go_num, by go_num, HB7.out.trans (hC.mono HB7.out.size), Lib.hid (by rw [hk, List.length_append, ← HK.out]; rfl)⟩
                case measure => simp [intOf]; omega
        · obtain rfl : i = sn := by omega
          have q0 : decide (i < i) = false := decide_eq_false (by omega)
          obtain rfl : k = m := by
            have := HK.out
            rw [HSN.out, List.take_length, ← HP.out, ← HM.out] at this
            exact this
          have q1 : ((k : Int) == (k : Int)) = true := by simp
          go_wp2
          go_ret
          exact RetB.mk' rfl (HW5.out.trans (hB.mono HW5.out.size))
end Go.Proofs.YtaggohobdjidjaaGreatDoor

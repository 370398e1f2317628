import Derived.Test.YtaggohobdjidjaaGreatDoorJU
import Derived.Test.YtaggohobdjidjaaGreatDoorJT

/- What a step of Place does; the placed labels are found again in their order: plain. -/
namespace Go.Proofs.YtaggohobdjidjaaGreatDoor

theorem insR_perm {α : Type} (lt : α → α → Bool) (x : α) (l : List α) : (insR lt x l).Perm (x :: l) := by
  induction l using snoc_ind with
  | nil => exact List.Perm.refl _
  | snoc l y ih =>
    rw [insR_snoc]
    split
    · exact (ih.append_right [y])
    · have : (l ++ [y, x]).Perm (x :: (l ++ [y])) := by
        rw [show l ++ [y, x] = (l ++ [y]) ++ [x] by simp]
        exact List.perm_append_singleton _ _
      exact this
theorem isort_perm {α : Type} (lt : α → α → Bool) (l : List α) : (isort lt l).Perm l := by
  induction l using snoc_ind with
  | nil => exact List.Perm.refl _
  | snoc l y ih =>
    rw [isort_snoc]
    exact (insR_perm lt y _).trans ((ih.cons y).trans (List.perm_append_singleton y l).symm)

/-- All Ids differ. -/
def DiffP (l : List Lab) : Prop := l.Pairwise fun a b => a.id.toList ≠ b.id.toList
theorem DiffP.perm {l l' : List Lab} (h : DiffP l) (hp : l'.Perm l) : DiffP l' := (List.Perm.pairwise_iff (fun {_ _} h => Ne.symm h) hp.symm).1 h

/-- A step either places the label, at its first free place, or there is none. -/
theorem tryF_cases (b : Bx) (out : List Pl) (x : Lab) : ∀ n k, (tryF b out x k n = out ∧ ∀ j, k ≤ j → j < k + n → freeF b out (boxAt j x) = false) ∨
    ∃ j, k ≤ j ∧ j < k + n ∧ tryF b out x k n = out ++ [⟨x.id, boxAt j x⟩] ∧ freeF b out (boxAt j x) = true ∧ ∀ i, k ≤ i → i < j → freeF b out (boxAt i x) = false
  | 0, k => .inl ⟨rfl, fun j h1 h2 => by omega⟩
  | n + 1, k => by
    unfold tryF
    by_cases hf : freeF b out (boxAt k x) = true
    · rw [if_pos hf]
      exact .inr ⟨k, Nat.le_refl _, by omega, rfl, hf, fun i h1 h2 => by omega⟩
    · rw [if_neg hf]
      have hf' : freeF b out (boxAt k x) = false := by simpa using hf
      rcases tryF_cases b out x n (k + 1) with ⟨h1, h2⟩ | ⟨j, h1, h2, h3, h4, h5⟩
      · refine .inl ⟨h1, fun j h3 h4 => ?_⟩
        rcases Nat.eq_or_lt_of_le h3 with rfl | h5
        · exact hf'
        · exact h2 j h5 (by omega)
      · refine .inr ⟨j, by omega, by omega, h3, h4, fun i h6 h7 => ?_⟩
        rcases Nat.eq_or_lt_of_le h6 with rfl | h8
        · exact hf'
        · exact h5 i h8 h7
theorem fold_prefix (b : Bx) : ∀ (l : List Lab) (out : List Pl), ∃ r, l.foldl (stepF b) out = out ++ r ∧ ∀ y ∈ r, ∃ x ∈ l, y.id = x.id
  | [], out => ⟨[], by simp, fun y h => (by cases h)⟩
  | x :: l, out => by
    rw [List.foldl_cons]
    obtain ⟨r, h1, h2⟩ := fold_prefix b l (stepF b out x)
    have h3 : ∃ s, stepF b out x = out ++ s ∧ ∀ y ∈ s, y.id = x.id := by
      unfold stepF
      split
      · rcases tryF_cases b out x 4 0 with ⟨h, -⟩ | ⟨j, -, -, h, -, -⟩
        · exact ⟨[], by rw [h]; simp, fun y h => (by cases h)⟩
        · exact ⟨_, h, fun y h => by rw [List.mem_singleton] at h; rw [h]⟩
      · exact ⟨[], by simp, fun y h => (by cases h)⟩
    obtain ⟨s, h4, h5⟩ := h3
    refine ⟨s ++ r, by rw [h1, h4, List.append_assoc], fun y hy => ?_⟩
    rcases List.mem_append.1 hy with hy | hy
    · exact ⟨x, List.mem_cons_self, h5 y hy⟩
    · obtain ⟨z, hz, he⟩ := h2 y hy
      exact ⟨z, List.mem_cons_of_mem _ hz, he⟩

/-- Round i of the law: what stands at the place behind those placed so far. -/
inductive RoundP (b : Bx) (ss : List Lab) (i : Nat) (x : Lab) : Prop
  | bad (hv : validL x = false) (hk : foldPl b (ss.take (i + 1)) = foldPl b (ss.take i)) (ho : ∀ y, (foldPl b ss)[(foldPl b (ss.take i)).length]? = some y → y.id.toList ≠ x.id.toList)
  | out (hv : validL x = true) (hk : foldPl b (ss.take (i + 1)) = foldPl b (ss.take i)) (ho : ∀ y, (foldPl b ss)[(foldPl b (ss.take i)).length]? = some y → y.id.toList ≠ x.id.toList)
      (hf : ∀ j, j < 4 → freeF b (foldPl b (ss.take i)) (boxAt j x) = false)
  | put (hv : validL x = true) (j : Nat) (hj : j < 4) (hk : foldPl b (ss.take (i + 1)) = foldPl b (ss.take i) ++ [⟨x.id, boxAt j x⟩]) (ho : (foldPl b ss)[(foldPl b (ss.take i)).length]? = some ⟨x.id, boxAt j x⟩)
      (ht : freeF b (foldPl b (ss.take i)) (boxAt j x) = true) (hf : ∀ k, k < j → freeF b (foldPl b (ss.take i)) (boxAt k x) = false)

theorem foldPl_split (b : Bx) (ss : List Lab) (i : Nat) : ∃ r, foldPl b ss = foldPl b (ss.take i) ++ r ∧ ∀ y ∈ r, ∃ x ∈ ss.drop i, y.id = x.id := by
  obtain ⟨r, h1, h2⟩ := fold_prefix b (ss.drop i) (foldPl b (ss.take i))
  refine ⟨r, ?_, h2⟩
  rw [← h1]
  unfold foldPl
  rw [← List.foldl_append, List.take_append_drop]
theorem late_ne {b : Bx} {ss : List Lab} {i : Nat} {x : Lab} (hd : DiffP ss) (hx : ss[i]? = some x) (hk : foldPl b (ss.take (i + 1)) = foldPl b (ss.take i)) (y : Pl) (hy : (foldPl b ss)[(foldPl b (ss.take i)).length]? = some y) : y.id.toList ≠ x.id.toList := by
  obtain ⟨r, h1, h2⟩ := foldPl_split b ss (i + 1)
  rw [hk] at h1
  rw [h1, List.getElem?_append_right (Nat.le_refl _), Nat.sub_self] at hy
  obtain ⟨z, hz, he⟩ := h2 y (List.mem_of_getElem? hy)
  rw [he]
  obtain ⟨n, hn⟩ := List.getElem?_of_mem hz
  rw [List.getElem?_drop] at hn
  obtain ⟨hi, rfl⟩ := List.getElem?_eq_some_iff.1 hx
  obtain ⟨hj, rfl⟩ := List.getElem?_eq_some_iff.1 hn
  exact Ne.symm (List.pairwise_iff_getElem.1 hd i (i + 1 + n) hi hj (by omega))
theorem roundP (b : Bx) {ss : List Lab} {i : Nat} {x : Lab} (hd : DiffP ss) (hx : ss[i]? = some x) : RoundP b ss i x := by
  have hs := foldPl_succ (b := b) hx
  cases hv : validL x with
  | false =>
    have hk : foldPl b (ss.take (i + 1)) = foldPl b (ss.take i) := by rw [hs]; unfold stepF; rw [hv]; rfl
    exact .bad hv hk (late_ne hd hx hk)
  | true =>
    have hs2 : foldPl b (ss.take (i + 1)) = tryF b (foldPl b (ss.take i)) x 0 4 := by rw [hs]; unfold stepF; rw [hv]; rfl
    rcases tryF_cases b (foldPl b (ss.take i)) x 4 0 with ⟨h1, h2⟩ | ⟨j, -, h2, h3, h4, h5⟩
    · have hk := hs2.trans h1
      exact .out hv hk (late_ne hd hx hk) (fun j hj => h2 j (Nat.zero_le _) (by omega))
    · have hk := hs2.trans h3
      refine .put hv j (by omega) hk ?_ h4 (fun k hk => h5 k (Nat.zero_le _) hk)
      obtain ⟨r, h6, -⟩ := foldPl_split b ss (i + 1)
      rw [hk] at h6
      rw [h6, List.append_assoc, List.getElem?_append_right (Nat.le_refl _), Nat.sub_self]
      rfl
theorem foldPl_take_length (b : Bx) (ss : List Lab) (i : Nat) : (foldPl b (ss.take i)).length ≤ (foldPl b ss).length ∧ (foldPl b ss).take (foldPl b (ss.take i)).length = foldPl b (ss.take i) := by
  obtain ⟨r, h1, -⟩ := foldPl_split b ss i
  rw [h1]
  refine ⟨by simp, ?_⟩
  rw [List.take_left']
  rfl
theorem free_ne {b : Bx} {out : List Pl} {f g : Bx} (h1 : freeF b out f = false) (h2 : freeF b out g = true) : f ≠ g := fun e => by rw [e, h2] at h1; cases h1
theorem bx_ne {f g : Bx} (h : f ≠ g) : ¬ (f.a = g.a ∧ f.b = g.b ∧ f.c = g.c ∧ f.d = g.d) := fun ⟨h1, h2, h3, h4⟩ => h (by cases f; cases g; simp_all)
end Go.Proofs.YtaggohobdjidjaaGreatDoor

/- Labels with different Ids are sorted in one way; what the least important one turns: plain. -/
namespace Go.Proofs.YtaggohobdjidjaaGreatDoor

theorem ltL_eq {a b : Lab} (h1 : ltL a b = false) (h2 : ltL b a = false) : a.id.toList = b.id.toList := by
  obtain ⟨h3, h4⟩ := ltL_no h1
  obtain ⟨h5, h6⟩ := ltL_no h2
  have e : a.r = b.r := by omega
  rcases h4 with h4 | ⟨-, h4⟩
  · exact absurd e h4
  · rcases h6 with h6 | ⟨-, h6⟩
    · exact absurd e.symm h6
    · exact bytesLess_tri _ _ h4 h6
theorem DiffP.inj {l : List Lab} (h : DiffP l) : ∀ {a b : Lab}, a ∈ l → b ∈ l → a.id.toList = b.id.toList → a = b := by
  induction l with
  | nil => intro a b ha; cases ha
  | cons x l ih =>
    intro a b ha hb e
    unfold DiffP at h
    rw [List.pairwise_cons] at h
    rcases List.mem_cons.1 ha with h1 | h1
    · rcases List.mem_cons.1 hb with h2 | h2
      · rw [h1, h2]
      · rw [h1] at e; exact absurd e (h.1 _ h2)
    · rcases List.mem_cons.1 hb with h2 | h2
      · rw [h2] at e; exact absurd e.symm (h.1 _ h1)
      · exact ih h.2 h1 h2 e
theorem srt_uniq {l l' : List Lab} (hd : DiffP l) (hp : l.Perm l') (h1 : Srt ltL l) (h2 : Srt ltL l') : l = l' :=
  List.Perm.eq_of_pairwise (le := fun x y => ltL y x = false) (fun _ _ ha hb h3 h4 => hd.inj ha (hp.mem_iff.2 hb) (ltL_eq h4 h3)) h1 h2 hp
theorem isort_uniq {l l' : List Lab} (hd : DiffP l) (hp : l'.Perm l) : isort ltL l' = isort ltL l :=
  srt_uniq (hd.perm ((isort_perm ltL l').trans hp)) ((isort_perm ltL l').trans (hp.trans (isort_perm ltL l).symm)) (isort_srt ltL_swo l') (isort_srt ltL_swo l)
theorem isort_self {l : List Lab} (hd : DiffP l) (h : Srt ltL l) : isort ltL l = l :=
  srt_uniq (hd.perm (isort_perm ltL l)) (isort_perm ltL l) (isort_srt ltL_swo l) h
theorem isort_back {l : List Lab} (hd : DiffP l) : isort ltL l.reverse = isort ltL l := isort_uniq hd (List.reverse_perm l)
theorem isort_take {l : List Lab} (hd : DiffP l) (n : Nat) : isort ltL ((isort ltL l).take n) = (isort ltL l).take n :=
  isort_self ((hd.perm (isort_perm ltL l)).sublist (List.take_sublist n _)) ((isort_srt ltL_swo l).sublist (List.take_sublist n _))

/-- Without the least important label: the others are placed as with it. -/
theorem less_cases (b : Bx) {ss : List Lab} {v : Nat} {x : Lab} (hd : DiffP ss) (hx : ss[v]? = some x) (hv : v + 1 = ss.length) :
    (foldPl b (ss.take v) = foldPl b ss ∧ ∀ y, (foldPl b ss)[(foldPl b ss).length - 1]? = some y → y.id.toList ≠ x.id.toList) ∨
    (∃ y, foldPl b ss = foldPl b (ss.take v) ++ [y] ∧ y.id = x.id) := by
  have hall : ss.take (v + 1) = ss := by rw [hv]; exact List.take_length
  have key : ∀ y ∈ foldPl b (ss.take v), y.id.toList ≠ x.id.toList := fun y hy => by
    obtain ⟨r, h1, h2⟩ := fold_prefix b (ss.take v) []
    have e : foldPl b (ss.take v) = r := by unfold foldPl; rw [h1, List.nil_append]
    rw [e] at hy
    obtain ⟨z, hz, he⟩ := h2 y hy
    rw [he]
    obtain ⟨n, hn⟩ := List.getElem?_of_mem hz
    rw [List.getElem?_take] at hn
    split at hn
    · obtain ⟨hi, rfl⟩ := List.getElem?_eq_some_iff.1 hx
      obtain ⟨hj, rfl⟩ := List.getElem?_eq_some_iff.1 hn
      exact List.pairwise_iff_getElem.1 hd n v hj hi (by omega)
    · cases hn
  rcases roundP b hd hx with ⟨-, hk, -⟩ | ⟨-, hk, -, -⟩ | ⟨-, j, -, hk, -, -, -⟩
  · rw [hall] at hk
    exact .inl ⟨hk.symm, fun y hy => key y (hk ▸ List.mem_of_getElem? hy)⟩
  · rw [hall] at hk
    exact .inl ⟨hk.symm, fun y hy => key y (hk ▸ List.mem_of_getElem? hy)⟩
  · rw [hall] at hk
    exact .inr ⟨_, hk, rfl⟩
end Go.Proofs.YtaggohobdjidjaaGreatDoor

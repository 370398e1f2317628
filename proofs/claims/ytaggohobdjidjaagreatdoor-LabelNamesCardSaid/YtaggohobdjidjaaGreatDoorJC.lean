import Derived.Test.YtaggohobdjidjaaGreatDoorJA
import Derived.Test.YtaggohobdjidjaaGreatDoorJB

/- The merge's cuts by places: plain lists. -/
namespace Go.Proofs.YtaggohobdjidjaaGreatDoor
open Go.Sort

section
variable {α : Type} [Inhabited α]

theorem get_nd {l : List α} {i : Nat} (h : i < l.length) : l[i]! = l[i] := by rw [getElem!_pos l i h]
theorem get_arr {l : List α} {i : Nat} : l.toArray[i]! = l[i]! := by
  by_cases h : i < l.length
  · rw [getElem!_pos l i h, getElem!_pos l.toArray i (by simpa using h)]; simp
  · rw [getElem!_neg l i h, getElem!_neg l.toArray i (by simpa using h)]
theorem get_mid (pre A post : List α) {t i : Nat} (hi : i = pre.length + t) (h : t < A.length) : (pre ++ A ++ post).toArray[i]! = A[t]! := by
  subst hi
  rw [get_arr, get_nd (by simp; omega), get_nd h]
  simp [List.getElem_append_right, List.getElem_append_left, h]

variable {lt : α → α → Bool}

theorem take_last {l : List α} {i : Nat} (h0 : 0 < i) (h : i ≤ l.length) : l.take i = l.take (i - 1) ++ [l[i - 1]!] := by
  obtain ⟨k, rfl⟩ : ∃ k, i = k + 1 := ⟨i - 1, by omega⟩
  rw [Nat.add_sub_cancel, List.take_succ_eq_append_getElem (by omega), get_nd (by omega)]
theorem drop_head {l : List α} {i : Nat} (h : i < l.length) : l.drop i = l[i]! :: l.drop (i + 1) := by
  rw [List.drop_eq_getElem_cons h, get_nd h]

section
variable (S : SWO lt)
include S
theorem one_left_idx (x : α) (B : List α) (hB : Srt lt B) (i : Nat) (hi : i ≤ B.length) (h0 : i = 0 ∨ lt B[i - 1]! x = true) (h1 : i = B.length ∨ lt B[i]! x = false) : mrg lt [x] B = B.take i ++ x :: B.drop i := by
  have e : B = B.take i ++ B.drop i := (List.take_append_drop _ _).symm
  have hp := List.pairwise_append.1 (e ▸ hB : Srt lt (B.take i ++ B.drop i))
  conv => lhs; rw [e]
  refine mrg_one_left x _ _ (fun z hz => ?_) (fun z hz => ?_)
  · rcases h0 with rfl | h0
    · simp at hz
    · have hi0 : 0 < i := by
        rcases Nat.eq_zero_or_pos i with rfl | h
        · simp at hz
        · exact h
      rw [take_last hi0 hi] at hz
      have hs := hp.1
      rw [take_last hi0 hi] at hs
      have := srt_last S hs hz
      cases k : lt z x with
      | true => rfl
      | false => have := S.ntrans _ _ _ this k; rw [h0] at this; cases this
  · rcases h1 with rfl | h1
    · simp at hz
    · by_cases hl : i < B.length
      · rw [drop_head hl] at hz
        have hs := hp.2.1
        rw [drop_head hl] at hs
        exact S.ntrans _ _ _ (srt_head S hs hz) h1
      · rw [List.drop_of_length_le (by omega)] at hz; simp at hz
theorem one_right_idx (y : α) (A : List α) (hA : Srt lt A) (i : Nat) (hi : i ≤ A.length) (h0 : i = 0 ∨ lt y A[i - 1]! = false) (h1 : i = A.length ∨ lt y A[i]! = true) : mrg lt A [y] = A.take i ++ y :: A.drop i := by
  have e : A = A.take i ++ A.drop i := (List.take_append_drop _ _).symm
  have hp := List.pairwise_append.1 (e ▸ hA : Srt lt (A.take i ++ A.drop i))
  conv => lhs; rw [e]
  refine mrg_one_right y _ _ (fun z hz => ?_) (fun z hz => ?_)
  · rcases h0 with rfl | h0
    · simp at hz
    · have hi0 : 0 < i := by
        rcases Nat.eq_zero_or_pos i with rfl | h
        · simp at hz
        · exact h
      rw [take_last hi0 hi] at hz
      have hs := hp.1
      rw [take_last hi0 hi] at hs
      exact S.ntrans _ _ _ h0 (srt_last S hs hz)
  · rcases h1 with rfl | h1
    · simp at hz
    · by_cases hl : i < A.length
      · rw [drop_head hl] at hz
        have hs := hp.2.1
        rw [drop_head hl] at hs
        have := srt_head S hs hz
        cases k : lt y z with
        | true => rfl
        | false => have := S.ntrans _ _ _ k this; rw [h1] at this; cases this
      · rw [List.drop_of_length_le (by omega)] at hz; simp at hz
theorem cut_idx (A B : List α) (hA : Srt lt A) (hB : Srt lt B) (i j : Nat) (hi : i ≤ A.length) (hj : j ≤ B.length) (h0 : i = 0 ∨ j = B.length ∨ lt B[j]! A[i - 1]! = false) (h1 : i = A.length ∨ j = 0 ∨ lt B[j - 1]! A[i]! = true) :
    mrg lt A B = mrg lt (A.take i) (B.take j) ++ mrg lt (A.drop i) (B.drop j) := by
  have eA : A = A.take i ++ A.drop i := (List.take_append_drop _ _).symm
  have eB : B = B.take j ++ B.drop j := (List.take_append_drop _ _).symm
  conv => lhs; rw [eA, eB]
  refine mrg_cut S (eA ▸ hA : Srt lt (A.take i ++ A.drop i)) (eB ▸ hB : Srt lt (B.take j ++ B.drop j)) ?_ ?_
  · rcases h0 with rfl | rfl | h0
    · exact .inl (by simp)
    · exact .inr (.inl (by simp))
    · by_cases c1 : i = 0
      · exact .inl (by simp [c1])
      · by_cases c2 : j < B.length
        · exact .inr (.inr ⟨_, _, _, _, take_last (by omega) hi, drop_head c2, h0⟩)
        · exact .inr (.inl (List.drop_of_length_le (by omega)))
  · rcases h1 with rfl | rfl | h1
    · exact .inl (by simp)
    · exact .inr (.inl (by simp))
    · by_cases c1 : j = 0
      · exact .inr (.inl (by simp [c1]))
      · by_cases c2 : i < A.length
        · exact .inr (.inr ⟨_, _, _, _, drop_head c2, take_last (by omega) hj, h1⟩)
        · exact .inl (List.drop_of_length_le (by omega))
end

omit [Inhabited α] in
theorem srt_take {l : List α} (h : Srt lt l) (n : Nat) : Srt lt (l.take n) := List.Pairwise.sublist (List.take_sublist n l) h
omit [Inhabited α] in
theorem srt_drop {l : List α} (h : Srt lt l) (n : Nat) : Srt lt (l.drop n) := List.Pairwise.sublist (List.drop_sublist n l) h

/-- x one place to the right, y one place to the left. -/
theorem step_right {D : Array α} {pre B post : List α} {x : α} {t i : Nat} (h : D = (pre ++ B.take t ++ x :: B.drop t ++ post).toArray) (ht : t < B.length) (hi : i = pre.length + t) :
    swp D i (i + 1) = (pre ++ B.take (t + 1) ++ x :: B.drop (t + 1) ++ post).toArray := by
  have e : D.toList = (pre ++ B.take t) ++ x :: ([] ++ B[t]! :: (B.drop (t + 1) ++ post)) := by rw [h, drop_head ht]; simp
  have := swp_far (i := i) (j := i + 1) e (by simp; omega) (by simp; omega)
  have e2 : B.take (t + 1) = B.take t ++ [B[t]!] := by have := take_last (l := B) (i := t + 1) (by omega) (by omega); simpa using this
  refine Array.toList_inj.1 ?_
  rw [this, e2]
  simp
theorem step_left {D : Array α} {pre A post : List α} {y : α} {t i : Nat} (h : D = (pre ++ A.take (t + 1) ++ y :: A.drop (t + 1) ++ post).toArray) (ht : t < A.length) (hi : i = pre.length + t) :
    swp D (i + 1) i = (pre ++ A.take t ++ y :: A.drop t ++ post).toArray := by
  have e2 : A.take (t + 1) = A.take t ++ [A[t]!] := by have := take_last (l := A) (i := t + 1) (by omega) (by omega); simpa using this
  have e : D.toList = (pre ++ A.take t) ++ A[t]! :: y :: (A.drop (t + 1) ++ post) := by rw [h, e2]; simp
  have := swp_list (i := i) e (by simp; omega)
  refine Array.toList_inj.1 ?_
  rw [this, drop_head ht]
  simp
end
end Go.Proofs.YtaggohobdjidjaaGreatDoor

/- slices.symMergeCmpFunc over whatever program bears its text, where one of the two parts has one element. -/
namespace Go.Proofs.YtaggohobdjidjaaGreatDoor
open Go.Shelf Go.RowKit Go.Lib Go.Sort

variable {P : Program} {α : Type} [Inhabited α]

set_option maxHeartbeats 16000000 in
set_option maxRecDepth 1000000 in
theorem symOne_any (k : Nat) (T : SortTys P k) 
    (FG : P.funcs[132]? = some Tryz.f132) (enc : α → List Value) (cf : α → α → Int) (O : SWO (ltOf cf)) (g : Nat) (cb : Array Value) (blk off cap sz : Nat) (d0 : Array α) (w0 : World)
    (eg : ∀ args w, (callFunc g args).run P w = .ok (.enter g args) w) (hcmp : CmpLays P g cb enc k cf blk off sz w0) (R : RowK enc k w0 blk off d0) (hs0 : d0.size = sz) (hsz : sz < 1000000) :
    ∀ (a m b : Nat) (w : World) (pre A B post : List α), m = a + 1 ∨ b = m + 1 → SWK enc k w0 blk off (pre ++ A ++ B ++ post).toArray w → sz = pre.length + A.length + B.length + post.length →
      a = pre.length → m = pre.length + A.length → b = pre.length + A.length + B.length → 0 < A.length → 0 < B.length → Srt (ltOf cf) A → Srt (ltOf cf) B →
    Calls P 132 #[.slice (some ⟨blk, off, none⟩) sz cap, .int .i64 a, .int .i64 m, .int .i64 b, .func (.func g) #[] cb] w fun e w' => e = .returned (.tuple #[]) ∧ SWK enc k w0 blk off (pre ++ mrg (ltOf cf) A B ++ post).toArray w' := by
  intro a m b w pre A B post hone S hsum ha hm hb hA0 hB0 hA hB
  have hT := T
  obtain ⟨mixed, t3, a3, z3, v3, t4, a4, z4, v4, ts, ass, zs, vs, tf, af, zf, vf, t0, a0, z0, v0, tu, au, zu, vu, aE, zE⟩ := T
  have u22 := run_underlying ts
  have u3 := run_underlying t3
  have uu := run_underlying tu
  have HC : Aside (CmpLays P g cb enc k cf blk off sz w0) := hcmp
  have HO : Aside (SWO (ltOf cf)) := O
  have HT : Aside (SortTys P k) := hT
  have HSA : Hid (Srt (ltOf cf) A ∧ Srt (ltOf cf) B) := Lib.hid ⟨hA, hB⟩
  have HL : Hid (sz = pre.length + A.length + B.length + post.length ∧ a = pre.length ∧ m = pre.length + A.length ∧ b = pre.length + A.length + B.length) := Lib.hid ⟨hsum, ha, hm, hb⟩
  have ham : a < m := by omega
  have hmb : m < b := by omega
  have hbz : b ≤ sz := by omega
  obtain ⟨D, hD⟩ : ∃ D, D = (pre ++ A ++ B ++ post).toArray := ⟨_, rfl⟩
  have hsd : D.size = sz := by rw [hD]; simp; omega
  have gA : Hid (∀ i t, i = a + t → i < m → D[i]! = A[t]!) := Lib.hid fun i t h1 h2 => by
    rw [hD]
    have := get_mid pre A (B ++ post) (t := t) (i := i) (by omega) (by omega)
    simpa using this
  have gB : Hid (∀ i t, i = m + t → i < b → D[i]! = B[t]!) := Lib.hid fun i t h1 h2 => by
    rw [hD]
    have := get_mid (pre ++ A) B post (t := t) (i := i) (by simp; omega) (by omega)
    simpa using this
  rw [← hD] at S
  have S0 : Aside (SWK enc k w0 blk off D w) := S
  have HD : Hid (D = (pre ++ A ++ B ++ post).toArray) := Lib.hid hD
  have HONE := Lib.hid hone
  clear S hcmp O hT hA hB hsum ha hm hb hD hA0 hB0 hone
  by_cases hm1 : m = a + 1
  · -- one element ahead of the others
    have hz1 : ((m : Int) - (a : Int) == 1) = true := by rw [beq_iff_eq]; omega
    replace hm1 : m ≤ a + 1 := by omega
    go_enter FG, Tryz.ntmps132
    go_wp2
    go_loopg [10, 11] (b - m) (fun kx si sj wr => ∃ i j : Nat, si = .int .i64 i ∧ sj = .int .i64 j ∧ m ≤ i ∧ i ≤ j ∧ j ≤ b ∧ j - i ≤ kx ∧ Aside (SWK enc k w0 blk off D wr) ∧ Hid ((i = m ∨ ltOf cf D[i - 1]! D[a]! = true) ∧ (j = b ∨ ltOf cf D[j]! D[a]! = false)))
    case atStart => exact ⟨m, b, rfl, rfl, Nat.le_refl _, by omega, Nat.le_refl _, Nat.le_refl _, S0, Lib.hid ⟨.inl rfl, .inl rfl⟩⟩
    case round =>
      clear S0
      obtain ⟨i, j, rfl, rfl, hmi, hij, hjb, hkx, S1, HB⟩ := hrel
      by_cases hlt : (i : Int) < (j : Int)
      · cases hlv : ltOf cf D[(i + j) / 2]! D[a]! with
        | true =>
          have HB2 : Hid (((i + j) / 2 + 1 = m ∨ ltOf cf D[(i + j) / 2 + 1 - 1]! D[a]! = true) ∧ (j = b ∨ ltOf cf D[j]! D[a]! = false)) := Lib.hid ⟨.inr (by rw [Nat.add_sub_cancel]; exact hlv), HB.out.2⟩
          go_wp2_with fail
          have ea90 : (((i : Int) + (j : Int)) / 2).toNat = (i + j) / 2 := by omega
          have pa90 : (0 : Int) ≤ ((i : Int) + (j : Int)) / 2 := by omega
          have ba90 : ((i : Int) + (j : Int)) / 2 < (sz : Int) := by omega
          have ra90 : IntKind.i64.wrap (((i : Int) + (j : Int)) / 2) = ((i : Int) + (j : Int)) / 2 := by rw [IntKind.wrap_i64]; omega
          have ec90 : ((a : Int)).toNat = a := by omega
          have pc90 : (0 : Int) ≤ (a : Int) := by omega
          have bc90 : (a : Int) < (sz : Int) := by omega
          have rc90 : IntKind.i64.wrap ((a : Int)) = (a : Int) := by rw [IntKind.wrap_i64]; omega
          obtain ⟨x90, hx90⟩ : ∃ x, x = D[(i + j) / 2]! := ⟨_, rfl⟩
          obtain ⟨y90, hy90⟩ : ∃ x, x = D[a]! := ⟨_, rfl⟩
          have l90a := S1.out.ld R (by omega) P ((i + j) / 2) (by omega)
          have l90b := S1.out.ld R (by omega) P (a) (by omega)
          rw [← hx90] at l90a
          rw [← hy90] at l90b
          have hc90 := S1.out.cmp HC.out (by omega) x90 y90
          have hv90 : cf x90 y90 < 0 := by rw [hx90, hy90]; exact of_decide_eq_true hlv
          have hd90 : decide (cf x90 y90 < 0) = true := decide_eq_true hv90
          clear hx90 hy90
          go_wp2_with fail
          go_quiet_grown (first | (go_at_fn g; refine Calls.grown_of (hc90 _ _)))
          have S2 : Aside (SWK enc k w0 blk off D (grow (wr.drewN nq) osq)) := S1.out.grown nq osq
          clear l90a l90b hc90 S1
          generalize grow (wr.drewN nq) osq = w2 at S2 ⊢
          clear nq osq ea90 pa90 ba90 ra90 ec90 pc90 bc90 rc90
          clear hlv HB
          go_wp2
          go_roundg (j - ((i + j) / 2 + 1))
          case measure => omega
          case rel => exact ⟨(i + j) / 2 + 1, j, by rw [show ((i : Int) + (j : Int)) / 2 + 1 = (((i + j) / 2 + 1 : Nat) : Int) by omega], rfl, by omega, by omega, hjb, Nat.le_refl _, S2, HB2⟩
        | false =>
          have HB2 : Hid ((i = m ∨ ltOf cf D[i - 1]! D[a]! = true) ∧ ((i + j) / 2 = b ∨ ltOf cf D[(i + j) / 2]! D[a]! = false)) := Lib.hid ⟨HB.out.1, .inr hlv⟩
          go_wp2_with fail
          have ea90 : (((i : Int) + (j : Int)) / 2).toNat = (i + j) / 2 := by omega
          have pa90 : (0 : Int) ≤ ((i : Int) + (j : Int)) / 2 := by omega
          have ba90 : ((i : Int) + (j : Int)) / 2 < (sz : Int) := by omega
          have ra90 : IntKind.i64.wrap (((i : Int) + (j : Int)) / 2) = ((i : Int) + (j : Int)) / 2 := by rw [IntKind.wrap_i64]; omega
          have ec90 : ((a : Int)).toNat = a := by omega
          have pc90 : (0 : Int) ≤ (a : Int) := by omega
          have bc90 : (a : Int) < (sz : Int) := by omega
          have rc90 : IntKind.i64.wrap ((a : Int)) = (a : Int) := by rw [IntKind.wrap_i64]; omega
          obtain ⟨x90, hx90⟩ : ∃ x, x = D[(i + j) / 2]! := ⟨_, rfl⟩
          obtain ⟨y90, hy90⟩ : ∃ x, x = D[a]! := ⟨_, rfl⟩
          have l90a := S1.out.ld R (by omega) P ((i + j) / 2) (by omega)
          have l90b := S1.out.ld R (by omega) P (a) (by omega)
          rw [← hx90] at l90a
          rw [← hy90] at l90b
          have hc90 := S1.out.cmp HC.out (by omega) x90 y90
          have hv90 : ¬ cf x90 y90 < 0 := by rw [hx90, hy90]; exact of_decide_eq_false hlv
          have hd90 : decide (cf x90 y90 < 0) = false := decide_eq_false hv90
          clear hx90 hy90
          go_wp2_with fail
          go_quiet_grown (first | (go_at_fn g; refine Calls.grown_of (hc90 _ _)))
          have S2 : Aside (SWK enc k w0 blk off D (grow (wr.drewN nq) osq)) := S1.out.grown nq osq
          clear l90a l90b hc90 S1
          generalize grow (wr.drewN nq) osq = w2 at S2 ⊢
          clear nq osq ea90 pa90 ba90 ra90 ec90 pc90 bc90 rc90
          clear hlv HB
          go_wp2
          go_roundg ((i + j) / 2 - i)
          case measure => omega
          case rel => exact ⟨i, (i + j) / 2, rfl, by rw [show ((i : Int) + (j : Int)) / 2 = (((i + j) / 2 : Nat) : Int) by omega], hmi, by omega, by omega, Nat.le_refl _, S2, HB2⟩
      · obtain rfl : i = j := by omega
        obtain ⟨x, hx⟩ : ∃ x, A = [x] := by
          obtain ⟨-, h2, h3, -⟩ := HL.out
          exact List.length_eq_one_iff.1 (by omega)
        have HM : Hid (mrg (ltOf cf) A B = B.take (i - m) ++ x :: B.drop (i - m)) := Lib.hid (by
          obtain ⟨h1, h2, h3, h4⟩ := HL.out
          have exa : D[a]! = x := by rw [gA.out a 0 rfl ham, hx]; rfl
          rw [hx]
          refine one_left_idx HO.out x B HSA.out.2 (i - m) (by omega) ?_ ?_
          · rcases HB.out.1 with h | h
            · exact .inl (by omega)
            · by_cases hi : i = m
              · exact .inl (by omega)
              · right
                rw [exa, gB.out (i - 1) (i - m - 1) (by omega) (by omega)] at h
                exact h
          · rcases HB.out.2 with h | h
            · exact .inl (by omega)
            · by_cases hi : i = b
              · exact .inl (by omega)
              · right
                rw [exa, gB.out i (i - m) (by omega) (by omega)] at h
                exact h)
        have HD0 : Hid (D = (pre ++ B.take 0 ++ x :: B.drop 0 ++ post).toArray) := Lib.hid (by rw [HD.out, hx]; simp)
        have HBl : Hid (B.length = b - m ∧ a = pre.length) := Lib.hid (by obtain ⟨h1, h2, h3, h4⟩ := HL.out; exact ⟨by omega, h2⟩)
        clear hx HB HL HSA HD gA gB HO
        go_wp2
        go_loopg [13] (i - m) (fun kx sk wr2 => ∃ (t : Nat) (Dt : Array α), sk = .int .i64 (a + t : Nat) ∧ t ≤ i - m ∧ i - m - t ≤ kx ∧ Dt.size = sz ∧ Aside (SWK enc k w0 blk off Dt wr2) ∧ Hid (Dt = (pre ++ B.take t ++ x :: B.drop t ++ post).toArray))
        case atStart => exact ⟨0, D, rfl, by omega, by omega, hsd, S1, HD0⟩
        case round =>
          clear S1 HD0
          obtain ⟨t, Dt, rfl, ht, hkt, hst, S1, HDt⟩ := hrel
          by_cases hti : t < i - m
          · have hlt2 : (a : Int) + (t : Int) < (i : Int) - 1 := by omega
            have HN : Hid (swp Dt (a + t) (a + t + 1) = (pre ++ B.take (t + 1) ++ x :: B.drop (t + 1) ++ post).toArray) := Lib.hid (step_right HDt.out (by have := HBl.out.1; omega) (by have := HBl.out.2; omega))
            go_wp2_with fail
            have ea91 : ((a : Int) + (t : Int)).toNat = a + t := by omega
            have pa91 : (0 : Int) ≤ (a : Int) + (t : Int) := by omega
            have ba91 : (a : Int) + (t : Int) < (sz : Int) := by omega
            have ra91 : IntKind.i64.wrap ((a : Int) + (t : Int)) = (a : Int) + (t : Int) := by rw [IntKind.wrap_i64]; omega
            have ec91 : ((a : Int) + (t : Int) + 1).toNat = a + t + 1 := by omega
            have pc91 : (0 : Int) ≤ (a : Int) + (t : Int) + 1 := by omega
            have bc91 : (a : Int) + (t : Int) + 1 < (sz : Int) := by omega
            have rc91 : IntKind.i64.wrap ((a : Int) + (t : Int) + 1) = (a : Int) + (t : Int) + 1 := by rw [IntKind.wrap_i64]; omega
            have S3 : Aside (SWK enc k w0 blk off (swp Dt (a + t) (a + t + 1)) ((wr.drew.setCells blk (off + (a + t) * k) (enc Dt[a + t + 1]!)).setCells blk (off + (a + t + 1) * k) (enc Dt[a + t]!))) := S1.out.swapped R (a + t) (a + t + 1) (by omega) (by omega)
            have l91a := S1.out.ld1 R (by omega) P (a + t) (by omega)
            have l91b := S1.out.ld1 R (by omega) P (a + t + 1) (by omega)
            have s91a := S1.out.st1 R (by omega) P (a + t) (by omega) Dt[a + t + 1]!
            have s91b := S1.out.st2 R (by omega) P (a + t) (a + t + 1) (by omega) (by omega) Dt[a + t + 1]! Dt[a + t]!
            have n91a : (enc Dt[a + t]!).length = k := R.hk _
            have n91b : (enc Dt[a + t + 1]!).length = k := R.hk _
            generalize enc Dt[a + t]! = cI91 at S3 l91a s91b n91a
            generalize enc Dt[a + t + 1]! = cJ91 at S3 l91b s91a s91b n91b
            clear S1
            go_wp2_with fail
            go_big_region_o
            clear l91a l91b s91a s91b
            generalize (wr.drew.setCells blk (off + (a + t) * k) cJ91).setCells blk (off + (a + t + 1) * k) cI91 = w3 at S3 ⊢
            all_goals go_wp2
            go_roundg (i - m - (t + 1))
            case measure => omega
            case rel => exact ⟨t + 1, swp Dt (a + t) (a + t + 1), by rw [show (a : Int) + (t : Int) + 1 = ((a + (t + 1) : Nat) : Int) by omega], by omega, Nat.le_refl _, by rw [size_swp]; exact hst, S3, HN⟩
          · have hlt2 : ¬ (a : Int) + (t : Int) < (i : Int) - 1 := by omega
            have HTE : Hid (t = i - m) := Lib.hid (by omega)
            go_wp2
            refine bodyPost_ret (results_none rfl _ _ _) rfl ?_
            refine ⟨rfl, ?_⟩
            rw [HM.out, ← HTE.out]
            have e1 := HDt.out
            rw [e1] at S1
            simpa using S1.out
  · have hz1 : ((m : Int) - (a : Int) == 1) = false := by rw [beq_eq_false_iff_ne]; omega
    have hb1 : b = m + 1 := by rcases HONE.out with h | h <;> omega
    · -- one element behind the others
      have hz2 : ((b : Int) - (m : Int) == 1) = true := by rw [beq_iff_eq]; omega
      replace hb1 : b ≤ m + 1 := by omega
      clear hm1
      go_enter FG, Tryz.ntmps132
      go_wp2
      go_loopg [14, 15] (m - a) (fun kx si sj wr => ∃ i j : Nat, si = .int .i64 i ∧ sj = .int .i64 j ∧ a ≤ i ∧ i ≤ j ∧ j ≤ m ∧ j - i ≤ kx ∧ Aside (SWK enc k w0 blk off D wr) ∧ Hid ((i = a ∨ ltOf cf D[m]! D[i - 1]! = false) ∧ (j = m ∨ ltOf cf D[m]! D[j]! = true)))
      case atStart => exact ⟨a, m, rfl, rfl, Nat.le_refl _, by omega, Nat.le_refl _, Nat.le_refl _, S0, Lib.hid ⟨.inl rfl, .inl rfl⟩⟩
      case round =>
        clear S0
        obtain ⟨i, j, rfl, rfl, hmi, hij, hjb, hkx, S1, HB⟩ := hrel
        by_cases hlt : (i : Int) < (j : Int)
        · cases hlv : ltOf cf D[m]! D[(i + j) / 2]! with
          | false =>
            have HB2 : Hid (((i + j) / 2 + 1 = a ∨ ltOf cf D[m]! D[(i + j) / 2 + 1 - 1]! = false) ∧ (j = m ∨ ltOf cf D[m]! D[j]! = true)) := Lib.hid ⟨.inr (by rw [Nat.add_sub_cancel]; exact hlv), HB.out.2⟩
            go_wp2_with fail
            have ea90 : ((m : Int)).toNat = m := by omega
            have pa90 : (0 : Int) ≤ (m : Int) := by omega
            have ba90 : (m : Int) < (sz : Int) := by omega
            have ra90 : IntKind.i64.wrap ((m : Int)) = (m : Int) := by rw [IntKind.wrap_i64]; omega
            have ec90 : (((i : Int) + (j : Int)) / 2).toNat = (i + j) / 2 := by omega
            have pc90 : (0 : Int) ≤ ((i : Int) + (j : Int)) / 2 := by omega
            have bc90 : ((i : Int) + (j : Int)) / 2 < (sz : Int) := by omega
            have rc90 : IntKind.i64.wrap (((i : Int) + (j : Int)) / 2) = ((i : Int) + (j : Int)) / 2 := by rw [IntKind.wrap_i64]; omega
            obtain ⟨x90, hx90⟩ : ∃ x, x = D[m]! := ⟨_, rfl⟩
            obtain ⟨y90, hy90⟩ : ∃ x, x = D[(i + j) / 2]! := ⟨_, rfl⟩
            have l90a := S1.out.ld R (by omega) P (m) (by omega)
            have l90b := S1.out.ld R (by omega) P ((i + j) / 2) (by omega)
            rw [← hx90] at l90a
            rw [← hy90] at l90b
            have hc90 := S1.out.cmp HC.out (by omega) x90 y90
            have hv90 : ¬ cf x90 y90 < 0 := by rw [hx90, hy90]; exact of_decide_eq_false hlv
            have hd90 : decide (cf x90 y90 < 0) = false := decide_eq_false hv90
            clear hx90 hy90
            go_wp2_with fail
            go_quiet_grown (first | (go_at_fn g; refine Calls.grown_of (hc90 _ _)))
            have S2 : Aside (SWK enc k w0 blk off D (grow (wr.drewN nq) osq)) := S1.out.grown nq osq
            clear l90a l90b hc90 S1
            generalize grow (wr.drewN nq) osq = w2 at S2 ⊢
            clear nq osq ea90 pa90 ba90 ra90 ec90 pc90 bc90 rc90
            clear hlv HB
            go_wp2
            go_roundg (j - ((i + j) / 2 + 1))
            case measure => omega
            case rel => exact ⟨(i + j) / 2 + 1, j, by rw [show ((i : Int) + (j : Int)) / 2 + 1 = (((i + j) / 2 + 1 : Nat) : Int) by omega], rfl, by omega, by omega, hjb, Nat.le_refl _, S2, HB2⟩
          | true =>
            have HB2 : Hid ((i = a ∨ ltOf cf D[m]! D[i - 1]! = false) ∧ ((i + j) / 2 = m ∨ ltOf cf D[m]! D[(i + j) / 2]! = true)) := Lib.hid ⟨HB.out.1, .inr hlv⟩
            go_wp2_with fail
            have ea90 : ((m : Int)).toNat = m := by omega
            have pa90 : (0 : Int) ≤ (m : Int) := by omega
            have ba90 : (m : Int) < (sz : Int) := by omega
            have ra90 : IntKind.i64.wrap ((m : Int)) = (m : Int) := by rw [IntKind.wrap_i64]; omega
            have ec90 : (((i : Int) + (j : Int)) / 2).toNat = (i + j) / 2 := by omega
            have pc90 : (0 : Int) ≤ ((i : Int) + (j : Int)) / 2 := by omega
            have bc90 : ((i : Int) + (j : Int)) / 2 < (sz : Int) := by omega
            have rc90 : IntKind.i64.wrap (((i : Int) + (j : Int)) / 2) = ((i : Int) + (j : Int)) / 2 := by rw [IntKind.wrap_i64]; omega
            obtain ⟨x90, hx90⟩ : ∃ x, x = D[m]! := ⟨_, rfl⟩
            obtain ⟨y90, hy90⟩ : ∃ x, x = D[(i + j) / 2]! := ⟨_, rfl⟩
            have l90a := S1.out.ld R (by omega) P (m) (by omega)
            have l90b := S1.out.ld R (by omega) P ((i + j) / 2) (by omega)
            rw [← hx90] at l90a
            rw [← hy90] at l90b
            have hc90 := S1.out.cmp HC.out (by omega) x90 y90
            have hv90 : cf x90 y90 < 0 := by rw [hx90, hy90]; exact of_decide_eq_true hlv
            have hd90 : decide (cf x90 y90 < 0) = true := decide_eq_true hv90
            clear hx90 hy90
            go_wp2_with fail
            go_quiet_grown (first | (go_at_fn g; refine Calls.grown_of (hc90 _ _)))
            have S2 : Aside (SWK enc k w0 blk off D (grow (wr.drewN nq) osq)) := S1.out.grown nq osq
            clear l90a l90b hc90 S1
            generalize grow (wr.drewN nq) osq = w2 at S2 ⊢
            clear nq osq ea90 pa90 ba90 ra90 ec90 pc90 bc90 rc90
            clear hlv HB
            go_wp2
            go_roundg ((i + j) / 2 - i)
            case measure => omega
            case rel => exact ⟨i, (i + j) / 2, rfl, by rw [show ((i : Int) + (j : Int)) / 2 = (((i + j) / 2 : Nat) : Int) by omega], hmi, by omega, by omega, Nat.le_refl _, S2, HB2⟩
        · obtain rfl : i = j := by omega
          obtain ⟨y, hy⟩ : ∃ y, B = [y] := by
            obtain ⟨-, h2, h3, h4⟩ := HL.out
            exact List.length_eq_one_iff.1 (by omega)
          have HM : Hid (mrg (ltOf cf) A B = A.take (i - a) ++ y :: A.drop (i - a)) := Lib.hid (by
            obtain ⟨h1, h2, h3, h4⟩ := HL.out
            have exa : D[m]! = y := by rw [gB.out m 0 rfl hmb, hy]; rfl
            rw [hy]
            refine one_right_idx HO.out y A HSA.out.1 (i - a) (by omega) ?_ ?_
            · rcases HB.out.1 with h | h
              · exact .inl (by omega)
              · by_cases hi : i = a
                · exact .inl (by omega)
                · right
                  rw [exa, gA.out (i - 1) (i - a - 1) (by omega) (by omega)] at h
                  exact h
            · rcases HB.out.2 with h | h
              · exact .inl (by omega)
              · by_cases hi : i = m
                · exact .inl (by omega)
                · right
                  rw [exa, gA.out i (i - a) (by omega) (by omega)] at h
                  exact h)
          have HBl : Hid (A.length = m - a ∧ a = pre.length) := Lib.hid (by obtain ⟨h1, h2, h3, h4⟩ := HL.out; exact ⟨by omega, h2⟩)
          have HD0 : Hid (D = (pre ++ A.take (m - a) ++ y :: A.drop (m - a) ++ post).toArray) := Lib.hid (by rw [HD.out, hy, ← HBl.out.1]; simp)
          clear hy HB HL HSA HD gA gB HO
          go_wp2
          go_loopg [17] (m - i) (fun kx sk wr2 => ∃ (t : Nat) (Dt : Array α), sk = .int .i64 (a + t : Nat) ∧ i - a ≤ t ∧ t ≤ m - a ∧ t - (i - a) ≤ kx ∧ Dt.size = sz ∧ Aside (SWK enc k w0 blk off Dt wr2) ∧ Hid (Dt = (pre ++ A.take t ++ y :: A.drop t ++ post).toArray))
          case atStart => exact ⟨m - a, D, by rw [show a + (m - a) = m by omega], by omega, by omega, by omega, hsd, S1, HD0⟩
          case round =>
            clear S1 HD0
            obtain ⟨t, Dt, rfl, hti0, ht, hkt, hst, S1, HDt⟩ := hrel
            by_cases hti : i - a < t
            · obtain ⟨t, rfl⟩ : ∃ s, t = s + 1 := ⟨t - 1, by omega⟩
              have hlt2 : (i : Int) < (a : Int) + ((t : Int) + 1) := by omega
              have HN : Hid (swp Dt (a + t + 1) (a + t) = (pre ++ A.take t ++ y :: A.drop t ++ post).toArray) := Lib.hid (step_left HDt.out (by have := HBl.out.1; omega) (by have := HBl.out.2; omega))
              go_wp2_with fail
              have ea91 : ((a : Int) + ((t : Int) + 1)).toNat = a + t + 1 := by omega
              have pa91 : (0 : Int) ≤ (a : Int) + ((t : Int) + 1) := by omega
              have ba91 : (a : Int) + ((t : Int) + 1) < (sz : Int) := by omega
              have ra91 : IntKind.i64.wrap ((a : Int) + ((t : Int) + 1)) = (a : Int) + ((t : Int) + 1) := by rw [IntKind.wrap_i64]; omega
              have ec91 : ((a : Int) + ((t : Int) + 1) - 1).toNat = a + t := by omega
              have pc91 : (0 : Int) ≤ (a : Int) + ((t : Int) + 1) - 1 := by omega
              have bc91 : (a : Int) + ((t : Int) + 1) - 1 < (sz : Int) := by omega
              have rc91 : IntKind.i64.wrap ((a : Int) + ((t : Int) + 1) - 1) = (a : Int) + ((t : Int) + 1) - 1 := by rw [IntKind.wrap_i64]; omega
              have S3 : Aside (SWK enc k w0 blk off (swp Dt (a + t + 1) (a + t)) ((wr.drew.setCells blk (off + (a + t + 1) * k) (enc Dt[a + t]!)).setCells blk (off + (a + t) * k) (enc Dt[a + t + 1]!))) := S1.out.swapped R (a + t + 1) (a + t) (by omega) (by omega)
              have l91a := S1.out.ld1 R (by omega) P (a + t + 1) (by omega)
              have l91b := S1.out.ld1 R (by omega) P (a + t) (by omega)
              have s91a := S1.out.st1 R (by omega) P (a + t + 1) (by omega) Dt[a + t]!
              have s91b := S1.out.st2 R (by omega) P (a + t + 1) (a + t) (by omega) (by omega) Dt[a + t]! Dt[a + t + 1]!
              have n91a : (enc Dt[a + t + 1]!).length = k := R.hk _
              have n91b : (enc Dt[a + t]!).length = k := R.hk _
              generalize enc Dt[a + t + 1]! = cI91 at S3 l91a s91b n91a
              generalize enc Dt[a + t]! = cJ91 at S3 l91b s91a s91b n91b
              clear S1
              go_wp2_with fail
              go_big_region_o
              clear l91a l91b s91a s91b
              generalize (wr.drew.setCells blk (off + (a + t + 1) * k) cJ91).setCells blk (off + (a + t) * k) cI91 = w3 at S3 ⊢
              all_goals go_wp2
              go_roundg (t - (i - a))
              case measure => omega
              case rel => exact ⟨t, swp Dt (a + t + 1) (a + t), by rw [show (a : Int) + ((t : Int) + 1) - 1 = ((a + t : Nat) : Int) by omega], by omega, by omega, Nat.le_refl _, by rw [size_swp]; exact hst, S3, HN⟩
            · have hlt2 : ¬ (i : Int) < (a : Int) + (t : Int) := by omega
              have HTE : Hid (t = i - a) := Lib.hid (by omega)
              go_wp2
              refine bodyPost_ret (results_none rfl _ _ _) rfl ?_
              refine ⟨rfl, ?_⟩
              rw [HM.out, ← HTE.out]
              have e1 := HDt.out
              rw [e1] at S1
              simpa using S1.out
end Go.Proofs.YtaggohobdjidjaaGreatDoor

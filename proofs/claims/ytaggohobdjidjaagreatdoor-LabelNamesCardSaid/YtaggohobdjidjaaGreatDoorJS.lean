import Derived.Test.YtaggohobdjidjaaGreatDoorJB
import Derived.Test.YtaggohobdjidjaaGreatDoorJC

/- slices.symMergeCmpFunc over whatever program bears its text: two sorted neighbours are merged, what is equal stays in order. -/
namespace Go.Proofs.YtaggohobdjidjaaGreatDoor
open Go.Shelf Go.RowKit Go.Lib Go.Sort

variable {P : Program} {α : Type} [Inhabited α]

set_option maxHeartbeats 16000000 in
set_option maxRecDepth 1000000 in
theorem symMerge_any (k : Nat) (T : SortTys P k) (FS : P.funcs[155]? = some Tryz.f155) (FR : P.funcs[145]? = some Tryz.f145)
    (FG : P.funcs[132]? = some Tryz.f132) (enc : α → List Value) (cf : α → α → Int) (O : SWO (ltOf cf)) (g : Nat) (cb : Array Value) (blk off cap sz : Nat) (d0 : Array α) (w0 : World)
    (eg : ∀ args w, (callFunc g args).run P w = .ok (.enter g args) w) (hcmp : CmpLays P g cb enc k cf blk off sz w0) (R : RowK enc k w0 blk off d0) (hs0 : d0.size = sz) (hsz : sz < 1000000) :
    ∀ (fuel a m b : Nat) (w : World) (pre A B post : List α), b ≤ a + fuel → SWK enc k w0 blk off (pre ++ A ++ B ++ post).toArray w → sz = pre.length + A.length + B.length + post.length →
      a = pre.length → m = pre.length + A.length → b = pre.length + A.length + B.length → 0 < A.length → 0 < B.length → Srt (ltOf cf) A → Srt (ltOf cf) B →
    Calls P 132 #[.slice (some ⟨blk, off, none⟩) sz cap, .int .i64 a, .int .i64 m, .int .i64 b, .func (.func g) #[] cb] w fun e w' => e = .returned (.tuple #[]) ∧ SWK enc k w0 blk off (pre ++ mrg (ltOf cf) A B ++ post).toArray w' := by
  intro fuel
  induction fuel with
  | zero => intro a m b w pre A B post h1 _ _ h2 h3 h4 h5 h6; omega
  | succ fuel ih =>
  intro a m b w pre A B post hf S hsum ha hm hb hA0 hB0 hA hB
  by_cases hone : m = a + 1 ∨ b = m + 1
  · exact symOne_any k T FG enc cf O g cb blk off cap sz d0 w0 eg hcmp R hs0 hsz a m b w pre A B post hone S hsum ha hm hb hA0 hB0 hA hB
  have hT := T
  obtain ⟨mixed, t3, a3, z3, v3, t4, a4, z4, v4, ts, ass, zs, vs, tf, af, zf, vf, t0, a0, z0, v0, tu, au, zu, vu, aE, zE⟩ := T
  have u22 := run_underlying ts
  have u3 := run_underlying t3
  have uu := run_underlying tu
  have eR : ∀ args w, (callFunc 145 args).run P w = .ok (.enter 145 args) w := enters_of FR (by kernel_rfl) rfl
  have eM : ∀ args w, (callFunc 132 args).run P w = .ok (.enter 132 args) w := enters_of FG (by kernel_rfl) rfl
  have HC : Aside (CmpLays P g cb enc k cf blk off sz w0) := hcmp
  have HO : Aside (SWO (ltOf cf)) := O
  have HT : Aside (SortTys P k) := hT
  have IH : Aside (∀ (a m b : Nat) (w : World) (pre A B post : List α), b ≤ a + fuel → SWK enc k w0 blk off (pre ++ A ++ B ++ post).toArray w → sz = pre.length + A.length + B.length + post.length →
      a = pre.length → m = pre.length + A.length → b = pre.length + A.length + B.length → 0 < A.length → 0 < B.length → Srt (ltOf cf) A → Srt (ltOf cf) B →
    Calls P 132 #[.slice (some ⟨blk, off, none⟩) sz cap, .int .i64 a, .int .i64 m, .int .i64 b, .func (.func g) #[] cb] w fun e w' => e = .returned (.tuple #[]) ∧ SWK enc k w0 blk off (pre ++ mrg (ltOf cf) A B ++ post).toArray w') := ih
  have HSA : Hid (Srt (ltOf cf) A ∧ Srt (ltOf cf) B) := Lib.hid ⟨hA, hB⟩
  have HL : Hid (sz = pre.length + A.length + B.length + post.length ∧ a = pre.length ∧ m = pre.length + A.length ∧ b = pre.length + A.length + B.length) := Lib.hid ⟨hsum, ha, hm, hb⟩
  have ham : a < m := by omega
  have hmb : m < b := by omega
  have hbz : b ≤ sz := by omega
  obtain ⟨D, hD⟩ : ∃ D, D = (pre ++ A ++ B ++ post).toArray := ⟨_, rfl⟩
  have hsd : D.size = sz := by rw [hD]; simp; omega
  have gA : Hid (∀ i t, i = a + t → i < m → D[i]! = A[t]!) := Lib.hid fun i t h1 h2 => by
    rw [hD]
    have := get_mid pre A (B ++ post) (t := t) (i := i) (by omega) (by omega)
    simpa using this
  have gB : Hid (∀ i t, i = m + t → i < b → D[i]! = B[t]!) := Lib.hid fun i t h1 h2 => by
    rw [hD]
    have := get_mid (pre ++ A) B post (t := t) (i := i) (by simp; omega) (by omega)
    simpa using this
  rw [← hD] at S
  have S0 : Aside (SWK enc k w0 blk off D w) := S
  have HD : Hid (D = (pre ++ A ++ B ++ post).toArray) := Lib.hid hD
  have hf' : b ≤ a + fuel + 1 := by omega
  have ham2 : a + 1 < m := by omega
  have hmb2 : m + 1 < b := by omega
  clear S hcmp O hT ih hA hB hsum ha hm hb hD hf hA0 hB0 hone
  have hz1 : ((m : Int) - (a : Int) == 1) = false := by rw [beq_eq_false_iff_ne]; omega
  have hz2 : ((b : Int) - (m : Int) == 1) = false := by rw [beq_eq_false_iff_ne]; omega
  obtain ⟨mid, hmid1, hmid2, hMid⟩ : ∃ mid : Nat, 2 * mid ≤ a + b ∧ a + b ≤ 2 * mid + 1 ∧ ((a : Int) + (b : Int)) / 2 = (mid : Int) := ⟨(a + b) / 2, by omega, by omega, by omega⟩
  have hfin : ∀ (st : Nat), a ≤ st → st ≤ m → st ≤ mid → mid + m ≤ st + b → (st = a ∨ mid + m - st = b ∨ ltOf cf D[mid + m - st]! D[st - 1]! = false) → (st = m ∨ st = mid ∨ ltOf cf D[mid + m - st - 1]! D[st]! = true) →
      ∃ (e : Nat) (a1 a2 b1 b2 : List α), (mid : Int) + (m : Int) - (st : Int) = (e : Int) ∧ m ≤ e ∧ e ≤ b ∧ Hid (A = a1 ++ a2 ∧ B = b1 ++ b2 ∧ a1.length = st - a ∧ a2.length = m - st ∧ b1.length = e - m ∧ b2.length = b - e ∧ e + st = mid + m ∧
        mrg (ltOf cf) A B = mrg (ltOf cf) a1 b1 ++ mrg (ltOf cf) a2 b2 ∧ Srt (ltOf cf) a1 ∧ Srt (ltOf cf) a2 ∧ Srt (ltOf cf) b1 ∧ Srt (ltOf cf) b2) := by
    intro st k1 k2 k3 k4 k5 k6
    obtain ⟨h1, h2, h3, h4⟩ := HL.out
    have hc := cut_idx HO.out A B HSA.out.1 HSA.out.2 (st - a) (mid + m - st - m) (by omega) (by omega)
      (by
        rcases k5 with k5 | k5 | k5
        · exact .inl (by omega)
        · exact .inr (.inl (by omega))
        · by_cases c1 : st = a
          · exact .inl (by omega)
          · by_cases c2 : mid + m - st = b
            · exact .inr (.inl (by omega))
            · rw [gB.out (mid + m - st) (mid + m - st - m) (by omega) (by omega), gA.out (st - 1) (st - a - 1) (by omega) (by omega)] at k5
              exact .inr (.inr k5))
      (by
        rcases k6 with k6 | k6 | k6
        · exact .inl (by omega)
        · exact .inr (.inl (by omega))
        · by_cases c1 : st = m
          · exact .inl (by omega)
          · by_cases c2 : st = mid
            · exact .inr (.inl (by omega))
            · rw [gB.out (mid + m - st - 1) (mid + m - st - m - 1) (by omega) (by omega), gA.out st (st - a) (by omega) (by omega)] at k6
              exact .inr (.inr k6))
    exact ⟨mid + m - st, A.take (st - a), A.drop (st - a), B.take (mid + m - st - m), B.drop (mid + m - st - m), by omega, by omega, by omega, Lib.hid ⟨(List.take_append_drop _ _).symm, (List.take_append_drop _ _).symm, by simp; omega, by simp; omega, by simp; omega, by simp; omega, by omega, hc,
      srt_take HSA.out.1 _, srt_drop HSA.out.1 _, srt_take HSA.out.2 _, srt_drop HSA.out.2 _⟩⟩
  have HFIN : Aside _ := hfin
  have hstart : ∃ s0 r0 : Nat, a ≤ s0 ∧ s0 ≤ r0 ∧ r0 ≤ m ∧ r0 ≤ mid ∧ mid + m ≤ s0 + b ∧ Hid ((s0 = a ∨ mid + m - s0 = b) ∧ (r0 = m ∨ r0 = mid)) ∧ Hid (if mid < m then s0 = mid + m - b ∧ r0 = mid else s0 = a ∧ r0 = m) := by
    by_cases c : mid < m
    · exact ⟨mid + m - b, mid, by omega, by omega, by omega, by omega, by omega, Lib.hid ⟨.inr (by omega), .inr rfl⟩, Lib.hid (by rw [if_pos c]; exact ⟨rfl, rfl⟩)⟩
    · exact ⟨a, m, by omega, by omega, by omega, by omega, by omega, Lib.hid ⟨.inl rfl, .inl rfl⟩, Lib.hid (by rw [if_neg c]; exact ⟨rfl, rfl⟩)⟩
  obtain ⟨s0, r0, hs0a, hsr, hrm, hrmid, hsb, HE, HSR⟩ := hstart
  clear hfin HSA gA gB
  cases hmm : decide (mid < m)
  all_goals
    first | have hm4 : ¬ mid < m := of_decide_eq_false hmm | have hm4 : mid < m := of_decide_eq_true hmm
    go_enter FG, Tryz.ntmps132
    go_wp2
    go_loopg [20, 21] (r0 - s0) (fun kx si sj wr => ∃ st r : Nat, si = .int .i64 st ∧ sj = .int .i64 r ∧ s0 ≤ st ∧ st ≤ r ∧ r ≤ r0 ∧ r - st ≤ kx ∧ Aside (SWK enc k w0 blk off D wr) ∧ Hid ((st = s0 ∨ ltOf cf D[mid + m - st]! D[st - 1]! = false) ∧ (r = r0 ∨ ltOf cf D[mid + m - r - 1]! D[r]! = true)))
    case atStart =>
      have e1 := HSR.out
      first | rw [if_pos hm4] at e1 | rw [if_neg hm4] at e1
      obtain ⟨e1, e2⟩ := e1
      exact ⟨s0, r0, by first | rfl | (congr 1; omega), by first | rfl | (congr 1; omega), Nat.le_refl _, hsr, Nat.le_refl _, Nat.le_refl _, S0, Lib.hid ⟨.inl rfl, .inl rfl⟩⟩
    case round =>
      clear S0
      obtain ⟨st, r, rfl, rfl, hst, hstr, hr, hkx, S1, HB⟩ := hrel
      by_cases hlt : (st : Int) < (r : Int)
      · obtain ⟨c, hc1, hc2, hC⟩ : ∃ c : Nat, 2 * c ≤ st + r ∧ st + r ≤ 2 * c + 1 ∧ ((st : Int) + (r : Int)) / 2 = (c : Int) := ⟨(st + r) / 2, by omega, by omega, by omega⟩
        obtain ⟨q, hq1, hq2, hQ⟩ : ∃ q : Nat, q + 1 + c ≤ mid + m ∧ mid + m ≤ q + 1 + c ∧ (mid : Int) + (m : Int) - 1 - (c : Int) = (q : Int) := ⟨mid + m - 1 - c, by omega, by omega, by omega⟩
        cases hlv : ltOf cf D[q]! D[c]! with
        | false =>
          have HB2 : Hid ((c + 1 = s0 ∨ ltOf cf D[mid + m - (c + 1)]! D[c + 1 - 1]! = false) ∧ (r = r0 ∨ ltOf cf D[mid + m - r - 1]! D[r]! = true)) := Lib.hid ⟨.inr (by rw [Nat.add_sub_cancel, show mid + m - (c + 1) = q by omega]; exact hlv), HB.out.2⟩
          go_wp2_with fail
          have ea90 : ((q : Int)).toNat = q := by omega
          have pa90 : (0 : Int) ≤ (q : Int) := by omega
          have ba90 : (q : Int) < (sz : Int) := by omega
          have ra90 : IntKind.i64.wrap ((q : Int)) = (q : Int) := by rw [IntKind.wrap_i64]; omega
          have ec90 : ((c : Int)).toNat = c := by omega
          have pc90 : (0 : Int) ≤ (c : Int) := by omega
          have bc90 : (c : Int) < (sz : Int) := by omega
          have rc90 : IntKind.i64.wrap ((c : Int)) = (c : Int) := by rw [IntKind.wrap_i64]; omega
          obtain ⟨x90, hx90⟩ : ∃ x, x = D[q]! := ⟨_, rfl⟩
          obtain ⟨y90, hy90⟩ : ∃ x, x = D[c]! := ⟨_, rfl⟩
          have l90a := S1.out.ld R (by omega) P (q) (by omega)
          have l90b := S1.out.ld R (by omega) P (c) (by omega)
          rw [← hx90] at l90a
          rw [← hy90] at l90b
          have hc90 := S1.out.cmp HC.out (by omega) x90 y90
          have hv90 : ¬ cf x90 y90 < 0 := by rw [hx90, hy90]; exact of_decide_eq_false hlv
          have hd90 : decide (cf x90 y90 < 0) = false := decide_eq_false hv90
          clear hx90 hy90
          go_wp2_with fail
          go_quiet_grown (first | (go_at_fn g; refine Calls.grown_of (hc90 _ _)))
          have S2 : Aside (SWK enc k w0 blk off D (grow (wr.drewN nq) osq)) := S1.out.grown nq osq
          clear l90a l90b hc90 S1
          generalize grow (wr.drewN nq) osq = w2 at S2 ⊢
          clear nq osq ea90 pa90 ba90 ra90 ec90 pc90 bc90 rc90
          clear hlv HB
          go_wp2
          go_roundg (r - (c + 1))
          case measure => omega
          case rel => exact ⟨c + 1, r, by go_num, rfl, by omega, by omega, hr, Nat.le_refl _, S2, HB2⟩
        | true =>
          have HB2 : Hid ((st = s0 ∨ ltOf cf D[mid + m - st]! D[st - 1]! = false) ∧ (c = r0 ∨ ltOf cf D[mid + m - c - 1]! D[c]! = true)) := Lib.hid ⟨HB.out.1, .inr (by rw [show mid + m - c - 1 = q by omega]; exact hlv)⟩
          go_wp2_with fail
          have ea90 : ((q : Int)).toNat = q := by omega
          have pa90 : (0 : Int) ≤ (q : Int) := by omega
          have ba90 : (q : Int) < (sz : Int) := by omega
          have ra90 : IntKind.i64.wrap ((q : Int)) = (q : Int) := by rw [IntKind.wrap_i64]; omega
          have ec90 : ((c : Int)).toNat = c := by omega
          have pc90 : (0 : Int) ≤ (c : Int) := by omega
          have bc90 : (c : Int) < (sz : Int) := by omega
          have rc90 : IntKind.i64.wrap ((c : Int)) = (c : Int) := by rw [IntKind.wrap_i64]; omega
          obtain ⟨x90, hx90⟩ : ∃ x, x = D[q]! := ⟨_, rfl⟩
          obtain ⟨y90, hy90⟩ : ∃ x, x = D[c]! := ⟨_, rfl⟩
          have l90a := S1.out.ld R (by omega) P (q) (by omega)
          have l90b := S1.out.ld R (by omega) P (c) (by omega)
          rw [← hx90] at l90a
          rw [← hy90] at l90b
          have hc90 := S1.out.cmp HC.out (by omega) x90 y90
          have hv90 : cf x90 y90 < 0 := by rw [hx90, hy90]; exact of_decide_eq_true hlv
          have hd90 : decide (cf x90 y90 < 0) = true := decide_eq_true hv90
          clear hx90 hy90
          go_wp2_with fail
          go_quiet_grown (first | (go_at_fn g; refine Calls.grown_of (hc90 _ _)))
          have S2 : Aside (SWK enc k w0 blk off D (grow (wr.drewN nq) osq)) := S1.out.grown nq osq
          clear l90a l90b hc90 S1
          generalize grow (wr.drewN nq) osq = w2 at S2 ⊢
          clear nq osq ea90 pa90 ba90 ra90 ec90 pc90 bc90 rc90
          clear hlv HB
          go_wp2
          go_roundg (c - st)
          case measure => omega
          case rel => exact ⟨st, c, rfl, rfl, hst, by omega, by omega, Nat.le_refl _, S2, HB2⟩
      · obtain ⟨e, a1, a2, b1, b2, hE, hme, heb, HX⟩ := HFIN.out st (by omega) (by omega) (by omega) (by omega)
          (by
            rcases HB.out.1 with h | h
            · rcases HE.out.1 with h' | h'
              · exact .inl (by omega)
              · exact .inr (.inl (by rw [h]; exact h'))
            · exact .inr (.inr h))
          (by
            have hrs : r = st := by omega
            rcases HB.out.2 with h | h
            · rcases HE.out.2 with h' | h'
              · exact .inl (by omega)
              · exact .inr (.inl (by omega))
            · rw [hrs] at h; exact .inr (.inr h))
        clear HFIN HB HE HSR
        rcases (show (st < m ∧ m < e) ∨ m ≤ st ∨ (st < m ∧ e ≤ m) by omega) with ⟨c1, c1'⟩ | c1 | ⟨c1, c1'⟩
        · have c2 : decide (st < m) = true := decide_eq_true c1
          have c3 : decide (m < e) = true := decide_eq_true c1'
          have HC1 : Hid _ := Lib.hid (rotate_any k HT.out FS FR enc (.func (.func g) #[] cb) blk off cap sz st m e d0 w0 wr R (pre ++ a1) a2 b1 (b2 ++ post) (by have h := S1.out; rw [HD.out, HX.out.1, HX.out.2.1] at h; simpa using h) hs0 (by obtain ⟨h1, h2, h3, h4⟩ := HL.out; obtain ⟨-, -, x1, x2, x3, x4, x5, -⟩ := HX.out; simp; omega) hsz (by obtain ⟨h1, h2, h3, h4⟩ := HL.out; obtain ⟨-, -, x1, x2, x3, x4, x5, -⟩ := HX.out; simp; omega) (by obtain ⟨h1, h2, h3, h4⟩ := HL.out; obtain ⟨-, -, x1, x2, x3, x4, x5, -⟩ := HX.out; simp; omega) (by obtain ⟨h1, h2, h3, h4⟩ := HL.out; obtain ⟨-, -, x1, x2, x3, x4, x5, -⟩ := HX.out; simp; omega) (by obtain ⟨-, -, x1, x2, x3, x4, x5, -⟩ := HX.out; omega) (by obtain ⟨-, -, x1, x2, x3, x4, x5, -⟩ := HX.out; omega))
          clear S1
          go_wp2_with fail
          refine HC1.out.mono ?_
          rintro e1 w2 ⟨rfl, S2⟩
          replace S2 : Aside (SWK enc k w0 blk off (pre ++ a1 ++ b1 ++ (a2 ++ b2 ++ post)).toArray w2) := (by simpa using S2 : SWK enc k w0 blk off (pre ++ a1 ++ b1 ++ (a2 ++ b2 ++ post)).toArray w2)
          clear HC1
          rcases (show (a < st ∧ st < mid) ∨ st ≤ a ∨ (a < st ∧ mid ≤ st) by omega) with ⟨d1, d1'⟩ | d1 | ⟨d1, d1'⟩
          · have d2 : decide (a < st) = true := decide_eq_true d1
            have d3 : decide (st < mid) = true := decide_eq_true d1'
            have HC2 : Hid _ := Lib.hid (IH.out a st mid w2 pre a1 b1 (a2 ++ b2 ++ post) (by omega) S2.out (by obtain ⟨h1, h2, h3, h4⟩ := HL.out; obtain ⟨-, -, x1, x2, x3, x4, x5, -⟩ := HX.out; simp; omega) HL.out.2.1 (by obtain ⟨h1, h2, h3, h4⟩ := HL.out; obtain ⟨-, -, x1, x2, x3, x4, x5, -⟩ := HX.out; omega) (by obtain ⟨h1, h2, h3, h4⟩ := HL.out; obtain ⟨-, -, x1, x2, x3, x4, x5, -⟩ := HX.out; omega) (by obtain ⟨h1, h2, h3, h4⟩ := HL.out; obtain ⟨-, -, x1, x2, x3, x4, x5, -⟩ := HX.out; omega) (by obtain ⟨h1, h2, h3, h4⟩ := HL.out; obtain ⟨-, -, x1, x2, x3, x4, x5, -⟩ := HX.out; omega) HX.out.2.2.2.2.2.2.2.2.1 HX.out.2.2.2.2.2.2.2.2.2.2.1)
            clear S2
            go_wp2_with fail
            refine HC2.out.mono ?_
            rintro e1 w3 ⟨rfl, S3⟩
            replace S3 : Aside (SWK enc k w0 blk off (pre ++ mrg (ltOf cf) a1 b1 ++ a2 ++ b2 ++ post).toArray w3) := (by simpa using S3 : SWK enc k w0 blk off (pre ++ mrg (ltOf cf) a1 b1 ++ a2 ++ b2 ++ post).toArray w3)
            clear HC2
            rcases (show (mid < e ∧ e < b) ∨ e ≤ mid ∨ (mid < e ∧ b ≤ e) by omega) with ⟨f1, f1'⟩ | f1 | ⟨f1, f1'⟩
            · have f2 : decide (mid < e) = true := decide_eq_true f1
              have f3 : decide (e < b) = true := decide_eq_true f1'
              have HC3 : Hid _ := Lib.hid (IH.out mid e b w3 (pre ++ mrg (ltOf cf) a1 b1) a2 b2 post (by omega) S3.out (by obtain ⟨h1, h2, h3, h4⟩ := HL.out; obtain ⟨-, -, x1, x2, x3, x4, x5, -⟩ := HX.out; simp [mrg_length]; omega) (by obtain ⟨h1, h2, h3, h4⟩ := HL.out; obtain ⟨-, -, x1, x2, x3, x4, x5, -⟩ := HX.out; simp [mrg_length]; omega) (by obtain ⟨h1, h2, h3, h4⟩ := HL.out; obtain ⟨-, -, x1, x2, x3, x4, x5, -⟩ := HX.out; simp [mrg_length]; omega) (by obtain ⟨h1, h2, h3, h4⟩ := HL.out; obtain ⟨-, -, x1, x2, x3, x4, x5, -⟩ := HX.out; simp [mrg_length]; omega) (by obtain ⟨h1, h2, h3, h4⟩ := HL.out; obtain ⟨-, -, x1, x2, x3, x4, x5, -⟩ := HX.out; omega) (by obtain ⟨h1, h2, h3, h4⟩ := HL.out; obtain ⟨-, -, x1, x2, x3, x4, x5, -⟩ := HX.out; omega) HX.out.2.2.2.2.2.2.2.2.2.1 HX.out.2.2.2.2.2.2.2.2.2.2.2)
              clear S3
              go_wp2_with (go_at_fn 132; refine HC3.out.mono ?_; rintro e1 w4 ⟨rfl, S4⟩)
              go_end0
              refine ⟨rfl, ?_⟩
              rw [HX.out.2.2.2.2.2.2.2.1]
              simpa using S4
            · have f4 : ¬ mid < e := by omega
              have f2 : decide (mid < e) = false := decide_eq_false f4
              have S4 : Aside (SWK enc k w0 blk off (pre ++ (mrg (ltOf cf) a1 b1 ++ mrg (ltOf cf) a2 b2) ++ post).toArray w3) := by
                obtain ⟨y1, y2, x1, x2, x3, x4, x5, -⟩ := HX.out
                have hn : a2 = [] := List.length_eq_zero_iff.1 (by omega)
                have h := S3.out
                show SWK _ _ _ _ _ _ _
                rw [hn] at h ⊢
                rw [mrg_nil_left]
                simpa using h
              clear S3
              go_wp2
              go_end0
              refine ⟨rfl, ?_⟩
              rw [HX.out.2.2.2.2.2.2.2.1]
              simpa using S4.out
            · have f4 : ¬ e < b := by omega
              have f2 : decide (mid < e) = true := decide_eq_true f1
              have f3 : decide (e < b) = false := decide_eq_false f4
              have S4 : Aside (SWK enc k w0 blk off (pre ++ (mrg (ltOf cf) a1 b1 ++ mrg (ltOf cf) a2 b2) ++ post).toArray w3) := by
                obtain ⟨y1, y2, x1, x2, x3, x4, x5, -⟩ := HX.out
                have hn : b2 = [] := List.length_eq_zero_iff.1 (by omega)
                have h := S3.out
                show SWK _ _ _ _ _ _ _
                rw [hn] at h ⊢
                rw [mrg_nil_right]
                simpa using h
              clear S3
              go_wp2
              go_end0
              refine ⟨rfl, ?_⟩
              rw [HX.out.2.2.2.2.2.2.2.1]
              simpa using S4.out
          · have d4 : ¬ a < st := by omega
            have d2 : decide (a < st) = false := decide_eq_false d4
            have S3 : Aside (SWK enc k w0 blk off (pre ++ mrg (ltOf cf) a1 b1 ++ a2 ++ b2 ++ post).toArray w2) := by
              obtain ⟨y1, y2, x1, x2, x3, x4, x5, -⟩ := HX.out
              have hn : a1 = [] := List.length_eq_zero_iff.1 (by omega)
              have h := S2.out
              show SWK _ _ _ _ _ _ _
              rw [hn] at h ⊢
              rw [mrg_nil_left]
              simpa using h
            clear S2
            rcases (show (mid < e ∧ e < b) ∨ e ≤ mid ∨ (mid < e ∧ b ≤ e) by omega) with ⟨f1, f1'⟩ | f1 | ⟨f1, f1'⟩
            · have f2 : decide (mid < e) = true := decide_eq_true f1
              have f3 : decide (e < b) = true := decide_eq_true f1'
              have HC3 : Hid _ := Lib.hid (IH.out mid e b w2 (pre ++ mrg (ltOf cf) a1 b1) a2 b2 post (by omega) S3.out (by obtain ⟨h1, h2, h3, h4⟩ := HL.out; obtain ⟨-, -, x1, x2, x3, x4, x5, -⟩ := HX.out; simp [mrg_length]; omega) (by obtain ⟨h1, h2, h3, h4⟩ := HL.out; obtain ⟨-, -, x1, x2, x3, x4, x5, -⟩ := HX.out; simp [mrg_length]; omega) (by obtain ⟨h1, h2, h3, h4⟩ := HL.out; obtain ⟨-, -, x1, x2, x3, x4, x5, -⟩ := HX.out; simp [mrg_length]; omega) (by obtain ⟨h1, h2, h3, h4⟩ := HL.out; obtain ⟨-, -, x1, x2, x3, x4, x5, -⟩ := HX.out; simp [mrg_length]; omega) (by obtain ⟨h1, h2, h3, h4⟩ := HL.out; obtain ⟨-, -, x1, x2, x3, x4, x5, -⟩ := HX.out; omega) (by obtain ⟨h1, h2, h3, h4⟩ := HL.out; obtain ⟨-, -, x1, x2, x3, x4, x5, -⟩ := HX.out; omega) HX.out.2.2.2.2.2.2.2.2.2.1 HX.out.2.2.2.2.2.2.2.2.2.2.2)
              clear S3
              go_wp2_with (go_at_fn 132; refine HC3.out.mono ?_; rintro e1 w4 ⟨rfl, S4⟩)
              go_end0
              refine ⟨rfl, ?_⟩
              rw [HX.out.2.2.2.2.2.2.2.1]
              simpa using S4
            · have f4 : ¬ mid < e := by omega
              have f2 : decide (mid < e) = false := decide_eq_false f4
              have S4 : Aside (SWK enc k w0 blk off (pre ++ (mrg (ltOf cf) a1 b1 ++ mrg (ltOf cf) a2 b2) ++ post).toArray w2) := by
                obtain ⟨y1, y2, x1, x2, x3, x4, x5, -⟩ := HX.out
                have hn : a2 = [] := List.length_eq_zero_iff.1 (by omega)
                have h := S3.out
                show SWK _ _ _ _ _ _ _
                rw [hn] at h ⊢
                rw [mrg_nil_left]
                simpa using h
              clear S3
              go_wp2
              go_end0
              refine ⟨rfl, ?_⟩
              rw [HX.out.2.2.2.2.2.2.2.1]
              simpa using S4.out
            · have f4 : ¬ e < b := by omega
              have f2 : decide (mid < e) = true := decide_eq_true f1
              have f3 : decide (e < b) = false := decide_eq_false f4
              have S4 : Aside (SWK enc k w0 blk off (pre ++ (mrg (ltOf cf) a1 b1 ++ mrg (ltOf cf) a2 b2) ++ post).toArray w2) := by
                obtain ⟨y1, y2, x1, x2, x3, x4, x5, -⟩ := HX.out
                have hn : b2 = [] := List.length_eq_zero_iff.1 (by omega)
                have h := S3.out
                show SWK _ _ _ _ _ _ _
                rw [hn] at h ⊢
                rw [mrg_nil_right]
                simpa using h
              clear S3
              go_wp2
              go_end0
              refine ⟨rfl, ?_⟩
              rw [HX.out.2.2.2.2.2.2.2.1]
              simpa using S4.out
          · have d4 : ¬ st < mid := by omega
            have d2 : decide (a < st) = true := decide_eq_true d1
            have d3 : decide (st < mid) = false := decide_eq_false d4
            have S3 : Aside (SWK enc k w0 blk off (pre ++ mrg (ltOf cf) a1 b1 ++ a2 ++ b2 ++ post).toArray w2) := by
              obtain ⟨y1, y2, x1, x2, x3, x4, x5, -⟩ := HX.out
              have hn : b1 = [] := List.length_eq_zero_iff.1 (by omega)
              have h := S2.out
              show SWK _ _ _ _ _ _ _
              rw [hn] at h ⊢
              rw [mrg_nil_right]
              simpa using h
            clear S2
            rcases (show (mid < e ∧ e < b) ∨ e ≤ mid ∨ (mid < e ∧ b ≤ e) by omega) with ⟨f1, f1'⟩ | f1 | ⟨f1, f1'⟩
            · have f2 : decide (mid < e) = true := decide_eq_true f1
              have f3 : decide (e < b) = true := decide_eq_true f1'
              have HC3 : Hid _ := Lib.hid (IH.out mid e b w2 (pre ++ mrg (ltOf cf) a1 b1) a2 b2 post (by omega) S3.out (by obtain ⟨h1, h2, h3, h4⟩ := HL.out; obtain ⟨-, -, x1, x2, x3, x4, x5, -⟩ := HX.out; simp [mrg_length]; omega) (by obtain ⟨h1, h2, h3, h4⟩ := HL.out; obtain ⟨-, -, x1, x2, x3, x4, x5, -⟩ := HX.out; simp [mrg_length]; omega) (by obtain ⟨h1, h2, h3, h4⟩ := HL.out; obtain ⟨-, -, x1, x2, x3, x4, x5, -⟩ := HX.out; simp [mrg_length]; omega) (by obtain ⟨h1, h2, h3, h4⟩ := HL.out; obtain ⟨-, -, x1, x2, x3, x4, x5, -⟩ := HX.out; simp [mrg_length]; omega) (by obtain ⟨h1, h2, h3, h4⟩ := HL.out; obtain ⟨-, -, x1, x2, x3, x4, x5, -⟩ := HX.out; omega) (by obtain ⟨h1, h2, h3, h4⟩ := HL.out; obtain ⟨-, -, x1, x2, x3, x4, x5, -⟩ := HX.out; omega) HX.out.2.2.2.2.2.2.2.2.2.1 HX.out.2.2.2.2.2.2.2.2.2.2.2)
              clear S3
              go_wp2_with (go_at_fn 132; refine HC3.out.mono ?_; rintro e1 w4 ⟨rfl, S4⟩)
              go_end0
              refine ⟨rfl, ?_⟩
              rw [HX.out.2.2.2.2.2.2.2.1]
              simpa using S4
            · have f4 : ¬ mid < e := by omega
              have f2 : decide (mid < e) = false := decide_eq_false f4
              have S4 : Aside (SWK enc k w0 blk off (pre ++ (mrg (ltOf cf) a1 b1 ++ mrg (ltOf cf) a2 b2) ++ post).toArray w2) := by
                obtain ⟨y1, y2, x1, x2, x3, x4, x5, -⟩ := HX.out
                have hn : a2 = [] := List.length_eq_zero_iff.1 (by omega)
                have h := S3.out
                show SWK _ _ _ _ _ _ _
                rw [hn] at h ⊢
                rw [mrg_nil_left]
                simpa using h
              clear S3
              go_wp2
              go_end0
              refine ⟨rfl, ?_⟩
              rw [HX.out.2.2.2.2.2.2.2.1]
              simpa using S4.out
            · have f4 : ¬ e < b := by omega
              have f2 : decide (mid < e) = true := decide_eq_true f1
              have f3 : decide (e < b) = false := decide_eq_false f4
              have S4 : Aside (SWK enc k w0 blk off (pre ++ (mrg (ltOf cf) a1 b1 ++ mrg (ltOf cf) a2 b2) ++ post).toArray w2) := by
                obtain ⟨y1, y2, x1, x2, x3, x4, x5, -⟩ := HX.out
                have hn : b2 = [] := List.length_eq_zero_iff.1 (by omega)
                have h := S3.out
                show SWK _ _ _ _ _ _ _
                rw [hn] at h ⊢
                rw [mrg_nil_right]
                simpa using h
              clear S3
              go_wp2
              go_end0
              refine ⟨rfl, ?_⟩
              rw [HX.out.2.2.2.2.2.2.2.1]
              simpa using S4.out
        · have c4 : ¬ st < m := by omega
          have c2 : decide (st < m) = false := decide_eq_false c4
          have S2 : Aside (SWK enc k w0 blk off (pre ++ a1 ++ b1 ++ (a2 ++ b2 ++ post)).toArray wr) := by
            obtain ⟨y1, y2, x1, x2, x3, x4, x5, -⟩ := HX.out
            have hn : a2 = [] := List.length_eq_zero_iff.1 (by omega)
            have h := S1.out
            rw [HD.out, y1, y2] at h
            show SWK _ _ _ _ _ _ _
            rw [hn] at h ⊢
            simpa using h
          clear S1
          rcases (show (a < st ∧ st < mid) ∨ st ≤ a ∨ (a < st ∧ mid ≤ st) by omega) with ⟨d1, d1'⟩ | d1 | ⟨d1, d1'⟩
          · have d2 : decide (a < st) = true := decide_eq_true d1
            have d3 : decide (st < mid) = true := decide_eq_true d1'
            have HC2 : Hid _ := Lib.hid (IH.out a st mid wr pre a1 b1 (a2 ++ b2 ++ post) (by omega) S2.out (by obtain ⟨h1, h2, h3, h4⟩ := HL.out; obtain ⟨-, -, x1, x2, x3, x4, x5, -⟩ := HX.out; simp; omega) HL.out.2.1 (by obtain ⟨h1, h2, h3, h4⟩ := HL.out; obtain ⟨-, -, x1, x2, x3, x4, x5, -⟩ := HX.out; omega) (by obtain ⟨h1, h2, h3, h4⟩ := HL.out; obtain ⟨-, -, x1, x2, x3, x4, x5, -⟩ := HX.out; omega) (by obtain ⟨h1, h2, h3, h4⟩ := HL.out; obtain ⟨-, -, x1, x2, x3, x4, x5, -⟩ := HX.out; omega) (by obtain ⟨h1, h2, h3, h4⟩ := HL.out; obtain ⟨-, -, x1, x2, x3, x4, x5, -⟩ := HX.out; omega) HX.out.2.2.2.2.2.2.2.2.1 HX.out.2.2.2.2.2.2.2.2.2.2.1)
            clear S2
            go_wp2_with fail
            refine HC2.out.mono ?_
            rintro e1 w3 ⟨rfl, S3⟩
            replace S3 : Aside (SWK enc k w0 blk off (pre ++ mrg (ltOf cf) a1 b1 ++ a2 ++ b2 ++ post).toArray w3) := (by simpa using S3 : SWK enc k w0 blk off (pre ++ mrg (ltOf cf) a1 b1 ++ a2 ++ b2 ++ post).toArray w3)
            clear HC2
            rcases (show (mid < e ∧ e < b) ∨ e ≤ mid ∨ (mid < e ∧ b ≤ e) by omega) with ⟨f1, f1'⟩ | f1 | ⟨f1, f1'⟩
            · have f2 : decide (mid < e) = true := decide_eq_true f1
              have f3 : decide (e < b) = true := decide_eq_true f1'
              have HC3 : Hid _ := Lib.hid (IH.out mid e b w3 (pre ++ mrg (ltOf cf) a1 b1) a2 b2 post (by omega) S3.out (by obtain ⟨h1, h2, h3, h4⟩ := HL.out; obtain ⟨-, -, x1, x2, x3, x4, x5, -⟩ := HX.out; simp [mrg_length]; omega) (by obtain ⟨h1, h2, h3, h4⟩ := HL.out; obtain ⟨-, -, x1, x2, x3, x4, x5, -⟩ := HX.out; simp [mrg_length]; omega) (by obtain ⟨h1, h2, h3, h4⟩ := HL.out; obtain ⟨-, -, x1, x2, x3, x4, x5, -⟩ := HX.out; simp [mrg_length]; omega) (by obtain ⟨h1, h2, h3, h4⟩ := HL.out; obtain ⟨-, -, x1, x2, x3, x4, x5, -⟩ := HX.out; simp [mrg_length]; omega) (by obtain ⟨h1, h2, h3, h4⟩ := HL.out; obtain ⟨-, -, x1, x2, x3, x4, x5, -⟩ := HX.out; omega) (by obtain ⟨h1, h2, h3, h4⟩ := HL.out; obtain ⟨-, -, x1, x2, x3, x4, x5, -⟩ := HX.out; omega) HX.out.2.2.2.2.2.2.2.2.2.1 HX.out.2.2.2.2.2.2.2.2.2.2.2)
              clear S3
              go_wp2_with (go_at_fn 132; refine HC3.out.mono ?_; rintro e1 w4 ⟨rfl, S4⟩)
              go_end0
              refine ⟨rfl, ?_⟩
              rw [HX.out.2.2.2.2.2.2.2.1]
              simpa using S4
            · have f4 : ¬ mid < e := by omega
              have f2 : decide (mid < e) = false := decide_eq_false f4
              have S4 : Aside (SWK enc k w0 blk off (pre ++ (mrg (ltOf cf) a1 b1 ++ mrg (ltOf cf) a2 b2) ++ post).toArray w3) := by
                obtain ⟨y1, y2, x1, x2, x3, x4, x5, -⟩ := HX.out
                have hn : a2 = [] := List.length_eq_zero_iff.1 (by omega)
                have h := S3.out
                show SWK _ _ _ _ _ _ _
                rw [hn] at h ⊢
                rw [mrg_nil_left]
                simpa using h
              clear S3
              go_wp2
              go_end0
              refine ⟨rfl, ?_⟩
              rw [HX.out.2.2.2.2.2.2.2.1]
              simpa using S4.out
            · have f4 : ¬ e < b := by omega
              have f2 : decide (mid < e) = true := decide_eq_true f1
              have f3 : decide (e < b) = false := decide_eq_false f4
              have S4 : Aside (SWK enc k w0 blk off (pre ++ (mrg (ltOf cf) a1 b1 ++ mrg (ltOf cf) a2 b2) ++ post).toArray w3) := by
                obtain ⟨y1, y2, x1, x2, x3, x4, x5, -⟩ := HX.out
                have hn : b2 = [] := List.length_eq_zero_iff.1 (by omega)
                have h := S3.out
                show SWK _ _ _ _ _ _ _
                rw [hn] at h ⊢
                rw [mrg_nil_right]
                simpa using h
              clear S3
              go_wp2
              go_end0
              refine ⟨rfl, ?_⟩
              rw [HX.out.2.2.2.2.2.2.2.1]
              simpa using S4.out
          · have d4 : ¬ a < st := by omega
            have d2 : decide (a < st) = false := decide_eq_false d4
            have S3 : Aside (SWK enc k w0 blk off (pre ++ mrg (ltOf cf) a1 b1 ++ a2 ++ b2 ++ post).toArray wr) := by
              obtain ⟨y1, y2, x1, x2, x3, x4, x5, -⟩ := HX.out
              have hn : a1 = [] := List.length_eq_zero_iff.1 (by omega)
              have h := S2.out
              show SWK _ _ _ _ _ _ _
              rw [hn] at h ⊢
              rw [mrg_nil_left]
              simpa using h
            clear S2
            rcases (show (mid < e ∧ e < b) ∨ e ≤ mid ∨ (mid < e ∧ b ≤ e) by omega) with ⟨f1, f1'⟩ | f1 | ⟨f1, f1'⟩
            · have f2 : decide (mid < e) = true := decide_eq_true f1
              have f3 : decide (e < b) = true := decide_eq_true f1'
              have HC3 : Hid _ := Lib.hid (IH.out mid e b wr (pre ++ mrg (ltOf cf) a1 b1) a2 b2 post (by omega) S3.out (by obtain ⟨h1, h2, h3, h4⟩ := HL.out; obtain ⟨-, -, x1, x2, x3, x4, x5, -⟩ := HX.out; simp [mrg_length]; omega) (by obtain ⟨h1, h2, h3, h4⟩ := HL.out; obtain ⟨-, -, x1, x2, x3, x4, x5, -⟩ := HX.out; simp [mrg_length]; omega) (by obtain ⟨h1, h2, h3, h4⟩ := HL.out; obtain ⟨-, -, x1, x2, x3, x4, x5, -⟩ := HX.out; simp [mrg_length]; omega) (by obtain ⟨h1, h2, h3, h4⟩ := HL.out; obtain ⟨-, -, x1, x2, x3, x4, x5, -⟩ := HX.out; simp [mrg_length]; omega) (by obtain ⟨h1, h2, h3, h4⟩ := HL.out; obtain ⟨-, -, x1, x2, x3, x4, x5, -⟩ := HX.out; omega) (by obtain ⟨h1, h2, h3, h4⟩ := HL.out; obtain ⟨-, -, x1, x2, x3, x4, x5, -⟩ := HX.out; omega) HX.out.2.2.2.2.2.2.2.2.2.1 HX.out.2.2.2.2.2.2.2.2.2.2.2)
              clear S3
              go_wp2_with (go_at_fn 132; refine HC3.out.mono ?_; rintro e1 w4 ⟨rfl, S4⟩)
              go_end0
              refine ⟨rfl, ?_⟩
              rw [HX.out.2.2.2.2.2.2.2.1]
              simpa using S4
            · have f4 : ¬ mid < e := by omega
              have f2 : decide (mid < e) = false := decide_eq_false f4
              have S4 : Aside (SWK enc k w0 blk off (pre ++ (mrg (ltOf cf) a1 b1 ++ mrg (ltOf cf) a2 b2) ++ post).toArray wr) := by
                obtain ⟨y1, y2, x1, x2, x3, x4, x5, -⟩ := HX.out
                have hn : a2 = [] := List.length_eq_zero_iff.1 (by omega)
                have h := S3.out
                show SWK _ _ _ _ _ _ _
                rw [hn] at h ⊢
                rw [mrg_nil_left]
                simpa using h
              clear S3
              go_wp2
              go_end0
              refine ⟨rfl, ?_⟩
              rw [HX.out.2.2.2.2.2.2.2.1]
              simpa using S4.out
            · have f4 : ¬ e < b := by omega
              have f2 : decide (mid < e) = true := decide_eq_true f1
              have f3 : decide (e < b) = false := decide_eq_false f4
              have S4 : Aside (SWK enc k w0 blk off (pre ++ (mrg (ltOf cf) a1 b1 ++ mrg (ltOf cf) a2 b2) ++ post).toArray wr) := by
                obtain ⟨y1, y2, x1, x2, x3, x4, x5, -⟩ := HX.out
                have hn : b2 = [] := List.length_eq_zero_iff.1 (by omega)
                have h := S3.out
                show SWK _ _ _ _ _ _ _
                rw [hn] at h ⊢
                rw [mrg_nil_right]
                simpa using h
              clear S3
              go_wp2
              go_end0
              refine ⟨rfl, ?_⟩
              rw [HX.out.2.2.2.2.2.2.2.1]
              simpa using S4.out
          · have d4 : ¬ st < mid := by omega
            have d2 : decide (a < st) = true := decide_eq_true d1
            have d3 : decide (st < mid) = false := decide_eq_false d4
            have S3 : Aside (SWK enc k w0 blk off (pre ++ mrg (ltOf cf) a1 b1 ++ a2 ++ b2 ++ post).toArray wr) := by
              obtain ⟨y1, y2, x1, x2, x3, x4, x5, -⟩ := HX.out
              have hn : b1 = [] := List.length_eq_zero_iff.1 (by omega)
              have h := S2.out
              show SWK _ _ _ _ _ _ _
              rw [hn] at h ⊢
              rw [mrg_nil_right]
              simpa using h
            clear S2
            rcases (show (mid < e ∧ e < b) ∨ e ≤ mid ∨ (mid < e ∧ b ≤ e) by omega) with ⟨f1, f1'⟩ | f1 | ⟨f1, f1'⟩
            · have f2 : decide (mid < e) = true := decide_eq_true f1
              have f3 : decide (e < b) = true := decide_eq_true f1'
              have HC3 : Hid _ := Lib.hid (IH.out mid e b wr (pre ++ mrg (ltOf cf) a1 b1) a2 b2 post (by omega) S3.out (by obtain ⟨h1, h2, h3, h4⟩ := HL.out; obtain ⟨-, -, x1, x2, x3, x4, x5, -⟩ := HX.out; simp [mrg_length]; omega) (by obtain ⟨h1, h2, h3, h4⟩ := HL.out; obtain ⟨-, -, x1, x2, x3, x4, x5, -⟩ := HX.out; simp [mrg_length]; omega) (by obtain ⟨h1, h2, h3, h4⟩ := HL.out; obtain ⟨-, -, x1, x2, x3, x4, x5, -⟩ := HX.out; simp [mrg_length]; omega) (by obtain ⟨h1, h2, h3, h4⟩ := HL.out; obtain ⟨-, -, x1, x2, x3, x4, x5, -⟩ := HX.out; simp [mrg_length]; omega) (by obtain ⟨h1, h2, h3, h4⟩ := HL.out; obtain ⟨-, -, x1, x2, x3, x4, x5, -⟩ := HX.out; omega) (by obtain ⟨h1, h2, h3, h4⟩ := HL.out; obtain ⟨-, -, x1, x2, x3, x4, x5, -⟩ := HX.out; omega) HX.out.2.2.2.2.2.2.2.2.2.1 HX.out.2.2.2.2.2.2.2.2.2.2.2)
              clear S3
              go_wp2_with (go_at_fn 132; refine HC3.out.mono ?_; rintro e1 w4 ⟨rfl, S4⟩)
              go_end0
              refine ⟨rfl, ?_⟩
              rw [HX.out.2.2.2.2.2.2.2.1]
              simpa using S4
            · have f4 : ¬ mid < e := by omega
              have f2 : decide (mid < e) = false := decide_eq_false f4
              have S4 : Aside (SWK enc k w0 blk off (pre ++ (mrg (ltOf cf) a1 b1 ++ mrg (ltOf cf) a2 b2) ++ post).toArray wr) := by
                obtain ⟨y1, y2, x1, x2, x3, x4, x5, -⟩ := HX.out
                have hn : a2 = [] := List.length_eq_zero_iff.1 (by omega)
                have h := S3.out
                show SWK _ _ _ _ _ _ _
                rw [hn] at h ⊢
                rw [mrg_nil_left]
                simpa using h
              clear S3
              go_wp2
              go_end0
              refine ⟨rfl, ?_⟩
              rw [HX.out.2.2.2.2.2.2.2.1]
              simpa using S4.out
            · have f4 : ¬ e < b := by omega
              have f2 : decide (mid < e) = true := decide_eq_true f1
              have f3 : decide (e < b) = false := decide_eq_false f4
              have S4 : Aside (SWK enc k w0 blk off (pre ++ (mrg (ltOf cf) a1 b1 ++ mrg (ltOf cf) a2 b2) ++ post).toArray wr) := by
                obtain ⟨y1, y2, x1, x2, x3, x4, x5, -⟩ := HX.out
                have hn : b2 = [] := List.length_eq_zero_iff.1 (by omega)
                have h := S3.out
                show SWK _ _ _ _ _ _ _
                rw [hn] at h ⊢
                rw [mrg_nil_right]
                simpa using h
              clear S3
              go_wp2
              go_end0
              refine ⟨rfl, ?_⟩
              rw [HX.out.2.2.2.2.2.2.2.1]
              simpa using S4.out
        · have c4 : ¬ m < e := by omega
          have c2 : decide (st < m) = true := decide_eq_true c1
          have c3 : decide (m < e) = false := decide_eq_false c4
          have S2 : Aside (SWK enc k w0 blk off (pre ++ a1 ++ b1 ++ (a2 ++ b2 ++ post)).toArray wr) := by
            obtain ⟨y1, y2, x1, x2, x3, x4, x5, -⟩ := HX.out
            have hn : b1 = [] := List.length_eq_zero_iff.1 (by omega)
            have h := S1.out
            rw [HD.out, y1, y2] at h
            show SWK _ _ _ _ _ _ _
            rw [hn] at h ⊢
            simpa using h
          clear S1
          rcases (show (a < st ∧ st < mid) ∨ st ≤ a ∨ (a < st ∧ mid ≤ st) by omega) with ⟨d1, d1'⟩ | d1 | ⟨d1, d1'⟩
          · have d2 : decide (a < st) = true := decide_eq_true d1
            have d3 : decide (st < mid) = true := decide_eq_true d1'
            have HC2 : Hid _ := Lib.hid (IH.out a st mid wr pre a1 b1 (a2 ++ b2 ++ post) (by omega) S2.out (by obtain ⟨h1, h2, h3, h4⟩ := HL.out; obtain ⟨-, -, x1, x2, x3, x4, x5, -⟩ := HX.out; simp; omega) HL.out.2.1 (by obtain ⟨h1, h2, h3, h4⟩ := HL.out; obtain ⟨-, -, x1, x2, x3, x4, x5, -⟩ := HX.out; omega) (by obtain ⟨h1, h2, h3, h4⟩ := HL.out; obtain ⟨-, -, x1, x2, x3, x4, x5, -⟩ := HX.out; omega) (by obtain ⟨h1, h2, h3, h4⟩ := HL.out; obtain ⟨-, -, x1, x2, x3, x4, x5, -⟩ := HX.out; omega) (by obtain ⟨h1, h2, h3, h4⟩ := HL.out; obtain ⟨-, -, x1, x2, x3, x4, x5, -⟩ := HX.out; omega) HX.out.2.2.2.2.2.2.2.2.1 HX.out.2.2.2.2.2.2.2.2.2.2.1)
            clear S2
            go_wp2_with fail
            refine HC2.out.mono ?_
            rintro e1 w3 ⟨rfl, S3⟩
            replace S3 : Aside (SWK enc k w0 blk off (pre ++ mrg (ltOf cf) a1 b1 ++ a2 ++ b2 ++ post).toArray w3) := (by simpa using S3 : SWK enc k w0 blk off (pre ++ mrg (ltOf cf) a1 b1 ++ a2 ++ b2 ++ post).toArray w3)
            clear HC2
            rcases (show (mid < e ∧ e < b) ∨ e ≤ mid ∨ (mid < e ∧ b ≤ e) by omega) with ⟨f1, f1'⟩ | f1 | ⟨f1, f1'⟩
            · have f2 : decide (mid < e) = true := decide_eq_true f1
              have f3 : decide (e < b) = true := decide_eq_true f1'
              have HC3 : Hid _ := Lib.hid (IH.out mid e b w3 (pre ++ mrg (ltOf cf) a1 b1) a2 b2 post (by omega) S3.out (by obtain ⟨h1, h2, h3, h4⟩ := HL.out; obtain ⟨-, -, x1, x2, x3, x4, x5, -⟩ := HX.out; simp [mrg_length]; omega) (by obtain ⟨h1, h2, h3, h4⟩ := HL.out; obtain ⟨-, -, x1, x2, x3, x4, x5, -⟩ := HX.out; simp [mrg_length]; omega) (by obtain ⟨h1, h2, h3, h4⟩ := HL.out; obtain ⟨-, -, x1, x2, x3, x4, x5, -⟩ := HX.out; simp [mrg_length]; omega) (by obtain ⟨h1, h2, h3, h4⟩ := HL.out; obtain ⟨-, -, x1, x2, x3, x4, x5, -⟩ := HX.out; simp [mrg_length]; omega) (by obtain ⟨h1, h2, h3, h4⟩ := HL.out; obtain ⟨-, -, x1, x2, x3, x4, x5, -⟩ := HX.out; omega) (by obtain ⟨h1, h2, h3, h4⟩ := HL.out; obtain ⟨-, -, x1, x2, x3, x4, x5, -⟩ := HX.out; omega) HX.out.2.2.2.2.2.2.2.2.2.1 HX.out.2.2.2.2.2.2.2.2.2.2.2)
              clear S3
              go_wp2_with (go_at_fn 132; refine HC3.out.mono ?_; rintro e1 w4 ⟨rfl, S4⟩)
              go_end0
              refine ⟨rfl, ?_⟩
              rw [HX.out.2.2.2.2.2.2.2.1]
              simpa using S4
            · have f4 : ¬ mid < e := by omega
              have f2 : decide (mid < e) = false := decide_eq_false f4
              have S4 : Aside (SWK enc k w0 blk off (pre ++ (mrg (ltOf cf) a1 b1 ++ mrg (ltOf cf) a2 b2) ++ post).toArray w3) := by
                obtain ⟨y1, y2, x1, x2, x3, x4, x5, -⟩ := HX.out
                have hn : a2 = [] := List.length_eq_zero_iff.1 (by omega)
                have h := S3.out
                show SWK _ _ _ _ _ _ _
                rw [hn] at h ⊢
                rw [mrg_nil_left]
                simpa using h
              clear S3
              go_wp2
              go_end0
              refine ⟨rfl, ?_⟩
              rw [HX.out.2.2.2.2.2.2.2.1]
              simpa using S4.out
            · have f4 : ¬ e < b := by omega
              have f2 : decide (mid < e) = true := decide_eq_true f1
              have f3 : decide (e < b) = false := decide_eq_false f4
              have S4 : Aside (SWK enc k w0 blk off (pre ++ (mrg (ltOf cf) a1 b1 ++ mrg (ltOf cf) a2 b2) ++ post).toArray w3) := by
                obtain ⟨y1, y2, x1, x2, x3, x4, x5, -⟩ := HX.out
                have hn : b2 = [] := List.length_eq_zero_iff.1 (by omega)
                have h := S3.out
                show SWK _ _ _ _ _ _ _
                rw [hn] at h ⊢
                rw [mrg_nil_right]
                simpa using h
              clear S3
              go_wp2
              go_end0
              refine ⟨rfl, ?_⟩
              rw [HX.out.2.2.2.2.2.2.2.1]
              simpa using S4.out
          · have d4 : ¬ a < st := by omega
            have d2 : decide (a < st) = false := decide_eq_false d4
            have S3 : Aside (SWK enc k w0 blk off (pre ++ mrg (ltOf cf) a1 b1 ++ a2 ++ b2 ++ post).toArray wr) := by
              obtain ⟨y1, y2, x1, x2, x3, x4, x5, -⟩ := HX.out
              have hn : a1 = [] := List.length_eq_zero_iff.1 (by omega)
              have h := S2.out
              show SWK _ _ _ _ _ _ _
              rw [hn] at h ⊢
              rw [mrg_nil_left]
              simpa using h
            clear S2
            rcases (show (mid < e ∧ e < b) ∨ e ≤ mid ∨ (mid < e ∧ b ≤ e) by omega) with ⟨f1, f1'⟩ | f1 | ⟨f1, f1'⟩
            · have f2 : decide (mid < e) = true := decide_eq_true f1
              have f3 : decide (e < b) = true := decide_eq_true f1'
              have HC3 : Hid _ := Lib.hid (IH.out mid e b wr (pre ++ mrg (ltOf cf) a1 b1) a2 b2 post (by omega) S3.out (by obtain ⟨h1, h2, h3, h4⟩ := HL.out; obtain ⟨-, -, x1, x2, x3, x4, x5, -⟩ := HX.out; simp [mrg_length]; omega) (by obtain ⟨h1, h2, h3, h4⟩ := HL.out; obtain ⟨-, -, x1, x2, x3, x4, x5, -⟩ := HX.out; simp [mrg_length]; omega) (by obtain ⟨h1, h2, h3, h4⟩ := HL.out; obtain ⟨-, -, x1, x2, x3, x4, x5, -⟩ := HX.out; simp [mrg_length]; omega) (by obtain ⟨h1, h2, h3, h4⟩ := HL.out; obtain ⟨-, -, x1, x2, x3, x4, x5, -⟩ := HX.out; simp [mrg_length]; omega) (by obtain ⟨h1, h2, h3, h4⟩ := HL.out; obtain ⟨-, -, x1, x2, x3, x4, x5, -⟩ := HX.out; omega) (by obtain ⟨h1, h2, h3, h4⟩ := HL.out; obtain ⟨-, -, x1, x2, x3, x4, x5, -⟩ := HX.out; omega) HX.out.2.2.2.2.2.2.2.2.2.1 HX.out.2.2.2.2.2.2.2.2.2.2.2)
              clear S3
              go_wp2_with (go_at_fn 132; refine HC3.out.mono ?_; rintro e1 w4 ⟨rfl, S4⟩)
              go_end0
              refine ⟨rfl, ?_⟩
              rw [HX.out.2.2.2.2.2.2.2.1]
              simpa using S4
            · have f4 : ¬ mid < e := by omega
              have f2 : decide (mid < e) = false := decide_eq_false f4
              have S4 : Aside (SWK enc k w0 blk off (pre ++ (mrg (ltOf cf) a1 b1 ++ mrg (ltOf cf) a2 b2) ++ post).toArray wr) := by
                obtain ⟨y1, y2, x1, x2, x3, x4, x5, -⟩ := HX.out
                have hn : a2 = [] := List.length_eq_zero_iff.1 (by omega)
                have h := S3.out
                show SWK _ _ _ _ _ _ _
                rw [hn] at h ⊢
                rw [mrg_nil_left]
                simpa using h
              clear S3
              go_wp2
              go_end0
              refine ⟨rfl, ?_⟩
              rw [HX.out.2.2.2.2.2.2.2.1]
              simpa using S4.out
            · have f4 : ¬ e < b := by omega
              have f2 : decide (mid < e) = true := decide_eq_true f1
              have f3 : decide (e < b) = false := decide_eq_false f4
              have S4 : Aside (SWK enc k w0 blk off (pre ++ (mrg (ltOf cf) a1 b1 ++ mrg (ltOf cf) a2 b2) ++ post).toArray wr) := by
                obtain ⟨y1, y2, x1, x2, x3, x4, x5, -⟩ := HX.out
                have hn : b2 = [] := List.length_eq_zero_iff.1 (by omega)
                have h := S3.out
                show SWK _ _ _ _ _ _ _
                rw [hn] at h ⊢
                rw [mrg_nil_right]
                simpa using h
              clear S3
              go_wp2
              go_end0
              refine ⟨rfl, ?_⟩
              rw [HX.out.2.2.2.2.2.2.2.1]
              simpa using S4.out
          · have d4 : ¬ st < mid := by omega
            have d2 : decide (a < st) = true := decide_eq_true d1
            have d3 : decide (st < mid) = false := decide_eq_false d4
            have S3 : Aside (SWK enc k w0 blk off (pre ++ mrg (ltOf cf) a1 b1 ++ a2 ++ b2 ++ post).toArray wr) := by
              obtain ⟨y1, y2, x1, x2, x3, x4, x5, -⟩ := HX.out
              have hn : b1 = [] := List.length_eq_zero_iff.1 (by omega)
              have h := S2.out
              show SWK _ _ _ _ _ _ _
              rw [hn] at h ⊢
              rw [mrg_nil_right]
              simpa using h
            clear S2
            rcases (show (mid < e ∧ e < b) ∨ e ≤ mid ∨ (mid < e ∧ b ≤ e) by omega) with ⟨f1, f1'⟩ | f1 | ⟨f1, f1'⟩
            · have f2 : decide (mid < e) = true := decide_eq_true f1
              have f3 : decide (e < b) = true := decide_eq_true f1'
              have HC3 : Hid _ := Lib.hid (IH.out mid e b wr (pre ++ mrg (ltOf cf) a1 b1) a2 b2 post (by omega) S3.out (by obtain ⟨h1, h2, h3, h4⟩ := HL.out; obtain ⟨-, -, x1, x2, x3, x4, x5, -⟩ := HX.out; simp [mrg_length]; omega) (by obtain ⟨h1, h2, h3, h4⟩ := HL.out; obtain ⟨-, -, x1, x2, x3, x4, x5, -⟩ := HX.out; simp [mrg_length]; omega) (by obtain ⟨h1, h2, h3, h4⟩ := HL.out; obtain ⟨-, -, x1, x2, x3, x4, x5, -⟩ := HX.out; simp [mrg_length]; omega) (by obtain ⟨h1, h2, h3, h4⟩ := HL.out; obtain ⟨-, -, x1, x2, x3, x4, x5, -⟩ := HX.out; simp [mrg_length]; omega) (by obtain ⟨h1, h2, h3, h4⟩ := HL.out; obtain ⟨-, -, x1, x2, x3, x4, x5, -⟩ := HX.out; omega) (by obtain ⟨h1, h2, h3, h4⟩ := HL.out; obtain ⟨-, -, x1, x2, x3, x4, x5, -⟩ := HX.out; omega) HX.out.2.2.2.2.2.2.2.2.2.1 HX.out.2.2.2.2.2.2.2.2.2.2.2)
              clear S3
              go_wp2_with (go_at_fn 132; refine HC3.out.mono ?_; rintro e1 w4 ⟨rfl, S4⟩)
              go_end0
              refine ⟨rfl, ?_⟩
              rw [HX.out.2.2.2.2.2.2.2.1]
              simpa using S4
            · have f4 : ¬ mid < e := by omega
              have f2 : decide (mid < e) = false := decide_eq_false f4
              have S4 : Aside (SWK enc k w0 blk off (pre ++ (mrg (ltOf cf) a1 b1 ++ mrg (ltOf cf) a2 b2) ++ post).toArray wr) := by
                obtain ⟨y1, y2, x1, x2, x3, x4, x5, -⟩ := HX.out
                have hn : a2 = [] := List.length_eq_zero_iff.1 (by omega)
                have h := S3.out
                show SWK _ _ _ _ _ _ _
                rw [hn] at h ⊢
                rw [mrg_nil_left]
                simpa using h
              clear S3
              go_wp2
              go_end0
              refine ⟨rfl, ?_⟩
              rw [HX.out.2.2.2.2.2.2.2.1]
              simpa using S4.out
            · have f4 : ¬ e < b := by omega
              have f2 : decide (mid < e) = true := decide_eq_true f1
              have f3 : decide (e < b) = false := decide_eq_false f4
              have S4 : Aside (SWK enc k w0 blk off (pre ++ (mrg (ltOf cf) a1 b1 ++ mrg (ltOf cf) a2 b2) ++ post).toArray wr) := by
                obtain ⟨y1, y2, x1, x2, x3, x4, x5, -⟩ := HX.out
                have hn : b2 = [] := List.length_eq_zero_iff.1 (by omega)
                have h := S3.out
                show SWK _ _ _ _ _ _ _
                rw [hn] at h ⊢
                rw [mrg_nil_right]
                simpa using h
              clear S3
              go_wp2
              go_end0
              refine ⟨rfl, ?_⟩
              rw [HX.out.2.2.2.2.2.2.2.1]
              simpa using S4.out
end Go.Proofs.YtaggohobdjidjaaGreatDoor

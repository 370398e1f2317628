import Derived.Test.YtaggohobdjidjaaGreatDoorJV
import Derived.Test.YtaggohobdjidjaaGreatDoorJT
import Derived.Test.YtaggohobdjidjaaGreatDoorJMatch

/- Labels with different Ids are sorted in one way; what the least important one turns: plain. -/
namespace Go.Proofs.YtaggohobdjidjaaGreatDoor

theorem ltL_eq {a b : Lab} (h1 : ltL a b = false) (h2 : ltL b a = false) : a.id.toList = b.id.toList := by
  obtain ⟨h3, h4⟩ := ltL_no h1
  obtain ⟨h5, h6⟩ := ltL_no h2
  have e : a.r = b.r := by omega
  rcases h4 with h4 | ⟨-, h4⟩
  · exact absurd e h4
  · rcases h6 with h6 | ⟨-, h6⟩
    · exact absurd e.symm h6
    · exact bytesLess_tri _ _ h4 h6
theorem DiffP.inj {l : List Lab} (h : DiffP l) : ∀ {a b : Lab}, a ∈ l → b ∈ l → a.id.toList = b.id.toList → a = b := by
  induction l with
  | nil => intro a b ha; cases ha
  | cons x l ih =>
    intro a b ha hb e
    unfold DiffP at h
    rw [List.pairwise_cons] at h
    rcases List.mem_cons.1 ha with h1 | h1
    · rcases List.mem_cons.1 hb with h2 | h2
      · rw [h1, h2]
      · rw [h1] at e; exact absurd e (h.1 _ h2)
    · rcases List.mem_cons.1 hb with h2 | h2
      · rw [h2] at e; exact absurd e.symm (h.1 _ h1)
      · exact ih h.2 h1 h2 e
theorem srt_uniq {l l' : List Lab} (hd : DiffP l) (hp : l.Perm l') (h1 : Srt ltL l) (h2 : Srt ltL l') : l = l' :=
  List.Perm.eq_of_pairwise (le := fun x y => ltL y x = false) (fun _ _ ha hb h3 h4 => hd.inj ha (hp.mem_iff.2 hb) (ltL_eq h4 h3)) h1 h2 hp
theorem isort_uniq {l l' : List Lab} (hd : DiffP l) (hp : l'.Perm l) : isort ltL l' = isort ltL l :=
  srt_uniq (hd.perm ((isort_perm ltL l').trans hp)) ((isort_perm ltL l').trans (hp.trans (isort_perm ltL l).symm)) (isort_srt ltL_swo l') (isort_srt ltL_swo l)
theorem isort_self {l : List Lab} (hd : DiffP l) (h : Srt ltL l) : isort ltL l = l :=
  srt_uniq (hd.perm (isort_perm ltL l)) (isort_perm ltL l) (isort_srt ltL_swo l) h
theorem isort_back {l : List Lab} (hd : DiffP l) : isort ltL l.reverse = isort ltL l := isort_uniq hd (List.reverse_perm l)
theorem isort_take {l : List Lab} (hd : DiffP l) (n : Nat) : isort ltL ((isort ltL l).take n) = (isort ltL l).take n :=
  isort_self ((hd.perm (isort_perm ltL l)).sublist (List.take_sublist n _)) ((isort_srt ltL_swo l).sublist (List.take_sublist n _))

/-- Without the least important label: the others are placed as with it. -/
theorem less_cases (b : Bx) {ss : List Lab} {v : Nat} {x : Lab} (hd : DiffP ss) (hx : ss[v]? = some x) (hv : v + 1 = ss.length) :
    (foldPl b (ss.take v) = foldPl b ss ∧ ∀ y, (foldPl b ss)[(foldPl b ss).length - 1]? = some y → y.id.toList ≠ x.id.toList) ∨
    (∃ y, foldPl b ss = foldPl b (ss.take v) ++ [y] ∧ y.id = x.id) := by
  have hall : ss.take (v + 1) = ss := by rw [hv]; exact List.take_length
  have key : ∀ y ∈ foldPl b (ss.take v), y.id.toList ≠ x.id.toList := fun y hy => by
    obtain ⟨r, h1, h2⟩ := fold_prefix b (ss.take v) []
    have e : foldPl b (ss.take v) = r := by unfold foldPl; rw [h1, List.nil_append]
    rw [e] at hy
    obtain ⟨z, hz, he⟩ := h2 y hy
    rw [he]
    obtain ⟨n, hn⟩ := List.getElem?_of_mem hz
    rw [List.getElem?_take] at hn
    split at hn
    · obtain ⟨hi, rfl⟩ := List.getElem?_eq_some_iff.1 hx
      obtain ⟨hj, rfl⟩ := List.getElem?_eq_some_iff.1 hn
      exact List.pairwise_iff_getElem.1 hd n v hj hi (by omega)
    · cases hn
  rcases roundP b hd hx with ⟨-, hk, -⟩ | ⟨-, hk, -, -⟩ | ⟨-, j, -, hk, -, -, -⟩
  · rw [hall] at hk
    exact .inl ⟨hk.symm, fun y hy => key y (hk ▸ List.mem_of_getElem? hy)⟩
  · rw [hall] at hk
    exact .inl ⟨hk.symm, fun y hy => key y (hk ▸ List.mem_of_getElem? hy)⟩
  · rw [hall] at hk
    exact .inr ⟨_, hk, rfl⟩
end Go.Proofs.YtaggohobdjidjaaGreatDoor

/- planispherelaw43.LabelOrder says true. -/
namespace Go.Proofs.YtaggohobdjidjaaGreatDoor
open Go.RowKit Go.Sort Go.Shelf

theorem rev_succ {l : List Lab} {v : Nat} {x : Lab} (hx : l[v]? = some x) : (l.drop v).reverse = (l.drop (v + 1)).reverse ++ [x] := by
  obtain ⟨hi, rfl⟩ := List.getElem?_eq_some_iff.1 hx
  rw [List.drop_eq_getElem_cons hi, List.reverse_cons]


set_option maxHeartbeats 16000000 in
set_option maxRecDepth 100000 in
theorem order_law (p : Option Addr) (n cap : Nat) (l : List Lab) (b : Bx) (w : World) (hL : Lies w 6 labC p l) (hn : n = l.length) (hc : p = none → cap = 0) (h1 : n ≤ maxLen) (hG : Gw w) :
    Calls Tryz.prog 7 #[.slice p n cap, bxV b] w (RetB w (.bool true)) := by
  obtain ⟨i0, hi, hz0, hz1, hz2⟩ := info_parts infoLab
  have HL := Lib.hid hL
  have HN := Lib.hid hn
  have HC := Lib.hid hc
  have HG := Lib.hid hG
  have HM1 := Lib.hid h1
  clear hL hn hc hG h1
  obtain ⟨ba, bb, bc, bd⟩ := b
  unfold bxV
  dsimp only
  go_enter Tryz.func7, Tryz.ntmps7
  go_wp2_with fail
  have hG1 := HG.out.below (B := w.heap.size) ((Below.refl _ _).alloc (Nat.le_refl _) (.cells #[.int .i64 ba, .int .i64 bb, .int .i64 bc, .int .i64 bd] 26)) HG.out.size
  refine (head_any _ hG1).mono ?_
  rintro e w1 ⟨rfl, hb⟩
  obtain ⟨kb, hkb⟩ : ∃ k, w.heap.size = k := ⟨_, rfl⟩
  have b0 : Box w1 w.heap.size #[.int .i64 ba, .int .i64 bb, .int .i64 bc, .int .i64 bd] 26 := (Box.new _ _ _).below hb (by simp)
  have hW : Below w.heap.size w w1 := ((Below.refl _ _).alloc (Nat.le_refl _) _).trans (hb.mono (by simp))
  clear hb hG1
  rw [hkb] at b0 ⊢
  replace hW := Lib.hid hW
  clear hkb
  go_wp2_with fail
  refine (few_any p n cap l 30 w1 (HL.out.below hW.out (Nat.le_refl _)) HN.out HM1.out (by decide)).mono ?_
  rintro e w2 ⟨few, rfl, hfew, hb⟩
  replace b0 := b0.below hb b0.lt
  replace hW := Lib.hid (hW.out.trans (hb.mono hW.out.size))
  clear hb
  cases few with
  | false =>
    go_wp2
    go_ret
    exact RetB.mk' rfl hW.out
  | true =>
    have h30 : n ≤ 30 := hfew rfl
    clear hfew
    go_wp2_with fail
    refine (different_any p n cap l w2 (HL.out.below hW.out (Nat.le_refl _)) HN.out (by omega)).mono ?_
    rintro e w3 ⟨df, rfl, hdf, hb⟩
    replace b0 := b0.below hb b0.lt
    replace hW := Lib.hid (hW.out.trans (hb.mono hW.out.size))
    clear hb
    cases df with
    | false =>
      go_wp2
      go_ret
      exact RetB.mk' rfl hW.out
    | true =>
      have HD : Hid (DiffP l) := Lib.hid (DiffL.whole (hdf rfl) HN.out)
      clear hdf
      rcases Nat.eq_zero_or_pos n with h0 | hpos
      · subst h0
        go_wp2
        go_ret
        exact RetB.mk' rfl hW.out
      · have hnz : ((n : Int) == 0) = false := beq_eq_false_iff_ne.2 (by omega)
        have HW3 := Lib.hid hW.out
        have HBX := Lib.hid b0
        obtain ⟨g, o, rfl⟩ := HL.out.addr (by have := HN.out; omega)
        clear b0 hW
        go_wp2
        go_loopw [6, 7] (fun vo vi wr => ∃ (u : Nat) (z : Int) (ov : Value), u ≤ n ∧ vi = .int .i64 z ∧ z = (u : Int) - 1 ∧ ov = vo ∧ Below w3.heap.size w3 wr ∧ Hid (wr.ownsRow w3.heap.size 47 6 ov (n - u) ((l.drop u).reverse.flatMap labC))) (fun _ vi _ => (intOf vi + 1).toNat)
        case atStart => exact ⟨n, (n : Int) - 1, _, Nat.le_refl _, by go_num, rfl, rfl, Below.refl _ _, Lib.hid (by rw [HN.out, Nat.sub_self, List.drop_length]; exact World.ownsRow_nil _ _ _ _)⟩
        case round =>
          obtain ⟨u, z, ov, hun, rfl, hz, rfl, hB, HO⟩ := hrel
          rcases Nat.eq_zero_or_pos u with h0 | hup
          · subst h0
            obtain rfl : z = -1 := by omega
            have q0 : decide ((0 : Int) ≤ -1) = false := by decide
            have HO2 := Lib.hid HO.out
            rw [Nat.sub_zero, List.drop_zero] at HO2
            obtain ⟨qb, cb, rfl, e1, e2, e3, e4⟩ := Lies.of_owns (l := l.reverse) labC_len HO2.out (by rw [List.length_reverse]; exact HN.out.symm)
            have HQB := Lib.hid e2
            have HQC := Lib.hid e4
            have b0 := HBX.out.below hB HBX.out.lt
            have HW4 := Lib.hid (HW3.out.trans (hB.mono HW3.out.size))
            have HB4 := Lib.hid hB
            clear HO HO2 e1 e2 e3 e4 hB hz
            have r0 := b0.cell
            go_wp2_with fail
            refine (place_any (some ⟨g, o, none⟩) n cap l ⟨ba, bb, bc, bd⟩ _ (HL.out.below HW4.out (Nat.le_refl _)) HN.out (by omega) HC.out).mono ?_
            rintro e w5 ⟨q, m, cq, rfl, hm, hcq, hQ, -, -, hb⟩
            have HMC := Lib.hid hcq
            have HBB := Lib.hid hb
            clear hcq
            have hpf := placeF_fold ⟨ba, bb, bc, bd⟩ l
            obtain ⟨ss, hss⟩ : ∃ q, isort ltL l = q := ⟨_, rfl⟩
            rw [hss] at hpf
            obtain ⟨ps, hps⟩ : ∃ q, placeF ⟨ba, bb, bc, bd⟩ l = q := ⟨_, rfl⟩
            have hm30 : m ≤ 30 := by
              have h2 := placeF_length ⟨ba, bb, bc, bd⟩ l
              have := HN.out
              omega
            rw [hps] at hpf hm hQ
            have HP := Lib.hid hpf
            have HPS := Lib.hid hps
            have HSS := Lib.hid hss
            have HM := Lib.hid hm
            have HQ := Lib.hid hQ
            replace b0 := b0.below hb b0.lt
            replace HW4 := Lib.hid (HW4.out.trans (hb.mono HW4.out.size))
            replace HQB := Lib.hid (HQB.out.below hb (Nat.le_refl _))
            clear hb hpf hps hss hm hQ HBB HB4 r0
            go_wp2_with fail
            refine (rsorted_any (some ⟨g, o, none⟩) n cap l _ (HL.out.below HW4.out (Nat.le_refl _)) HN.out (by omega)).mono ?_
            rintro e w6 ⟨s, sn, cs, rfl, hsn, hcs, hS, -, -, hb⟩
            obtain rfl : sn = n := by rw [hsn, isort_length, HN.out]
            rw [HSS.out] at hsn hS
            have HSN := Lib.hid hsn
            obtain ⟨gs, os, rfl⟩ := hS.addr (by rw [← hsn]; exact hpos)
            have HS := Lib.hid hS
            replace b0 := b0.below hb b0.lt
            replace HW4 := Lib.hid (HW4.out.trans (hb.mono HW4.out.size))
            replace HQB := Lib.hid (HQB.out.below hb (Nat.le_refl _))
            replace HQ := Lib.hid (HQ.out.below hb (Nat.le_refl _))
            obtain ⟨v, hv, hv1⟩ : ∃ v : Nat, (sn : Int) - 1 = (v : Int) ∧ v + 1 = sn := ⟨sn - 1, by omega, by omega⟩
            obtain ⟨x, hx⟩ : ∃ x, ss[v]? = some x := ⟨_, List.getElem?_eq_getElem (by omega)⟩
            obtain ⟨x0, -, -, -, -, -⟩ := hS.lab hx
            obtain ⟨xid, hxid⟩ : ∃ q, x.id = q := ⟨_, rfl⟩
            rw [hxid] at x0
            have HLC := Lib.hid (less_cases ⟨ba, bb, bc, bd⟩ (HSS.out ▸ HD.out.perm (isort_perm ltL l)) hx (by omega))
            rw [hxid] at HLC
            have hvn : v < sn := by omega
            have hvc : v ≤ cs := by omega
            have hvc' : (v : Int) ≤ (cs : Int) := by omega
            have hsc' : (sn : Int) ≤ (cs : Int) := by omega
            have HV1 := Lib.hid hv1
            have HXI := Lib.hid hxid
            clear hb hsn hS hx hxid hcs hv1
            go_wp2_with fail
            clear x0
            have hpl : ∀ X, Below w6.heap.size w6 X → Calls Tryz.prog 13 #[.slice (some ⟨gs, os, none⟩) v cs, .agg #[.int .i64 ba, .int .i64 bb, .int .i64 bc, .int .i64 bd]] X (RetL X 5 plC (foldPl ⟨ba, bb, bc, bd⟩ (ss.take v))) := fun X hX => by
              have := place_any (some ⟨gs, os, none⟩) v cs (ss.take v) ⟨ba, bb, bc, bd⟩ X ((HS.out.below hX (Nat.le_refl _)).take v) (by rw [List.length_take]; have := HSN.out; omega) (by omega) (fun e => by cases e)
              rw [placeF_fold, ← HSS.out, isort_take HD.out v, HSS.out] at this
              exact this
            have HPA := Lib.hid hpl
            have HB6 := Lib.hid b0
            clear hpl HBX
            have hwr : IntKind.i64.wrap (v : Int) = (v : Int) := by rw [IntKind.wrap_i64]; omega
            have hvs' : (v : Int) ≤ (sn : Int) := by omega
            have hv0' : (0 : Int) ≤ (v : Int) := by omega
            go_region_held3 (fun X => (X.cell? ⟨kb, 0, none⟩ = some (.int .i64 ba) ∧ X.cell? ⟨kb, 1, none⟩ = some (.int .i64 bb) ∧ X.cell? ⟨kb, 2, none⟩ = some (.int .i64 bc) ∧ X.cell? ⟨kb, 3, none⟩ = some (.int .i64 bd)) ∧ Below w6.heap.size w6 X)
              (first
                | exact heldC b0 ⟨rfl, rfl, rfl, Nat.le_refl _, fun _ _ => rfl⟩
                | exact heldC b0 (belowH ‹_ ∧ Below w6.heap.size w6 _› hbz1))
              (first
                | (go_at_call 13; refine (HPA.out _ (And.right ‹_ ∧ Below w6.heap.size w6 _›)).mono ?_; rintro e wz1 ⟨q3, n3, c3, rfl, hn3, -, hQ3, -, -, hbz1⟩; replace hn3 := Lib.hid hn3; replace hQ3 := Lib.hid hQ3))
            rename_i hK hh
            have hB := hh.2
            clear hh
            have HL3 : Hid (Lies wz1 5 plC q3 (foldPl ⟨ba, bb, bc, bd⟩ (ss.take v))) := Lib.hid hQ3.out
            have HN3 : Hid (n3 = (foldPl ⟨ba, bb, bc, bd⟩ (ss.take v)).length) := Lib.hid hn3.out
            refine hK _ _ ?_
            clear hK hbz1 hQ3 hn3 hwr hvs' hv0' hvc hvc' hsc' HPA
            have HBX := Lib.hid b0
            replace b0 := HB6.out.below hB HB6.out.lt
            rcases HLC.out with ⟨hl1, hl2⟩ | ⟨y, hl1, hl2⟩
            · rw [← HP.out] at hl1 hl2
              have HE := Lib.hid hl1
              rcases Nat.eq_zero_or_pos m with h0 | hm0
              · have d3 : decide (0 < m) = false := decide_eq_false (by omega)
                have d4 : decide ((0 : Int) < (m : Int)) = false := decide_eq_false (by omega)
                clear hl1 hl2 h0
                have r0 := b0.cell
                go_wp2_with fail
                refine (place_any qb sn cb l.reverse ⟨ba, bb, bc, bd⟩ _ (HQB.out.below hB (Nat.le_refl _)) (by rw [List.length_reverse]; exact HN.out) (by omega) HQC.out).mono ?_
                rintro e w8 ⟨q8, m8, c8, rfl, hm8, -, hQ8, -, -, hb⟩
                have hpe : placeF ⟨ba, bb, bc, bd⟩ l.reverse = ps := by rw [placeF_fold, isort_back HD.out, HSS.out, ← HP.out]
                rw [hpe] at hm8 hQ8
                replace hB := hB.trans (hb.mono hB.size)
                replace HL3 := Lib.hid (HL3.out.below hb (Nat.le_refl _))
                have HQ8 := Lib.hid hQ8
                have HM8 := Lib.hid hm8
                clear hb hpe hm8 hQ8 r0
                go_wp2_with fail
                refine (same_any q8 m8 c8 _ m cq ps _ HQ8.out HM8.out (HQ.out.below hB (Nat.le_refl _)) HM.out (by have := HM8.out; have := HM.out; omega)).mono ?_
                rintro e w9 ⟨rfl, hb⟩
                replace hB := hB.trans (hb.mono hB.size)
                replace HL3 := Lib.hid (HL3.out.below hb (Nat.le_refl _))
                clear hb
                go_wp2_with fail
                refine (same_any q3 n3 c3 _ m cq ps _ (by have := HL3.out; rw [HE.out] at this; exact this) (by rw [HN3.out, HE.out]) (HQ.out.below hB (Nat.le_refl _)) HM.out (by rw [HN3.out, HE.out]; have := HM.out; omega)).mono ?_
                rintro e w10 ⟨rfl, hb⟩
                replace hB := hB.trans (hb.mono hB.size)
                clear hb
                go_wp2
                go_ret
                exact RetB.mk' rfl (HW4.out.trans (hB.mono HW4.out.size))
              · obtain ⟨u, hu, hu1⟩ : ∃ u : Nat, (m : Int) - 1 = (u : Int) ∧ u + 1 = m := ⟨m - 1, by omega, by omega⟩
                obtain ⟨y, hy⟩ : ∃ y, ps[u]? = some y := ⟨_, List.getElem?_eq_getElem (by have := HM.out; omega)⟩
                have hyn := hl2 y (by rw [← HM.out, show m - 1 = u by omega]; exact hy)
                obtain ⟨gp, op, rfl⟩ := HQ.out.addr (by have := HM.out; omega)
                obtain ⟨y0, -, -, -, -⟩ := (HQ.out.below hB (Nat.le_refl _)).pl hy
                obtain ⟨yid, hyid⟩ : ∃ q, y.id = q := ⟨_, rfl⟩
                rw [hyid] at y0 hyn
                have d2 : (yid.toList == xid.toList) = false := beq_eq_false_iff_ne.2 hyn
                have d3 : decide (0 < m) = true := decide_eq_true hm0
                have d4 : decide ((0 : Int) < (m : Int)) = true := decide_eq_true (by omega)
                have hum : u < m := by omega
                clear hl1 hl2 hy hyn hyid hu1
                have r0 := b0.cell
                go_wp2_with fail
                refine (place_any qb sn cb l.reverse ⟨ba, bb, bc, bd⟩ _ (HQB.out.below hB (Nat.le_refl _)) (by rw [List.length_reverse]; exact HN.out) (by omega) HQC.out).mono ?_
                rintro e w8 ⟨q8, m8, c8, rfl, hm8, -, hQ8, -, -, hb⟩
                have hpe : placeF ⟨ba, bb, bc, bd⟩ l.reverse = ps := by rw [placeF_fold, isort_back HD.out, HSS.out, ← HP.out]
                rw [hpe] at hm8 hQ8
                replace hB := hB.trans (hb.mono hB.size)
                replace HL3 := Lib.hid (HL3.out.below hb (Nat.le_refl _))
                have HQ8 := Lib.hid hQ8
                have HM8 := Lib.hid hm8
                clear hb hpe hm8 hQ8 r0
                go_wp2_with fail
                refine (same_any q8 m8 c8 _ m cq ps _ HQ8.out HM8.out (HQ.out.below hB (Nat.le_refl _)) HM.out (by have := HM8.out; have := HM.out; omega)).mono ?_
                rintro e w9 ⟨rfl, hb⟩
                replace hB := hB.trans (hb.mono hB.size)
                replace HL3 := Lib.hid (HL3.out.below hb (Nat.le_refl _))
                clear hb
                go_wp2_with fail
                refine (same_any q3 n3 c3 _ m cq ps _ (by have := HL3.out; rw [HE.out] at this; exact this) (by rw [HN3.out, HE.out]) (HQ.out.below hB (Nat.le_refl _)) HM.out (by rw [HN3.out, HE.out]; have := HM.out; omega)).mono ?_
                rintro e w10 ⟨rfl, hb⟩
                replace hB := hB.trans (hb.mono hB.size)
                clear hb
                go_wp2
                go_ret
                exact RetB.mk' rfl (HW4.out.trans (hB.mono HW4.out.size))
            · rw [← HP.out] at hl1
              obtain ⟨ls, hls⟩ : ∃ q, foldPl ⟨ba, bb, bc, bd⟩ (ss.take v) = q := ⟨_, rfl⟩
              rw [hls] at hl1 HL3 HN3
              have hmu : m = ls.length + 1 := by rw [HM.out, hl1]; simp
              obtain ⟨u, hu, hu1⟩ : ∃ u : Nat, (m : Int) - 1 = (u : Int) ∧ u + 1 = m := ⟨m - 1, by omega, by omega⟩
              have hul : u = ls.length := by omega
              have hy : ps[u]? = some y := by rw [hl1, hul, List.getElem?_append_right (Nat.le_refl _), Nat.sub_self]; rfl
              have HTK : Hid (ps.take u = ls) := Lib.hid (by rw [hl1, hul, List.take_left']; rfl)
              obtain ⟨gp, op, rfl⟩ := HQ.out.addr (by have := HM.out; omega)
              obtain ⟨y0, -, -, -, -⟩ := (HQ.out.below hB (Nat.le_refl _)).pl hy
              rw [hl2] at y0
              have d2 : (xid.toList == xid.toList) = true := beq_iff_eq.2 rfl
              have d3 : decide (0 < m) = true := decide_eq_true (by omega)
              have d4 : decide ((0 : Int) < (m : Int)) = true := decide_eq_true (by omega)
              have hum : u < m := by omega
              have hmc : m ≤ cq := HMC.out
              have huc : u ≤ cq := by omega
              have huc' : (u : Int) ≤ (cq : Int) := by omega
              have hmc' : (m : Int) ≤ (cq : Int) := by omega
              have hum' : (u : Int) ≤ (m : Int) := by omega
              have HUL := Lib.hid hul
              clear hl1 hl2 hy hu1 hmu hul hls
              have r0 := b0.cell
              go_wp2_with fail
              refine (place_any qb sn cb l.reverse ⟨ba, bb, bc, bd⟩ _ (HQB.out.below hB (Nat.le_refl _)) (by rw [List.length_reverse]; exact HN.out) (by omega) HQC.out).mono ?_
              rintro e w8 ⟨q8, m8, c8, rfl, hm8, -, hQ8, -, -, hb⟩
              have hpe : placeF ⟨ba, bb, bc, bd⟩ l.reverse = ps := by rw [placeF_fold, isort_back HD.out, HSS.out, ← HP.out]
              rw [hpe] at hm8 hQ8
              replace hB := hB.trans (hb.mono hB.size)
              replace HL3 := Lib.hid (HL3.out.below hb (Nat.le_refl _))
              have HQ8 := Lib.hid hQ8
              have HM8 := Lib.hid hm8
              clear hb hpe hm8 hQ8 r0
              go_wp2_with fail
              refine (same_any q8 m8 c8 _ m cq ps _ HQ8.out HM8.out (HQ.out.below hB (Nat.le_refl _)) HM.out (by have := HM8.out; have := HM.out; omega)).mono ?_
              rintro e w9 ⟨rfl, hb⟩
              replace hB := hB.trans (hb.mono hB.size)
              replace HL3 := Lib.hid (HL3.out.below hb (Nat.le_refl _))
              clear hb
              go_wp2_with fail
              refine (same_any q3 n3 c3 _ u cq ls _ HL3.out HN3.out (by have := (HQ.out.below hB (Nat.le_refl _)).take u; rw [HTK.out] at this; exact this) HUL.out (by rw [HN3.out]; have := HUL.out; omega)).mono ?_
              rintro e w10 ⟨rfl, hb⟩
              replace hB := hB.trans (hb.mono hB.size)
              clear hb
              go_wp2
              go_ret
              exact RetB.mk' rfl (HW4.out.trans (hB.mono HW4.out.size))
          · obtain ⟨v, rfl⟩ : ∃ v, u = v + 1 := ⟨u - 1, by omega⟩
            obtain rfl : z = (v : Int) := by omega
            have hvn : v < n := by omega
            obtain ⟨x, hx⟩ : ∃ x, l[v]? = some x := ⟨_, List.getElem?_eq_getElem (by have := HN.out; omega)⟩
            obtain ⟨x0, x1, x2, x3, x4, x5⟩ := (HL.out.below (HW3.out.trans (hB.mono HW3.out.size)) (Nat.le_refl _)).lab hx
            have HR := Lib.hid (rev_succ hx)
            have q0 : decide ((0 : Int) ≤ (v : Int)) = true := decide_eq_true (by omega)
            have q1 : decide (v < n) = true := decide_eq_true hvn
            have hws := hB.size
            clear hx hz
            go_wp2_with (at_builtin; refine halted ?_)
            refine Halted.on ?_
            refine wpList_append_own _ rfl _ _ 22 rfl w3.heap.size 47 i0 (.agg #[.string ⟨#[]⟩, .int .i64 0, .int .i64 0, .int .i64 0, .int .i64 0, .int .i64 0]) 6 56 Tryz.underlying22 hi hz0 hz1 hz2 rfl (by decide) _ _ _ rfl (HO.out.alloc _) ⟨wr.heap.size, 0, none⟩ 1 1 (labC x) rfl ?qa ?qb ?qc ?qd ?qe ?qf ?_
            case qa => rfl
            case qb => exact World.news_of_block (cs := (labC x).toArray) (t := 47) (fr := (0, 0)) (heap_alloc_new wr _)
            case qc => simp [labC, Value.oneCell']
            case qd => unfold maxLen; omega
            case qe => omega
            case qf => simp <;> omega
            intro v' w9 hown' hgrow _
            have hb := below_append HO.out hgrow hws
            have HO2 : Hid (w9.ownsRow w3.heap.size 47 6 v' (n - v) ((l.drop v).reverse.flatMap labC)) := Lib.hid (by
              rw [HR.out, List.flatMap_append, show n - v = n - (v + 1) + 1 by omega]; simpa using hown')
            replace hB := hB.trans hb
            clear hb hown' hgrow HO HR
            go_wp2
            go_roundw
            case rel => exact ⟨v, (v : Int) - 1, v', by omega, by go_num, rfl, rfl, hB, HO2⟩
            case measure => simp [intOf] <;> omega
end Go.Proofs.YtaggohobdjidjaaGreatDoor

import Derived.Test.YtaggohobdjidjaaGreatDoorJD
import Derived.Test.YtaggohobdjidjaaGreatDoorJ0
import Derived.Test.YtaggohobdjidjaaGreatDoorJA
import Derived.Test.YtaggohobdjidjaaGreatDoorJT
import Derived.Test.YtaggohobdjidjaaGreatDoorJK

/- planisphereref43: Valid, Inside, Overlap, box, Places. -/
namespace Go.Proofs.YtaggohobdjidjaaGreatDoor
open Go.RowKit Go.Sort Go.Shelf

set_option maxHeartbeats 4000000 in
theorem rvalid_any (x : Lab) (w : World) : Calls Tryz.prog 22 #[labV x] w (RetB w (.bool (validL x))) := by
  have HB : Hid (validL x = decide ((-67108864 ≤ x.x ∧ x.x ≤ 67108864 ∧ -67108864 ≤ x.y ∧ x.y ≤ 67108864) ∧ 1 ≤ x.w ∧ x.w ≤ 2000 ∧ 1 ≤ x.h ∧ x.h ≤ 2000)) := Lib.hid rfl
  unfold labV
  go_enter Tryz.func22, Tryz.ntmps22
  go_wp2
  all_goals
    go_ret
    refine RetB.mk' (congrArg Value.bool ?_) ((Below.refl _ _).alloc (Nat.le_refl _) _)
    rw [HB.out, Bool.eq_iff_iff]
    simp
    try omega

set_option maxHeartbeats 1000000 in
theorem rinside_any (f b : Bx) (w : World) : Calls Tryz.prog 24 #[bxV f, bxV b] w (RetB w (.bool (inF f b))) := by
  have HB : Hid (inF f b = decide (b.a ≤ f.a ∧ b.b ≤ f.b ∧ f.c ≤ b.c ∧ f.d ≤ b.d)) := Lib.hid rfl
  unfold bxV
  go_enter Tryz.func24, Tryz.ntmps24
  go_wp2
  all_goals
    go_ret
    refine RetB.mk' (congrArg Value.bool ?_) (((Below.refl _ _).alloc (Nat.le_refl _) _).alloc (by simp) _)
    rw [HB.out, Bool.eq_iff_iff]
    simp
    try omega

set_option maxHeartbeats 1000000 in
theorem roverlap_any (f p : Bx) (w : World) : Calls Tryz.prog 25 #[bxV f, bxV p] w (RetB w (.bool (overF f p))) := by
  have HB : Hid (overF f p = decide (f.a ≤ p.c ∧ p.a ≤ f.c ∧ f.b ≤ p.d ∧ p.b ≤ f.d)) := Lib.hid rfl
  unfold bxV
  go_enter Tryz.func25, Tryz.ntmps25
  go_wp2
  all_goals
    go_ret
    refine RetB.mk' (congrArg Value.bool ?_) (((Below.refl _ _).alloc (Nat.le_refl _) _).alloc (by simp) _)
    rw [HB.out, Bool.eq_iff_iff]
    simp
    try omega

set_option maxHeartbeats 1000000 in
theorem rbox_any (x y a b : Int) (hx : -100000000 ≤ x ∧ x ≤ 100000000) (hy : -100000000 ≤ y ∧ y ≤ 100000000) (ha : 0 ≤ a ∧ a ≤ 10000) (hb : 0 ≤ b ∧ b ≤ 10000) (w : World) :
    Calls Tryz.prog 49 #[.int .i64 x, .int .i64 y, .int .i64 a, .int .i64 b] w (RetB w (.agg #[.int .i64 x, .int .i64 y, .int .i64 (x + a - 1), .int .i64 (y + b - 1)])) := by
  go_enter Tryz.func49, Tryz.ntmps49
  go_wp2
  exact ret_box (by rfl) (by rfl) (Box.new' (by simp) _ _) Tryz.underlying26 rfl (by kernel_rfl) rfl (RetB.mk' rfl (by repeat (first | assumption | exact Below.refl _ _ | refine Below.setCell ?_ (by first | (simp; done) | (simp; omega) | omega) _ | refine Below.alloc ?_ (by first | (simp; done) | (simp; omega) | omega) _)))

def bxC (b : Bx) : List Value := [.int .i64 b.a, .int .i64 b.b, .int .i64 b.c, .int .i64 b.d]
theorem bxC_len (b : Bx) : (bxC b).length = 4 := rfl
def placesF (x : Lab) : List Bx := [boxAt 0 x, boxAt 1 x, boxAt 2 x, boxAt 3 x]

set_option maxHeartbeats 8000000 in
set_option maxRecDepth 100000 in
theorem rplaces_any (x : Lab) (hv : validL x = true) (w : World) : Calls Tryz.prog 23 #[labV x] w (RetL w 4 bxC (placesF x)) := by
  obtain ⟨⟨h1, h2, h3, h4⟩, h5, h6, h7, h8⟩ := validL_spec hv
  obtain ⟨xid, xx, xy, xw, xh, xr⟩ := x
  dsimp only at h1 h2 h3 h4 h5 h6 h7 h8
  unfold labV
  dsimp only
  clear hv
  go_enter Tryz.func23, Tryz.ntmps23
  go_wp2_with fail
  have b0 : Box (w.alloc (.cells #[.string xid, .int .i64 xx, .int .i64 xy, .int .i64 xw, .int .i64 xh, .int .i64 xr] 47)) w.heap.size _ _ := Box.new _ _ _
  refine wp_abs (fun W => Below w.heap.size w W ∧ Box W w.heap.size #[.string xid, .int .i64 xx, .int .i64 xy, .int .i64 xw, .int .i64 xh, .int .i64 xr] 47) ⟨(Below.refl _ _).alloc (Nat.le_refl _) _, b0⟩ ?_
  clear b0
  rintro W ⟨hW, b0⟩
  have q1 := cell_regrown (b0.cell 1)
  have q2 := cell_regrown (b0.cell 2)
  have hWs := hW.size
  refine wp_region_quiet_below (by kernel_rfl) (by kernel_rfl) ?_
  repeat (go_big_quiet_step (fail))
  refine wpQuiet_nil ?_
  rintro W2 hb2
  replace hb2 := below_of_regrown hb2
  replace hW := hW.trans (hb2.mono hWs)
  replace b0 := b0.below hb2 b0.lt
  clear q1 q2 hb2 hWs
  go_wp2_with fail
  have q2 := cell_regrown (b0.cell 3)
  have q3 := cell_regrown (b0.cell 4)
  have cB := fun (x y : Int) hx hy => quietC (W := W2) (fun w' _ => rbox_any x y xw xh hx hy (by omega) (by omega) w')
  have c1 := cB (xx + 1) (xy - xh / 2) (by omega) (by omega)
  have c2 := cB (xx - xw) (xy - xh / 2) (by omega) (by omega)
  have c3 := cB (xx - xw / 2) (xy + 1) (by omega) (by omega)
  have c4 := cB (xx - xw / 2) (xy - xh) (by omega) (by omega)
  clear cB
  refine wp_region_below_tail 52 (by kernel_rfl) (by kernel_rfl) ?_
  simp only [List.take_succ_cons, List.take_zero, List.drop_succ_cons, List.drop_zero]
  repeat (go_big_quiet_step (first | (with_reducible exact c1 _ _) | (with_reducible exact c2 _ _) | (with_reducible exact c3 _ _) | (with_reducible exact c4 _ _)))
  refine wpQuiet_nil ?_
  rintro W3 hb3
  replace hW := hW.trans (hb3.mono hW.size)
  clear c1 c2 c3 c4 q2 q3 b0 hb3
  go_wp2
  go_ret
  refine ⟨some ⟨W3.heap.size, 0, none⟩, 4, 4, rfl, rfl, Nat.le_refl _, Lies.of_box (rest := []) (t := 26) bxC_len ?_, fun a e => (by cases e; exact hW.size), fun e => (by cases e), hW.alloc hW.size _⟩
  refine Eq.trans (heap_alloc_new W3 _) ?_
  simp [placesF, bxC, boxAt, cornX, cornY]
end Go.Proofs.YtaggohobdjidjaaGreatDoor

/- planisphereref43.Place. -/
namespace Go.Proofs.YtaggohobdjidjaaGreatDoor
open Go.RowKit Go.Sort Go.Shelf

theorem Lies.bx {W : World} {g o i : Nat} {l : List Bx} {x : Bx} (h : Lies W 4 bxC (some ⟨g, o, none⟩) l) (hx : l[i]? = some x) : W.cell? ⟨g, o + i * 4, none⟩ = some (.int .i64 x.a) ∧ W.cell? ⟨g, o + i * 4 + 1, none⟩ = some (.int .i64 x.b) ∧
    W.cell? ⟨g, o + i * 4 + 2, none⟩ = some (.int .i64 x.c) ∧ W.cell? ⟨g, o + i * 4 + 3, none⟩ = some (.int .i64 x.d) :=
  ⟨h.cell g o rfl i x hx 0 (by omega), h.cell g o rfl i x hx 1 (by omega), h.cell g o rfl i x hx 2 (by omega), h.cell g o rfl i x hx 3 (by omega)⟩
def foldPl (b : Bx) (l : List Lab) : List Pl := l.foldl (stepF b) []
theorem foldPl_succ {b : Bx} {l : List Lab} {i : Nat} {x : Lab} (h : l[i]? = some x) : foldPl b (l.take (i + 1)) = stepF b (foldPl b (l.take i)) x := by
  obtain ⟨hi, rfl⟩ := List.getElem?_eq_some_iff.1 h
  unfold foldPl
  rw [List.take_succ_eq_append_getElem hi, List.foldl_append]
  rfl

set_option maxHeartbeats 8000000 in
set_option maxRecDepth 100000 in
theorem rplace_any (p : Option Addr) (n cap : Nat) (l : List Lab) (b : Bx) (w : World) (hL : Lies w 6 labC p l) (hn : n = l.length) (h40 : n ≤ 1000) :
    Calls Tryz.prog 14 #[.slice p n cap, bxV b] w (RetL w 5 plC (placeF b l)) := by
  obtain ⟨i0, hi, hz0, hz1, hz2⟩ := info_parts infoPl
  have HS := Lib.hid (fun W (hW : Below w.heap.size w W) => rsorted_any p n cap l W (hL.below hW (Nat.le_refl _)) hn h40)
  have HN := Lib.hid hn
  clear hL hn
  obtain ⟨ba, bb, bc, bd⟩ := b
  unfold bxV
  dsimp only
  go_enter Tryz.func14, Tryz.ntmps14
  go_wp2_with fail
  refine calls_abs (fun W => Below w.heap.size w W ∧ Box W w.heap.size #[.int .i64 ba, .int .i64 bb, .int .i64 bc, .int .i64 bd] 26) ⟨(Below.refl _ _).alloc (Nat.le_refl _) _, Box.new _ _ _⟩ ?_
  rintro W ⟨hW, b0⟩
  refine (HS.out W hW).mono ?_
  rintro e w1 ⟨q, m, cq, rfl, hm, hmc, hQ, hqb, hqn, hb⟩
  replace hW := hW.trans (hb.mono hW.size)
  replace b0 := b0.below hb b0.lt
  obtain ⟨ss, hss⟩ : ∃ ss, isort ltL l = ss := ⟨_, rfl⟩
  have HP : Hid (placeF ⟨ba, bb, bc, bd⟩ l = foldPl ⟨ba, bb, bc, bd⟩ ss) := Lib.hid (by unfold placeF foldPl; rw [hss])
  rw [hss] at hm hQ
  have hm40 : m ≤ 1000 := by rw [hm, ← hss, isort_length]; have := HN.out; omega
  have HQ := Lib.hid hQ
  have HM := Lib.hid hm
  have hw1 := hW.size
  have hb01 := b0.lt
  clear hb hQ hm hss hqb hqn HS
  go_wp2
  go_loopw [5, 6] (fun vo vi wr => ∃ (i : Nat) (ov : Value), i ≤ m ∧ vi = .int .i64 i ∧ ov = vo ∧ Below w.heap.size w wr ∧ Below w1.heap.size w1 wr ∧ Box wr w.heap.size #[.int .i64 ba, .int .i64 bb, .int .i64 bc, .int .i64 bd] 26 ∧
    Hid (wr.ownsRow w1.heap.size 43 5 ov (foldPl ⟨ba, bb, bc, bd⟩ (ss.take i)).length ((foldPl ⟨ba, bb, bc, bd⟩ (ss.take i)).flatMap plC))) (fun _ vi _ => m - (intOf vi).toNat)
  case atStart => exact ⟨0, _, by omega, rfl, rfl, hW, Below.refl _ _, b0, Lib.hid (World.ownsRow_nil _ _ _ _)⟩
  case round =>
    clear hW b0
    obtain ⟨i, ov, him, rfl, rfl, hW, hB, b0, HO⟩ := hrel
    by_cases hlt : i < m
    · obtain ⟨x, hx⟩ : ∃ x, ss[i]? = some x := ⟨_, List.getElem?_eq_getElem (by have := HM.out; omega)⟩
      obtain ⟨g, o, rfl⟩ := HQ.out.addr (by have := HM.out; omega)
      obtain ⟨c0, c1, c2, c3, c4, c5⟩ := (HQ.out.below hB (Nat.le_refl _)).lab hx
      have HX := Lib.hid (foldPl_succ (b := ⟨ba, bb, bc, bd⟩) hx)
      have hval := fun W2 => rvalid_any x W2
      unfold labV at hval
      have HVL := Lib.hid hval
      have HXX := Lib.hid hx
      clear hval hx
      have q0 : decide (i < m) = true := decide_eq_true hlt
      cases hv : validL x with
      | false =>
        have HK : Hid (foldPl ⟨ba, bb, bc, bd⟩ (ss.take (i + 1)) = foldPl ⟨ba, bb, bc, bd⟩ (ss.take i)) := Lib.hid (by rw [HX.out]; unfold stepF; rw [hv]; rfl)
        rw [hv] at HVL
        clear hv HX
        go_wp2_with fail
        refine (HVL.out _).mono ?_
        rintro e w2 ⟨rfl, hb⟩
        replace HO := Lib.hid (owns_below HO.out hb (Nat.le_refl _))
        replace b0 := b0.below hb b0.lt
        replace hW := hW.trans (hb.mono hW.size)
        replace hB := hB.trans (hb.mono hB.size)
        clear hb c0 c1 c2 c3 c4 c5 HVL
        go_wp2
        go_roundw
        case rel => exact ⟨i + 1, ov, by omega, by go_num, rfl, hW, hB, b0, by rw [HK.out]; exact HO⟩
        case measure => simp [intOf]; omega
      | true =>
        have hplc := fun W2 => rplaces_any x hv W2
        unfold labV at hplc
        have HPL := Lib.hid hplc
        have HK : Hid (foldPl ⟨ba, bb, bc, bd⟩ (ss.take (i + 1)) = tryF ⟨ba, bb, bc, bd⟩ (foldPl ⟨ba, bb, bc, bd⟩ (ss.take i)) x 0 4) := Lib.hid (by rw [HX.out]; unfold stepF; rw [hv]; rfl)
        rw [hv] at HVL
        clear hplc hv HX
        go_wp2_with fail
        refine (HVL.out _).mono ?_
        rintro e w2 ⟨rfl, hb⟩
        have hB2 := hB.trans (hb.mono hB.size)
        obtain ⟨e0, e1, e2, e3, e4, e5⟩ := (HQ.out.below hB2 (Nat.le_refl _)).lab HXX.out
        clear c0 c1 c2 c3 c4 c5 HVL
        go_wp2_with fail
        refine (HPL.out _).mono ?_
        rintro e w3 ⟨pq, pn, pc, rfl, hpn, -, hPL, -, -, hb3⟩
        obtain rfl : pn = 4 := hpn
        obtain ⟨g3, o3, rfl⟩ := hPL.addr (show 0 < (placesF x).length by unfold placesF; simp)
        have HPLC := Lib.hid hPL
        have hbb : Below wr.heap.size wr w3 := hb.trans (hb3.mono hb.size)
        replace HO := Lib.hid (owns_below HO.out hbb (Nat.le_refl _))
        replace b0 := b0.below hbb b0.lt
        replace hW := hW.trans (hbb.mono hW.size)
        replace hB := hB.trans (hbb.mono hB.size)
        have HW3 := Lib.hid hW
        have HB3 := Lib.hid hB
        have HBX := Lib.hid b0
        obtain ⟨out, hout⟩ : ∃ out, foldPl ⟨ba, bb, bc, bd⟩ (ss.take i) = out := ⟨_, rfl⟩
        have hol : out.length ≤ 1000 := by
          rw [← hout]
          have := foldF_length ⟨ba, bb, bc, bd⟩ (ss.take i) []
          rw [List.length_take] at this
          unfold foldPl
          simp only [List.length_nil, Nat.zero_add] at this
          omega
        rw [hout] at HO HK
        obtain ⟨oq, oc, rfl, f1, f2, f3, f4⟩ := Lies.of_owns plC_len HO.out rfl
        have HOL := Lib.hid f2
        clear hb hb3 hbb hB2 e0 e1 e2 e3 e4 e5 HPL hPL hout f1 f2 f3 f4 hW hB b0
        go_wp2
        go_loopw [5, 8] (fun vo vk W => ∃ k : Nat, k ≤ 4 ∧ vk = .int .i64 k ∧ .slice oq out.length oc = vo ∧ Below w3.heap.size w3 W ∧ Hid (tryF ⟨ba, bb, bc, bd⟩ out x k (4 - k) = tryF ⟨ba, bb, bc, bd⟩ out x 0 4)) (fun _ vk _ => 4 - (intOf vk).toNat)
        case atStart => exact ⟨0, by omega, rfl, rfl, Below.refl _ _, Lib.hid rfl⟩
        case round =>
          obtain ⟨k, hk4, rfl, rfl, hC, HT⟩ := hrel
          have hw3 := hC.size
          have b0 := HBX.out.below hC HBX.out.lt
          by_cases hk : k < 4
          · have hy : (placesF x)[k]? = some (boxAt k x) := by
              have : k = 0 ∨ k = 1 ∨ k = 2 ∨ k = 3 := by omega
              rcases this with rfl | rfl | rfl | rfl <;> rfl
            obtain ⟨y0, y1, y2, y3⟩ := (HPLC.out.below hC (Nat.le_refl _)).bx hy
            have HTS : Hid (tryF ⟨ba, bb, bc, bd⟩ out x k (4 - k) = if freeF ⟨ba, bb, bc, bd⟩ out (boxAt k x) then out ++ [⟨x.id, boxAt k x⟩] else tryF ⟨ba, bb, bc, bd⟩ out x (k + 1) (4 - (k + 1))) := Lib.hid (by
              rw [show 4 - k = (4 - (k + 1)) + 1 by omega]
              rfl)
            obtain ⟨f, hf⟩ : ∃ f, boxAt k x = f := ⟨_, rfl⟩
            rw [hf] at HTS y0 y1 y2 y3
            have HF := Lib.hid hf
            clear hf hy
            obtain ⟨fa, fb, fc, fd⟩ := f
            dsimp only at y0 y1 y2 y3
            have hin := fun W2 => rinside_any ⟨fa, fb, fc, fd⟩ ⟨ba, bb, bc, bd⟩ W2
            have hov := fun (p : Bx) W2 => roverlap_any ⟨fa, fb, fc, fd⟩ p W2
            unfold bxV at hin hov
            dsimp only at hin hov
            have HOV := Lib.hid hov
            clear hov
            have q0 : decide (k < 4) = true := decide_eq_true hk
            have q1 : decide ((k : Int) < 4) = true := decide_eq_true (by omega)
            go_wp2_with fail
            have a0 := cell_regrown y0
            have a1 := cell_regrown y1
            have a2 := cell_regrown y2
            have a3 := cell_regrown y3
            have a4 := cell_regrown (b0.cell 0)
            have a5 := cell_regrown (b0.cell 1)
            have a6 := cell_regrown (b0.cell 2)
            have a7 := cell_regrown (b0.cell 3)
            have cI := quietC (W := wr) (fun w' _ => hin w')
            clear hin
            refine wp_region_quiet_below (by kernel_rfl) (by kernel_rfl) ?_
            repeat (go_big_quiet_step (exact cI _ _))
            refine wpQuiet_nil ?_
            rintro W4 hb4
            replace hb4 := below_of_regrown hb4
            replace hC := hC.trans (hb4.mono hw3)
            clear a0 a1 a2 a3 a4 a5 a6 a7 cI y0 y1 y2 y3 b0 hb4 hw3
            go_wp2
            go_loopw [9, 10] (fun vf vx W => ∃ (xi : Nat) (fr : Bool), vf = .bool fr ∧ xi ≤ out.length ∧ vx = .int .i64 xi ∧ Below w3.heap.size w3 W ∧ Hid (fr = (inF ⟨fa, fb, fc, fd⟩ ⟨ba, bb, bc, bd⟩ && !(out.take xi).any fun p => overF ⟨fa, fb, fc, fd⟩ p.bx))) (fun _ vx _ => out.length - (intOf vx).toNat)
            case atStart => exact ⟨0, _, rfl, by omega, rfl, hC, Lib.hid (by simp)⟩
            case round =>
              clear hC
              obtain ⟨xi, fr, rfl, hxl, rfl, hC, HFR⟩ := hrel
              have hw3 := hC.size
              by_cases hxi : xi < out.length
              · obtain ⟨z, hz⟩ : ∃ z, out[xi]? = some z := ⟨_, List.getElem?_eq_getElem hxi⟩
                obtain ⟨go, oo, rfl⟩ := HOL.out.addr (by omega)
                obtain ⟨z0, z1, z2, z3, z4⟩ := (HOL.out.below hC (Nat.le_refl _)).pl hz
                have hy : (placesF x)[k]? = some (⟨fa, fb, fc, fd⟩ : Bx) := by
                  rw [← HF.out]
                  have : k = 0 ∨ k = 1 ∨ k = 2 ∨ k = 3 := by omega
                  rcases this with rfl | rfl | rfl | rfl <;> rfl
                obtain ⟨y0, y1, y2, y3⟩ := (HPLC.out.below hC (Nat.le_refl _)).bx hy
                dsimp only at y0 y1 y2 y3
                have HNX : Hid ((inF ⟨fa, fb, fc, fd⟩ ⟨ba, bb, bc, bd⟩ && !(out.take (xi + 1)).any fun p => overF ⟨fa, fb, fc, fd⟩ p.bx) = (fr && !overF ⟨fa, fb, fc, fd⟩ z.bx)) := Lib.hid (by
                  obtain ⟨hi', rfl⟩ := List.getElem?_eq_some_iff.1 hz
                  rw [HFR.out, List.take_succ_eq_append_getElem hi', List.any_append, Bool.not_or, Bool.and_assoc]
                  simp)
                have q2 : decide (xi < out.length) = true := decide_eq_true hxi
                have hc := HOV.out z.bx
                clear hz hy HFR
                obtain ⟨zid, za, zb, zc, zd⟩ := z
                dsimp only at z0 z1 z2 z3 z4 hc HNX
                cases fr with
                | false =>
                  go_wp2_with fail
                  refine wp_region_quiet_below (by kernel_rfl) (by kernel_rfl) ?_
                  repeat (go_big_quiet_step (fail))
                  refine wpQuiet_nil ?_
                  rintro W5 hb5
                  replace hb5 := below_of_regrown hb5
                  replace hC := hC.trans (hb5.mono hw3)
                  clear z0 z1 z2 z3 z4 y0 y1 y2 y3 hc hb5 hw3
                  go_wp2
                  go_roundw
                  case rel => exact ⟨xi + 1, false, rfl, by omega, by go_num, hC, Lib.hid (by rw [HNX.out]; rfl)⟩
                  case measure => simp [intOf]; omega
                | true =>
                  have a0 := cell_regrown y0
                  have a1 := cell_regrown y1
                  have a2 := cell_regrown y2
                  have a3 := cell_regrown y3
                  have a5 := cell_regrown z1
                  have a6 := cell_regrown z2
                  have a7 := cell_regrown z3
                  have a8 := cell_regrown z4
                  have cO := quietC (W := wr) (fun w' _ => hc w')
                  clear hc y0 y1 y2 y3 z0 z1 z2 z3 z4
                  go_wp2_with fail
                  refine wp_region_quiet_below (by kernel_rfl) (by kernel_rfl) ?_
                  repeat (go_big_quiet_step (exact cO _ _))
                  refine wpQuiet_nil ?_
                  rintro W5 hb5
                  replace hb5 := below_of_regrown hb5
                  replace hC := hC.trans (hb5.mono hw3)
                  clear a0 a1 a2 a3 a5 a6 a7 a8 cO hb5 hw3
                  go_wp2
                  go_roundw
                  case rel => exact ⟨xi + 1, _, rfl, by omega, by go_num, hC, Lib.hid (by rw [HNX.out]; rfl)⟩
                  case measure => simp [intOf]; omega
              · obtain rfl : xi = out.length := by omega
                have q2 : decide (out.length < out.length) = false := decide_eq_false (by omega)
                have HFF : Hid (freeF ⟨ba, bb, bc, bd⟩ out ⟨fa, fb, fc, fd⟩ = fr) := Lib.hid (by rw [HFR.out, List.take_length]; rfl)
                rw [HFF.out] at HTS
                clear HFR
                cases fr with
                | false =>
                  have HT2 : Hid (tryF ⟨ba, bb, bc, bd⟩ out x (k + 1) (4 - (k + 1)) = tryF ⟨ba, bb, bc, bd⟩ out x 0 4) := Lib.hid (by rw [← HT.out, HTS.out]; rfl)
                  go_wp2
                  go_roundw
                  case rel => exact ⟨k + 1, by omega, by go_num, rfl, hC, HT2⟩
                  case measure => simp [intOf]; omega
                | true =>
                  have HK2 : Hid (foldPl ⟨ba, bb, bc, bd⟩ (ss.take (i + 1)) = out ++ [⟨x.id, ⟨fa, fb, fc, fd⟩⟩]) := Lib.hid (by rw [HK.out, ← HT.out, HTS.out]; rfl)
                  have hBC := HB3.out.trans (hC.mono HB3.out.size)
                  have hy : (placesF x)[k]? = some (⟨fa, fb, fc, fd⟩ : Bx) := by
                    rw [← HF.out]
                    have : k = 0 ∨ k = 1 ∨ k = 2 ∨ k = 3 := by omega
                    rcases this with rfl | rfl | rfl | rfl <;> rfl
                  obtain ⟨y0, y1, y2, y3⟩ := (HPLC.out.below hC (Nat.le_refl _)).bx hy
                  obtain ⟨e0, -, -, -, -, -⟩ := (HQ.out.below hBC (Nat.le_refl _)).lab HXX.out
                  dsimp only at y0 y1 y2 y3
                  have a0 := cell_regrown y0
                  have a1 := cell_regrown y1
                  have a2 := cell_regrown y2
                  have a3 := cell_regrown y3
                  have a4 := cell_regrown e0
                  clear hy y0 y1 y2 y3 e0
                  go_wp2_with fail
                  refine wp_region_below_tailM (.slice oq out.length oc) 11 (by kernel_rfl) (by kernel_rfl) (by decide) rfl rfl rfl (fun _ _ _ h => h) ?_
                  simp only [Act.put, List.setIfInBounds_toArray, List.set_cons_zero, List.set_cons_succ, List.take_succ_cons, List.take_zero, List.drop_succ_cons, List.drop_zero, Nat.reduceSub]
                  repeat (go_big_quiet_step (fail))
                  refine wpQuiet_nil ?_
                  rintro W8 hb8
                  replace hC := hC.trans (hb8.mono hw3)
                  have hown := owns_below HO.out hC (Nat.le_refl _)
                  have hWW := HW3.out.trans (hC.mono HW3.out.size)
                  have hBB := HB3.out.trans (hC.mono HB3.out.size)
                  have b8 := HBX.out.below hC HBX.out.lt
                  have hbs8 := hBB.size
                  clear a0 a1 a2 a3 a4 hb8 hBC hw3
                  go_wp2_with (at_builtin; refine halted ?_)
                  refine Halted.on ?_
                  refine wpList_append_own _ rfl _ _ 30 rfl w1.heap.size 43 i0 (.agg #[.string ⟨#[]⟩, .int .i64 0, .int .i64 0, .int .i64 0, .int .i64 0]) 5 48 Tryz.underlying30 hi hz0 hz1 hz2 rfl (by decide) _ _ _ rfl (hown.alloc _) ⟨W8.heap.size, 0, none⟩ 1 1 (plC ⟨x.id, ⟨fa, fb, fc, fd⟩⟩) rfl ?qa ?qb ?qc ?qd ?qe ?qf ?_
                  case qa => rfl
                  case qb => exact World.news_of_block (cs := (plC ⟨x.id, ⟨fa, fb, fc, fd⟩⟩).toArray) (t := 43) (fr := (0, 0)) (heap_alloc_new W8 _)
                  case qc => simp [plC, Value.oneCell']
                  case qd => unfold maxLen; omega
                  case qe => omega
                  case qf => simp; omega
                  intro v' w9 hown' hgrow _
                  have hb := below_append hown hgrow (by omega)
                  have HO2 : Hid (w9.ownsRow w1.heap.size 43 5 v' (foldPl ⟨ba, bb, bc, bd⟩ (ss.take (i + 1))).length ((foldPl ⟨ba, bb, bc, bd⟩ (ss.take (i + 1))).flatMap plC)) := Lib.hid (by rw [HK2.out, List.length_append, List.flatMap_append]; simpa using hown')
                  replace hWW := hWW.trans (hb.mono hw1)
                  replace b8 := b8.below hb hb01
                  replace hBB := hBB.trans hb
                  clear hb hown hown' hgrow HK2 hC
                  go_wp2
                  go_roundw
                  case rel => exact ⟨i + 1, v', by omega, by go_num, rfl, hWW, hBB, b8, HO2⟩
                  case measure => simp [intOf]; omega
          · obtain rfl : k = 4 := by omega
            have HK2 : Hid (foldPl ⟨ba, bb, bc, bd⟩ (ss.take (i + 1)) = out) := Lib.hid (by rw [HK.out, ← HT.out]; rfl)
            have HO2 := Lib.hid (owns_below HO.out hC (Nat.le_refl _))
            have hWW := HW3.out.trans (hC.mono HW3.out.size)
            have hBB := HB3.out.trans (hC.mono HB3.out.size)
            go_wp2
            go_roundw
            case rel => exact ⟨i + 1, _, by omega, by go_num, rfl, hWW, hBB, b0, by rw [HK2.out]; exact HO2⟩
            case measure => simp [intOf]; omega
    · obtain rfl : i = m := by omega
      have q0 : decide (i < i) = false := decide_eq_false (by omega)
      have HT : Hid (ss.take i = ss) := Lib.hid (by rw [HM.out]; exact List.take_length)
      rw [HT.out, ← HP.out] at HO
      go_wp2
      go_ret
      exact RetL.of_owns plC_len HO.out rfl hw1 hW
end Go.Proofs.YtaggohobdjidjaaGreatDoor

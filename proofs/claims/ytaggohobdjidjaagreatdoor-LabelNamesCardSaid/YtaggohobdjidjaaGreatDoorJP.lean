import Derived.Test.YtaggohobdjidjaaGreatDoorJD
import Derived.Deep.AppendLies

/- label.Place: at most 40 labels. -/
namespace Go.Proofs.YtaggohobdjidjaaGreatDoor
open Go.Shelf Go.RowKit Go.Lib Go.Sort

theorem infoPl : (Tryz.prog.info? 43).map (fun i => (i.zero, i.size, i.bytes)) = some (some (.agg #[.string ⟨#[]⟩, .int .i64 0, .int .i64 0, .int .i64 0, .int .i64 0]), 5, 48) := by kernel_rfl

theorem Lies.lab {W : World} {g o i : Nat} {l : List Lab} {x : Lab} (h : Lies W 6 labC (some ⟨g, o, none⟩) l) (hx : l[i]? = some x) : W.cell? ⟨g, o + i * 6, none⟩ = some (.string x.id) ∧ W.cell? ⟨g, o + i * 6 + 1, none⟩ = some (.int .i64 x.x) ∧
    W.cell? ⟨g, o + i * 6 + 2, none⟩ = some (.int .i64 x.y) ∧ W.cell? ⟨g, o + i * 6 + 3, none⟩ = some (.int .i64 x.w) ∧ W.cell? ⟨g, o + i * 6 + 4, none⟩ = some (.int .i64 x.h) ∧ W.cell? ⟨g, o + i * 6 + 5, none⟩ = some (.int .i64 x.r) :=
  ⟨h.cell g o rfl i x hx 0 (by omega), h.cell g o rfl i x hx 1 (by omega), h.cell g o rfl i x hx 2 (by omega), h.cell g o rfl i x hx 3 (by omega), h.cell g o rfl i x hx 4 (by omega), h.cell g o rfl i x hx 5 (by omega)⟩

/-- The labels' fold up to the i-th. -/
def outF (b : Bx) (sl : List Lab) (i : Nat) : List Pl := (sl.take i).foldl (stepF b) []
theorem outF_succ {b : Bx} {sl : List Lab} {i : Nat} {x : Lab} (hx : sl[i]? = some x) : outF b sl (i + 1) = stepF b (outF b sl i) x := by
  unfold outF
  obtain ⟨hi, rfl⟩ := List.getElem?_eq_some_iff.1 hx
  rw [List.take_succ_eq_append_getElem hi, List.foldl_append]
  rfl
theorem outF_length (b : Bx) (sl : List Lab) (i : Nat) : (outF b sl i).length ≤ i := by
  have := foldF_length b (sl.take i) []
  have h2 : (sl.take i).length ≤ i := by simp; omega
  unfold outF
  simp only [List.length_nil, Nat.zero_add] at this
  omega
theorem corn_bd {x : Lab} (hv : validL x = true) (k : Nat) : (-67110864 ≤ cornX k x ∧ cornX k x ≤ 67110864) ∧ -67110864 ≤ cornY k x ∧ cornY k x ≤ 67110864 := by
  obtain ⟨⟨h1, h2, h3, h4⟩, h5, h6, h7, h8⟩ := validL_spec hv
  unfold cornX cornY
  constructor
  · split <;> omega
  · split <;> omega

set_option maxRecDepth 100000 in
set_option maxHeartbeats 4000000 in
theorem place_any (p : Option Addr) (n cap : Nat) (l : List Lab) (b : Bx) (w : World) (hL : Lies w 6 labC p l) (hn : n = l.length) (h40 : n ≤ 40) (hc : p = none → cap = 0) :
    Calls Tryz.prog 13 #[.slice p n cap, bxV b] w (RetL w 5 plC (placeF b l)) := by
  obtain ⟨i0, hi, hz0, hz1, hz2⟩ := info_parts infoPl
  have HN := Lib.hid hn
  clear hn
  unfold bxV
  go_enter Tryz.func13, Tryz.ntmps13
  go_wp2_with fail
  refine calls_abs (fun W => Below w.heap.size w W ∧ Box W w.heap.size #[.int .i64 b.a, .int .i64 b.b, .int .i64 b.c, .int .i64 b.d] 26) ⟨(Below.refl _ _).alloc (Nat.le_refl _) _, Box.new _ _ _⟩ ?_
  rintro W ⟨hW, b0⟩
  refine (sorted_any p n cap l W (hL.below hW hL.lt) HN.out h40 hc).mono ?_
  rintro e w1 ⟨p', n', cap', rfl, hn', hcap, hS, hfr, hnil, hb⟩
  replace hW := hW.trans (hb.mono hW.size)
  replace b0 := b0.below hb b0.lt
  have hnn : n' = n := by rw [hn', isort_length, HN.out]
  subst hnn
  have HS := Lib.hid hS
  have HN' := Lib.hid hn'
  have hlt0 : w.heap.size < w1.heap.size := b0.lt
  have hb0 := hb.size
  replace hb0 : w.heap.size ≤ w1.heap.size := by omega
  clear hL hc hn' hcap hS hfr hnil hb
  go_wp2
  go_loopw [5, 16] (fun vo vi wr => ∃ (i : Nat) (v : Value), i ≤ n' ∧ vi = .int .i64 i ∧ v = vo ∧ wr.ownsRow w1.heap.size 43 5 v (outF b (isort ltL l) i).length ((outF b (isort ltL l) i).flatMap plC) ∧ Below w1.heap.size w1 wr) (fun _ vi _ => n' - (intOf vi).toNat)
  case atStart => exact ⟨0, _, by omega, rfl, rfl, World.ownsRow_nil _ _ _ _, Below.refl _ _⟩
  case round =>
    obtain ⟨i, v, hi', rfl, rfl, hown, hW1⟩ := hrel
    by_cases hlt : i < n'
    · obtain ⟨g, o, rfl⟩ := HS.out.addr (by have := HN'.out; omega)
      obtain ⟨x, hx⟩ : ∃ x, (isort ltL l)[i]? = some x := ⟨_, List.getElem?_eq_getElem (by have := HN'.out; omega)⟩
      obtain ⟨r0, r1, r2, r3, r4, r5⟩ := (HS.out.below hW1 HS.out.lt).lab hx
      have HO : Hid (outF b (isort ltL l) (i + 1) = stepF b (outF b (isort ltL l) i) x) := Lib.hid (outF_succ hx)
      have hol := outF_length b (isort ltL l) i
      generalize outF b (isort ltL l) i = out at hown HO hol
      clear hx
      have hs1 := hW1.size
      go_wp2_with fail
      clear r0 r1 r2 r3 r4 r5
      have hcall := validL_any x
      unfold labV at hcall
      refine calls_abs (fun W => Below w1.heap.size w1 W ∧ Box W wr.heap.size #[.string x.id, .int .i64 x.x, .int .i64 x.y, .int .i64 x.w, .int .i64 x.h, .int .i64 x.r] 47 ∧ W.ownsRow w1.heap.size 43 5 v out.length (out.flatMap plC)) ⟨hW1.alloc hW1.size _, Box.new _ _ _, hown.alloc _⟩ ?_
      clear hown hW1
      rintro W2 ⟨hW1, bX, hown⟩
      obtain ⟨kx, hkx⟩ : ∃ kx, kx = wr.heap.size := ⟨_, rfl⟩
      rw [← hkx] at bX ⊢
      replace hkx : w1.heap.size ≤ kx := by omega
      refine (hcall _).mono ?_
      clear hcall
      rintro e w2 ⟨rfl, hb⟩
      replace hW1 := hW1.trans (hb.mono hW1.size)
      replace bX := bX.below hb bX.lt
      replace hown := owns_below hown hb (Nat.le_refl _)
      clear hb
      cases hv : validL x with
      | false =>
        have HO2 : Hid (outF b (isort ltL l) (i + 1) = out) := Lib.hid (by rw [HO.out]; unfold stepF; rw [hv]; rfl)
        clear hv HO
        go_wp2
        go_roundw
        case rel => exact ⟨i + 1, v, by omega, by go_num, rfl, by rw [HO2.out]; exact hown, hW1⟩
        case measure => simp [intOf]; omega
      | true =>
        have HO2 : Hid (outF b (isort ltL l) (i + 1) = tryF b out x 0 4) := Lib.hid (by rw [HO.out]; unfold stepF; rw [hv]; rfl)
        have HV := Lib.hid hv
        clear hv HO
        go_wp2_with fail
        refine (places_any w2).mono ?_
        rintro e w3 ⟨rfl, hb⟩
        replace hW1 := hW1.trans (hb.mono hW1.size)
        replace bX := bX.below hb bX.lt
        replace hown := owns_below hown hb (Nat.le_refl _)
        clear hb
        go_wp2
        go_loopw [5, 24] (fun vo2 vk wr2 => ∃ k : Nat, k ≤ 4 ∧ vk = .int .i64 k ∧ v = vo2 ∧ wr2.ownsRow w1.heap.size 43 5 v out.length (out.flatMap plC) ∧ Below w1.heap.size w1 wr2 ∧ Box wr2 kx #[.string x.id, .int .i64 x.x, .int .i64 x.y, .int .i64 x.w, .int .i64 x.h, .int .i64 x.r] 47 ∧ Hid (outF b (isort ltL l) (i + 1) = tryF b out x k (4 - k)))
          (fun _ vk _ => 4 - (intOf vk).toNat)
        case atStart => exact ⟨0, by omega, rfl, rfl, hown, hW1, bX, HO2⟩
        case round =>
          clear hown hW1 bX HO2
          obtain ⟨k, hk, rfl, rfl, hown, hW1, bX, HO2⟩ := hrel
          by_cases hk4 : k < 4
          · have hol2 : out.length ≤ 40 := by omega
            obtain ⟨pv, cv, rfl, -, -, -, -⟩ := Lies.of_owns plC_len hown rfl
            rcases (show k = 0 ∨ k = 1 ∨ k = 2 ∨ k = 3 by omega) with rfl | rfl | rfl | rfl
            · obtain ⟨⟨q1, q2⟩, q3, q4⟩ := corn_bd HV.out 0
              obtain ⟨-, z1, z2, z3, z4⟩ := validL_spec HV.out
              have HT : Hid (tryF b out x 0 (4 - 0) = if freeF b out ⟨cornX 0 x, cornY 0 x, cornX 0 x + x.w - 1, cornY 0 x + x.h - 1⟩ then out ++ [⟨x.id, ⟨cornX 0 x, cornY 0 x, cornX 0 x + x.w - 1, cornY 0 x + x.h - 1⟩⟩] else tryF b out x 1 (4 - 1)) := Lib.hid rfl
              have hcall := fun W => corner1 x HV.out W
              unfold labV at hcall
              generalize cornX 0 x = cx at hcall HT q1 q2
              generalize cornY 0 x = cy at hcall HT q3 q4
              have ix : ∀ w, (Instr.index 71 (.agg #[.func (.func 61) #[] #[], .func (.func 62) #[] #[], .func (.func 63) #[] #[], .func (.func 64) #[] #[]]) (.int .i64 0)).run Tryz.prog w = .ok (.func (.func 61) #[] #[]) w := fun _ => by kernel_rfl
              have rX := bX.cell
              go_wp2_with fail
              clear rX
              refine (hcall _).mono ?_
              clear hcall
              rintro e w4 ⟨rfl, hb⟩
              replace hW1 := hW1.trans (hb.mono hW1.size)
              replace bX := bX.below hb bX.lt
              replace hown := owns_below hown hb (Nat.le_refl _)
              clear hb
              have rX := bX.cell
              have kX := bX.lt
              have r0 := (b0.below hW1 hlt0).cell
              have k0 := (b0.below hW1 hlt0).lt
              go_wp2_with fail
              clear rX r0
              refine calls_abs (fun W => Below w1.heap.size w1 W ∧ Box W kx #[.string x.id, .int .i64 x.x, .int .i64 x.y, .int .i64 x.w, .int .i64 x.h, .int .i64 x.r] 47 ∧ W.ownsRow w1.heap.size 43 5 (.slice pv out.length cv) out.length (out.flatMap plC) ∧ Box W (w4.heap.size + 1) #[.int .i64 cx, .int .i64 cy, .int .i64 (cx + x.w - 1), .int .i64 (cy + x.h - 1)] 73)
                ⟨(hW1.alloc hW1.size _).alloc (by have := hW1.size; simp; omega) _, (bX.alloc _).alloc _, (hown.alloc _).alloc _, Box.new' (by simp) _ _⟩ ?_
              clear hW1 bX hown kX k0
              rintro W5 ⟨hW1, bX, hown, bF⟩
              have hcall := holds_any b (⟨cx, cy, cx + x.w - 1, cy + x.h - 1⟩ : Bx) W5
              unfold bxV at hcall
              refine hcall.mono ?_
              clear hcall
              rintro e w5 ⟨rfl, hb⟩
              replace hW1 := hW1.trans (hb.mono hW1.size)
              replace bX := bX.below hb bX.lt
              replace bF := bF.below hb bF.lt
              replace hown := owns_below hown hb (Nat.le_refl _)
              clear hb
              cases hin : inF (⟨cx, cy, cx + x.w - 1, cy + x.h - 1⟩ : Bx) b with
              | false =>
                have HO3 : Hid (outF b (isort ltL l) (i + 1) = tryF b out x 1 (4 - 1)) := Lib.hid (by rw [HO2.out, HT.out]; unfold freeF; rw [hin]; rfl)
                clear hin HT HO2
                go_wp2
                go_roundw
                case rel => exact ⟨1, by omega, rfl, rfl, hown, hW1, bX, HO3⟩
                case measure => simp [intOf]
              | true =>
                obtain ⟨p2, c2, e2, -, hLv, -, -⟩ := Lies.of_owns plC_len hown rfl
                cases e2
                have hcall := containsP_any pv out.length cv out (fun p => overF (⟨cx, cy, cx + x.w - 1, cy + x.h - 1⟩ : Bx) p.bx) 39 #[.agg #[.int .i64 cx, .int .i64 cy, .int .i64 (cx + x.w - 1), .int .i64 (cy + x.h - 1)]] #[] w5 hLv rfl (by omega) (enters_of Tryz.func39 (by kernel_rfl) rfl) (fun W' _ x' => meets_any (⟨cx, cy, cx + x.w - 1, cy + x.h - 1⟩ : Bx) x' W')
                cases han : out.any (fun p => overF (⟨cx, cy, cx + x.w - 1, cy + x.h - 1⟩ : Bx) p.bx) with
                | true =>
                  rw [han] at hcall
                  have HO3 : Hid (outF b (isort ltL l) (i + 1) = tryF b out x 1 (4 - 1)) := Lib.hid (by rw [HO2.out, HT.out]; unfold freeF; rw [hin, han]; rfl)
                  have HC := Lib.hid hcall
                  clear hin han HT HO2 hLv hcall
                  go_wp2_with fail
                  refine HC.out.mono ?_
                  rintro e w6 ⟨rfl, hb⟩
                  replace hW1 := hW1.trans (hb.mono hW1.size)
                  replace bX := bX.below hb bX.lt
                  replace hown := owns_below hown hb (Nat.le_refl _)
                  clear hb HC bF
                  go_wp2
                  go_roundw
                  case rel => exact ⟨1, by omega, rfl, rfl, hown, hW1, bX, HO3⟩
                  case measure => simp [intOf]
                | false =>
                  rw [han] at hcall
                  have HO3 : Hid (outF b (isort ltL l) (i + 1) = out ++ [⟨x.id, (⟨cx, cy, cx + x.w - 1, cy + x.h - 1⟩ : Bx)⟩]) := Lib.hid (by rw [HO2.out, HT.out]; unfold freeF; rw [hin, han]; rfl)
                  have HC := Lib.hid hcall
                  clear hin han HT HO2 hLv hcall
                  go_wp2_with fail
                  refine HC.out.mono ?_
                  rintro e w6 ⟨rfl, hb⟩
                  replace hW1 := hW1.trans (hb.mono hW1.size)
                  replace bX := bX.below hb bX.lt
                  replace bF := bF.below hb bF.lt
                  replace hown := owns_below hown hb (Nat.le_refl _)
                  clear hb HC
                  have rX := bX.cell
                  have kX := bX.lt
                  have rF := bF.cell
                  have kF := bF.lt
                  go_wp2_with (at_builtin; refine halted ?_)
                  refine Halted.on ?_
                  refine wpList_append_own _ rfl _ _ 30 rfl w1.heap.size 43 i0 (.agg #[.string ⟨#[]⟩, .int .i64 0, .int .i64 0, .int .i64 0, .int .i64 0]) 5 48 Tryz.underlying30 hi hz0 hz1 hz2 rfl (by decide) _ out.length _ rfl (hown.alloc _) ⟨w6.heap.size, 0, none⟩ 1 1 (plC ⟨x.id, (⟨cx, cy, cx + x.w - 1, cy + x.h - 1⟩ : Bx)⟩) rfl ?qa ?qb ?qc ?qd ?qe ?qf ?_
                  case qa => rfl
                  case qb => exact World.news_of_block (cs := (plC ⟨x.id, (⟨cx, cy, cx + x.w - 1, cy + x.h - 1⟩ : Bx)⟩).toArray) (t := 43) (fr := (0, 0)) (heap_alloc_new w6 _)
                  case qc =>
                    intro u hu
                    simp only [plC, List.mem_cons, List.not_mem_nil, or_false] at hu
                    rcases hu with rfl | rfl | rfl | rfl | rfl <;> rfl
                  case qd => unfold maxLen; omega
                  case qe => omega
                  case qf => have := hW1.size; simp; omega
                  intro v' w7 hown' hgrow _
                  have hb := below_append hown hgrow hW1.size
                  replace hW1 := hW1.trans hb
                  rw [show out.flatMap plC ++ plC ⟨x.id, (⟨cx, cy, cx + x.w - 1, cy + x.h - 1⟩ : Bx)⟩ = (out ++ [(⟨x.id, (⟨cx, cy, cx + x.w - 1, cy + x.h - 1⟩ : Bx)⟩ : Pl)]).flatMap plC by simp] at hown'
                  clear hgrow hb hown bX bF rX kX rF kF
                  go_wp2
                  go_roundw
                  case rel => exact ⟨i + 1, _, by omega, by go_num, rfl, by rw [HO3.out, List.length_append]; exact hown', hW1⟩
                  case measure => simp [intOf]; omega
            · obtain ⟨⟨q1, q2⟩, q3, q4⟩ := corn_bd HV.out 1
              obtain ⟨-, z1, z2, z3, z4⟩ := validL_spec HV.out
              have HT : Hid (tryF b out x 1 (4 - 1) = if freeF b out ⟨cornX 1 x, cornY 1 x, cornX 1 x + x.w - 1, cornY 1 x + x.h - 1⟩ then out ++ [⟨x.id, ⟨cornX 1 x, cornY 1 x, cornX 1 x + x.w - 1, cornY 1 x + x.h - 1⟩⟩] else tryF b out x 2 (4 - 2)) := Lib.hid rfl
              have hcall := fun W => corner2 x HV.out W
              unfold labV at hcall
              generalize cornX 1 x = cx at hcall HT q1 q2
              generalize cornY 1 x = cy at hcall HT q3 q4
              have ix : ∀ w, (Instr.index 71 (.agg #[.func (.func 61) #[] #[], .func (.func 62) #[] #[], .func (.func 63) #[] #[], .func (.func 64) #[] #[]]) (.int .i64 1)).run Tryz.prog w = .ok (.func (.func 62) #[] #[]) w := fun _ => by kernel_rfl
              have rX := bX.cell
              go_wp2_with fail
              clear rX
              refine (hcall _).mono ?_
              clear hcall
              rintro e w4 ⟨rfl, hb⟩
              replace hW1 := hW1.trans (hb.mono hW1.size)
              replace bX := bX.below hb bX.lt
              replace hown := owns_below hown hb (Nat.le_refl _)
              clear hb
              have rX := bX.cell
              have kX := bX.lt
              have r0 := (b0.below hW1 hlt0).cell
              have k0 := (b0.below hW1 hlt0).lt
              go_wp2_with fail
              clear rX r0
              refine calls_abs (fun W => Below w1.heap.size w1 W ∧ Box W kx #[.string x.id, .int .i64 x.x, .int .i64 x.y, .int .i64 x.w, .int .i64 x.h, .int .i64 x.r] 47 ∧ W.ownsRow w1.heap.size 43 5 (.slice pv out.length cv) out.length (out.flatMap plC) ∧ Box W (w4.heap.size + 1) #[.int .i64 cx, .int .i64 cy, .int .i64 (cx + x.w - 1), .int .i64 (cy + x.h - 1)] 73)
                ⟨(hW1.alloc hW1.size _).alloc (by have := hW1.size; simp; omega) _, (bX.alloc _).alloc _, (hown.alloc _).alloc _, Box.new' (by simp) _ _⟩ ?_
              clear hW1 bX hown kX k0
              rintro W5 ⟨hW1, bX, hown, bF⟩
              have hcall := holds_any b (⟨cx, cy, cx + x.w - 1, cy + x.h - 1⟩ : Bx) W5
              unfold bxV at hcall
              refine hcall.mono ?_
              clear hcall
              rintro e w5 ⟨rfl, hb⟩
              replace hW1 := hW1.trans (hb.mono hW1.size)
              replace bX := bX.below hb bX.lt
              replace bF := bF.below hb bF.lt
              replace hown := owns_below hown hb (Nat.le_refl _)
              clear hb
              cases hin : inF (⟨cx, cy, cx + x.w - 1, cy + x.h - 1⟩ : Bx) b with
              | false =>
                have HO3 : Hid (outF b (isort ltL l) (i + 1) = tryF b out x 2 (4 - 2)) := Lib.hid (by rw [HO2.out, HT.out]; unfold freeF; rw [hin]; rfl)
                clear hin HT HO2
                go_wp2
                go_roundw
                case rel => exact ⟨2, by omega, rfl, rfl, hown, hW1, bX, HO3⟩
                case measure => simp [intOf]
              | true =>
                obtain ⟨p2, c2, e2, -, hLv, -, -⟩ := Lies.of_owns plC_len hown rfl
                cases e2
                have hcall := containsP_any pv out.length cv out (fun p => overF (⟨cx, cy, cx + x.w - 1, cy + x.h - 1⟩ : Bx) p.bx) 39 #[.agg #[.int .i64 cx, .int .i64 cy, .int .i64 (cx + x.w - 1), .int .i64 (cy + x.h - 1)]] #[] w5 hLv rfl (by omega) (enters_of Tryz.func39 (by kernel_rfl) rfl) (fun W' _ x' => meets_any (⟨cx, cy, cx + x.w - 1, cy + x.h - 1⟩ : Bx) x' W')
                cases han : out.any (fun p => overF (⟨cx, cy, cx + x.w - 1, cy + x.h - 1⟩ : Bx) p.bx) with
                | true =>
                  rw [han] at hcall
                  have HO3 : Hid (outF b (isort ltL l) (i + 1) = tryF b out x 2 (4 - 2)) := Lib.hid (by rw [HO2.out, HT.out]; unfold freeF; rw [hin, han]; rfl)
                  have HC := Lib.hid hcall
                  clear hin han HT HO2 hLv hcall
                  go_wp2_with fail
                  refine HC.out.mono ?_
                  rintro e w6 ⟨rfl, hb⟩
                  replace hW1 := hW1.trans (hb.mono hW1.size)
                  replace bX := bX.below hb bX.lt
                  replace hown := owns_below hown hb (Nat.le_refl _)
                  clear hb HC bF
                  go_wp2
                  go_roundw
                  case rel => exact ⟨2, by omega, rfl, rfl, hown, hW1, bX, HO3⟩
                  case measure => simp [intOf]
                | false =>
                  rw [han] at hcall
                  have HO3 : Hid (outF b (isort ltL l) (i + 1) = out ++ [⟨x.id, (⟨cx, cy, cx + x.w - 1, cy + x.h - 1⟩ : Bx)⟩]) := Lib.hid (by rw [HO2.out, HT.out]; unfold freeF; rw [hin, han]; rfl)
                  have HC := Lib.hid hcall
                  clear hin han HT HO2 hLv hcall
                  go_wp2_with fail
                  refine HC.out.mono ?_
                  rintro e w6 ⟨rfl, hb⟩
                  replace hW1 := hW1.trans (hb.mono hW1.size)
                  replace bX := bX.below hb bX.lt
                  replace bF := bF.below hb bF.lt
                  replace hown := owns_below hown hb (Nat.le_refl _)
                  clear hb HC
                  have rX := bX.cell
                  have kX := bX.lt
                  have rF := bF.cell
                  have kF := bF.lt
                  go_wp2_with (at_builtin; refine halted ?_)
                  refine Halted.on ?_
                  refine wpList_append_own _ rfl _ _ 30 rfl w1.heap.size 43 i0 (.agg #[.string ⟨#[]⟩, .int .i64 0, .int .i64 0, .int .i64 0, .int .i64 0]) 5 48 Tryz.underlying30 hi hz0 hz1 hz2 rfl (by decide) _ out.length _ rfl (hown.alloc _) ⟨w6.heap.size, 0, none⟩ 1 1 (plC ⟨x.id, (⟨cx, cy, cx + x.w - 1, cy + x.h - 1⟩ : Bx)⟩) rfl ?qa ?qb ?qc ?qd ?qe ?qf ?_
                  case qa => rfl
                  case qb => exact World.news_of_block (cs := (plC ⟨x.id, (⟨cx, cy, cx + x.w - 1, cy + x.h - 1⟩ : Bx)⟩).toArray) (t := 43) (fr := (0, 0)) (heap_alloc_new w6 _)
                  case qc =>
                    intro u hu
                    simp only [plC, List.mem_cons, List.not_mem_nil, or_false] at hu
                    rcases hu with rfl | rfl | rfl | rfl | rfl <;> rfl
                  case qd => unfold maxLen; omega
                  case qe => omega
                  case qf => have := hW1.size; simp; omega
                  intro v' w7 hown' hgrow _
                  have hb := below_append hown hgrow hW1.size
                  replace hW1 := hW1.trans hb
                  rw [show out.flatMap plC ++ plC ⟨x.id, (⟨cx, cy, cx + x.w - 1, cy + x.h - 1⟩ : Bx)⟩ = (out ++ [(⟨x.id, (⟨cx, cy, cx + x.w - 1, cy + x.h - 1⟩ : Bx)⟩ : Pl)]).flatMap plC by simp] at hown'
                  clear hgrow hb hown bX bF rX kX rF kF
                  go_wp2
                  go_roundw
                  case rel => exact ⟨i + 1, _, by omega, by go_num, rfl, by rw [HO3.out, List.length_append]; exact hown', hW1⟩
                  case measure => simp [intOf]; omega
            · obtain ⟨⟨q1, q2⟩, q3, q4⟩ := corn_bd HV.out 2
              obtain ⟨-, z1, z2, z3, z4⟩ := validL_spec HV.out
              have HT : Hid (tryF b out x 2 (4 - 2) = if freeF b out ⟨cornX 2 x, cornY 2 x, cornX 2 x + x.w - 1, cornY 2 x + x.h - 1⟩ then out ++ [⟨x.id, ⟨cornX 2 x, cornY 2 x, cornX 2 x + x.w - 1, cornY 2 x + x.h - 1⟩⟩] else tryF b out x 3 (4 - 3)) := Lib.hid rfl
              have hcall := fun W => corner3 x HV.out W
              unfold labV at hcall
              generalize cornX 2 x = cx at hcall HT q1 q2
              generalize cornY 2 x = cy at hcall HT q3 q4
              have ix : ∀ w, (Instr.index 71 (.agg #[.func (.func 61) #[] #[], .func (.func 62) #[] #[], .func (.func 63) #[] #[], .func (.func 64) #[] #[]]) (.int .i64 2)).run Tryz.prog w = .ok (.func (.func 63) #[] #[]) w := fun _ => by kernel_rfl
              have rX := bX.cell
              go_wp2_with fail
              clear rX
              refine (hcall _).mono ?_
              clear hcall
              rintro e w4 ⟨rfl, hb⟩
              replace hW1 := hW1.trans (hb.mono hW1.size)
              replace bX := bX.below hb bX.lt
              replace hown := owns_below hown hb (Nat.le_refl _)
              clear hb
              have rX := bX.cell
              have kX := bX.lt
              have r0 := (b0.below hW1 hlt0).cell
              have k0 := (b0.below hW1 hlt0).lt
              go_wp2_with fail
              clear rX r0
              refine calls_abs (fun W => Below w1.heap.size w1 W ∧ Box W kx #[.string x.id, .int .i64 x.x, .int .i64 x.y, .int .i64 x.w, .int .i64 x.h, .int .i64 x.r] 47 ∧ W.ownsRow w1.heap.size 43 5 (.slice pv out.length cv) out.length (out.flatMap plC) ∧ Box W (w4.heap.size + 1) #[.int .i64 cx, .int .i64 cy, .int .i64 (cx + x.w - 1), .int .i64 (cy + x.h - 1)] 73)
                ⟨(hW1.alloc hW1.size _).alloc (by have := hW1.size; simp; omega) _, (bX.alloc _).alloc _, (hown.alloc _).alloc _, Box.new' (by simp) _ _⟩ ?_
              clear hW1 bX hown kX k0
              rintro W5 ⟨hW1, bX, hown, bF⟩
              have hcall := holds_any b (⟨cx, cy, cx + x.w - 1, cy + x.h - 1⟩ : Bx) W5
              unfold bxV at hcall
              refine hcall.mono ?_
              clear hcall
              rintro e w5 ⟨rfl, hb⟩
              replace hW1 := hW1.trans (hb.mono hW1.size)
              replace bX := bX.below hb bX.lt
              replace bF := bF.below hb bF.lt
              replace hown := owns_below hown hb (Nat.le_refl _)
              clear hb
              cases hin : inF (⟨cx, cy, cx + x.w - 1, cy + x.h - 1⟩ : Bx) b with
              | false =>
                have HO3 : Hid (outF b (isort ltL l) (i + 1) = tryF b out x 3 (4 - 3)) := Lib.hid (by rw [HO2.out, HT.out]; unfold freeF; rw [hin]; rfl)
                clear hin HT HO2
                go_wp2
                go_roundw
                case rel => exact ⟨3, by omega, rfl, rfl, hown, hW1, bX, HO3⟩
                case measure => simp [intOf]
              | true =>
                obtain ⟨p2, c2, e2, -, hLv, -, -⟩ := Lies.of_owns plC_len hown rfl
                cases e2
                have hcall := containsP_any pv out.length cv out (fun p => overF (⟨cx, cy, cx + x.w - 1, cy + x.h - 1⟩ : Bx) p.bx) 39 #[.agg #[.int .i64 cx, .int .i64 cy, .int .i64 (cx + x.w - 1), .int .i64 (cy + x.h - 1)]] #[] w5 hLv rfl (by omega) (enters_of Tryz.func39 (by kernel_rfl) rfl) (fun W' _ x' => meets_any (⟨cx, cy, cx + x.w - 1, cy + x.h - 1⟩ : Bx) x' W')
                cases han : out.any (fun p => overF (⟨cx, cy, cx + x.w - 1, cy + x.h - 1⟩ : Bx) p.bx) with
                | true =>
                  rw [han] at hcall
                  have HO3 : Hid (outF b (isort ltL l) (i + 1) = tryF b out x 3 (4 - 3)) := Lib.hid (by rw [HO2.out, HT.out]; unfold freeF; rw [hin, han]; rfl)
                  have HC := Lib.hid hcall
                  clear hin han HT HO2 hLv hcall
                  go_wp2_with fail
                  refine HC.out.mono ?_
                  rintro e w6 ⟨rfl, hb⟩
                  replace hW1 := hW1.trans (hb.mono hW1.size)
                  replace bX := bX.below hb bX.lt
                  replace hown := owns_below hown hb (Nat.le_refl _)
                  clear hb HC bF
                  go_wp2
                  go_roundw
                  case rel => exact ⟨3, by omega, rfl, rfl, hown, hW1, bX, HO3⟩
                  case measure => simp [intOf]
                | false =>
                  rw [han] at hcall
                  have HO3 : Hid (outF b (isort ltL l) (i + 1) = out ++ [⟨x.id, (⟨cx, cy, cx + x.w - 1, cy + x.h - 1⟩ : Bx)⟩]) := Lib.hid (by rw [HO2.out, HT.out]; unfold freeF; rw [hin, han]; rfl)
                  have HC := Lib.hid hcall
                  clear hin han HT HO2 hLv hcall
                  go_wp2_with fail
                  refine HC.out.mono ?_
                  rintro e w6 ⟨rfl, hb⟩
                  replace hW1 := hW1.trans (hb.mono hW1.size)
                  replace bX := bX.below hb bX.lt
                  replace bF := bF.below hb bF.lt
                  replace hown := owns_below hown hb (Nat.le_refl _)
                  clear hb HC
                  have rX := bX.cell
                  have kX := bX.lt
                  have rF := bF.cell
                  have kF := bF.lt
                  go_wp2_with (at_builtin; refine halted ?_)
                  refine Halted.on ?_
                  refine wpList_append_own _ rfl _ _ 30 rfl w1.heap.size 43 i0 (.agg #[.string ⟨#[]⟩, .int .i64 0, .int .i64 0, .int .i64 0, .int .i64 0]) 5 48 Tryz.underlying30 hi hz0 hz1 hz2 rfl (by decide) _ out.length _ rfl (hown.alloc _) ⟨w6.heap.size, 0, none⟩ 1 1 (plC ⟨x.id, (⟨cx, cy, cx + x.w - 1, cy + x.h - 1⟩ : Bx)⟩) rfl ?qa ?qb ?qc ?qd ?qe ?qf ?_
                  case qa => rfl
                  case qb => exact World.news_of_block (cs := (plC ⟨x.id, (⟨cx, cy, cx + x.w - 1, cy + x.h - 1⟩ : Bx)⟩).toArray) (t := 43) (fr := (0, 0)) (heap_alloc_new w6 _)
                  case qc =>
                    intro u hu
                    simp only [plC, List.mem_cons, List.not_mem_nil, or_false] at hu
                    rcases hu with rfl | rfl | rfl | rfl | rfl <;> rfl
                  case qd => unfold maxLen; omega
                  case qe => omega
                  case qf => have := hW1.size; simp; omega
                  intro v' w7 hown' hgrow _
                  have hb := below_append hown hgrow hW1.size
                  replace hW1 := hW1.trans hb
                  rw [show out.flatMap plC ++ plC ⟨x.id, (⟨cx, cy, cx + x.w - 1, cy + x.h - 1⟩ : Bx)⟩ = (out ++ [(⟨x.id, (⟨cx, cy, cx + x.w - 1, cy + x.h - 1⟩ : Bx)⟩ : Pl)]).flatMap plC by simp] at hown'
                  clear hgrow hb hown bX bF rX kX rF kF
                  go_wp2
                  go_roundw
                  case rel => exact ⟨i + 1, _, by omega, by go_num, rfl, by rw [HO3.out, List.length_append]; exact hown', hW1⟩
                  case measure => simp [intOf]; omega
            · obtain ⟨⟨q1, q2⟩, q3, q4⟩ := corn_bd HV.out 3
              obtain ⟨-, z1, z2, z3, z4⟩ := validL_spec HV.out
              have HT : Hid (tryF b out x 3 (4 - 3) = if freeF b out ⟨cornX 3 x, cornY 3 x, cornX 3 x + x.w - 1, cornY 3 x + x.h - 1⟩ then out ++ [⟨x.id, ⟨cornX 3 x, cornY 3 x, cornX 3 x + x.w - 1, cornY 3 x + x.h - 1⟩⟩] else tryF b out x 4 (4 - 4)) := Lib.hid rfl
              have hcall := fun W => corner4 x HV.out W
              unfold labV at hcall
              generalize cornX 3 x = cx at hcall HT q1 q2
              generalize cornY 3 x = cy at hcall HT q3 q4
              have ix : ∀ w, (Instr.index 71 (.agg #[.func (.func 61) #[] #[], .func (.func 62) #[] #[], .func (.func 63) #[] #[], .func (.func 64) #[] #[]]) (.int .i64 3)).run Tryz.prog w = .ok (.func (.func 64) #[] #[]) w := fun _ => by kernel_rfl
              have rX := bX.cell
              go_wp2_with fail
              clear rX
              refine (hcall _).mono ?_
              clear hcall
              rintro e w4 ⟨rfl, hb⟩
              replace hW1 := hW1.trans (hb.mono hW1.size)
              replace bX := bX.below hb bX.lt
              replace hown := owns_below hown hb (Nat.le_refl _)
              clear hb
              have rX := bX.cell
              have kX := bX.lt
              have r0 := (b0.below hW1 hlt0).cell
              have k0 := (b0.below hW1 hlt0).lt
              go_wp2_with fail
              clear rX r0
              refine calls_abs (fun W => Below w1.heap.size w1 W ∧ Box W kx #[.string x.id, .int .i64 x.x, .int .i64 x.y, .int .i64 x.w, .int .i64 x.h, .int .i64 x.r] 47 ∧ W.ownsRow w1.heap.size 43 5 (.slice pv out.length cv) out.length (out.flatMap plC) ∧ Box W (w4.heap.size + 1) #[.int .i64 cx, .int .i64 cy, .int .i64 (cx + x.w - 1), .int .i64 (cy + x.h - 1)] 73)
                ⟨(hW1.alloc hW1.size _).alloc (by have := hW1.size; simp; omega) _, (bX.alloc _).alloc _, (hown.alloc _).alloc _, Box.new' (by simp) _ _⟩ ?_
              clear hW1 bX hown kX k0
              rintro W5 ⟨hW1, bX, hown, bF⟩
              have hcall := holds_any b (⟨cx, cy, cx + x.w - 1, cy + x.h - 1⟩ : Bx) W5
              unfold bxV at hcall
              refine hcall.mono ?_
              clear hcall
              rintro e w5 ⟨rfl, hb⟩
              replace hW1 := hW1.trans (hb.mono hW1.size)
              replace bX := bX.below hb bX.lt
              replace bF := bF.below hb bF.lt
              replace hown := owns_below hown hb (Nat.le_refl _)
              clear hb
              cases hin : inF (⟨cx, cy, cx + x.w - 1, cy + x.h - 1⟩ : Bx) b with
              | false =>
                have HO3 : Hid (outF b (isort ltL l) (i + 1) = tryF b out x 4 (4 - 4)) := Lib.hid (by rw [HO2.out, HT.out]; unfold freeF; rw [hin]; rfl)
                clear hin HT HO2
                go_wp2
                go_roundw
                case rel => exact ⟨4, by omega, rfl, rfl, hown, hW1, bX, HO3⟩
                case measure => simp [intOf]
              | true =>
                obtain ⟨p2, c2, e2, -, hLv, -, -⟩ := Lies.of_owns plC_len hown rfl
                cases e2
                have hcall := containsP_any pv out.length cv out (fun p => overF (⟨cx, cy, cx + x.w - 1, cy + x.h - 1⟩ : Bx) p.bx) 39 #[.agg #[.int .i64 cx, .int .i64 cy, .int .i64 (cx + x.w - 1), .int .i64 (cy + x.h - 1)]] #[] w5 hLv rfl (by omega) (enters_of Tryz.func39 (by kernel_rfl) rfl) (fun W' _ x' => meets_any (⟨cx, cy, cx + x.w - 1, cy + x.h - 1⟩ : Bx) x' W')
                cases han : out.any (fun p => overF (⟨cx, cy, cx + x.w - 1, cy + x.h - 1⟩ : Bx) p.bx) with
                | true =>
                  rw [han] at hcall
                  have HO3 : Hid (outF b (isort ltL l) (i + 1) = tryF b out x 4 (4 - 4)) := Lib.hid (by rw [HO2.out, HT.out]; unfold freeF; rw [hin, han]; rfl)
                  have HC := Lib.hid hcall
                  clear hin han HT HO2 hLv hcall
                  go_wp2_with fail
                  refine HC.out.mono ?_
                  rintro e w6 ⟨rfl, hb⟩
                  replace hW1 := hW1.trans (hb.mono hW1.size)
                  replace bX := bX.below hb bX.lt
                  replace hown := owns_below hown hb (Nat.le_refl _)
                  clear hb HC bF
                  go_wp2
                  go_roundw
                  case rel => exact ⟨4, by omega, rfl, rfl, hown, hW1, bX, HO3⟩
                  case measure => simp [intOf]
                | false =>
                  rw [han] at hcall
                  have HO3 : Hid (outF b (isort ltL l) (i + 1) = out ++ [⟨x.id, (⟨cx, cy, cx + x.w - 1, cy + x.h - 1⟩ : Bx)⟩]) := Lib.hid (by rw [HO2.out, HT.out]; unfold freeF; rw [hin, han]; rfl)
                  have HC := Lib.hid hcall
                  clear hin han HT HO2 hLv hcall
                  go_wp2_with fail
                  refine HC.out.mono ?_
                  rintro e w6 ⟨rfl, hb⟩
                  replace hW1 := hW1.trans (hb.mono hW1.size)
                  replace bX := bX.below hb bX.lt
                  replace bF := bF.below hb bF.lt
                  replace hown := owns_below hown hb (Nat.le_refl _)
                  clear hb HC
                  have rX := bX.cell
                  have kX := bX.lt
                  have rF := bF.cell
                  have kF := bF.lt
                  go_wp2_with (at_builtin; refine halted ?_)
                  refine Halted.on ?_
                  refine wpList_append_own _ rfl _ _ 30 rfl w1.heap.size 43 i0 (.agg #[.string ⟨#[]⟩, .int .i64 0, .int .i64 0, .int .i64 0, .int .i64 0]) 5 48 Tryz.underlying30 hi hz0 hz1 hz2 rfl (by decide) _ out.length _ rfl (hown.alloc _) ⟨w6.heap.size, 0, none⟩ 1 1 (plC ⟨x.id, (⟨cx, cy, cx + x.w - 1, cy + x.h - 1⟩ : Bx)⟩) rfl ?qa ?qb ?qc ?qd ?qe ?qf ?_
                  case qa => rfl
                  case qb => exact World.news_of_block (cs := (plC ⟨x.id, (⟨cx, cy, cx + x.w - 1, cy + x.h - 1⟩ : Bx)⟩).toArray) (t := 43) (fr := (0, 0)) (heap_alloc_new w6 _)
                  case qc =>
                    intro u hu
                    simp only [plC, List.mem_cons, List.not_mem_nil, or_false] at hu
                    rcases hu with rfl | rfl | rfl | rfl | rfl <;> rfl
                  case qd => unfold maxLen; omega
                  case qe => omega
                  case qf => have := hW1.size; simp; omega
                  intro v' w7 hown' hgrow _
                  have hb := below_append hown hgrow hW1.size
                  replace hW1 := hW1.trans hb
                  rw [show out.flatMap plC ++ plC ⟨x.id, (⟨cx, cy, cx + x.w - 1, cy + x.h - 1⟩ : Bx)⟩ = (out ++ [(⟨x.id, (⟨cx, cy, cx + x.w - 1, cy + x.h - 1⟩ : Bx)⟩ : Pl)]).flatMap plC by simp] at hown'
                  clear hgrow hb hown bX bF rX kX rF kF
                  go_wp2
                  go_roundw
                  case rel => exact ⟨i + 1, _, by omega, by go_num, rfl, by rw [HO3.out, List.length_append]; exact hown', hW1⟩
                  case measure => simp [intOf]; omega
          · obtain rfl : k = 4 := by omega
            have HO3 : Hid (outF b (isort ltL l) (i + 1) = out) := Lib.hid HO2.out
            clear HO2
            go_wp2
            go_roundw
            case rel => exact ⟨i + 1, v, by omega, by go_num, rfl, by rw [HO3.out]; exact hown, hW1⟩
            case measure => simp [intOf]; omega
    · have HE : Hid (i = n') := Lib.hid (by omega)
      go_wp2
      go_ret
      have e : outF b (isort ltL l) i = placeF b l := by
        unfold outF placeF
        rw [List.take_of_length_le (by have := HE.out; have := HN'.out; omega)]
      rw [e] at hown
      exact RetL.of_owns plC_len hown rfl hb0 (hW.trans (hW1.mono hb0))
end Go.Proofs.YtaggohobdjidjaaGreatDoor

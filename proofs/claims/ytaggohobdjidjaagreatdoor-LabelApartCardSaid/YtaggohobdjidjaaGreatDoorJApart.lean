import Derived.Test.YtaggohobdjidjaaGreatDoorJD
import Derived.Test.YtaggohobdjidjaaGreatDoorJL

/- Placed labels are inside the box and apart: plain. -/
namespace Go.Proofs.YtaggohobdjidjaaGreatDoor

def InP (b x : Bx) : Prop := (b.a ≤ x.a ∧ b.b ≤ x.b ∧ x.c ≤ b.c ∧ x.d ≤ b.d) ∧ x.a ≤ x.c ∧ x.b ≤ x.d
def ApartP (b : Bx) (out : List Pl) : Prop := (∀ p ∈ out, InP b p.bx) ∧ out.Pairwise fun p q => overF q.bx p.bx = false

theorem apart_try (b : Bx) (x : Lab) (hv : validL x = true) : ∀ (n k : Nat) (out : List Pl), ApartP b out → ApartP b (tryF b out x k n)
  | 0, _, _, h => by unfold tryF; exact h
  | n + 1, k, out, h => by
    unfold tryF
    split
    · rename_i hf
      unfold freeF at hf
      rw [Bool.and_eq_true] at hf
      obtain ⟨h1, h2⟩ := hf
      have h1' := of_decide_eq_true h1
      have hs := validL_spec hv
      refine ⟨fun p hp => ?_, ?_⟩
      · rcases List.mem_append.1 hp with hp | hp
        · exact h.1 p hp
        · rw [List.mem_singleton] at hp
          subst hp
          refine ⟨h1', ?_, ?_⟩
          · show cornX k x ≤ cornX k x + x.w - 1; omega
          · show cornY k x ≤ cornY k x + x.h - 1; omega
      · rw [List.pairwise_append]
        refine ⟨h.2, List.pairwise_singleton _ _, fun p hp q hq => ?_⟩
        rw [List.mem_singleton] at hq
        subst hq
        have := Bool.not_eq_true' _ ▸ h2
        rw [List.any_eq_false] at this
        exact Bool.eq_false_iff.2 (this p hp)
    · exact apart_try b x hv n (k + 1) out h
theorem apart_fold (b : Bx) : ∀ (l : List Lab) (out : List Pl), ApartP b out → ApartP b (l.foldl (stepF b) out)
  | [], _, h => h
  | x :: l, out, h => by
    rw [List.foldl_cons]
    refine apart_fold b l _ ?_
    unfold stepF
    split
    · rename_i hv
      exact apart_try b x hv 4 0 out h
    · exact h
theorem apart_place (b : Bx) (l : List Lab) : ApartP b (placeF b l) := apart_fold b _ [] ⟨fun p hp => (by cases hp), List.Pairwise.nil⟩
theorem apart_at {b : Bx} {l : List Pl} (h : ApartP b l) {i k : Nat} {x y : Pl} (hx : l[i]? = some x) (hy : l[k]? = some y) (hk : k < i) : overF x.bx y.bx = false := by
  obtain ⟨hi, rfl⟩ := List.getElem?_eq_some_iff.1 hx
  obtain ⟨hk', rfl⟩ := List.getElem?_eq_some_iff.1 hy
  exact List.pairwise_iff_getElem.1 h.2 k i hk' hi hk
/-- Which of the four comparisons says no. -/
theorem over_no {f p : Bx} (h : overF f p = false) : ¬ f.a ≤ p.c ∨ (f.a ≤ p.c ∧ ¬ p.a ≤ f.c) ∨ (f.a ≤ p.c ∧ p.a ≤ f.c ∧ ¬ f.b ≤ p.d) ∨ (f.a ≤ p.c ∧ p.a ≤ f.c ∧ f.b ≤ p.d ∧ ¬ p.b ≤ f.d) := by
  unfold overF at h
  have := of_decide_eq_false h
  omega
end Go.Proofs.YtaggohobdjidjaaGreatDoor

/- planispherelaw43.LabelApart says true. -/
namespace Go.Proofs.YtaggohobdjidjaaGreatDoor
open Go.RowKit Go.Sort Go.Shelf

set_option maxHeartbeats 8000000 in
set_option maxRecDepth 100000 in
theorem apart_law (p : Option Addr) (n cap : Nat) (l : List Lab) (b : Bx) (w : World) (hL : Lies w 6 labC p l) (hn : n = l.length) (hc : p = none → cap = 0) (h1 : n ≤ maxLen) (hG : Gw w) :
    Calls Tryz.prog 5 #[.slice p n cap, bxV b] w (RetB w (.bool true)) := by
  have HL := Lib.hid hL
  have HN := Lib.hid hn
  have HC := Lib.hid hc
  have HG := Lib.hid hG
  have HM := Lib.hid h1
  clear hL hn hc hG h1
  obtain ⟨ba, bb, bc, bd⟩ := b
  unfold bxV
  dsimp only
  go_enter Tryz.func5, Tryz.ntmps5
  go_wp2_with fail
  have hG1 := HG.out.below (B := w.heap.size) ((Below.refl _ _).alloc (Nat.le_refl _) (.cells #[.int .i64 ba, .int .i64 bb, .int .i64 bc, .int .i64 bd] 26)) HG.out.size
  refine (head_any _ hG1).mono ?_
  rintro e w1 ⟨rfl, hb⟩
  have b0 : Box w1 w.heap.size #[.int .i64 ba, .int .i64 bb, .int .i64 bc, .int .i64 bd] 26 := (Box.new _ _ _).below hb (by simp)
  have hW : Below w.heap.size w w1 := ((Below.refl _ _).alloc (Nat.le_refl _) _).trans (hb.mono (by simp))
  clear hb hG1
  go_wp2_with fail
  refine (few_any p n cap l 40 w1 (HL.out.below hW (Nat.le_refl _)) HN.out HM.out (by decide)).mono ?_
  rintro e w2 ⟨few, rfl, hfew, hb⟩
  replace b0 := b0.below hb b0.lt
  replace hW := hW.trans (hb.mono hW.size)
  clear hb
  cases few with
  | false =>
    go_wp2
    go_ret
    exact RetB.mk' rfl hW
  | true =>
    have h40 : n ≤ 40 := hfew rfl
    have HPC := Lib.hid (place_any p n cap l ⟨ba, bb, bc, bd⟩ w2 (HL.out.below hW (Nat.le_refl _)) HN.out h40 HC.out)
    have r0 := b0.cell
    clear hfew
    go_wp2_with fail
    refine HPC.out.mono ?_
    rintro e w3 ⟨q, m, cq, rfl, hm, hcq, hQ, -, -, hb⟩
    have hpl := placeF_length ⟨ba, bb, bc, bd⟩ l
    have HAP := Lib.hid (apart_place ⟨ba, bb, bc, bd⟩ l)
    rw [← hm, ← HN.out] at hpl
    obtain ⟨ps, hps⟩ : ∃ q, placeF ⟨ba, bb, bc, bd⟩ l = q := ⟨_, rfl⟩
    rw [hps] at hm hQ HAP
    have HQ := Lib.hid hQ
    have HMM := Lib.hid hm
    replace b0 := b0.below hb b0.lt
    replace hW := hW.trans (hb.mono hW.size)
    clear hb hQ hm hps r0 HPC
    go_wp2
    have hs3 := hW.size
    have k0 := b0.lt
    go_loopw [7] (fun vi wr => ∃ i : Nat, i ≤ m ∧ vi = .int .i64 i ∧ Below w.heap.size w wr ∧ Box wr w.heap.size #[.int .i64 ba, .int .i64 bb, .int .i64 bc, .int .i64 bd] 26 ∧ Below w3.heap.size w3 wr) (fun vi _ => m - (intOf vi).toNat)
    case atStart => exact ⟨0, by omega, rfl, hW, b0, Below.refl _ _⟩
    case round =>
      clear hW b0
      obtain ⟨i, hi, rfl, hW, b0, hB3⟩ := hrel
      have r0 := b0.cell
      have k0 := b0.lt
      by_cases hlt : i < m
      · obtain ⟨x, hx⟩ : ∃ x, ps[i]? = some x := ⟨_, List.getElem?_eq_getElem (by have := HMM.out; omega)⟩
        obtain ⟨g, o, rfl⟩ := HQ.out.addr (by have := HMM.out; omega)
        obtain ⟨c0, c1, c2, c3, c4⟩ := (HQ.out.below hB3 (Nat.le_refl _)).pl hx
        obtain ⟨xid, xa, xb, xc, xd⟩ := x
        dsimp only at c0 c1 c2 c3 c4
        obtain ⟨⟨u1, u2, u3, u4⟩, u5, u6⟩ := HAP.out.1 _ (List.mem_of_getElem? hx)
        dsimp only at u1 u2 u3 u4 u5 u6
        have HX := Lib.hid hx
        clear hx
        have q0 : decide (i < m) = true := decide_eq_true hlt
        have q1 : decide (xa < ba) = false := decide_eq_false (by omega)
        have q2 : decide (xb < bb) = false := decide_eq_false (by omega)
        have q3 : decide (bc < xc) = false := decide_eq_false (by omega)
        have q4 : decide (bd < xd) = false := decide_eq_false (by omega)
        have q5 : decide (xc < xa) = false := decide_eq_false (by omega)
        have q6 : decide (xd < xb) = false := decide_eq_false (by omega)
        clear u1 u2 u3 u4 u5 u6
        go_wp2
        clear r0 c0 c1 c2 c3 c4 q1 q2 q3 q4 q5 q6
        have hwr := hB3.size
        obtain ⟨kr, hkr⟩ : ∃ k, wr.heap.size = k := ⟨_, rfl⟩
        go_loopw [9] (fun vk wi => ∃ k : Nat, k ≤ i ∧ vk = .int .i64 k ∧ Below w.heap.size w wi ∧ Box wi w.heap.size #[.int .i64 ba, .int .i64 bb, .int .i64 bc, .int .i64 bd] 26 ∧ Below w3.heap.size w3 wi ∧ Box wi kr #[.int .i64 xa, .int .i64 xb, .int .i64 xc, .int .i64 xd] 26) (fun vk _ => i - (intOf vk).toNat)
        case atStart => exact ⟨0, by omega, rfl, hW.alloc hW.size _, b0.alloc _, hB3.alloc hwr _, Box.new' hkr.symm _ _⟩
        case round =>
          clear hW b0 hB3
          obtain ⟨k, hk, rfl, hW, b0, hB3, bx⟩ := hrel
          have rx := bx.cell
          have kx := bx.lt
          by_cases hki : k < i
          · obtain ⟨y, hy⟩ : ∃ y, ps[k]? = some y := ⟨_, List.getElem?_eq_getElem (by have := HMM.out; omega)⟩
            obtain ⟨c0, c1, c2, c3, c4⟩ := (HQ.out.below hB3 (Nat.le_refl _)).pl hy
            have hov := over_no (apart_at HAP.out HX.out hy hki)
            obtain ⟨yid, ya, yb, yc, yd⟩ := y
            dsimp only at c0 c1 c2 c3 c4 hov
            have q0 : decide (k < i) = true := decide_eq_true hki
            have hwi := hB3.size
            have hkm : k < m := by omega
            clear hy
            rcases hov with h1 | ⟨h1, h2⟩ | ⟨h1, h2, h3⟩ | ⟨h1, h2, h3, h4⟩
            · have q1 : decide (xa ≤ yc) = false := decide_eq_false h1
              clear h1
              go_wp2
              go_roundw
              case rel => exact ⟨k + 1, by omega, by go_num, hW.alloc hW.size _, b0.alloc _, hB3.alloc hwi _, bx.alloc _⟩
              case measure => simp [intOf]; omega
            · have q1 : decide (xa ≤ yc) = true := decide_eq_true h1
              have q2 : decide (ya ≤ xc) = false := decide_eq_false h2
              clear h1 h2
              go_wp2
              go_roundw
              case rel => exact ⟨k + 1, by omega, by go_num, hW.alloc hW.size _, b0.alloc _, hB3.alloc hwi _, bx.alloc _⟩
              case measure => simp [intOf]; omega
            · have q1 : decide (xa ≤ yc) = true := decide_eq_true h1
              have q2 : decide (ya ≤ xc) = true := decide_eq_true h2
              have q3 : decide (xb ≤ yd) = false := decide_eq_false h3
              clear h1 h2 h3
              go_wp2
              go_roundw
              case rel => exact ⟨k + 1, by omega, by go_num, hW.alloc hW.size _, b0.alloc _, hB3.alloc hwi _, bx.alloc _⟩
              case measure => simp [intOf]; omega
            · have q1 : decide (xa ≤ yc) = true := decide_eq_true h1
              have q2 : decide (ya ≤ xc) = true := decide_eq_true h2
              have q3 : decide (xb ≤ yd) = true := decide_eq_true h3
              have q4 : decide (yb ≤ xd) = false := decide_eq_false h4
              clear h1 h2 h3 h4
              go_wp2
              go_roundw
              case rel => exact ⟨k + 1, by omega, by go_num, hW.alloc hW.size _, b0.alloc _, hB3.alloc hwi _, bx.alloc _⟩
              case measure => simp [intOf]; omega
          · obtain rfl : k = i := by omega
            have q0 : decide (k < k) = false := decide_eq_false (by omega)
            go_wp2
            go_roundw
            case rel => exact ⟨k + 1, by omega, by go_num, hW, b0, hB3⟩
            case measure => simp [intOf]; omega
      · obtain rfl : i = m := by omega
        have q0 : decide (i < i) = false := decide_eq_false (by omega)
        have q1 : decide (i ≤ n) = true := decide_eq_true hpl
        have q2 : decide ((i : Int) ≤ (n : Int)) = true := decide_eq_true (by omega)
        go_wp2
        go_ret
        exact RetB.mk' rfl hW
end Go.Proofs.YtaggohobdjidjaaGreatDoor

import Derived.Test.YtaggohobdjidjaaGreatDoorJE
import Derived.Test.YtaggohobdjidjaaGreatDoorJA
import Derived.Maps.Own
import Derived.Maps.OwnOps
import Derived.Maps.OwnSet
import Derived.Maps.Views
import Derived.Test.YtaggohobdjidjaaGreatDoorJ0
import Derived.Laws.StructEq
import Derived.Laws.EntriesVeiled

/- lexer.Name: is a text a name? Texts that can be. -/
namespace Go.Proofs.YtaggohobdjidjaaGreatDoor
open Go.Shelf Go.RowKit Go.Sort

theorem fit_step {s : ByteArray} {i : Nat} (hi : i < s.size) : fitB (s.data.toList.take (i + 1)) = (fitB (s.data.toList.take i) && wordB (i == 0) s[i].toNat) := fitB_take_succ (l := s.data.toList) (by simpa using hi)

set_option maxHeartbeats 8000000 in
set_option maxRecDepth 100000 in
theorem name_gen (cV : Array Value) (hget : ∀ j, j < 256 → cV[j]? = some (.int .u8 (clsN j))) (hsz : cV.size = 256) (h1 : cV.all (·.oneCell') = true) (hcall : ∀ w, Calls Tryz.prog 108 #[] w (RetB w (.agg cV)))
    (s : ByteArray) (w : World) (hs : s.size ≤ maxLen) : Calls Tryz.prog 81 #[.string s] w (RetB w (.bool (nameB s.data.toList))) := by
  have HG := Lib.hid hget
  have HZ := Lib.hid hsz
  have H1 := Lib.hid h1
  have HC := Lib.hid hcall
  clear hget hsz h1 hcall
  unfold maxLen at hs
  go_enter Tryz.func81, Tryz.ntmps81
  go_wp2_with fail
  refine (HC.out _).mono ?_
  rintro e w1 ⟨rfl, hb⟩
  go_wp2_with (first
    | refine wpList_store_mid rfl 132 (.tmp 3) (.tmp 6) rfl w1.heap.size 0 cV (by rfl) (by rfl) ?qa ?qb H1.out ?_)
  case qa => rw [HZ.out]; exact (Box.new _ _ _).there
  case qb => rw [HZ.out]; kernel_rfl
  have b0 : Box ((w1.alloc (.cells (Array.replicate 256 (.int .u8 0)) 132)).setCells w1.heap.size 0 cV.toList) w1.heap.size cV 132 := (Box.new _ _ _).setAll (by rw [HZ.out]; simp)
  have hW : Below w.heap.size w ((w1.alloc (.cells (Array.replicate 256 (.int .u8 0)) 132)).setCells w1.heap.size 0 cV.toList) := Below.setCells' hb.size _ _ _ (hb.alloc hb.size _)
  have B0 := Lib.hid b0
  have HW := Lib.hid hW
  have hsz := hb.size
  clear b0 hW hb
  obtain ⟨kb, hkb⟩ : ∃ kb, w1.heap.size = kb := ⟨_, rfl⟩
  rw [hkb] at hsz ⊢
  replace B0 := Lib.hid (by have := B0.out; rw [hkb] at this; exact this)
  replace HW := Lib.hid (by have := HW.out; rw [hkb] at this; exact this)
  clear hkb
  go_loopw [5, 9] (fun _ vi wr => ∃ i : Nat, i ≤ s.size ∧ vi = .int .i64 i ∧ Below w.heap.size w wr ∧ Box wr kb cV 132 ∧ Hid (fitB (s.data.toList.take i) = true)) (fun _ vi _ => s.size - (intOf vi).toNat)
  case atStart => exact ⟨0, by omega, rfl, HW.out, B0.out, Lib.hid (fitB_take_zero _)⟩
  case round =>
    clear B0 HW
    obtain ⟨i, hi, rfl, hW, b0, HF⟩ := hrel
    by_cases hlt : i < s.size
    · have hstep := fit_step hlt
      rw [HF.out, Bool.true_and] at hstep
      have hlb : s[i].toNat < 256 := s[i].toNat_lt
      have hc := b0.cell s[i].toNat
      rw [HG.out _ hlb] at hc
      have B0 := Lib.hid b0
      clear b0
      obtain ⟨n, hn⟩ : ∃ n, n = clsN s[i].toNat := ⟨_, rfl⟩
      rw [← hn] at hc
      have hwd : wordB (i == 0) s[i].toNat = (n == 3 || (!(i == 0) && (n == 4 || n == 5))) := by unfold wordB; rw [hn]
      rw [hwd] at hstep
      clear hn hwd
      by_cases n3 : n = 3
      · subst n3
        have HS : Hid (fitB (s.data.toList.take (i + 1)) = true) := Lib.hid (by rw [hstep]; rfl)
        clear hstep HF
        go_wp2
        go_roundw
        case rel => exact ⟨i + 1, by omega, by go_num, hW, B0.out, HS⟩
        case measure => simp [intOf]; omega
      · by_cases n45 : n = 4 ∨ n = 5
        · by_cases i0 : i = 0
          · have HS : Hid (fitB s.data.toList = false) := Lib.hid (fitB_mono (i := i + 1) (by rw [hstep, i0]; simp [n3]))
            subst i0
            clear hstep HF n3
            rcases n45 with rfl | rfl
            · go_wp2
              go_ret
              exact RetB.mk' (congrArg Value.bool (by rw [nameB_eq, HS.out]; rfl)) hW
            · go_wp2
              go_ret
              exact RetB.mk' (congrArg Value.bool (by rw [nameB_eq, HS.out]; rfl)) hW
          · have HS : Hid (fitB (s.data.toList.take (i + 1)) = true) := Lib.hid (by rw [hstep]; rcases n45 with rfl | rfl <;> simp [i0])
            have hi0 : ((i : Int) == 0) = false := by rw [beq_eq_false_iff_ne]; omega
            clear hstep HF n3
            rcases n45 with rfl | rfl
            · go_wp2
              go_roundw
              case rel => exact ⟨i + 1, by omega, by go_num, hW, B0.out, HS⟩
              case measure => simp [intOf]; omega
            · go_wp2
              go_roundw
              case rel => exact ⟨i + 1, by omega, by go_num, hW, B0.out, HS⟩
              case measure => simp [intOf]; omega
        · have HS : Hid (fitB s.data.toList = false) := Lib.hid (fitB_mono (i := i + 1) (by rw [hstep]; simp [n3]; omega))
          have m3 : ((n : Int) == 3) = false := by rw [beq_eq_false_iff_ne]; omega
          have m4 : ((n : Int) == 4) = false := by rw [beq_eq_false_iff_ne]; omega
          have m5 : ((n : Int) == 5) = false := by rw [beq_eq_false_iff_ne]; omega
          have w3 : ((n : Int) != 3) = true := by rw [bne_iff_ne]; omega
          have w4 : ((n : Int) != 4) = true := by rw [bne_iff_ne]; omega
          have w5 : ((n : Int) != 5) = true := by rw [bne_iff_ne]; omega
          clear hstep HF n3 n45
          by_cases i0 : i = 0
          · subst i0
            go_wp2
            go_ret
            exact RetB.mk' (congrArg Value.bool (by rw [nameB_eq, HS.out]; rfl)) hW
          · have hi0 : ((i : Int) == 0) = false := by rw [beq_eq_false_iff_ne]; omega
            go_wp2
            go_ret
            exact RetB.mk' (congrArg Value.bool (by rw [nameB_eq, HS.out]; rfl)) hW
    · have HE : Hid (i = s.size) := Lib.hid (by omega)
      have HS : Hid (fitB s.data.toList = true) := Lib.hid (by
        have h := HF.out
        rw [List.take_of_length_le (by simp; have := HE.out; omega)] at h
        exact h)
      have HL : Hid (s.data.toList.length = s.size) := Lib.hid (by simp)
      clear HF
      by_cases z : s.size = 0
      · have h0 : s.toList = [] := by rw [ByteArray.toList_eq]; exact List.length_eq_zero_iff.1 (HL.out.trans z)
        have h2 : s.toList.isEmpty = true := by rw [h0]; rfl
        have HN : Hid (nameB s.data.toList = false) := Lib.hid (by rw [ByteArray.toList_eq] at h0; rw [h0]; rfl)
        clear z
        go_wp2
        go_ret
        exact RetB.mk' (congrArg Value.bool (by rw [HN.out])) hW
      · have h2 : s.toList.isEmpty = false := by
          rw [ByteArray.toList_eq]
          cases h : s.data.toList with
          | nil => exfalso; apply z; have := HL.out; rw [h] at this; simpa using this.symm
          | cons c r => rfl
        have HN : Hid (nameB s.data.toList = decide (s.size ≤ 24)) := Lib.hid (by
          rw [ByteArray.toList_eq] at h2
          simp only [nameB_eq, HS.out, h2, HL.out, Bool.true_and, Bool.not_false])
        have h3 : s.toList ≠ [] := fun e => by rw [e] at h2; cases h2
        by_cases h24 : s.size ≤ 24
        · have hd : decide (s.size ≤ 24) = true := decide_eq_true h24
          go_wp2
          go_ret
          exact RetB.mk' (congrArg Value.bool (by rw [HN.out]; simp [h24]; omega)) hW
        · have hd : decide (s.size ≤ 24) = false := decide_eq_false h24
          go_wp2
          go_ret
          exact RetB.mk' (congrArg Value.bool (by rw [HN.out]; simp [h24]; omega)) hW

theorem name_any (s : ByteArray) (w : World) (hs : s.size ≤ maxLen) : Calls Tryz.prog 81 #[.string s] w (RetB w (.bool (nameB s.data.toList))) :=
  name_gen clsV clsV_get (by simp [clsV]) clsW.one classes_any s w hs
end Go.Proofs.YtaggohobdjidjaaGreatDoor

/- tag.Valid, tag.Get. -/
namespace Go.Proofs.YtaggohobdjidjaaGreatDoor
open Go.Shelf Go.RowKit Go.Sort

def tagC (t : Tg) : List Value := [.string t.1, .string t.2]
theorem tagC_len (t : Tg) : (tagC t).length = 2 := rfl
theorem Lies.tg {W : World} {g o i : Nat} {l : List Tg} {x : Tg} (h : Lies W 2 tagC (some ⟨g, o, none⟩) l) (hx : l[i]? = some x) : W.cell? ⟨g, o + i * 2, none⟩ = some (.string x.1) ∧ W.cell? ⟨g, o + i * 2 + 1, none⟩ = some (.string x.2) :=
  ⟨h.cell g o rfl i x hx 0 (by omega), h.cell g o rfl i x hx 1 (by omega)⟩

/-- All texts are small. -/
def SmallT (l : List Tg) : Prop := ∀ t ∈ l, t.1.size ≤ 1000000 ∧ t.2.size ≤ 1000000

theorem isEmpty_of_size {s : ByteArray} (h : s.size = 0) : s.toList.isEmpty = true ∧ s.toList = [] := by
  have : s.toList = [] := by rw [ByteArray.toList_eq]; exact List.length_eq_zero_iff.1 (by simpa using h)
  exact ⟨by rw [this]; rfl, this⟩
theorem isEmpty_of_pos {s : ByteArray} (h : s.toList.isEmpty = false) : s.toList ≠ [] ∧ 0 < s.size := by
  refine ⟨fun e => (by rw [e] at h; cases h), ?_⟩
  rw [ByteArray.toList_eq] at h
  cases hs : s.data.toList with
  | nil => rw [hs] at h; cases h
  | cons c r =>
    have : s.data.toList.length = s.size := by simp
    rw [hs] at this
    simp at this
    omega

set_option maxHeartbeats 4000000 in
set_option maxRecDepth 100000 in
theorem tagValid_any (p : Option Addr) (n cap : Nat) (l : List Tg) (w : World) (hL : Lies w 2 tagC p l) (hn : n = l.length) (hz : SmallT l) (hn1 : n ≤ 1000000) :
    Calls Tryz.prog 51 #[.slice p n cap] w (RetB w (.bool (tagsB l))) := by
  have HL := Lib.hid hL
  have HN := Lib.hid hn
  have HZ := Lib.hid hz
  clear hL hn hz
  go_enter Tryz.func51, Tryz.ntmps51
  go_wp2
  go_loopw [3, 8] (fun vl vi wr => ∃ (i : Nat) (last : ByteArray), i ≤ n ∧ vi = .int .i64 i ∧ vl = .string last ∧ Below w.heap.size w wr ∧ Hid (last = lastK Prod.fst ByteArray.empty l i ∧ chainB okT Prod.fst ByteArray.empty (l.take i) = true)) (fun _ vi _ => n - (intOf vi).toNat)
  case atStart => exact ⟨0, _, by omega, rfl, rfl, Below.refl _ _, Lib.hid ⟨(lastK_zero _ _ _).symm, chain_zero _ _ _ _⟩⟩
  case round =>
    obtain ⟨i, last, hi, rfl, rfl, hW, HF⟩ := hrel
    by_cases hlt : i < n
    · obtain ⟨g, o, rfl⟩ := HL.out.addr (by have := HN.out; omega)
      obtain ⟨x, hx⟩ : ∃ x, l[i]? = some x := ⟨_, List.getElem?_eq_getElem (by have := HN.out; omega)⟩
      obtain ⟨r0, r1⟩ := (HL.out.below hW HL.out.lt).tg hx
      have hsm := HZ.out x (List.mem_of_getElem? hx)
      obtain ⟨k, v⟩ := x
      dsimp only at r0 r1 hsm
      have HX := Lib.hid hx
      have hs := hW.size
      clear hx
      have BAD : ∀ b, (okT (k, v) && Op.bytesLess last.toList k.toList) = false → b = false → Hid (b = tagsB l) := fun b h hb => Lib.hid (by
        unfold tagsB
        rw [chain_bad okT Prod.fst l ByteArray.empty i (k, v) HX.out (by rw [← HF.out.1]; exact h), Bool.false_and, hb])
      have HBAD := Lib.hid BAD
      clear BAD
      go_wp2_with fail
      refine calls_abs (fun W => Below w.heap.size w W ∧ Box W wr.heap.size #[.string k, .string v] 69) ⟨hW.alloc hW.size _, Box.new _ _ _⟩ ?_
      clear hW r0 r1
      rintro W ⟨hW, b0⟩
      refine (name_any k W (by unfold maxLen; omega)).mono ?_
      rintro e w1 ⟨rfl, hb⟩
      replace hW := hW.trans (hb.mono hW.size)
      replace b0 := b0.below hb b0.lt
      clear hb
      have r0 := b0.cell
      have lo : (Op.bytesLess k.toList last.toList || k.toList == last.toList) = !Op.bytesLess last.toList k.toList := less_or _ _
      cases hnm : nameB k.data.toList with
      | false =>
        have HR := HBAD.out false (by unfold okT; rw [hnm]; rfl) rfl
        clear hnm lo
        go_wp2
        go_ret
        exact RetB.mk' (congrArg Value.bool HR.out) hW
      | true =>
        have HNM := Lib.hid hnm
        clear hnm
        cases hls : Op.bytesLess last.toList k.toList with
        | false =>
          have HR := HBAD.out false (by rw [hls, Bool.and_false]) rfl
          rw [hls, Bool.not_false] at lo
          clear hls
          go_wp2
          go_ret
          exact RetB.mk' (congrArg Value.bool HR.out) hW
        | true =>
          rw [hls, Bool.not_true] at lo
          have HLS := Lib.hid hls
          clear hls
          by_cases hv : v.size = 0
          · obtain ⟨e1, e2⟩ := isEmpty_of_size hv
            have HR := HBAD.out false (by unfold okT; rw [e1]; simp) rfl
            clear hv
            go_wp2
            go_ret
            exact RetB.mk' (congrArg Value.bool HR.out) hW
          · have e1 : v.toList.isEmpty = false := by
              cases h : v.toList.isEmpty with
              | false => rfl
              | true =>
                exfalso; apply hv
                rw [ByteArray.toList_eq, List.isEmpty_iff] at h
                have : v.data.toList.length = v.size := by simp
                rw [h] at this
                simpa using this.symm
            have e2 := (isEmpty_of_pos e1).1
            by_cases h200 : 200 < v.size
            · have HR := HBAD.out false (by unfold okT; rw [decide_eq_false (show ¬ v.size ≤ 200 by omega)]; simp) rfl
              clear hv
              go_wp2
              go_ret
              exact RetB.mk' (congrArg Value.bool HR.out) hW
            · have HF2 : Hid (k = lastK Prod.fst ByteArray.empty l (i + 1) ∧ chainB okT Prod.fst ByteArray.empty (l.take (i + 1)) = true) := Lib.hid ⟨(lastK_succ Prod.fst l _ i _ HX.out).symm, by
                rw [chain_succ okT Prod.fst l _ i _ HX.out, HF.out.2, ← HF.out.1]
                show (true && (okT (k, v) && Op.bytesLess last.toList k.toList)) = true
                rw [HLS.out]
                unfold okT
                rw [HNM.out, e1, decide_eq_true (show v.size ≤ 200 by omega)]
                rfl⟩
              clear hv
              go_wp2
              go_roundw
              case rel => exact ⟨i + 1, k, by omega, by go_num, rfl, hW, HF2⟩
              case measure => simp [intOf]; omega
    · have HE : Hid (i = n) := Lib.hid (by omega)
      have HR : Hid (tagsB l = decide (n ≤ 60)) := Lib.hid (by
        have h := HF.out.2
        rw [List.take_of_length_le (by have := HE.out; have := HN.out; omega)] at h
        unfold tagsB
        rw [h, Bool.true_and, HN.out])
      go_wp2
      go_ret
      exact RetB.mk' (congrArg Value.bool (by rw [HR.out]; simp; try omega)) hW
end Go.Proofs.YtaggohobdjidjaaGreatDoor

/- A map of the call's own, as the set of the texts that were laid into it. -/
namespace Go.Proofs.YtaggohobdjidjaaGreatDoor
open Go.Shelf Go.RowKit Go.Sort Go.Maps Go.ChangeMaps Go.WideMaps

def seenD : List ByteArray → DataW Unit
  | [] => .map []
  | s :: l => (seenD l).put (.string s.data.toList) (.lit (.bool true))
theorem seenD_map : ∀ l, Maps.IsMap (seenD l)
  | [] => ⟨[], rfl⟩
  | s :: l => by
    obtain ⟨es, h⟩ := seenD_map l
    unfold seenD
    rw [h]
    exact ⟨_, rfl⟩
theorem seenD_at (s : ByteArray) : ∀ l, (seenD l).atKey (.string s.data.toList) (.lit (.bool false)) = .lit (.bool (l.any fun u => u.toList == s.toList))
  | [] => rfl
  | u :: l => by
    unfold seenD
    rw [List.any_cons]
    by_cases h : u.data.toList = s.data.toList
    · rw [h, Maps.atKey_put_same (seenD_map l) (by simp [WideAt.IsKeyLit]), ByteArray.toList_eq, ByteArray.toList_eq, h]
      simp
    · rw [Maps.atKey_put_other (by intro e; injection e with e; exact h e.symm), seenD_at s l]
      have : (u.toList == s.toList) = false := by rw [ByteArray.toList_eq, ByteArray.toList_eq]; exact beq_eq_false_iff_ne.2 h
      rw [this, Bool.false_or]

/-- Block b is a map that holds just these texts. -/
def Seen (w : World) (b : Nat) (l : List ByteArray) : Prop := w.ownsMap Tryz.prog 9 (plainElem (H := Unit) Tryz.prog 4) b l.length (seenD l)

theorem Seen.lt {w : World} {b : Nat} {l : List ByteArray} (h : Seen w b l) : b < w.heap.size := by
  obtain ⟨es, clock, hb, _⟩ := h
  exact (Array.getElem?_eq_some_iff.1 hb).1
theorem Seen.below {w w' : World} {B b : Nat} {l : List ByteArray} (h : Seen w b l) (hb : Below B w w') (hB : b < B) : Seen w' b l := by
  obtain ⟨es, clock, h0, r⟩ := h
  exact ⟨es, clock, (hb.block b hB).trans h0, r⟩
theorem Seen.alloc {w : World} {b : Nat} {l : List ByteArray} (h : Seen w b l) (o : Obj) : Seen (w.alloc o) b l := World.ownsMap.alloc h o
theorem Seen.made (w : World) : Seen (w.alloc (.map #[] 0)) w.heap.size [] := World.ownsMap_made _ _ _ _
theorem Seen.set_other {w : World} {b b' : Nat} {l : List ByteArray} (h : Seen w b l) (hne : b ≠ b') (i : Nat) (v : Value) : Seen (w.setCell ⟨b', i, none⟩ v) b l := by
  obtain ⟨es, clock, h0, r⟩ := h
  exact ⟨es, clock, (Below.heap_setCell w ⟨b', i, none⟩ v b hne).trans h0, r⟩

theorem keyStr {s : ByteArray} (hs : s.size ≤ maxLen) : keyOf Tryz.prog 9 (.string s) = some (.string s.data.toList) := keyOf_string_mk Tryz.underlying9 hs
theorem keyedStr : Keyed Tryz.prog 9 := string_keyed Tryz.underlying9

set_option maxRecDepth 100000 in
theorem Seen.look {w : World} {b : Nat} {l : List ByteArray} (h : Seen w b l) {s : ByteArray} (hs : s.size ≤ maxLen) :
    (Instr.lookup 114 (.map (some b)) (.string s) false).run Tryz.prog w = .ok (.bool (l.any fun u => u.toList == s.toList)) w := by
  obtain ⟨v, ps, hrun, hv⟩ := World.ownsMap.lookup h keyedStr Tryz.underlying114 (Tryz.zeroValue4 w) (plainElem_bool Tryz.underlying4 false) (keyStr hs)
  rw [seenD_at] at hv
  rw [hrun]
  unfold plainElem at hv
  rw [Tryz.underlying4] at hv
  cases v <;> simp at hv
  rw [hv.1]
end Go.Proofs.YtaggohobdjidjaaGreatDoor

/- Points are equal exactly if their numbers are. -/
namespace Go.Proofs.YtaggohobdjidjaaGreatDoor
open Go.RowKit Go.Sort

theorem point_in (d : Nat) (a b a' b' : Int) (w : World) : (Op.equalIn (d + 2) 24 (.agg #[.int .i64 a, .int .i64 b]) (.agg #[.int .i64 a', .int .i64 b'])).run Tryz.prog w = .ok (decide (a = a' ∧ b = b')) w := by
  rw [run_equalIn_struct (P := Tryz.prog) w (d + 1) 24 _ _ (by kernel_rfl) (by kernel_rfl)]
  simp [go_sem, Program.fieldsOf, Tryz.underlying24, Tryz.underlying3]
  by_cases h0 : a = a' <;> by_cases h1 : b = b' <;> simp [h0, h1]

theorem point_eql (a b a' b' : Int) (w : World) : (binOp .eql 24 (.agg #[.int .i64 a, .int .i64 b]) (.agg #[.int .i64 a', .int .i64 b'])).run Tryz.prog w = .ok (.bool (decide (a = a' ∧ b = b'))) w := by
  rw [run_eql_struct, point_in 9998]
  rfl

theorem point_yes {a b a' b' : Int} (h : a = a' ∧ b = b') (w : World) : (binOp .eql 24 (.agg #[.int .i64 a, .int .i64 b]) (.agg #[.int .i64 a', .int .i64 b'])).run Tryz.prog w = .ok (.bool true) w := by
  rw [point_eql, decide_eq_true h]
theorem point_no {a b a' b' : Int} (h : ¬(a = a' ∧ b = b')) (w : World) : (binOp .eql 24 (.agg #[.int .i64 a, .int .i64 b]) (.agg #[.int .i64 a', .int .i64 b'])).run Tryz.prog w = .ok (.bool false) w := by
  rw [point_eql, decide_eq_false h]
end Go.Proofs.YtaggohobdjidjaaGreatDoor

/- The small functions of object.Valid. -/
namespace Go.Proofs.YtaggohobdjidjaaGreatDoor
open Go.Shelf Go.RowKit Go.Sort

/-- The word of a kind. -/
def wordF (k : Int) : ByteArray := if k = 1 then ⟨#[110, 111, 100, 101]⟩ else if k = 2 then ⟨#[119, 97, 121]⟩ else if k = 3 then ⟨#[97, 114, 101, 97]⟩ else if k = 4 then ⟨#[114, 111, 117, 116, 101]⟩ else if k = 5 then ⟨#[116, 117, 114, 110]⟩ else ⟨#[]⟩
theorem wordF_ok {k : Int} (h : 1 ≤ k ∧ k ≤ 5) : (wordF k).toList.isEmpty = false := by
  rcases (show k = 1 ∨ k = 2 ∨ k = 3 ∨ k = 4 ∨ k = 5 by omega) with rfl | rfl | rfl | rfl | rfl <;> (rw [ByteArray.toList_eq]; rfl)
theorem wordF_bad {k : Int} (h : ¬(1 ≤ k ∧ k ≤ 5)) : wordF k = ⟨#[]⟩ := by
  unfold wordF
  rw [if_neg (by omega), if_neg (by omega), if_neg (by omega), if_neg (by omega), if_neg (by omega)]

set_option maxHeartbeats 2000000 in
theorem word_any (k : Int) (w : World) : Calls Tryz.prog 80 #[.int .i64 k] w (RetB w (.string (wordF k))) := by
  by_cases h : 0 ≤ k ∧ k ≤ 5
  · rcases (show k = 0 ∨ k = 1 ∨ k = 2 ∨ k = 3 ∨ k = 4 ∨ k = 5 by omega) with rfl | rfl | rfl | rfl | rfl | rfl
    all_goals
      go_enter Tryz.func80, Tryz.ntmps80
      go_wp2
      go_ret
      exact RetB.mk' rfl (by repeat (first | assumption | exact Below.refl _ _ | refine Below.setCell ?_ (by first | (simp; done) | (simp; omega) | omega) _ | refine Below.alloc ?_ (by first | (simp; done) | (simp; omega) | omega) _))
  · have hb := Lib.hid (wordF_bad (k := k) (by omega))
    by_cases h0 : k < 0
    · have hd : decide (k < 0) = true := decide_eq_true h0
      clear h
      go_enter Tryz.func80, Tryz.ntmps80
      go_wp2
      go_ret
      exact RetB.mk' (congrArg Value.string hb.out.symm) (by repeat (first | assumption | exact Below.refl _ _ | refine Below.setCell ?_ (by first | (simp; done) | (simp; omega) | omega) _ | refine Below.alloc ?_ (by first | (simp; done) | (simp; omega) | omega) _))
    · have hd : decide (k < 0) = false := decide_eq_false h0
      have h6 : 6 ≤ k := by omega
      clear h
      go_enter Tryz.func80, Tryz.ntmps80
      go_wp2
      go_ret
      exact RetB.mk' (congrArg Value.string hb.out.symm) (by repeat (first | assumption | exact Below.refl _ _ | refine Below.setCell ?_ (by first | (simp; done) | (simp; omega) | omega) _ | refine Below.alloc ?_ (by first | (simp; done) | (simp; omega) | omega) _))

set_option maxRecDepth 100000 in
theorem least_any (k : Int) (h : 1 ≤ k ∧ k ≤ 5) (w : World) : Calls Tryz.prog 82 #[.int .i64 k] w (RetB w (.int .i64 (leastF k))) := by
  rcases (show k = 1 ∨ k = 2 ∨ k = 3 ∨ k = 4 ∨ k = 5 by omega) with rfl | rfl | rfl | rfl | rfl
  · have ix : ∀ w, (Instr.index 134 (.agg #[.int .i64 0, .int .i64 0, .int .i64 2, .int .i64 3, .int .i64 1, .int .i64 3]) (.int .i64 1)).run Tryz.prog w = .ok (.int .i64 (leastF 1)) w := fun _ => by kernel_rfl
    go_enter Tryz.func82, Tryz.ntmps82
    go_wp2
    go_ret
    exact RetB.mk' rfl (by repeat (first | assumption | exact Below.refl _ _ | refine Below.setCell ?_ (by first | (simp; done) | (simp; omega) | omega) _ | refine Below.alloc ?_ (by first | (simp; done) | (simp; omega) | omega) _))
  · have ix : ∀ w, (Instr.index 134 (.agg #[.int .i64 0, .int .i64 0, .int .i64 2, .int .i64 3, .int .i64 1, .int .i64 3]) (.int .i64 2)).run Tryz.prog w = .ok (.int .i64 (leastF 2)) w := fun _ => by kernel_rfl
    go_enter Tryz.func82, Tryz.ntmps82
    go_wp2
    go_ret
    exact RetB.mk' rfl (by repeat (first | assumption | exact Below.refl _ _ | refine Below.setCell ?_ (by first | (simp; done) | (simp; omega) | omega) _ | refine Below.alloc ?_ (by first | (simp; done) | (simp; omega) | omega) _))
  · have ix : ∀ w, (Instr.index 134 (.agg #[.int .i64 0, .int .i64 0, .int .i64 2, .int .i64 3, .int .i64 1, .int .i64 3]) (.int .i64 3)).run Tryz.prog w = .ok (.int .i64 (leastF 3)) w := fun _ => by kernel_rfl
    go_enter Tryz.func82, Tryz.ntmps82
    go_wp2
    go_ret
    exact RetB.mk' rfl (by repeat (first | assumption | exact Below.refl _ _ | refine Below.setCell ?_ (by first | (simp; done) | (simp; omega) | omega) _ | refine Below.alloc ?_ (by first | (simp; done) | (simp; omega) | omega) _))
  · have ix : ∀ w, (Instr.index 134 (.agg #[.int .i64 0, .int .i64 0, .int .i64 2, .int .i64 3, .int .i64 1, .int .i64 3]) (.int .i64 4)).run Tryz.prog w = .ok (.int .i64 (leastF 4)) w := fun _ => by kernel_rfl
    go_enter Tryz.func82, Tryz.ntmps82
    go_wp2
    go_ret
    exact RetB.mk' rfl (by repeat (first | assumption | exact Below.refl _ _ | refine Below.setCell ?_ (by first | (simp; done) | (simp; omega) | omega) _ | refine Below.alloc ?_ (by first | (simp; done) | (simp; omega) | omega) _))
  · have ix : ∀ w, (Instr.index 134 (.agg #[.int .i64 0, .int .i64 0, .int .i64 2, .int .i64 3, .int .i64 1, .int .i64 3]) (.int .i64 5)).run Tryz.prog w = .ok (.int .i64 (leastF 5)) w := fun _ => by kernel_rfl
    go_enter Tryz.func82, Tryz.ntmps82
    go_wp2
    go_ret
    exact RetB.mk' rfl (by repeat (first | assumption | exact Below.refl _ _ | refine Below.setCell ?_ (by first | (simp; done) | (simp; omega) | omega) _ | refine Below.alloc ?_ (by first | (simp; done) | (simp; omega) | omega) _))

set_option maxHeartbeats 1000000 in
theorem on_any (x y : Int) (w : World) : Calls Tryz.prog 85 #[.agg #[.int .i64 x, .int .i64 y]] w (RetB w (.bool (onB x y))) := by
  have HB : Hid (onB x y = decide (0 ≤ x ∧ x < 1048576 ∧ 0 ≤ y ∧ y < 1048576)) := Lib.hid rfl
  go_enter Tryz.func85, Tryz.ntmps85
  go_wp2
  all_goals
    go_ret
    refine RetB.mk' (congrArg Value.bool ?_) ((Below.refl _ _).alloc (Nat.le_refl _) _)
    rw [HB.out, Bool.eq_iff_iff]
    simp
    try omega
end Go.Proofs.YtaggohobdjidjaaGreatDoor

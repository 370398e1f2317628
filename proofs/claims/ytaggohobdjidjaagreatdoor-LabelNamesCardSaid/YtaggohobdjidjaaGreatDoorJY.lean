import Derived.Test.YtaggohobdjidjaaGreatDoorJG
import Derived.Test.YtaggohobdjidjaaGreatDoorJF
import Derived.Test.YtaggohobdjidjaaGreatDoorJH
import Derived.Test.YtaggohobdjidjaaGreatDoorJQ
import Derived.Test.YtaggohobdjidjaaGreatDoorJK

/- planisphereref12.Find, planisphereref13.Find: the place of an object. -/
namespace Go.Proofs.YtaggohobdjidjaaGreatDoor
open Go.RowKit Go.Sort Go.Shelf

/-- The place of an object, or -1. -/
def posO (l : List Ob) (id : ByteArray) : Int := match l.findIdx? fun o => o.id.toList == id.toList with
  | some k => k
  | none => -1
theorem posO_at {l : List Ob} {id : ByteArray} {i : Nat} {o : Ob} (hx : l[i]? = some o) (he : o.id.toList = id.toList) (hb : ∀ (j : Nat) o, j < i → l[j]? = some o → o.id.toList ≠ id.toList) : posO l id = i ∧ findO l id = some o := by
  obtain ⟨hi, rfl⟩ := List.getElem?_eq_some_iff.1 hx
  have h1 : l.findIdx? (fun o => o.id.toList == id.toList) = some i := by
    rw [List.findIdx?_eq_some_iff_getElem]
    exact ⟨hi, by simpa using he, fun j hj => by simpa using hb j _ hj (List.getElem?_eq_getElem (by omega))⟩
  refine ⟨by unfold posO; rw [h1], ?_⟩
  unfold findO
  rw [List.find?_eq_some_iff_getElem]
  exact ⟨by simpa using he, i, hi, rfl, fun j hj => by simpa using hb j _ hj (List.getElem?_eq_getElem (by omega))⟩
theorem posO_no {l : List Ob} {id : ByteArray} (hb : ∀ (j : Nat) o, l[j]? = some o → o.id.toList ≠ id.toList) : posO l id = -1 ∧ findO l id = none := by
  have h1 : l.findIdx? (fun o => o.id.toList == id.toList) = none := by
    rw [List.findIdx?_eq_none_iff]
    intro o ho
    obtain ⟨j, hj⟩ := List.getElem?_of_mem ho
    simpa using hb j o hj
  refine ⟨by unfold posO; rw [h1], ?_⟩
  unfold findO
  rw [List.find?_eq_none]
  intro o ho
  obtain ⟨j, hj⟩ := List.getElem?_of_mem ho
  simpa using hb j o hj
theorem posO_cases (l : List Ob) (id : ByteArray) : (posO l id = -1 ∧ findO l id = none) ∨ ∃ (k : Nat) (o : Ob), posO l id = k ∧ k < l.length ∧ l[k]? = some o ∧ findO l id = some o ∧ o.id.toList = id.toList := by
  unfold posO
  cases h : l.findIdx? fun o => o.id.toList == id.toList with
  | none =>
    left
    refine ⟨rfl, ?_⟩
    unfold findO
    rw [List.find?_eq_none]
    intro o ho
    rw [List.findIdx?_eq_none_iff] at h
    simpa using h o ho
  | some k =>
    right
    rw [List.findIdx?_eq_some_iff_getElem] at h
    obtain ⟨hi, he, hb⟩ := h
    refine ⟨k, l[k], rfl, hi, List.getElem?_eq_getElem hi, ?_, by simpa using he⟩
    unfold findO
    rw [List.find?_eq_some_iff_getElem]
    exact ⟨he, k, hi, rfl, fun j hj => by simpa using hb j hj⟩
theorem posO_bd (l : List Ob) (id : ByteArray) : -1 ≤ posO l id ∧ posO l id < l.length ∨ l.length = 0 ∧ posO l id = -1 := by
  rcases posO_cases l id with ⟨h, -⟩ | ⟨k, o, h, hk, -⟩
  · omega
  · omega

set_option maxHeartbeats 4000000 in
theorem find12_any (p : Option Addr) (n cap : Nat) (l : List Ob) (id : ByteArray) (w : World) (hL : Objs w p l) (hn : n = l.length) (h1 : n ≤ 1000000) :
    Calls Tryz.prog 32 #[.agg #[.slice p n cap], .string id] w (RetB w (.int .i64 (posO l id))) := by
  have HL := Lib.hid hL
  have HN := Lib.hid hn
  clear hL hn
  go_enter Tryz.func32, Tryz.ntmps32
  go_wp2
  go_loopw [5] (fun vi wr => ∃ i : Nat, i ≤ n ∧ vi = .int .i64 i ∧ Below w.heap.size w wr ∧ Box wr w.heap.size #[.slice p n cap] 35 ∧ Hid (∀ (j : Nat) o, j < i → l[j]? = some o → o.id.toList ≠ id.toList)) (fun vi _ => n - (intOf vi).toNat)
  case atStart => exact ⟨0, by omega, rfl, (Below.refl _ _).alloc (Nat.le_refl _) _, Box.new _ _ _, Lib.hid (fun j o h _ => by omega)⟩
  case round =>
    obtain ⟨i, hi, rfl, hW, b0, HF⟩ := hrel
    have r0 := b0.cell 0
    by_cases hlt : i < n
    · obtain ⟨x, hx⟩ : ∃ x, l[i]? = some x := ⟨_, List.getElem?_eq_getElem (by have := HN.out; omega)⟩
      obtain ⟨g, o, rfl⟩ := HL.out.addr (by have := HN.out; omega)
      obtain ⟨v, hat, c0, -, -, -, -, -⟩ := (HL.out.below hW (Nat.le_refl _)).at hx
      rw [hat.id] at c0
      have HX := Lib.hid hx
      have q1 : decide (i < n) = true := decide_eq_true hlt
      obtain ⟨xi, hxi⟩ : ∃ q, x.id = q := ⟨_, rfl⟩
      rw [hxi] at c0
      clear hx hat
      by_cases he : xi.toList = id.toList
      · have q2 : (xi.toList == id.toList) = true := beq_iff_eq.2 he
        have HR := Lib.hid (posO_at HX.out (by rw [hxi]; exact he) HF.out).1
        clear he hxi
        go_wp2
        go_ret
        exact RetB.mk' (congrArg (Value.int .i64) HR.out.symm) hW
      · have q2 : (xi.toList == id.toList) = false := beq_eq_false_iff_ne.2 he
        have HF2 : Hid (∀ (j : Nat) o, j < i + 1 → l[j]? = some o → o.id.toList ≠ id.toList) := Lib.hid (fun j o' hj ho => by
          rcases Nat.lt_or_ge j i with h1 | h1
          · exact HF.out j o' h1 ho
          · obtain rfl : j = i := by omega
            have := HX.out
            rw [ho] at this
            cases this
            rw [hxi]; exact he)
        clear he hxi
        go_wp2
        go_roundw
        case rel => exact ⟨i + 1, by omega, by go_num, hW, b0, HF2⟩
        case measure => simp [intOf]; omega
    · obtain rfl : i = n := by omega
      have q1 : decide (i < i) = false := decide_eq_false (by omega)
      have HR := Lib.hid (posO_no (l := l) (id := id) (fun j o hj => HF.out j o (by have := (List.getElem?_eq_some_iff.1 hj).1; have := HN.out; omega) hj)).1
      go_wp2
      go_ret
      exact RetB.mk' (congrArg (Value.int .i64) HR.out.symm) hW

theorem pos_at {l : List Ob} (h : Rising l) {id : ByteArray} {i : Nat} (hi : i ≤ l.length) (h0 : ∀ (j : Nat) o, l[j]? = some o → j < i → Op.bytesLess o.id.toList id.toList = true) (h1 : ∀ (j : Nat) o, l[j]? = some o → i ≤ j → Op.bytesLess o.id.toList id.toList = false) :
    posO l id = match l[i]? with | some o => if o.id.toList = id.toList then (i : Int) else -1 | none => -1 := by
  have hne : ∀ (j : Nat) o, l[j]? = some o → j < i → o.id.toList ≠ id.toList := fun j o hj hlt e => by
    have := h0 j o hj hlt
    rw [e, bytesLess_irrefl] at this
    cases this
  cases hx : l[i]? with
  | none =>
    dsimp only
    exact (posO_no fun j o hj => hne j o hj (by have := (List.getElem?_eq_some_iff.1 hj).1; have := List.getElem?_eq_none_iff.1 hx; omega)).1
  | some x =>
    dsimp only
    by_cases he : x.id.toList = id.toList
    · rw [if_pos he]
      exact (posO_at hx he (fun j o hj ho => hne j o ho hj)).1
    · rw [if_neg he]
      refine (posO_no fun j o hj => ?_).1
      rcases Nat.lt_trichotomy j i with h' | h' | h'
      · exact hne j o hj h'
      · subst h'
        rw [hx] at hj
        cases hj
        exact he
      · intro e
        have k1 := rising_lt h hx hj h'
        rw [e] at k1
        rw [h1 i _ hx (Nat.le_refl _)] at k1
        cases k1

set_option maxHeartbeats 4000000 in
theorem find13_any (p : Option Addr) (n cap : Nat) (l : List Ob) (id : ByteArray) (w : World) (hL : Objs w p l) (hn : n = l.length) (h1 : n ≤ 1000000) (hR : Rising l) :
    Calls Tryz.prog 55 #[.agg #[.slice p n cap], .string id] w (RetB w (.int .i64 (posO l id))) := by
  have HL := Lib.hid hL
  have HN := Lib.hid hn
  have HR := Lib.hid hR
  clear hL hn hR
  go_enter Tryz.func55, Tryz.ntmps55
  go_wp2
  go_loopw [5, 6] (fun va vb wr => ∃ a b : Nat, a ≤ b ∧ b ≤ n ∧ va = .int .i64 a ∧ vb = .int .i64 b ∧ Below w.heap.size w wr ∧ Box wr w.heap.size #[.slice p n cap] 35 ∧ Hid ((∀ (j : Nat) o, l[j]? = some o → j < a → Op.bytesLess o.id.toList id.toList = true) ∧ (∀ (j : Nat) o, l[j]? = some o → b ≤ j → Op.bytesLess o.id.toList id.toList = false))) (fun va vb _ => (intOf vb).toNat - (intOf va).toNat)
  case atStart => exact ⟨0, n, by omega, by omega, rfl, rfl, (Below.refl _ _).alloc (Nat.le_refl _) _, Box.new _ _ _, Lib.hid ⟨fun j o _ h => by omega, fun j o hj h => by have := (List.getElem?_eq_some_iff.1 hj).1; have := HN.out; omega⟩⟩
  case round =>
    obtain ⟨a, b, hab, hbn, rfl, rfl, hW, b0, HF⟩ := hrel
    have r0 := b0.cell 0
    by_cases hlt : a < b
    · obtain ⟨m, hm⟩ : ∃ m, (a + b) / 2 = m := ⟨_, rfl⟩
      have ham : a ≤ m := by omega
      have hmb : m < b := by omega
      have hmi : ((a : Int) + (b : Int)) / 2 = (m : Int) := by omega
      have hmn : m < n := by omega
      obtain ⟨x, hx⟩ : ∃ x, l[m]? = some x := ⟨_, List.getElem?_eq_getElem (by have := HN.out; omega)⟩
      obtain ⟨g, o, rfl⟩ := HL.out.addr (by have := HN.out; omega)
      obtain ⟨v, hat, c0, -, -, -, -, -⟩ := (HL.out.below hW (Nat.le_refl _)).at hx
      rw [hat.id] at c0
      have HX := Lib.hid hx
      have q1 : decide (a < b) = true := decide_eq_true hlt
      obtain ⟨xi, hxi⟩ : ∃ q, x.id = q := ⟨_, rfl⟩
      rw [hxi] at c0
      clear hx hat hm
      cases he : Op.bytesLess xi.toList id.toList with
      | true =>
        have HF2 : Hid ((∀ (j : Nat) o, l[j]? = some o → j < m + 1 → Op.bytesLess o.id.toList id.toList = true) ∧ (∀ (j : Nat) o, l[j]? = some o → b ≤ j → Op.bytesLess o.id.toList id.toList = false)) := Lib.hid ⟨fun j o hj hlt => by
          rcases Nat.lt_or_ge j m with h' | h'
          · exact bytesLess_trans _ _ _ (rising_lt HR.out hj HX.out h') (by rw [hxi]; exact he)
          · obtain rfl : j = m := by omega
            have := HX.out
            rw [hj] at this
            cases this
            rw [hxi]; exact he, HF.out.2⟩
        clear hxi
        go_wp2
        go_roundw
        case rel => exact ⟨m + 1, b, by omega, by omega, by go_num, rfl, hW, b0, HF2⟩
        case measure => simp [intOf]; omega
      | false =>
        have HF2 : Hid ((∀ (j : Nat) o, l[j]? = some o → j < a → Op.bytesLess o.id.toList id.toList = true) ∧ (∀ (j : Nat) o, l[j]? = some o → m ≤ j → Op.bytesLess o.id.toList id.toList = false)) := Lib.hid ⟨HF.out.1, fun j o hj hlt => by
          rcases Nat.lt_or_ge m j with h' | h'
          · cases hc : Op.bytesLess o.id.toList id.toList with
            | false => rfl
            | true =>
              have := bytesLess_trans _ _ _ (rising_lt HR.out HX.out hj h') hc
              rw [hxi, he] at this
              cases this
          · obtain rfl : j = m := by omega
            have := HX.out
            rw [hj] at this
            cases this
            rw [hxi]; exact he⟩
        clear hxi
        go_wp2
        go_roundw
        case rel => exact ⟨a, m, by omega, by omega, rfl, by go_num, hW, b0, HF2⟩
        case measure => simp [intOf]; omega
    · obtain rfl : a = b := by omega
      have q1 : decide (a < a) = false := decide_eq_false (by omega)
      have HP := Lib.hid (pos_at HR.out (by have := HN.out; omega) HF.out.1 HF.out.2)
      by_cases han : a < n
      · obtain ⟨x, hx⟩ : ∃ x, l[a]? = some x := ⟨_, List.getElem?_eq_getElem (by have := HN.out; omega)⟩
        obtain ⟨g, o, rfl⟩ := HL.out.addr (by have := HN.out; omega)
        obtain ⟨v, hat, c0, -, -, -, -, -⟩ := (HL.out.below hW (Nat.le_refl _)).at hx
        rw [hat.id] at c0
        have q2 : decide (a < n) = true := decide_eq_true han
        obtain ⟨xi, hxi⟩ : ∃ q, x.id = q := ⟨_, rfl⟩
        rw [hxi] at c0
        rw [hx] at HP
        by_cases he : xi.toList = id.toList
        · have q3 : (xi.toList == id.toList) = true := beq_iff_eq.2 he
          have HQ : Hid (posO l id = a) := Lib.hid (by rw [HP.out]; dsimp only; rw [if_pos (by rw [hxi]; exact he)])
          clear he hxi hx hat
          go_wp2
          go_ret
          exact RetB.mk' (congrArg (Value.int .i64) HQ.out.symm) hW
        · have q3 : (xi.toList == id.toList) = false := beq_eq_false_iff_ne.2 he
          have HQ : Hid (posO l id = -1) := Lib.hid (by rw [HP.out]; dsimp only; rw [if_neg (by rw [hxi]; exact he)])
          clear he hxi hx hat
          go_wp2
          go_ret
          exact RetB.mk' (congrArg (Value.int .i64) HQ.out.symm) hW
      · have q2 : decide (a < n) = false := decide_eq_false han
        have HQ : Hid (posO l id = -1) := Lib.hid (by rw [HP.out, List.getElem?_eq_none (by have := HN.out; omega)])
        go_wp2
        go_ret
        exact RetB.mk' (congrArg (Value.int .i64) HQ.out.symm) hW
end Go.Proofs.YtaggohobdjidjaaGreatDoor

/- planisphereref13.kind, Sound. -/
namespace Go.Proofs.YtaggohobdjidjaaGreatDoor
open Go.RowKit Go.Sort Go.Shelf

/-- The kind that a reference must have. -/
def kindF (kind : Int) (i : Nat) : Int := if kind = 4 ∨ (kind = 5 ∧ i ≠ 1) then 2 else 1

set_option maxHeartbeats 4000000 in
theorem kind13_any (v : OV) (i : Nat) (w : World) : Calls Tryz.prog 56 #[ovV v, .int .i64 i] w (RetB w (.int .i64 (kindF v.kind i))) := by
  obtain ⟨vid, k, vx, vy, pr, nr, cr, pt, nt, ct⟩ := v
  unfold ovV
  dsimp only
  have hB : ∀ o : Obj, Below w.heap.size w (w.alloc o) := fun o => (Below.refl _ _).alloc (Nat.le_refl _) _
  go_enter Tryz.func56, Tryz.ntmps56
  by_cases h4 : k = 4
  · subst h4
    have HQ : Hid (kindF 4 i = 2) := Lib.hid (by unfold kindF; rw [if_pos (.inl rfl)])
    go_wp2
    go_ret
    exact RetB.mk' (congrArg (Value.int .i64) HQ.out.symm) (hB _)
  · have d4 : (k == 4) = false := beq_eq_false_iff_ne.2 h4
    by_cases h5 : k = 5
    · subst h5
      by_cases h1 : i = 1
      · subst h1
        have HQ : Hid (kindF 5 1 = 1) := Lib.hid (by decide)
        go_wp2
        go_ret
        exact RetB.mk' (congrArg (Value.int .i64) HQ.out.symm) (hB _)
      · have d1 : ((i : Int) != 1) = true := by simp; omega
        have HQ : Hid (kindF 5 i = 2) := Lib.hid (by unfold kindF; rw [if_pos (.inr ⟨rfl, h1⟩)])
        go_wp2
        go_ret
        exact RetB.mk' (congrArg (Value.int .i64) HQ.out.symm) (hB _)
    · have d5 : (k == 5) = false := beq_eq_false_iff_ne.2 h5
      have HQ : Hid (kindF k i = 1) := Lib.hid (by unfold kindF; rw [if_neg (by omega)])
      go_wp2
      go_ret
      exact RetB.mk' (congrArg (Value.int .i64) HQ.out.symm) (hB _)

/-- Are all references of an object as required? -/
def sndAt (S : Ob → Bool) (l : List Ob) (o : Ob) (i : Nat) : Bool := match findO l o.refs[i]! with
  | some k => decide (k.kind = kindF o.kind i) && S k
  | none => false
def sndG (S : Ob → Bool) (l : List Ob) (o : Ob) : Bool := (List.range o.refs.length).all (sndAt S l o)
theorem sndG_no {S : Ob → Bool} {l : List Ob} {o : Ob} {i : Nat} (hi : i < o.refs.length) (h : sndAt S l o i = false) : sndG S l o = false := by
  unfold sndG
  rw [List.all_eq_false]
  exact ⟨i, List.mem_range.2 hi, by rw [h]; simp⟩
theorem sndG_yes {S : Ob → Bool} {l : List Ob} {o : Ob} (h : ∀ i, i < o.refs.length → sndAt S l o i = true) : sndG S l o = true := by
  unfold sndG
  rw [List.all_eq_true]
  exact fun i hi => h i (List.mem_range.1 hi)

set_option maxHeartbeats 8000000 in
set_option maxRecDepth 100000 in
theorem sound_gen (S : Ob → Bool) (p : Option Addr) (n cap : Nat) (l : List Ob) (v : OV) (o : Ob) (w : World) (hL : Objs w p l) (hn : n = l.length) (h1 : n ≤ 1000000) (hR : Rising l) (hA : ObAt w v o) (hlen : o.refs.length ≤ 1000000)
    (hS : ∀ k ∈ l, ∀ i, i < o.refs.length → k.kind = kindF o.kind i → ∀ (u : OV) W, Below w.heap.size w W → ObAt W u k → Calls Tryz.prog 30 #[.agg #[.slice p n cap], ovV u] W (RetB W (.bool (S k)))) :
    Calls Tryz.prog 30 #[.agg #[.slice p n cap], ovV v] w (RetB w (.bool (sndG S l o))) := by
  have HL := Lib.hid hL
  have HN := Lib.hid hn
  have HS := Lib.hid hS
  have HRF := Lib.hid hA.refs
  have HNR := Lib.hid hA.nr
  have HKD := Lib.hid hA.kind
  have HFD := Lib.hid (fun (id : ByteArray) W (hW : Below w.heap.size w W) => find13_any p n cap l id W (hL.below hW (Nat.le_refl _)) hn h1 hR)
  obtain ⟨vid, vkind, vx, vy, pr, nr, cr, pt, nt, ct⟩ := v
  dsimp only at HRF HNR HKD
  have hnr : nr ≤ 1000000 := by have := HNR.out; omega
  clear hL hn hR hA hS hlen
  unfold ovV
  dsimp only
  go_enter Tryz.func30, Tryz.ntmps30
  go_wp2
  go_loopw [5] (fun vi wr => ∃ i : Nat, i ≤ nr ∧ vi = .int .i64 i ∧ Below w.heap.size w wr ∧ Box wr w.heap.size #[.slice p n cap] 35 ∧ Box wr (w.heap.size + 1) #[.string vid, .int .i64 vkind, .int .i64 vx, .int .i64 vy, .slice pr nr cr, .slice pt nt ct] 59 ∧ Hid (∀ j, j < i → sndAt S l o j = true)) (fun vi _ => nr - (intOf vi).toNat)
  case atStart => exact ⟨0, by omega, rfl, ((Below.refl _ _).alloc (Nat.le_refl _) _).alloc (by simp) _, (Box.new _ _ _).alloc _, Box.new' (by simp) _ _, Lib.hid (fun j h => by omega)⟩
  case round =>
    obtain ⟨i, hi, rfl, hW, b0, b1, HF⟩ := hrel
    have m0 := b0.cell 0
    have k1 := b1.lt
    by_cases hlt : i < nr
    · obtain ⟨r, hr⟩ : ∃ r, o.refs[i]? = some r := ⟨_, List.getElem?_eq_getElem (by have := HNR.out; omega)⟩
      obtain ⟨gr, or_, rfl⟩ := HRF.out.addr (by have := HNR.out; omega)
      have s0 := (HRF.out.below hW (Nat.le_refl _)).st hr
      have o4 := b1.cell 4
      have hre : o.refs[i]! = r := by
        obtain ⟨hi', rfl⟩ := List.getElem?_eq_some_iff.1 hr
        exact getElem!_pos o.refs i hi'
      have HI := Lib.hid (show i < o.refs.length by have := HNR.out; omega)
      have q1 : decide (i < nr) = true := decide_eq_true hlt
      have hws := hW.size
      have cF := quietC (W := wr) (fun w' h' => HFD.out r w' (hW.trans (h'.mono hws)))
      clear hr
      rcases posO_cases l r with ⟨hp, hf⟩ | ⟨k, x, hp, hk, hx, hf, -⟩
      · rw [hp] at cF
        have HZ : Hid (sndG S l o = false) := Lib.hid (sndG_no HI.out (by unfold sndAt; rw [hre, hf]))
        clear hp hf hre
        go_wp2_with fail
        have a_m0 := cell_regrown m0
        have a_o4 := cell_regrown o4
        have a_s0 := cell_regrown s0
        refine wp_region_quiet_below (by kernel_rfl) (by kernel_rfl) ?_
        repeat (go_big_quiet_step (exact cF _ _))
        refine wpQuiet_nil ?_
        rintro W2 hb2
        replace hb2 := below_of_regrown hb2
        clear a_m0 a_o4 a_s0 m0 o4 s0
        replace hW := hW.trans (hb2.mono hws)
        clear cF hb2 hws
        have hws := hW.size
        go_wp2_with fail
        refine wp_region_quiet_below (by kernel_rfl) (by kernel_rfl) ?_
        repeat (go_big_quiet_step (fail))
        refine wpQuiet_nil ?_
        rintro W3 hb3
        replace hb3 := below_of_regrown hb3
        replace hW := hW.trans (hb3.mono hws)
        clear hb3 hws
        go_wp2
        go_ret
        exact RetB.mk' (congrArg Value.bool HZ.out.symm) hW
      · rw [hp] at cF
        have hkn : k < n := by have := HN.out; omega
        have HSX := Lib.hid (fun he u W hW hA => HS.out x (List.mem_of_getElem? hx) i HI.out he u W hW hA)
        have HXX := Lib.hid hx
        have HFX := Lib.hid hf
        have HRE := Lib.hid hre
        clear hp hf hre hk hx
        obtain ⟨g, og, rfl⟩ := HL.out.addr (by have := HN.out; omega)
        go_wp2_with fail
        have a_m0 := cell_regrown m0
        have a_o4 := cell_regrown o4
        have a_s0 := cell_regrown s0
        refine wp_region_quiet_below (by kernel_rfl) (by kernel_rfl) ?_
        repeat (go_big_quiet_step (exact cF _ _))
        refine wpQuiet_nil ?_
        rintro W2 hb2
        replace hb2 := below_of_regrown hb2
        clear a_m0 a_o4 a_s0 m0 o4 s0
        replace hW := hW.trans (hb2.mono hws)
        replace b0 := b0.below hb2 b0.lt
        replace b1 := b1.below hb2 b1.lt
        clear cF hb2 hws
        have hws := hW.size
        obtain ⟨u, hat, c0, c1, c2, c3, c4, c5⟩ := (HL.out.below hW (Nat.le_refl _)).at HXX.out
        have HUK := Lib.hid hat.kind
        have hsx := fun he W (h' : Below W2.heap.size W2 W) => HSX.out he u W (hW.trans (h'.mono hws)) (hat.below h' (Nat.le_refl _))
        obtain ⟨uid, ukind, ux, uy, upr, unr, ucr, upt, unt, uct⟩ := u
        unfold ovV at hsx
        dsimp only at c0 c1 c2 c3 c4 c5 HUK hsx
        clear hat
        have m0 := b0.cell 0
        obtain ⟨o0, o1, o2, o3, o4, o5⟩ : _ ∧ _ ∧ _ ∧ _ ∧ _ ∧ _ := ⟨b1.cell 0, b1.cell 1, b1.cell 2, b1.cell 3, b1.cell 4, b1.cell 5⟩
        have cK := quietC (W := W2) (fun w' _ => kind13_any ⟨vid, vkind, vx, vy, some ⟨gr, or_, none⟩, nr, cr, pt, nt, ct⟩ i w')
        unfold ovV at cK
        dsimp only at cK
        have hk0 : ¬ ((k : Int) < 0) := by omega
        have q3 : decide ((k : Int) < 0) = false := decide_eq_false hk0
        obtain ⟨kf, hkf⟩ : ∃ q, kindF vkind i = q := ⟨_, rfl⟩
        rw [hkf] at cK
        by_cases he : ukind = kf
        · have q4 : (ukind != kf) = false := by rw [he]; simp
          have hko : x.kind = kindF o.kind i := by rw [← HUK.out, ← HKD.out, hkf]; exact he
          have cS := quietC (W := W2) (fun w' h' => hsx hko w' h')
          have HSA : Hid (sndAt S l o i = S x) := Lib.hid (by unfold sndAt; rw [HRE.out, HFX.out]; dsimp only; rw [decide_eq_true hko]; rfl)
          obtain ⟨sx, hsxx⟩ : ∃ q, S x = q := ⟨_, rfl⟩
          rw [hsxx] at cS HSA
          clear he hko hkf hsxx hsx hk0
          cases sx with
          | true =>
            go_wp2_with fail
            have a_m0 := cell_regrown m0
            have a_o0 := cell_regrown o0
            have a_o1 := cell_regrown o1
            have a_o2 := cell_regrown o2
            have a_o3 := cell_regrown o3
            have a_o4 := cell_regrown o4
            have a_o5 := cell_regrown o5
            have a_c0 := cell_regrown c0
            have a_c1 := cell_regrown c1
            have a_c2 := cell_regrown c2
            have a_c3 := cell_regrown c3
            have a_c4 := cell_regrown c4
            have a_c5 := cell_regrown c5
            refine wp_region_quiet_below (by kernel_rfl) (by kernel_rfl) ?_
            repeat (go_big_quiet_step ((first | exact cK _ _ | exact cS _ _)))
            refine wpQuiet_nil ?_
            rintro W3 hb3
            replace hb3 := below_of_regrown hb3
            clear a_m0 a_o0 a_o1 a_o2 a_o3 a_o4 a_o5 a_c0 a_c1 a_c2 a_c3 a_c4 a_c5 m0 o0 o1 o2 o3 o4 o5 c0 c1 c2 c3 c4 c5
            replace hW := hW.trans (hb3.mono hws)
            replace b0 := b0.below hb3 b0.lt
            replace b1 := b1.below hb3 b1.lt
            have HF2 : Hid (∀ j, j < i + 1 → sndAt S l o j = true) := Lib.hid (fun j hj => by
              rcases Nat.lt_or_ge j i with h1 | h1
              · exact HF.out j h1
              · obtain rfl : j = i := by omega
                exact HSA.out)
            clear hb3 hws cK cS q4
            go_wp2
            go_roundw
            case rel => exact ⟨i + 1, by omega, by go_num, hW, b0, b1, HF2⟩
            case measure => simp [intOf]; omega
          | false =>
            have HZ : Hid (sndG S l o = false) := Lib.hid (sndG_no HI.out HSA.out)
            go_wp2_with fail
            have a_m0 := cell_regrown m0
            have a_o0 := cell_regrown o0
            have a_o1 := cell_regrown o1
            have a_o2 := cell_regrown o2
            have a_o3 := cell_regrown o3
            have a_o4 := cell_regrown o4
            have a_o5 := cell_regrown o5
            have a_c0 := cell_regrown c0
            have a_c1 := cell_regrown c1
            have a_c2 := cell_regrown c2
            have a_c3 := cell_regrown c3
            have a_c4 := cell_regrown c4
            have a_c5 := cell_regrown c5
            refine wp_region_quiet_below (by kernel_rfl) (by kernel_rfl) ?_
            repeat (go_big_quiet_step ((first | exact cK _ _ | exact cS _ _)))
            refine wpQuiet_nil ?_
            rintro W3 hb3
            replace hb3 := below_of_regrown hb3
            clear a_m0 a_o0 a_o1 a_o2 a_o3 a_o4 a_o5 a_c0 a_c1 a_c2 a_c3 a_c4 a_c5 m0 o0 o1 o2 o3 o4 o5 c0 c1 c2 c3 c4 c5
            replace hW := hW.trans (hb3.mono hws)
            clear hb3 hws cK cS q4
            go_wp2
            go_ret
            exact RetB.mk' (congrArg Value.bool HZ.out.symm) hW
        · have q4 : (ukind != kf) = true := by simpa using he
          have HZ : Hid (sndG S l o = false) := Lib.hid (sndG_no HI.out (by
            unfold sndAt
            rw [HRE.out, HFX.out]
            dsimp only
            rw [decide_eq_false (by rw [← HUK.out, ← HKD.out, hkf]; exact he)]
            rfl))
          clear he hkf hsx hk0
          go_wp2_with fail
          have a_m0 := cell_regrown m0
          have a_o0 := cell_regrown o0
          have a_o1 := cell_regrown o1
          have a_o2 := cell_regrown o2
          have a_o3 := cell_regrown o3
          have a_o4 := cell_regrown o4
          have a_o5 := cell_regrown o5
          have a_c0 := cell_regrown c0
          have a_c1 := cell_regrown c1
          have a_c2 := cell_regrown c2
          have a_c3 := cell_regrown c3
          have a_c4 := cell_regrown c4
          have a_c5 := cell_regrown c5
          refine wp_region_quiet_below (by kernel_rfl) (by kernel_rfl) ?_
          repeat (go_big_quiet_step (exact cK _ _))
          refine wpQuiet_nil ?_
          rintro W3 hb3
          replace hb3 := below_of_regrown hb3
          clear a_m0 a_o0 a_o1 a_o2 a_o3 a_o4 a_o5 a_c0 a_c1 a_c2 a_c3 a_c4 a_c5 m0 o0 o1 o2 o3 o4 o5 c0 c1 c2 c3 c4 c5
          replace hW := hW.trans (hb3.mono hws)
          clear hb3 hws cK q4
          go_wp2
          go_ret
          exact RetB.mk' (congrArg Value.bool HZ.out.symm) hW
    · obtain rfl : i = nr := by omega
      have q1 : decide (i < i) = false := decide_eq_false (by omega)
      have o4 := b1.cell 4
      have HZ : Hid (sndG S l o = true) := Lib.hid (sndG_yes (fun j hj => HF.out j (by have := HNR.out; omega)))
      go_wp2
      go_ret
      exact RetB.mk' (congrArg Value.bool HZ.out.symm) hW

/-- Without references it is sound. -/
theorem sound_none (p : Option Addr) (n cap : Nat) (l : List Ob) (v : OV) (o : Ob) (w : World) (hL : Objs w p l) (hn : n = l.length) (h1 : n ≤ 1000000) (hR : Rising l) (hA : ObAt w v o) (h0 : o.refs.length = 0) :
    Calls Tryz.prog 30 #[.agg #[.slice p n cap], ovV v] w (RetB w (.bool true)) := by
  have := sound_gen (fun _ => true) p n cap l v o w hL hn h1 hR hA (by omega) (fun k _ i hi => by omega)
  rwa [show sndG (fun _ => true) l o = true from sndG_yes (fun i hi => by omega)] at this
theorem okO_norefs {o : Ob} (h : okO o = true) (hk : o.kind = 1) : o.refs.length = 0 := by
  unfold okO at h
  simp only [Bool.and_eq_true] at h
  have := h.2
  rw [if_pos hk, Bool.and_eq_true] at this
  exact of_decide_eq_true this.1
theorem kindF_small {k : Int} (h : k ≤ 3) (i : Nat) : kindF k i = 1 := by unfold kindF; rw [if_neg (by omega)]
/-- A node, a way or an area of a valid map. -/
theorem sound3_any (p : Option Addr) (n cap : Nat) (l : List Ob) (v : OV) (o : Ob) (w : World) (hL : Objs w p l) (hn : n = l.length) (h1 : n ≤ 1000000) (hV : mapB l = true) (hA : ObAt w v o) (hlen : o.refs.length ≤ 1000000) (hk : o.kind ≤ 3) :
    Calls Tryz.prog 30 #[.agg #[.slice p n cap], ovV v] w (RetB w (.bool (sndG (fun _ => true) l o))) :=
  sound_gen (fun _ => true) p n cap l v o w hL hn h1 (mapB_rising hV) hA hlen (fun k hkl i _ hi u W hW hu =>
    sound_none p n cap l u k W (hL.below hW (Nat.le_refl _)) hn h1 (mapB_rising hV) hu (okO_norefs (mapB_ok hV k hkl) (by rw [hi]; exact kindF_small hk i)))
end Go.Proofs.YtaggohobdjidjaaGreatDoor

/- planisphereref09.Get, planisphereref43.decimal, Level. -/
namespace Go.Proofs.YtaggohobdjidjaaGreatDoor
open Go.RowKit Go.Sort Go.Shelf

set_option maxHeartbeats 4000000 in
theorem get09_any (p : Option Addr) (n cap : Nat) (l : List Tg) (key : ByteArray) (w : World) (hL : Lies w 2 tagC p l) (hn : n = l.length) (hn1 : n ≤ 1000000) :
    Calls Tryz.prog 57 #[.slice p n cap, .string key] w (RetB w (.tuple #[.string (getF l key.toList), .bool (hasF l key.toList)])) := by
  have HL := Lib.hid hL
  have HN := Lib.hid hn
  clear hL hn
  go_enter Tryz.func57, Tryz.ntmps57
  go_wp2
  go_loopw [6] (fun vi wr => ∃ (i : Nat), i ≤ n ∧ vi = .int .i64 i ∧ Below w.heap.size w wr ∧ Hid ((l.take i).find? (fun t => t.1.toList == key.toList) = none)) (fun vi _ => n - (intOf vi).toNat)
  case atStart => exact ⟨0, by omega, rfl, Below.refl _ _, Lib.hid (find_zero _ _)⟩
  case round =>
    obtain ⟨i, hi, rfl, hW, HF⟩ := hrel
    by_cases hlt : i < n
    · obtain ⟨g, o, rfl⟩ := HL.out.addr (by have := HN.out; omega)
      obtain ⟨x, hx⟩ : ∃ x, l[i]? = some x := ⟨_, List.getElem?_eq_getElem (by have := HN.out; omega)⟩
      obtain ⟨r0, r1⟩ := (HL.out.below hW HL.out.lt).tg hx
      obtain ⟨k, v⟩ := x
      dsimp only at r0 r1
      have HX := Lib.hid hx
      have hst := find_succ (p := fun t : Tg => t.1.toList == key.toList) hx HF.out
      have q1 : decide (i < n) = true := decide_eq_true hlt
      dsimp only at hst
      clear hx
      cases he : (k.toList == key.toList) with
      | true =>
        rw [he, if_pos rfl] at hst
        have HR : Hid (getF l key.toList = v ∧ hasF l key.toList = true) := Lib.hid ⟨by unfold getF; rw [find_mono hst], by unfold hasF; rw [List.any_eq_true]; exact ⟨(k, v), List.mem_of_getElem? HX.out, he⟩⟩
        clear hst HF
        go_wp2
        go_ret2
        exact ⟨ret_tup2 (congrArg Value.string HR.out.1.symm) (congrArg Value.bool HR.out.2.symm), hW⟩
      | false =>
        rw [he, if_neg (by simp)] at hst
        have HF2 := Lib.hid hst
        clear hst HF
        go_wp2
        go_roundw
        case rel => exact ⟨i + 1, by omega, by go_num, hW, HF2⟩
        case measure => simp [intOf]; omega
    · obtain rfl : i = n := by omega
      have q1 : decide (i < i) = false := decide_eq_false (by omega)
      have HR : Hid (getF l key.toList = ⟨#[]⟩ ∧ hasF l key.toList = false) := Lib.hid (by
        have h := HF.out
        rw [List.take_of_length_le (by have := HN.out; omega)] at h
        refine ⟨by unfold getF; rw [h], ?_⟩
        unfold hasF
        rw [List.any_eq_false]
        intro t ht
        have := List.find?_eq_none.1 h t ht
        simpa using this)
      go_wp2
      go_ret2
      exact ⟨ret_tup2 (congrArg Value.string HR.out.1.symm) (congrArg Value.bool HR.out.2.symm), hW⟩

/-- The decimal digits of a number. -/
def decS (n : Nat) : ByteArray := ⟨(Lib.itoa (n : Int)).toArray⟩
theorem dec_one : ∀ n : Fin 10, (⟨#[48, 49, 50, 51, 52, 53, 54, 55, 56, 57]⟩ : ByteArray).extract n.val (n.val + 1) = decS n.val := by decide +kernel
theorem dec_two : ∀ n : Fin 100, 10 ≤ n.val → decS (n.val / 10) ++ decS (n.val % 10) = decS n.val := by decide +kernel
theorem dec_len : ∀ n : Fin 100, (decS n.val).size ≤ 2 := by decide +kernel

set_option maxHeartbeats 4000000 in
theorem decimal1_any (n : Nat) (hn : n < 10) (w : World) : Calls Tryz.prog 58 #[.int .i64 n] w (RetB w (.string (decS n))) := by
  have HR := Lib.hid (dec_one ⟨n, hn⟩)
  have q1 : decide ((n : Int) < 10) = true := decide_eq_true (by omega)
  go_enter Tryz.func58, Tryz.ntmps58
  go_wp2
  go_ret
  exact RetB.mk' (congrArg Value.string HR.out) (Below.refl _ _)

set_option maxHeartbeats 4000000 in
theorem decimal_any (n : Nat) (hn : n < 100) (w : World) : Calls Tryz.prog 58 #[.int .i64 n] w (RetB w (.string (decS n))) := by
  rcases Nat.lt_or_ge n 10 with h | h
  · exact decimal1_any n h w
  · have HR := Lib.hid (dec_two ⟨n, hn⟩ h)
    have q1 : decide ((n : Int) < 10) = false := decide_eq_false (by omega)
    obtain ⟨a, ha⟩ : ∃ a, n / 10 = a := ⟨_, rfl⟩
    obtain ⟨b, hb⟩ : ∃ b, n % 10 = b := ⟨_, rfl⟩
    have e1 : (n : Int) / 10 = (a : Int) := by omega
    have e2 : (n : Int) % 10 = (b : Int) := by omega
    have ha10 : a < 10 := by omega
    have hb10 : b < 10 := by omega
    dsimp only at HR
    rw [ha, hb] at HR
    clear ha hb
    have hs1 := dec_len ⟨a, by omega⟩
    have hs2 := dec_len ⟨b, by omega⟩
    dsimp only at hs1 hs2
    have HA := Lib.hid (fun W => decimal1_any a ha10 W)
    have HB := Lib.hid (fun W => decimal1_any b hb10 W)
    obtain ⟨sa, hsa⟩ : ∃ q, decS a = q := ⟨_, rfl⟩
    obtain ⟨sb, hsb⟩ : ∃ q, decS b = q := ⟨_, rfl⟩
    rw [hsa] at HA HR hs1
    rw [hsb] at HB HR hs2
    clear hsa hsb h hn
    go_enter Tryz.func58, Tryz.ntmps58
    go_wp2_with fail
    refine (HA.out _).mono ?_
    rintro e w1 ⟨rfl, hW⟩
    go_wp2_with fail
    refine (HB.out _).mono ?_
    rintro e w2 ⟨rfl, hb2⟩
    replace hW := hW.trans (hb2.mono hW.size)
    clear hb2
    go_wp2
    go_ret
    exact RetB.mk' (congrArg Value.string HR.out) hW

theorem hasF_no {l : List Tg} {k : List UInt8} (h : hasF l k = false) : getF l k = ⟨#[]⟩ := by
  unfold hasF at h
  rw [List.any_eq_false] at h
  unfold getF
  rw [List.find?_eq_none.2 (fun t ht => by simpa using h t ht)]

theorem lvl_nil18 : ∀ n : Fin 18, Lib.itoa (n.val : Int) ≠ [] := by decide +kernel
theorem lvl_nil (n : Nat) (hn : n < 18) : Lib.itoa (n : Int) ≠ (⟨#[]⟩ : ByteArray).data.toList := lvl_nil18 ⟨n, hn⟩
set_option maxHeartbeats 8000000 in
set_option maxRecDepth 100000 in
theorem level43_any (v : OV) (o : Ob) (w : World) (h : ObAt w v o) (hn : o.tags.length ≤ 1000000) : Calls Tryz.prog 31 #[ovV v] w (RetB w (.int .i64 (lvlF o.tags))) := by
  obtain ⟨vid, vkind, vx, vy, pr, nr, cr, pt, nt, ct⟩ := v
  have HT := Lib.hid h.tags
  have HNT := Lib.hid h.nt
  dsimp only at HT HNT
  clear h
  have hkey : (⟨#[108, 101, 118, 101, 108]⟩ : ByteArray).toList = levelKey := by rw [ByteArray.toList_eq]; rfl
  obtain ⟨s, hs⟩ : ∃ s, getF o.tags levelKey = s := ⟨_, rfl⟩
  obtain ⟨b, hb⟩ : ∃ b, hasF o.tags levelKey = b := ⟨_, rfl⟩
  have HL : Hid (lvlF o.tags = lvlN s.data.toList) := Lib.hid (by unfold lvlF; rw [hs])
  have HZ : Hid (b = false → lvlF o.tags = 0) := Lib.hid (fun h => by
    unfold lvlF
    rw [hasF_no (hb.trans h), lvlN_no lvl_nil]
    rfl)
  have hcall := fun W (hW : Below w.heap.size w W) => get09_any pt nt ct o.tags ⟨#[108, 101, 118, 101, 108]⟩ W (HT.out.below hW (Nat.le_refl _)) HNT.out (by rw [HNT.out]; exact hn)
  rw [hkey, hs, hb] at hcall
  have HC := Lib.hid hcall
  clear hcall hs hb hn
  unfold ovV
  go_enter Tryz.func31, Tryz.ntmps31
  go_wp2_with fail
  refine (HC.out _ ((Below.refl _ _).alloc (Nat.le_refl _) _)).mono ?_
  rintro e w1 ⟨rfl, hb1⟩
  have hW : Below w.heap.size w w1 := ((Below.refl _ _).alloc (Nat.le_refl _) _).trans (hb1.mono (by simp))
  clear hb1 HC
  cases b with
  | false =>
    have HQ := Lib.hid (HZ.out rfl)
    go_wp2
    go_loopw [5] (fun vi wr => ∃ (i : Nat), i ≤ 18 ∧ vi = .int .i64 i ∧ Below w.heap.size w wr) (fun vi _ => 18 - (intOf vi).toNat)
    case atStart => exact ⟨0, by omega, rfl, hW⟩
    case round =>
      clear hW
      obtain ⟨i, hi, rfl, hW⟩ := hrel
      go_wp2
      go_ret
      exact RetB.mk' (congrArg (Value.int .i64) HQ.out.symm) hW
  | true =>
    go_wp2
    go_loopw [5] (fun vi wr => ∃ (i : Nat), i ≤ 18 ∧ vi = .int .i64 i ∧ Below w.heap.size w wr ∧ Hid (∀ n : Nat, n < i → Lib.itoa (n : Int) ≠ s.data.toList)) (fun vi _ => 18 - (intOf vi).toNat)
    case atStart => exact ⟨0, by omega, rfl, hW, Lib.hid (fun n h => by omega)⟩
    case round =>
      clear hW
      obtain ⟨i, hi, rfl, hW, HF⟩ := hrel
      by_cases hlt : i < 18
      · have q1 : decide ((i : Int) ≤ 17) = true := decide_eq_true (by omega)
        have HD := Lib.hid (fun W => decimal_any i (by omega) W)
        obtain ⟨d, hd⟩ : ∃ d, decS i = d := ⟨_, rfl⟩
        rw [hd] at HD
        have hdt : d.toList = Lib.itoa (i : Int) := by rw [← hd]; rw [ByteArray.toList_eq]; unfold decS; simp
        by_cases he : s.toList = d.toList
        · have q2 : (s.toList == d.toList) = true := beq_iff_eq.2 he
          have HQ : Hid (lvlF o.tags = i) := Lib.hid (by rw [HL.out, lvlN_of hlt (by rw [← hdt, ← he, ByteArray.toList_eq])])
          clear he hd hdt HF
          go_wp2_with fail
          refine (HD.out _).mono ?_
          rintro e w2 ⟨rfl, hb2⟩
          replace hW := hW.trans (hb2.mono hW.size)
          clear hb2
          go_wp2
          go_ret
          exact RetB.mk' (congrArg (Value.int .i64) HQ.out.symm) hW
        · have q2 : (s.toList == d.toList) = false := beq_eq_false_iff_ne.2 he
          have HF2 : Hid (∀ n : Nat, n < i + 1 → Lib.itoa (n : Int) ≠ s.data.toList) := Lib.hid (fun n hn => by
            rcases Nat.lt_or_ge n i with h1 | h1
            · exact HF.out n h1
            · obtain rfl : n = i := by omega
              rw [← hdt, ← ByteArray.toList_eq]
              exact Ne.symm he)
          clear he hd hdt HF
          go_wp2_with fail
          refine (HD.out _).mono ?_
          rintro e w2 ⟨rfl, hb2⟩
          replace hW := hW.trans (hb2.mono hW.size)
          clear hb2
          go_wp2
          go_roundw
          case rel => exact ⟨i + 1, by omega, by go_num, hW, HF2⟩
          case measure => simp [intOf]; omega
      · obtain rfl : i = 18 := by omega
        have HQ : Hid (lvlF o.tags = 0) := Lib.hid (by rw [HL.out, lvlN_no HF.out]; rfl)
        go_wp2
        go_ret
        exact RetB.mk' (congrArg (Value.int .i64) HQ.out.symm) hW
end Go.Proofs.YtaggohobdjidjaaGreatDoor

/- Which objects have a label; the labels stand in order: plain. -/
namespace Go.Proofs.YtaggohobdjidjaaGreatDoor

theorem refPts_all (l : List Ob) : ∀ rs : List ByteArray, (refPts l rs).isSome = rs.all fun r => (refPt l r).isSome
  | [] => rfl
  | r :: rs => by
    have ih := refPts_all l rs
    unfold refPts
    rw [List.all_cons, ← ih]
    cases refPt l r <;> cases refPts l rs <;> rfl
theorem refPt_snd (l : List Ob) (r : ByteArray) : (refPt l r).isSome = match findO l r with | some k => decide (k.kind = 1) | none => false := by
  unfold refPt
  cases findO l r with
  | none => rfl
  | some k =>
    dsimp only
    by_cases h : k.kind = 1
    · rw [if_pos h, decide_eq_true h]; rfl
    · rw [if_neg h, decide_eq_false h]; rfl
theorem sndG_pts {l : List Ob} {o : Ob} (hk : o.kind ≤ 3) : sndG (fun _ => true) l o = (refPts l o.refs).isSome := by
  rw [refPts_all, Bool.eq_iff_iff, List.all_eq_true]
  unfold sndG
  rw [List.all_eq_true]
  have key : ∀ i, (hi : i < o.refs.length) → sndAt (fun _ => true) l o i = (refPt l o.refs[i]).isSome := fun i hi => by
    unfold sndAt
    rw [getElem!_pos o.refs i hi, refPt_snd]
    cases findO l o.refs[i] with
    | none => rfl
    | some k => dsimp only; rw [kindF_small hk, Bool.and_true]
  constructor
  · intro h r hr
    obtain ⟨i, hr⟩ := List.getElem?_of_mem hr
    obtain ⟨h', rfl⟩ := List.getElem?_eq_some_iff.1 hr
    rw [← key i h']
    exact h i (List.mem_range.2 h')
  · intro h i hi
    have hi := List.mem_range.1 hi
    rw [key i hi]
    exact h _ (List.getElem_mem hi)
theorem okO_leastR {o : Ob} (h : okO o = true) : leastF o.kind ≤ o.refs.length := by
  unfold okO at h
  simp only [Bool.and_eq_true] at h
  exact of_decide_eq_true h.1.1.1.2
/-- An object has a point for a label exactly if it is a sound node, way or area. -/
theorem anch_iff {l : List Ob} (hv : mapB l = true) {o : Ob} (ho : o ∈ l) : (anchF l o).isSome = (decide (o.kind ≤ 3) && sndG (fun _ => true) l o) := by
  have hok := mapB_ok hv o ho
  have hkb := okO_kindB hok
  have hfo : findO l o.id = some o := by
    unfold findO
    cases hf : l.find? fun x => x.id.toList == o.id.toList with
    | none =>
      have := List.find?_eq_none.1 hf o ho
      simp at this
    | some x =>
      have he := List.find?_some hf
      rw [rising_inj (mapB_rising hv) (List.mem_of_find?_eq_some hf) ho (by simpa using he)]
  unfold anchF
  rw [pointsF_some hfo]
  by_cases h1 : o.kind = 1
  · rw [ptsO_node h1, decide_eq_true (by omega)]
    rw [sndG_yes (fun i hi => by have := okO_norefs hok h1; omega)]
    rfl
  · by_cases h23 : o.kind = 2 ∨ o.kind = 3
    · rw [decide_eq_true (by omega), sndG_pts (by omega), Bool.true_and]
      have hlen := okO_leastR hok
      cases hp : refPts l o.refs with
      | none =>
        rw [ptsO_none h23 hp]
        rw [if_neg (by decide)]
        rfl
      | some ps =>
        rw [ptsO_some h23 hp]
        have hl := refPts_length l o.refs ps hp
        rw [if_pos ⟨rfl, fun e => by
          dsimp only at e
          rw [e] at hl
          have : (2 : Int) ≤ leastF o.kind := by
            rcases h23 with h | h <;> rw [h] <;> decide
          simp at hl
          omega⟩]
        rfl
    · rw [ptsO_other h1 h23, decide_eq_false (by omega)]
      rw [if_neg (by decide)]
      rfl
theorem labF_iff {l : List Ob} (hv : mapB l = true) {z : Int} {ls : List ByteArray} {o : Ob} (ho : o ∈ l) : (labF l z ls o).isSome = (decide (o.kind ≤ 3) && sndG (fun _ => true) l o && decide (lvlF o.tags ≤ z) && !((bestF o.tags ls).2.toList == [])) := by
  rw [← anch_iff hv ho]
  unfold labF
  by_cases h1 : (bestF o.tags ls).2.toList = []
  · rw [if_pos (.inl h1), h1]; simp
  · by_cases h2 : z < lvlF o.tags
    · rw [if_pos (.inr h2), decide_eq_false (by omega)]; simp
    · rw [if_neg (by rintro (h | h); exact h1 h; exact h2 h), decide_eq_true (by omega), beq_eq_false_iff_ne.2 h1]
      cases anchF l o <;> rfl

/-- Neighbours stand in order. -/
theorem srt_next {l : List Lab} (h : Srt ltL l) {i : Nat} {x y : Lab} (hx : l[i]? = some x) (hy : l[i + 1]? = some y) : ltL y x = false := by
  obtain ⟨h1, rfl⟩ := List.getElem?_eq_some_iff.1 hx
  obtain ⟨h2, rfl⟩ := List.getElem?_eq_some_iff.1 hy
  exact List.pairwise_iff_getElem.1 h i (i + 1) h1 h2 (by omega)
theorem labsG_diff {l : List Ob} (hr : Rising l) (z : Int) (ls : List ByteArray) (m : List Ob) : DiffP (labsG m z ls l) := by
  unfold DiffP labsG
  rw [List.pairwise_filterMap]
  refine hr.imp fun {a b} hab x hx y hy e => ?_
  rw [labF_id hx, labF_id hy] at e
  rw [e, bytesLess_irrefl] at hab
  cases hab
theorem labs_next {l : List Ob} (hv : mapB l = true) {z : Int} (h0 : 0 ≤ z) (h1 : z ≤ 17) {ls : List ByteArray} {i : Nat} {x y : Lab} (hx : (labsF l z ls)[i]? = some x) (hy : (labsF l z ls)[i + 1]? = some y) : x.r < y.r ∨ (¬ x.r < y.r ∧ x.r = y.r ∧ Op.bytesLess x.id.toList y.id.toList = true) := by
  unfold labsF at hx hy
  rw [if_pos ⟨hv, h0, h1⟩] at hx hy
  have hs := srt_next (isort_srt ltL_swo _) hx hy
  have hd := (labsG_diff (mapB_rising hv) z ls l).perm (isort_perm ltL (labsG l z ls l))
  refine ltL_yes ?_
  cases hc : ltL x y with
  | true => rfl
  | false =>
    exfalso
    have he := ltL_eq hc hs
    obtain ⟨k1, rfl⟩ := List.getElem?_eq_some_iff.1 hx
    obtain ⟨k2, rfl⟩ := List.getElem?_eq_some_iff.1 hy
    exact List.pairwise_iff_getElem.1 hd i (i + 1) k1 k2 (by omega) he
theorem labs_pos {l : List Ob} (hv : mapB l = true) {z : Int} (h0 : 0 ≤ z) (h1 : z ≤ 17) {ls : List ByteArray} {i : Nat} {x : Lab} (hx : (labsF l z ls)[i]? = some x) : 0 ≤ posO l x.id := by
  obtain ⟨o, ho, hl⟩ := (labs_mem hv h0 h1).1 (List.mem_of_getElem? hx)
  rw [labF_id hl]
  rcases posO_cases l o.id with ⟨-, h⟩ | ⟨k, _, h, -⟩
  · unfold findO at h
    have := List.find?_eq_none.1 h o ho
    simp at this
  · omega
theorem labs_count {l : List Ob} (hv : mapB l = true) {z : Int} (h0 : 0 ≤ z) (h1 : z ≤ 17) {ls : List ByteArray} : (labsF l z ls).length = (labsG l z ls l).length := by
  unfold labsF
  rw [if_pos ⟨hv, h0, h1⟩, isort_length]
end Go.Proofs.YtaggohobdjidjaaGreatDoor

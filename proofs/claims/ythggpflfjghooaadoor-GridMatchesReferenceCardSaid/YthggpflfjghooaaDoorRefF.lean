/- The reference's way of reading a tile's text, in plain lists. -/
import Derived.Test.YthggpflfjghooaaDoorRefE
import Derived.Test.YthggpflfjghooaaDoorPlain
namespace Go.Proofs.YthggpflfjghooaaDoor
open Go.RowKit Go.Sort

structure Scan where
  k : Nat
  a : Int
  b : Int
  c : Int

def Scan.get (s : Scan) : Int := if s.k = 0 then s.a else if s.k = 1 then s.b else s.c
def Scan.put (s : Scan) (v : Int) : Scan := if s.k = 0 then { s with a := v } else if s.k = 1 then { s with b := v } else { s with c := v }
/-- The number behind one more digit. -/
def digitF (n d : Int) : Int := min (10 * n + d) 10000000
def stepR (s : Scan) (u : UInt8) : Option Scan :=
  if u = 47 then some { s with k := s.k + 1 } else if 48 ≤ u.toNat ∧ u.toNat ≤ 57 ∧ s.k < 3 then some (s.put (digitF s.get (u.toNat - 48))) else none
def scanR (s : Scan) (l : List UInt8) : Option Scan := l.foldlM stepR s

theorem scan_snoc (s : Scan) (l : List UInt8) (u : UInt8) : scanR s (l ++ [u]) = (scanR s l).bind fun t => stepR t u := by
  unfold scanR
  rw [List.foldlM_append]
  simp [List.foldlM]
theorem scan_app (s : Scan) (l m : List UInt8) : scanR s (l ++ m) = (scanR s l).bind fun t => scanR t m := by
  unfold scanR
  rw [List.foldlM_append]
  rfl

theorem scan_dec (s : Scan) (hk : s.k < 3) (h0 : s.get = 0) : ∀ (n : Nat), n ≤ 1000000 → scanR s (Lib.decDigits n) = some (s.put n) := by
  intro n
  induction n using Nat.strongRecOn with
  | _ n ih =>
    intro hn
    rw [dec_split, scan_snoc]
    have hd : (UInt8.ofNat (48 + n % 10)).toNat = 48 + n % 10 := by simp; omega
    have hne : UInt8.ofNat (48 + n % 10) ≠ 47 := fun h => by
      have := congrArg UInt8.toNat h
      rw [hd] at this
      have h47 : (47 : UInt8).toNat = 47 := rfl
      omega
    have hstep : ∀ t : Scan, t.k = s.k → stepR t (UInt8.ofNat (48 + n % 10)) = some (t.put (digitF t.get ((48 + n % 10 : Nat) - 48))) := fun t ht => by
      unfold stepR
      rw [if_neg hne, if_pos ⟨by omega, by omega, by omega⟩, hd]
    have hnum : digitF ((n / 10 : Nat) : Int) ((48 + n % 10 : Nat) - 48) = n := by
      unfold digitF
      omega
    by_cases hz : n / 10 = 0
    · rw [if_pos hz]
      show (some s).bind _ = _
      rw [Option.bind_some, hstep s rfl, h0]
      rw [hz] at hnum
      rw [show (0 : Int) = ((0 : Nat) : Int) from rfl, hnum]
    · rw [if_neg hz, ih (n / 10) (by omega) (by omega), Option.bind_some]
      have hk2 : (s.put ((n / 10 : Nat) : Int)).k = s.k := by unfold Scan.put; split <;> (try split) <;> rfl
      rw [hstep _ hk2]
      have hg : (s.put ((n / 10 : Nat) : Int)).get = ((n / 10 : Nat) : Int) := by
        unfold Scan.get
        rw [hk2]
        unfold Scan.put
        split
        · rfl
        · split <;> rfl
      rw [hg, hnum]
      congr 1
      unfold Scan.put
      by_cases h1 : s.k = 0
      · simp [h1]
      · by_cases h2 : s.k = 1
        · simp [h2]
        · simp [h1, h2]

theorem scan_trip {z x y : Int} (h : validB z x y = true) : scanR ⟨0, 0, 0, 0⟩ (tripL z x y) = some ⟨2, z, x, y⟩ := by
  have h1 := valid_spec h
  have h2 := valid_le h
  obtain ⟨a, rfl⟩ := Int.eq_ofNat_of_zero_le h1.1
  obtain ⟨b, rfl⟩ := Int.eq_ofNat_of_zero_le h1.2.2.1
  obtain ⟨c, rfl⟩ := Int.eq_ofNat_of_zero_le h1.2.2.2.2.1
  have hs : ∀ t : Scan, scanR t [47] = some { t with k := t.k + 1 } := fun t => rfl
  unfold tripL
  rw [Lib.itoa_nonneg, Lib.itoa_nonneg, Lib.itoa_nonneg, scan_app, scan_app, scan_app, scan_app]
  rw [scan_dec ⟨0, 0, 0, 0⟩ (by decide) rfl a (by omega), Option.bind_some, hs, Option.bind_some]
  show ((scanR ⟨1, a, 0, 0⟩ (Lib.decDigits b)).bind _).bind _ = _
  rw [scan_dec ⟨1, a, 0, 0⟩ (show 1 < 3 by decide) rfl b (by omega), Option.bind_some, hs, Option.bind_some]
  show scanR ⟨2, a, b, 0⟩ (Lib.decDigits c) = _
  rw [scan_dec ⟨2, a, b, 0⟩ (show 2 < 3 by decide) rfl c (by omega)]
  rfl

/-- What the scan says of the answer. -/
theorem scan_none {s : ByteArray} (h : scanR ⟨0, 0, 0, 0⟩ s.data.toList = none) : parseF s = ⟨0, 0, 0, 5⟩ := by
  rcases parse_cases s with ⟨z, x, y, hv, hs, hp⟩ | hp
  · rw [hs, scan_trip hv] at h; cases h
  · exact hp
theorem scan_bad {s : ByteArray} {t : Scan} (h : scanR ⟨0, 0, 0, 0⟩ s.data.toList = some t) (hv : validB t.a t.b t.c = false) : parseF s = ⟨0, 0, 0, 5⟩ := by
  rcases parse_cases s with ⟨z, x, y, hv', hs, hp⟩ | hp
  · rw [hs, scan_trip hv'] at h
    cases h
    rw [hv'] at hv; cases hv
  · exact hp
theorem scan_other {s : ByteArray} {t : Scan} (h : scanR ⟨0, 0, 0, 0⟩ s.data.toList = some t) (hne : ¬ tripL t.a t.b t.c = s.data.toList) : parseF s = ⟨0, 0, 0, 5⟩ := by
  rcases parse_cases s with ⟨z, x, y, hv', hs, hp⟩ | hp
  · have h' := h
    rw [hs, scan_trip hv'] at h'
    cases h'
    exact absurd hs.symm hne
  · exact hp
theorem scan_cut {s : ByteArray} {i : Nat} (hi : i < s.data.toList.length) {st : Scan} (h : scanR ⟨0, 0, 0, 0⟩ (s.data.toList.take i) = some st) : scanR ⟨0, 0, 0, 0⟩ (s.data.toList.take (i + 1)) = stepR st s.data.toList[i] := by
  rw [List.take_succ_eq_append_getElem hi, scan_snoc, h]
  rfl
theorem scan_fail {s : ByteArray} {i : Nat} (h : scanR ⟨0, 0, 0, 0⟩ (s.data.toList.take i) = none) : scanR ⟨0, 0, 0, 0⟩ s.data.toList = none := by
  rw [← List.take_append_drop i s.data.toList, scan_app, h]
  rfl
end Go.Proofs.YthggpflfjghooaaDoor

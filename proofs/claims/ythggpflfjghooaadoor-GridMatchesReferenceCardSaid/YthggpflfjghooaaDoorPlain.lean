/- Texts of tiles in plain Lean: no program, no memory. -/
import Derived.Test.YthggpflfjghooaaDoorPure
namespace Go.Proofs.YthggpflfjghooaaDoor
open Go.Lib

theorem parse_append : ∀ (l r : List UInt8) (acc v : Nat), parseUint10 acc l = .ok v → parseUint10 acc (l ++ r) = parseUint10 v r
  | [], r, acc, v, h => by
    simp only [parseUint10] at h
    injection h with h
    rw [h]
    rfl
  | c :: l, r, acc, v, h => by
    simp only [List.cons_append, parseUint10] at h ⊢
    split at h
    · rename_i h1
      rw [if_pos h1]
      split at h
      · cases h
      · rename_i h2
        rw [if_neg h2]
        split at h
        · cases h
        · rename_i h3
          rw [if_neg h3]
          exact parse_append l r _ v h
    · cases h

theorem digit_nat (d : Nat) (h : d < 10) : (UInt8.ofNat (48 + d)).toNat = 48 + d := by
  rw [UInt8.toNat_ofNat']
  exact Nat.mod_eq_of_lt (by omega)

theorem parse_digits (u : Nat) : u < 1000000000000 → parseUint10 0 (decDigits u) = .ok u := by
  induction u using Nat.strongRecOn with
  | _ u ih =>
    intro hu
    rw [decDigits]
    by_cases h : u < 10
    · rw [dif_pos h]
      simp only [parseUint10]
      rw [digit_nat u h, if_pos (by omega), if_neg (by omega), if_neg (by omega)]
      congr 1
      omega
    · rw [dif_neg h, parse_append _ _ 0 (u / 10) (ih (u / 10) (by omega) (by omega))]
      simp only [parseUint10]
      rw [digit_nat (u % 10) (by omega), if_pos (by omega), if_neg (by omega), if_neg (by omega)]
      congr 1
      omega

theorem digits_all (u : Nat) : ∀ c, c ∈ decDigits u → 48 ≤ c.toNat ∧ c.toNat ≤ 57 := by
  induction u using Nat.strongRecOn with
  | _ u ih =>
    intro c hc
    rw [decDigits] at hc
    by_cases h : u < 10
    · rw [dif_pos h] at hc
      simp only [List.mem_singleton] at hc
      rw [hc, digit_nat u h]
      omega
    · rw [dif_neg h] at hc
      rcases List.mem_append.1 hc with hc | hc
      · exact ih (u / 10) (by omega) c hc
      · simp only [List.mem_singleton] at hc
        rw [hc, digit_nat (u % 10) (by omega)]
        omega

theorem digits_ne (u : Nat) : decDigits u ≠ [] := by
  rw [decDigits]
  by_cases h : u < 10
  · rw [dif_pos h]; simp
  · rw [dif_neg h]; simp

theorem itoa_nat (u : Nat) : itoa (u : Int) = decDigits u := by unfold itoa; rw [if_neg (by omega)]; simp

theorem numF_itoa (n : Int) (h0 : 0 ≤ n) (h1 : n < 1000000000000) : numF (itoa n) = n := by
  obtain ⟨u, rfl⟩ := Int.eq_ofNat_of_zero_le h0
  rw [itoa_nat]
  obtain ⟨c, r, hc⟩ : ∃ c r, decDigits u = c :: r := by
    cases h : decDigits u with
    | nil => exact absurd h (digits_ne u)
    | cons c r => exact ⟨c, r, rfl⟩
  have hd := digits_all u c (by rw [hc]; simp)
  have hp := parse_digits u (by omega)
  rw [hc] at hp
  unfold numF atoiAll
  rw [hc]
  simp only
  rw [if_neg (by omega)]
  unfold parseMag
  rw [if_neg (by simp), hp]
  simp only
  rw [if_neg (by omega), if_neg (by omega), if_neg (by omega)]

theorem no47 (n : Int) (h0 : 0 ≤ n) : (47 : UInt8) ∉ itoa n := by
  obtain ⟨u, rfl⟩ := Int.eq_ofNat_of_zero_le h0
  rw [itoa_nat]
  intro h
  have := (digits_all u 47 h).1
  revert this
  decide

theorem index_no : ∀ (a : List UInt8), (47 : UInt8) ∉ a → index a [47] = -1
  | [], _ => rfl
  | c :: a, h => by
    have h1 : (47 : UInt8) ≠ c := fun e => h (by rw [e]; simp)
    have h2 := index_no a (fun e => h (List.mem_cons_of_mem _ e))
    unfold index
    rw [h2]
    have e : List.isPrefixOf [(47 : UInt8)] (c :: a) = false := by simp [List.isPrefixOf, h1]
    rw [e]
    rfl
theorem index_at : ∀ (a r : List UInt8), (47 : UInt8) ∉ a → index (a ++ 47 :: r) [47] = (a.length : Int)
  | [], r, _ => by
    unfold index
    simp [List.isPrefixOf]
  | c :: a, r, h => by
    have h1 : (47 : UInt8) ≠ c := fun e => h (by rw [e]; simp)
    have h2 := index_at a r (fun e => h (List.mem_cons_of_mem _ e))
    rw [List.cons_append]
    unfold index
    rw [h2]
    have e : List.isPrefixOf [(47 : UInt8)] (c :: (a ++ 47 :: r)) = false := by simp [List.isPrefixOf, h1]
    rw [e]
    have e2 : (((a.length : Nat) : Int) == -1) = false := by rw [beq_eq_false_iff_ne]; omega
    rw [e2]
    simp

/-- The bytes of texts. -/
def dl (l : List ByteArray) : List (List UInt8) := l.map (·.data.toList)
def numL : List (List UInt8) → Int
  | [] => -1
  | s :: _ => numF s
theorem numH_dl (l : List ByteArray) : numH l = numL (dl l) := by cases l <;> rfl
theorem dl_tail (l : List ByteArray) : dl l.tail = (dl l).tail := by cases l <;> rfl

theorem split_step (k : Nat) (s : ByteArray) (a r : List UInt8) (ha : (47 : UInt8) ∉ a) (hs : s.data.toList = a ++ 47 :: r) :
    ∃ s' : ByteArray, s'.data.toList = r ∧ dl (splitB ⟨#[47]⟩ 0 (k + 1) s) = a :: dl (splitB ⟨#[47]⟩ 0 k s') := by
  have hi : indexB s ⟨#[47]⟩ = ((a.length : Nat) : Int) := by
    have : indexB s ⟨#[47]⟩ = index s.data.toList [47] := rfl
    rw [this, hs]
    exact index_at a r ha
  have hsz : s.size = a.length + 1 + r.length := by
    have : s.size = s.data.toList.length := by rw [Array.length_toList]; rfl
    rw [this, hs]
    simp
    omega
  refine ⟨s.extract (a.length + 1) s.size, ?_, ?_⟩
  · rw [extract_data, hs]
    have e1 : (a ++ 47 :: r).drop (a.length + 1) = r := by
      rw [← List.drop_drop, List.drop_left]
      rfl
    rw [e1]
    exact List.take_of_length_le (by omega)
  · rw [splitB_hit _ _ _ _ _ hi]
    show ((s.extract 0 (a.length + 0)).data.toList) :: _ = _
    rw [extract_data, hs]
    congr 1
    rw [Nat.add_zero, Nat.sub_zero, List.drop_zero]
    exact List.take_left

theorem pieces_three (text : ByteArray) (a b c : List UInt8) (ha : (47 : UInt8) ∉ a) (hb : (47 : UInt8) ∉ b) (hc : (47 : UInt8) ∉ c) (h : text.data.toList = a ++ [47] ++ b ++ [47] ++ c) : dl (piecesF text) = [a, b, c] := by
  have hn : countB text ⟨#[47]⟩ = 2 := by
    have : countB text ⟨#[47]⟩ = count text.data.toList [47] := rfl
    rw [this, count_one, h]
    simp [List.count_append, List.count_eq_zero.2 ha, List.count_eq_zero.2 hb, List.count_eq_zero.2 hc]
  unfold piecesF
  rw [hn]
  obtain ⟨s1, h1, e1⟩ := split_step 1 text a (b ++ [47] ++ c) ha (by rw [h]; simp)
  rw [e1]
  obtain ⟨s2, h2, e2⟩ := split_step 0 s1 b c hb (by rw [h1]; simp)
  rw [e2]
  simp [dl, splitB, h2]

/-- What Parse reads off three words. -/
theorem parse_three (text : ByteArray) (a b c : List UInt8) (ha : (47 : UInt8) ∉ a) (hb : (47 : UInt8) ∉ b) (hc : (47 : UInt8) ∉ c) (h : text.data.toList = a ++ [47] ++ b ++ [47] ++ c) :
    parseF text = if validB (numF a) (numF b) (numF c) = true ∧ tripL (numF a) (numF b) (numF c) = text.data.toList then ⟨numF a, numF b, numF c, 0⟩ else ⟨0, 0, 0, 5⟩ := by
  have hp := pieces_three text a b c ha hb hc h
  have h1 : numH (piecesF text) = numF a := by rw [numH_dl, hp]; rfl
  have h2 : numH (piecesF text).tail = numF b := by rw [numH_dl, dl_tail, hp]; rfl
  have h3 : numH (piecesF text).tail.tail = numF c := by rw [numH_dl, dl_tail, dl_tail, hp]; rfl
  unfold parseF
  rw [h1, h2, h3]

theorem parse_ok (text : ByteArray) (z x y : Int) (hv : validB z x y = true) (h : text.data.toList = tripL z x y) : parseF text = ⟨z, x, y, 0⟩ := by
  have h1 := valid_spec hv
  have h2 := valid_le hv
  rw [parse_three text (itoa z) (itoa x) (itoa y) (no47 z h1.1) (no47 x h1.2.2.1) (no47 y h1.2.2.2.2.1) h, numF_itoa z h1.1 (by omega), numF_itoa x h1.2.2.1 (by omega), numF_itoa y h1.2.2.2.2.1 (by omega), if_pos ⟨hv, h.symm⟩]

/-- A text is accepted, as a valid tile's, or it is not. -/
theorem parse_cases (text : ByteArray) : (∃ z x y, validB z x y = true ∧ text.data.toList = tripL z x y ∧ parseF text = ⟨z, x, y, 0⟩) ∨ parseF text = ⟨0, 0, 0, 5⟩ := by
  unfold parseF
  split
  · rename_i h
    exact .inl ⟨_, _, _, h.1, h.2.symm, rfl⟩
  · exact .inr rfl

theorem parse_a : parseF ⟨#[49, 47, 50, 47, 48]⟩ = ⟨0, 0, 0, 5⟩ := by
  have e1 : numF [49] = 1 := by decide
  have e2 : numF [50] = 2 := by decide
  have e3 : numF [48] = 0 := by decide
  rw [parse_three _ [49] [50] [48] (by decide) (by decide) (by decide) rfl, e1, e2, e3, if_neg (by decide)]
theorem parse_b : parseF ⟨#[48, 49, 47, 48, 47, 48]⟩ = ⟨0, 0, 0, 5⟩ := by
  have e1 : numF [48, 49] = 1 := by decide
  have e3 : numF [48] = 0 := by decide
  rw [parse_three _ [48, 49] [48] [48] (by decide) (by decide) (by decide) rfl, e1, e3, if_neg ?_]
  rintro ⟨_, h⟩
  have h1 : itoa 1 = [49] := by rw [show (1 : Int) = ((1 : Nat) : Int) from rfl, itoa_nat, decDigits_one (by omega)]; rfl
  have h0 : itoa 0 = [48] := by rw [show (0 : Int) = ((0 : Nat) : Int) from rfl, itoa_nat, decDigits_one (by omega)]; rfl
  unfold tripL at h
  rw [h1, h0] at h
  revert h
  decide
theorem parse_c : parseF ⟨#[49, 47, 49, 47, 48]⟩ = ⟨1, 1, 0, 0⟩ := by
  have h1 : itoa 1 = [49] := by rw [show (1 : Int) = ((1 : Nat) : Int) from rfl, itoa_nat, decDigits_one (by omega)]; rfl
  have h0 : itoa 0 = [48] := by rw [show (0 : Int) = ((0 : Nat) : Int) from rfl, itoa_nat, decDigits_one (by omega)]; rfl
  refine parse_ok _ 1 1 0 (by decide) ?_
  unfold tripL
  rw [h1, h0]
  rfl
end Go.Proofs.YthggpflfjghooaaDoor

/- Layer 7 in plain numbers: no program, no memory. -/
import Derived.RowKit
import Derived.Lib.SplitLaws
import Derived.Lib.AtoiAll
import Derived.Lib.ItoaNum
namespace Go.Proofs.YthggpflfjghooaaDoor

def levelB (z : Int) : Bool := decide (0 ≤ z ∧ z ≤ 17)
def insideB (x y : Int) : Bool := decide (0 ≤ x ∧ x < 1048576 ∧ 0 ≤ y ∧ y < 1048576)
def validB (z x y : Int) : Bool := decide ((0 ≤ z ∧ z ≤ 17) ∧ 0 ≤ x ∧ x < 2 ^ z.toNat ∧ 0 ≤ y ∧ y < 2 ^ z.toNat)
/-- The side of a zoom level. -/
def side (z : Int) : Int := 2 ^ (20 - z.toNat)

theorem lev17 {z : Int} (h0 : 0 ≤ z) (h1 : z ≤ 17) : z = 0 ∨ z = 1 ∨ z = 2 ∨ z = 3 ∨ z = 4 ∨ z = 5 ∨ z = 6 ∨ z = 7 ∨ z = 8 ∨ z = 9 ∨ z = 10 ∨ z = 11 ∨ z = 12 ∨ z = 13 ∨ z = 14 ∨ z = 15 ∨ z = 16 ∨ z = 17 := by omega

theorem pow_le17 (z : Int) (h0 : 0 ≤ z) (h1 : z ≤ 17) : (1 : Int) ≤ 2 ^ z.toNat ∧ (2 : Int) ^ z.toNat ≤ 131072 := by
  rcases lev17 h0 h1 with rfl | rfl | rfl | rfl | rfl | rfl | rfl | rfl | rfl | rfl | rfl | rfl | rfl | rfl | rfl | rfl | rfl | rfl <;> decide
theorem side_bd (z : Int) (h0 : 0 ≤ z) (h1 : z ≤ 17) : 8 ≤ side z ∧ side z ≤ 1048576 := by
  rcases lev17 h0 h1 with rfl | rfl | rfl | rfl | rfl | rfl | rfl | rfl | rfl | rfl | rfl | rfl | rfl | rfl | rfl | rfl | rfl | rfl <;> decide
theorem side_pow (z : Int) (h0 : 0 ≤ z) (h1 : z ≤ 17) : side z * 2 ^ z.toNat = 1048576 := by
  rcases lev17 h0 h1 with rfl | rfl | rfl | rfl | rfl | rfl | rfl | rfl | rfl | rfl | rfl | rfl | rfl | rfl | rfl | rfl | rfl | rfl <;> decide

/-- A tile and an error. -/
structure TE where
  z : Int
  x : Int
  y : Int
  e : Int
/-- A box and an error. -/
structure BE where
  a : Int
  b : Int
  c : Int
  d : Int
  e : Int
/-- A point and an error. -/
structure PE where
  x : Int
  y : Int
  e : Int

def ofF (x y z : Int) : TE := if levelB z then if insideB x y then ⟨z, x / side z, y / side z, 0⟩ else ⟨0, 0, 0, 10⟩ else ⟨0, 0, 0, 1⟩
def boxF (z x y : Int) : BE := if validB z x y then ⟨x * side z, y * side z, x * side z + side z - 1, y * side z + side z - 1, 0⟩ else ⟨0, 0, 0, 0, 1⟩
def upF (z x y : Int) : TE := if validB z x y then if z = 0 then ⟨0, 0, 0, 11⟩ else ⟨z - 1, x / 2, y / 2, 0⟩ else ⟨0, 0, 0, 1⟩
def farB (x y : Int) : Bool := decide (x < -2097152 ∨ y < -2097152 ∨ 2097152 < x ∨ 2097152 < y)
/-- A coordinate of a pixel: n is the distance to the box's corner. -/
def scaleF (z n : Int) : Int := n * 256 / side z
def pixelF (z x y px py : Int) : PE :=
  if validB z x y then if farB px py then ⟨0, 0, 10⟩ else ⟨scaleF z (px - x * side z), scaleF z (py - y * side z), 0⟩ else ⟨0, 0, 1⟩

/-- What a valid tile's numbers are. -/
theorem valid_spec {z x y : Int} (h : validB z x y = true) : 0 ≤ z ∧ z ≤ 17 ∧ 0 ≤ x ∧ x * side z + side z ≤ 1048576 ∧ 0 ≤ y ∧ y * side z + side z ≤ 1048576 := by
  have h' : (0 ≤ z ∧ z ≤ 17) ∧ 0 ≤ x ∧ x < 2 ^ z.toNat ∧ 0 ≤ y ∧ y < 2 ^ z.toNat := by simpa [validB] using h
  obtain ⟨⟨h0, h1⟩, hx, hx2, hy, hy2⟩ := h'
  have hp := side_pow z h0 h1
  have hs := side_bd z h0 h1
  refine ⟨h0, h1, hx, ?_, hy, ?_⟩
  · have : (x + 1) * side z ≤ 2 ^ z.toNat * side z := Int.mul_le_mul_of_nonneg_right (by omega) (by omega)
    rw [Int.add_mul, Int.one_mul, Int.mul_comm (2 ^ z.toNat)] at this
    omega
  · have : (y + 1) * side z ≤ 2 ^ z.toNat * side z := Int.mul_le_mul_of_nonneg_right (by omega) (by omega)
    rw [Int.add_mul, Int.one_mul, Int.mul_comm (2 ^ z.toNat)] at this
    omega

theorem valid_le {z x y : Int} (h : validB z x y = true) : x < 131072 ∧ y < 131072 := by
  have h' : (0 ≤ z ∧ z ≤ 17) ∧ 0 ≤ x ∧ x < 2 ^ z.toNat ∧ 0 ≤ y ∧ y < 2 ^ z.toNat := by simpa [validB] using h
  have := pow_le17 z h'.1.1 h'.1.2
  omega

/-- The number that Atoi finds, or -1. -/
def numF (l : List UInt8) : Int := match Lib.atoiAll l with
  | .ok v => v
  | _ => -1

/-- The text of three numbers. -/
def tripL (z x y : Int) : List UInt8 := Lib.itoa z ++ [47] ++ Lib.itoa x ++ [47] ++ Lib.itoa y

/-- What the first word says. -/
def numH : List ByteArray → Int
  | [] => -1
  | s :: _ => numF s.data.toList

/-- The pieces of a text between strokes. -/
def piecesF (text : ByteArray) : List ByteArray := Lib.splitB ⟨#[47]⟩ 0 (Lib.countB text ⟨#[47]⟩) text
/-- What Parse returns. -/
def parseF (text : ByteArray) : TE :=
  if validB (numH (piecesF text)) (numH (piecesF text).tail) (numH (piecesF text).tail.tail) = true ∧ tripL (numH (piecesF text)) (numH (piecesF text).tail) (numH (piecesF text).tail.tail) = text.data.toList
  then ⟨numH (piecesF text), numH (piecesF text).tail, numH (piecesF text).tail.tail, 0⟩ else ⟨0, 0, 0, 5⟩

end Go.Proofs.YthggpflfjghooaaDoor

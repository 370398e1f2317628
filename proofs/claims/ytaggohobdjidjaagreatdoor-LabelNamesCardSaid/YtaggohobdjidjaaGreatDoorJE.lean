import Derived.Test.YtaggohobdjidjaaGreatDoorJA
import Derived.Shelf.Small.Strs
import Derived.Shelf.Small.Wraps
import Derived.Shelf.Strconv.Atoi
import Derived.Shelf.Strconv.Itoa0
import Derived.Shelf.Strconv.Itoa1
import Derived.Shelf.LaysM
import Derived.Shelf.Strconv.Itoa2
import Derived.Shelf.Strconv.Itoa3
import Derived.Shelf.Strconv.AtoiErrFast
import Derived.Shelf.Strconv.ParseIntEmpty
import Derived.Shelf.Strconv.AtoiFail
import Derived.Shelf.Strconv.Clone
import Derived.Shelf.Strconv.SyntaxError
import Derived.Shelf.LaysC
import Derived.Shelf.Strconv.ToError
import Derived.Shelf.Strconv.Lower
import Derived.Shelf.Strconv.ParseUint10
import Derived.Shelf.Strconv.ParseUint10Empty
import Derived.Shelf.Strconv.ParseUint10Any
import Derived.Shelf.Strconv.ParseInt10
import Derived.Shelf.Strconv.AtoiLong
import Derived.Shelf.Strconv.AtoiInnerAll
import Derived.Shelf.Strconv.RangeError
import Derived.Shelf.Strconv.ToErrorRange
import Derived.Shelf.Strconv.AtoiAll
import Derived.Shelf.Strconv.ErrVarAll
import Derived.Shelf.Strings.Search1
import Derived.Shelf.Strings.Prefix
import Derived.Test.YtaggohobdjidjaaGreatDoorProg
import Derived.Test.YtaggohobdjidjaaGreatDoorJ0
import Derived.Laws.Rows

/- Names in plain bytes: no program, no memory. -/
namespace Go.Proofs.YtaggohobdjidjaaGreatDoor

/-- The class of a byte: 3 a letter, 4 a digit, 5 the underscore, 1 a blank, 2 a hash, 6 a symbol, 7 a quote, 0 another. -/
def clsN (c : Nat) : Nat :=
  if (97 ≤ c ∧ c ≤ 122) ∨ (65 ≤ c ∧ c ≤ 90) then 3
  else if 48 ≤ c ∧ c ≤ 57 then 4
  else if c = 95 then 5
  else if c = 35 then 2
  else if c = 34 then 7
  else if c = 32 ∨ c = 9 ∨ c = 10 then 1
  else if c = 59 ∨ c = 44 ∨ c = 46 ∨ c = 58 ∨ c = 40 ∨ c = 41 ∨ c = 123 ∨ c = 125 ∨ c = 91 ∨ c = 93 ∨ c = 61 ∨ c = 60 ∨ c = 62 ∨ c = 47 ∨ c = 45 then 6
  else 0
/-- .. ahead of the three last stores. -/
def clsM (c : Nat) : Nat := if c = 35 ∨ c = 95 ∨ c = 34 then 0 else clsN c

/-- May the byte stand in a name at place i? -/
def wordB (first : Bool) (c : Nat) : Bool := clsN c == 3 || (!first && (clsN c == 4 || clsN c == 5))
def restB : List UInt8 → Bool := fun l => l.all fun c => wordB false c.toNat
/-- Is a text a name? -/
def nameB (s : List UInt8) : Bool := match s with
  | [] => false
  | c :: r => wordB true c.toNat && restB r && decide (r.length + 1 ≤ 24)

/-- All bytes fit their places. -/
def fitB (l : List UInt8) : Bool := match l with
  | [] => true
  | c :: r => wordB true c.toNat && restB r
theorem nameB_eq (l : List UInt8) : nameB l = (fitB l && !l.isEmpty && decide (l.length ≤ 24)) := by
  cases l with
  | nil => rfl
  | cons c r => simp [nameB, fitB]
theorem fitB_take_zero (l : List UInt8) : fitB (l.take 0) = true := by simp [fitB]
theorem fitB_take_succ {l : List UInt8} {i : Nat} (hi : i < l.length) : fitB (l.take (i + 1)) = (fitB (l.take i) && wordB (i == 0) l[i].toNat) := by
  cases l with
  | nil => simp at hi
  | cons c r =>
    cases i with
    | zero => simp [fitB, restB]
    | succ i =>
      have hi' : i < r.length := by simpa using hi
      simp only [List.take_succ_cons, fitB, restB, List.getElem_cons_succ]
      rw [List.take_succ_eq_append_getElem hi', List.all_append]
      simp [Bool.and_assoc]
theorem fitB_mono {l : List UInt8} {i : Nat} (h : fitB (l.take i) = false) : fitB l = false := by
  cases l with
  | nil => simp [fitB] at h
  | cons c r =>
    cases i with
    | zero => simp [fitB] at h
    | succ i =>
      simp only [List.take_succ_cons, fitB, restB, Bool.and_eq_false_iff] at h ⊢
      rcases h with h | h
      · exact .inl h
      · right
        rw [List.all_eq_false] at h ⊢
        obtain ⟨x, hx, hp⟩ := h
        exact ⟨x, List.mem_of_mem_take hx, hp⟩
theorem nameB_ascii {l : List UInt8} (h : nameB l = true) : ∀ c ∈ l, c.toNat < 128 := by
  have key : ∀ f c, wordB f c = true → c < 128 := by
    intro f c h
    unfold wordB clsN at h
    repeat' split at h
    all_goals first | omega | simp at h
  cases l with
  | nil => simp [nameB] at h
  | cons c r =>
    simp only [nameB, Bool.and_eq_true] at h
    intro d hd
    rcases List.mem_cons.1 hd with rfl | hd
    · exact key _ _ h.1.1
    · exact key _ _ (List.all_eq_true.1 h.1.2 d hd)
end Go.Proofs.YtaggohobdjidjaaGreatDoor

/- Lists whose keys rise, tags, objects, maps: when they are valid; in plain lists. -/
namespace Go.Proofs.YtaggohobdjidjaaGreatDoor

section
variable {α : Type} (ok : α → Bool) (key : α → ByteArray)
/-- Each is well, and its key is greater than the one before. -/
def chainB : ByteArray → List α → Bool
  | _, [] => true
  | last, x :: r => ok x && Op.bytesLess last.toList (key x).toList && chainB (key x) r
/-- The key ahead of place i. -/
def lastK : ByteArray → List α → Nat → ByteArray
  | last, _, 0 => last
  | last, [], _ => last
  | _, x :: r, i + 1 => lastK (key x) r i
theorem lastK_zero (last : ByteArray) (l : List α) : lastK key last l 0 = last := by cases l <;> rfl
theorem lastK_succ : ∀ (l : List α) (last : ByteArray) (i : Nat) (x : α), l[i]? = some x → lastK key last l (i + 1) = key x
  | [], _, i, x, h => by simp at h
  | y :: l, last, 0, x, h => by
    obtain rfl : y = x := by simpa using h
    exact lastK_zero key _ _
  | y :: l, last, i + 1, x, h => lastK_succ l (key y) i x (by simpa using h)
theorem chain_succ : ∀ (l : List α) (last : ByteArray) (i : Nat) (x : α), l[i]? = some x → chainB ok key last (l.take (i + 1)) = (chainB ok key last (l.take i) && (ok x && Op.bytesLess (lastK key last l i).toList (key x).toList))
  | [], _, i, x, h => by simp at h
  | y :: l, last, 0, x, h => by
    obtain rfl : y = x := by simpa using h
    simp [chainB, lastK]
  | y :: l, last, i + 1, x, h => by
    have ih := chain_succ l (key y) i x (by simpa using h)
    simp only [List.take_succ_cons, chainB, lastK, ih]
    cases ok y <;> cases Op.bytesLess last.toList (key y).toList <;> simp
theorem chain_zero (l : List α) (last : ByteArray) : chainB ok key last (l.take 0) = true := by simp [chainB]
theorem chain_mono : ∀ (l : List α) (last : ByteArray) (i : Nat), chainB ok key last (l.take i) = false → chainB ok key last l = false
  | [], _, i, h => by simpa using h
  | y :: l, last, 0, h => by simp [chainB] at h
  | y :: l, last, i + 1, h => by
    simp only [List.take_succ_cons, chainB, Bool.and_eq_false_iff] at h ⊢
    exact h.imp id (chain_mono l (key y) i)
theorem chain_bad (l : List α) (last : ByteArray) (i : Nat) (x : α) (hx : l[i]? = some x) (h : (ok x && Op.bytesLess (lastK key last l i).toList (key x).toList) = false) : chainB ok key last l = false :=
  chain_mono ok key l last (i + 1) (by rw [chain_succ ok key l last i x hx, h, Bool.and_false])
theorem chain_all : ∀ (l : List α) (last : ByteArray), chainB ok key last l = true → ∀ x ∈ l, ok x = true
  | [], _, _, x, hx => by cases hx
  | y :: l, last, h, x, hx => by
    simp only [chainB, Bool.and_eq_true] at h
    rcases List.mem_cons.1 hx with rfl | hx
    · exact h.1.1
    · exact chain_all l _ h.2 x hx
end

/-- Two texts: one is less, or the other is not greater. -/
theorem less_or (a b : List UInt8) : (Op.bytesLess a b || a == b) = !Op.bytesLess b a := by
  cases h1 : Op.bytesLess b a with
  | true =>
    have h2 : Op.bytesLess a b = false := by
      cases k : Op.bytesLess a b with
      | false => rfl
      | true => have := bytesLess_trans _ _ _ h1 k; rw [bytesLess_irrefl] at this; cases this
    have h3 : (a == b) = false := by
      rw [beq_eq_false_iff_ne]
      intro e
      rw [e, bytesLess_irrefl] at h1
      cases h1
    rw [h2, h3]; rfl
  | false =>
    cases h2 : Op.bytesLess a b with
    | true => rfl
    | false => rw [bytesLess_tri _ _ h2 h1]; simp

/-- A tag: its key, its value. -/
abbrev Tg := ByteArray × ByteArray
def okT (t : Tg) : Bool := nameB t.1.data.toList && (!t.2.toList.isEmpty && decide (t.2.size ≤ 200))
def tagsB (l : List Tg) : Bool := chainB okT Prod.fst ByteArray.empty l && decide (l.length ≤ 60)

/-- An object. -/
structure Ob where
  id : ByteArray
  kind : Int
  x : Int
  y : Int
  refs : List ByteArray
  tags : List Tg
instance : Inhabited Ob := ⟨⟨ByteArray.empty, 0, 0, 0, [], []⟩⟩
def leastF (kind : Int) : Int := if kind = 2 then 2 else if kind = 3 then 3 else if kind = 4 then 1 else if kind = 5 then 3 else 0
/-- The reference at place i is not as required. -/
def lastR (l : List ByteArray) (i : Nat) : ByteArray := if i = 0 then ByteArray.empty else l[i - 1]!
def badR (kind : Int) (l : List ByteArray) (i : Nat) : Bool :=
  (decide (kind = 2) && (l[i]!.toList == (lastR l i).toList)) || (decide (kind = 3) && (l.take i).any (fun u => u.toList == l[i]!.toList)) || !nameB l[i]!.data.toList
def refsOk (kind : Int) (l : List ByteArray) : Bool := !(List.range l.length).any (badR kind l)
def onB (x y : Int) : Bool := decide (0 ≤ x ∧ x < 1048576 ∧ 0 ≤ y ∧ y < 1048576)
def okO (o : Ob) : Bool := decide (1 ≤ o.kind ∧ o.kind ≤ 5) && nameB o.id.data.toList && tagsB o.tags && decide (leastF o.kind ≤ o.refs.length) && decide (o.refs.length ≤ 2000) && refsOk o.kind o.refs &&
  (if o.kind = 1 then decide (o.refs.length = 0) && onB o.x o.y else decide (o.kind = 5 → o.refs.length = 3) && decide (o.x = 0 ∧ o.y = 0))
def mapB (l : List Ob) : Bool := chainB okO Ob.id ByteArray.empty l && decide (l.length ≤ 1000000)
end Go.Proofs.YtaggohobdjidjaaGreatDoor

/-
  DERIVED: THE SHELF's CONTRACTS AT THIS DUMP, IN PLAIN WORDS (tools/lay-plain.mjs out of 'TryzShelf.lean', which tools/lay-shelf.mjs wrote): THE SAME DECLARATIONS UNDER THE SAME NAMES: 'import', 'namespace', 'open', 'def', 'theorem' AND NOTHING ELSE: no command of the shelf's: FOR A HAND-IN. Each laying: the table of numbers ('.._ren') and one theorem, a field a fact of the dump's own or the kernel's comparison; each contract: ONE APPLICATION.
-/
namespace Go.Proofs
open Go.Shelf
def Tryz.lays106_ren : Go.Shelf.Ren := ⟨fun | 106 => 124 | 213 => 141 | 265 => 153 | n => n, fun | 9 => 9 | 3 => 3 | n => n, fun | n => n⟩
theorem Tryz.lays106 : Go.Proofs.Lays.n106 Tryz.prog Tryz.lays106_ren := {
  mixed := by kernel_rfl
  f106 := Tryz.func124.trans (congrArg some (by kernel_rfl))
  f213 := Tryz.func141.trans (congrArg some (by kernel_rfl))
  f265 := Tryz.func153.trans (congrArg some (by kernel_rfl))
  t3 := Tryz.underlying3
  a3 := Tryz.isAgg3
  z3 := Tryz.sizeOf3
  v3 := Tryz.zeroValue3
  t9 := Tryz.underlying9
  a9 := Tryz.isAgg9
  z9 := Tryz.sizeOf9
  v9 := Tryz.zeroValue9 }
def Tryz.lays137_ren : Go.Shelf.Ren := ⟨fun | 137 => 129 | 217 => 143 | 266 => 154 | n => n, fun | 9 => 9 | 5 => 5 | 3 => 3 | n => n, fun | n => n⟩
theorem Tryz.lays137 : Go.Proofs.Lays.n137 Tryz.prog Tryz.lays137_ren := {
  mixed := by kernel_rfl
  f137 := Tryz.func129.trans (congrArg some (by kernel_rfl))
  f217 := Tryz.func143.trans (congrArg some (by kernel_rfl))
  f266 := Tryz.func154.trans (congrArg some (by kernel_rfl))
  t3 := Tryz.underlying3
  a3 := Tryz.isAgg3
  z3 := Tryz.sizeOf3
  v3 := Tryz.zeroValue3
  t5 := Tryz.underlying5
  a5 := Tryz.isAgg5
  z5 := Tryz.sizeOf5
  v5 := Tryz.zeroValue5
  t9 := Tryz.underlying9
  a9 := Tryz.isAgg9
  z9 := Tryz.sizeOf9
  v9 := Tryz.zeroValue9 }
def Tryz.lays103_ren : Go.Shelf.Ren := ⟨fun | 103 => 110 | 210 => 130 | 206 => 144 | n => n, fun | 9 => 9 | 4 => 4 | 24 => 94 | 3 => 3 | n => n, fun | n => n⟩
theorem Tryz.lays103 : Go.Proofs.Lays.n103 Tryz.prog Tryz.lays103_ren := {
  mixed := by kernel_rfl
  f103 := Tryz.func110.trans (congrArg some (by kernel_rfl))
  f206 := Tryz.func144.trans (congrArg some (by kernel_rfl))
  f210 := Tryz.func130.trans (congrArg some (by kernel_rfl))
  t3 := Tryz.underlying3
  a3 := Tryz.isAgg3
  z3 := Tryz.sizeOf3
  v3 := Tryz.zeroValue3
  t4 := Tryz.underlying4
  a4 := Tryz.isAgg4
  z4 := Tryz.sizeOf4
  v4 := Tryz.zeroValue4
  t9 := Tryz.underlying9
  a9 := Tryz.isAgg9
  z9 := Tryz.sizeOf9
  v9 := Tryz.zeroValue9
  t24 := Tryz.underlying94
  a24 := Tryz.isAgg94
  z24 := Tryz.sizeOf94
  v24 := Tryz.zeroValue94 }
def Tryz.laysM171_ren : Go.Shelf.Ren := ⟨fun | 171 => 68 | 243 => 96 | 246 => 119 | 283 => 136 | 284 => 137 | 285 => 138 | 286 => 139 | 129 => 149 | 317 => 148 | 318 => 150 | 319 => 151 | 320 => 152 | 337 => 156 | 338 => 157 | n => n, fun | 3 => 3 | 9 => 9 | 2 => 2 | 4 => 4 | 171 => 162 | 0 => 0 | 53 => 155 | 37 => 140 | 5 => 5 | 173 => 165 | 212 => 175 | 51 => 176 | 20 => 20 | 213 => 177 | 46 => 86 | 232 => 180 | 233 => 181 | n => n, fun | 17 => 2 | 18 => 4 | 19 => 5 | n => n⟩
theorem Tryz.laysM171 : Go.Proofs.LaysM.n171 Tryz.prog Tryz.laysM171_ren := {
  mixed := by kernel_rfl
  f129 := Tryz.func149.trans (congrArg some (by kernel_rfl))
  f171 := Tryz.func68.trans (congrArg some (by kernel_rfl))
  f243 := Tryz.func96.trans (congrArg some (by kernel_rfl))
  f246 := Tryz.func119.trans (congrArg some (by kernel_rfl))
  f283 := Tryz.func136.trans (congrArg some (by kernel_rfl))
  f284 := Tryz.func137.trans (congrArg some (by kernel_rfl))
  f285 := Tryz.func138.trans (congrArg some (by kernel_rfl))
  f286 := Tryz.func139.trans (congrArg some (by kernel_rfl))
  f317 := Tryz.func148.trans (congrArg some (by kernel_rfl))
  f318 := Tryz.func150.trans (congrArg some (by kernel_rfl))
  f319 := Tryz.func151.trans (congrArg some (by kernel_rfl))
  f320 := Tryz.func152.trans (congrArg some (by kernel_rfl))
  f337 := Tryz.func156.trans (congrArg some (by kernel_rfl))
  f338 := Tryz.func157.trans (congrArg some (by kernel_rfl))
  t0 := Tryz.underlying0
  a0 := Tryz.isAgg0
  z0 := Tryz.sizeOf0
  v0 := Tryz.zeroValue0
  t2 := Tryz.underlying2
  a2 := Tryz.isAgg2
  z2 := Tryz.sizeOf2
  v2 := Tryz.zeroValue2
  t3 := Tryz.underlying3
  a3 := Tryz.isAgg3
  z3 := Tryz.sizeOf3
  v3 := Tryz.zeroValue3
  t4 := Tryz.underlying4
  a4 := Tryz.isAgg4
  z4 := Tryz.sizeOf4
  v4 := Tryz.zeroValue4
  t5 := Tryz.underlying5
  a5 := Tryz.isAgg5
  z5 := Tryz.sizeOf5
  v5 := Tryz.zeroValue5
  t9 := Tryz.underlying9
  a9 := Tryz.isAgg9
  z9 := Tryz.sizeOf9
  v9 := Tryz.zeroValue9
  t20 := Tryz.underlying20
  a20 := Tryz.isAgg20
  z20 := Tryz.sizeOf20
  v20 := Tryz.zeroValue20
  t37 := Tryz.underlying140
  a37 := Tryz.isAgg140
  z37 := Tryz.sizeOf140
  v37 := Tryz.zeroValue140
  t46 := Tryz.underlying86
  a46 := Tryz.isAgg86
  z46 := Tryz.sizeOf86
  v46 := Tryz.zeroValue86
  t51 := Tryz.underlying176
  a51 := Tryz.isAgg176
  z51 := Tryz.sizeOf176
  v51 := Tryz.zeroValue176
  t53 := Tryz.underlying155
  a53 := Tryz.isAgg155
  z53 := Tryz.sizeOf155
  v53 := Tryz.zeroValue155
  t171 := Tryz.underlying162
  a171 := Tryz.isAgg162
  z171 := Tryz.sizeOf162
  v171 := Tryz.zeroValue162
  t173 := Tryz.underlying165
  a173 := Tryz.isAgg165
  z173 := Tryz.sizeOf165
  v173 := Tryz.zeroValue165
  t212 := Tryz.underlying175
  a212 := Tryz.isAgg175
  z212 := Tryz.sizeOf175
  v212 := Tryz.zeroValue175
  t213 := Tryz.underlying177
  a213 := Tryz.isAgg177
  z213 := Tryz.sizeOf177
  t232 := Tryz.underlying180
  a232 := Tryz.isAgg180
  z232 := Tryz.sizeOf180
  v232 := Tryz.zeroValue180
  t233 := Tryz.underlying181
  a233 := Tryz.isAgg181
  z233 := Tryz.sizeOf181
  v233 := Tryz.zeroValue181
  g17 := by kernel_rfl
  g18 := by kernel_rfl
  g19 := by kernel_rfl
  i0 := by kernel_rfl
  i2 := by kernel_rfl
  i3 := by kernel_rfl
  i4 := by kernel_rfl
  i5 := by kernel_rfl
  i9 := by kernel_rfl
  i20 := by kernel_rfl
  i37 := by kernel_rfl
  i46 := by kernel_rfl
  i51 := by kernel_rfl
  i53 := by kernel_rfl
  i171 := by kernel_rfl
  i173 := by kernel_rfl
  i212 := by kernel_rfl
  i232 := by kernel_rfl
  i233 := by kernel_rfl
  m17 := by kernel_rfl
  m18 := by kernel_rfl
  m19 := by kernel_rfl }
def Tryz.laysC172_ren : Go.Shelf.Ren := ⟨fun | 172 => 67 | 244 => 94 | 245 => 95 | 247 => 114 | 279 => 115 | 280 => 116 | 281 => 117 | 282 => 118 | 287 => 133 | 316 => 134 | 171 => 68 | 205 => 135 | 321 => 146 | 322 => 147 | 243 => 96 | 246 => 119 | 283 => 136 | 284 => 137 | 285 => 138 | 286 => 139 | 129 => 149 | 317 => 148 | 318 => 150 | 319 => 151 | 320 => 152 | 337 => 156 | 338 => 157 | n => n, fun | 9 => 9 | 3 => 3 | 75 => 101 | 76 => 102 | 4 => 4 | 5 => 5 | 167 => 139 | 37 => 140 | 0 => 0 | 85 => 141 | 2 => 2 | 168 => 143 | 53 => 155 | 175 => 156 | 46 => 86 | 210 => 160 | 127 => 170 | 145 => 173 | 143 => 171 | 21 => 21 | 171 => 162 | 173 => 165 | 212 => 175 | 51 => 176 | 20 => 20 | 213 => 177 | 232 => 180 | 233 => 181 | 80 => 182 | n => n, fun | 15 => 0 | 16 => 1 | 17 => 2 | 18 => 4 | 19 => 5 | n => n⟩
theorem Tryz.laysC172 : Go.Proofs.LaysC.n172 Tryz.prog Tryz.laysC172_ren := {
  mixed := by kernel_rfl
  f129 := Tryz.func149.trans (congrArg some (by kernel_rfl))
  f171 := Tryz.func68.trans (congrArg some (by kernel_rfl))
  f172 := Tryz.func67.trans (congrArg some (by kernel_rfl))
  f205 := Tryz.func135.trans (congrArg some (by kernel_rfl))
  f243 := Tryz.func96.trans (congrArg some (by kernel_rfl))
  f244 := Tryz.func94.trans (congrArg some (by kernel_rfl))
  f245 := Tryz.func95.trans (congrArg some (by kernel_rfl))
  f246 := Tryz.func119.trans (congrArg some (by kernel_rfl))
  f247 := Tryz.func114.trans (congrArg some (by kernel_rfl))
  f279 := Tryz.func115.trans (congrArg some (by kernel_rfl))
  f280 := Tryz.func116.trans (congrArg some (by kernel_rfl))
  f281 := Tryz.func117.trans (congrArg some (by kernel_rfl))
  f282 := Tryz.func118.trans (congrArg some (by kernel_rfl))
  f283 := Tryz.func136.trans (congrArg some (by kernel_rfl))
  f284 := Tryz.func137.trans (congrArg some (by kernel_rfl))
  f285 := Tryz.func138.trans (congrArg some (by kernel_rfl))
  f286 := Tryz.func139.trans (congrArg some (by kernel_rfl))
  f287 := Tryz.func133.trans (congrArg some (by kernel_rfl))
  f316 := Tryz.func134.trans (congrArg some (by kernel_rfl))
  f317 := Tryz.func148.trans (congrArg some (by kernel_rfl))
  f318 := Tryz.func150.trans (congrArg some (by kernel_rfl))
  f319 := Tryz.func151.trans (congrArg some (by kernel_rfl))
  f320 := Tryz.func152.trans (congrArg some (by kernel_rfl))
  f321 := Tryz.func146.trans (congrArg some (by kernel_rfl))
  f322 := Tryz.func147.trans (congrArg some (by kernel_rfl))
  f337 := Tryz.func156.trans (congrArg some (by kernel_rfl))
  f338 := Tryz.func157.trans (congrArg some (by kernel_rfl))
  t0 := Tryz.underlying0
  a0 := Tryz.isAgg0
  z0 := Tryz.sizeOf0
  v0 := Tryz.zeroValue0
  t2 := Tryz.underlying2
  a2 := Tryz.isAgg2
  z2 := Tryz.sizeOf2
  v2 := Tryz.zeroValue2
  t3 := Tryz.underlying3
  a3 := Tryz.isAgg3
  z3 := Tryz.sizeOf3
  v3 := Tryz.zeroValue3
  t4 := Tryz.underlying4
  a4 := Tryz.isAgg4
  z4 := Tryz.sizeOf4
  v4 := Tryz.zeroValue4
  t5 := Tryz.underlying5
  a5 := Tryz.isAgg5
  z5 := Tryz.sizeOf5
  v5 := Tryz.zeroValue5
  t9 := Tryz.underlying9
  a9 := Tryz.isAgg9
  z9 := Tryz.sizeOf9
  v9 := Tryz.zeroValue9
  t20 := Tryz.underlying20
  a20 := Tryz.isAgg20
  z20 := Tryz.sizeOf20
  v20 := Tryz.zeroValue20
  t21 := Tryz.underlying21
  a21 := Tryz.isAgg21
  z21 := Tryz.sizeOf21
  v21 := Tryz.zeroValue21
  t37 := Tryz.underlying140
  a37 := Tryz.isAgg140
  z37 := Tryz.sizeOf140
  v37 := Tryz.zeroValue140
  t46 := Tryz.underlying86
  a46 := Tryz.isAgg86
  z46 := Tryz.sizeOf86
  v46 := Tryz.zeroValue86
  t51 := Tryz.underlying176
  a51 := Tryz.isAgg176
  z51 := Tryz.sizeOf176
  v51 := Tryz.zeroValue176
  t53 := Tryz.underlying155
  a53 := Tryz.isAgg155
  z53 := Tryz.sizeOf155
  v53 := Tryz.zeroValue155
  t75 := Tryz.underlying101
  a75 := Tryz.isAgg101
  z75 := Tryz.sizeOf101
  v75 := Tryz.zeroValue101
  t76 := Tryz.underlying102
  a76 := Tryz.isAgg102
  z76 := Tryz.sizeOf102
  v76 := Tryz.zeroValue102
  t85 := Tryz.underlying141
  a85 := Tryz.isAgg141
  z85 := Tryz.sizeOf141
  v85 := Tryz.zeroValue141
  t127 := Tryz.underlying170
  a127 := Tryz.isAgg170
  z127 := Tryz.sizeOf170
  v127 := Tryz.zeroValue170
  t143 := Tryz.underlying171
  a143 := Tryz.isAgg171
  z143 := Tryz.sizeOf171
  v143 := Tryz.zeroValue171
  t145 := Tryz.underlying173
  a145 := Tryz.isAgg173
  z145 := Tryz.sizeOf173
  v145 := Tryz.zeroValue173
  t167 := Tryz.underlying139
  a167 := Tryz.isAgg139
  z167 := Tryz.sizeOf139
  v167 := Tryz.zeroValue139
  t168 := Tryz.underlying143
  a168 := Tryz.isAgg143
  z168 := Tryz.sizeOf143
  v168 := Tryz.zeroValue143
  t171 := Tryz.underlying162
  a171 := Tryz.isAgg162
  z171 := Tryz.sizeOf162
  v171 := Tryz.zeroValue162
  t173 := Tryz.underlying165
  a173 := Tryz.isAgg165
  z173 := Tryz.sizeOf165
  v173 := Tryz.zeroValue165
  t175 := Tryz.underlying156
  a175 := Tryz.isAgg156
  z175 := Tryz.sizeOf156
  v175 := Tryz.zeroValue156
  t210 := Tryz.underlying160
  a210 := Tryz.isAgg160
  z210 := Tryz.sizeOf160
  v210 := Tryz.zeroValue160
  t212 := Tryz.underlying175
  a212 := Tryz.isAgg175
  z212 := Tryz.sizeOf175
  v212 := Tryz.zeroValue175
  t213 := Tryz.underlying177
  a213 := Tryz.isAgg177
  z213 := Tryz.sizeOf177
  t232 := Tryz.underlying180
  a232 := Tryz.isAgg180
  z232 := Tryz.sizeOf180
  v232 := Tryz.zeroValue180
  t233 := Tryz.underlying181
  a233 := Tryz.isAgg181
  z233 := Tryz.sizeOf181
  v233 := Tryz.zeroValue181
  g15 := by kernel_rfl
  g16 := by kernel_rfl
  g17 := by kernel_rfl
  g18 := by kernel_rfl
  g19 := by kernel_rfl
  t80 := Tryz.underlying182
  a80 := Tryz.isAgg182
  z80 := Tryz.sizeOf182
  v80 := Tryz.zeroValue182
  i0 := by kernel_rfl
  i2 := by kernel_rfl
  i3 := by kernel_rfl
  i4 := by kernel_rfl
  i5 := by kernel_rfl
  i9 := by kernel_rfl
  i20 := by kernel_rfl
  i21 := by kernel_rfl
  i37 := by kernel_rfl
  i46 := by kernel_rfl
  i51 := by kernel_rfl
  i53 := by kernel_rfl
  i75 := by kernel_rfl
  i76 := by kernel_rfl
  i80 := by kernel_rfl
  i85 := by kernel_rfl
  i127 := by kernel_rfl
  i143 := by kernel_rfl
  i145 := by kernel_rfl
  i167 := by kernel_rfl
  i168 := by kernel_rfl
  i171 := by kernel_rfl
  i173 := by kernel_rfl
  i175 := by kernel_rfl
  i210 := by kernel_rfl
  i212 := by kernel_rfl
  i232 := by kernel_rfl
  i233 := by kernel_rfl
  m15 := by kernel_rfl
  m16 := by kernel_rfl
  m17 := by kernel_rfl
  m18 := by kernel_rfl
  m19 := by kernel_rfl
  c0 := by kernel_rfl
  c2 := by kernel_rfl
  c3 := by kernel_rfl
  c4 := by kernel_rfl
  c5 := by kernel_rfl
  c9 := by kernel_rfl
  c20 := by kernel_rfl
  c21 := by kernel_rfl
  c37 := by kernel_rfl
  c46 := by kernel_rfl
  c51 := by kernel_rfl
  c53 := by kernel_rfl
  c75 := by kernel_rfl
  c76 := by kernel_rfl
  c80 := by kernel_rfl
  c85 := by kernel_rfl
  c127 := by kernel_rfl
  c143 := by kernel_rfl
  c145 := by kernel_rfl
  c167 := by kernel_rfl
  c168 := by kernel_rfl
  c171 := by kernel_rfl
  c173 := by kernel_rfl
  c175 := by kernel_rfl
  c210 := by kernel_rfl
  c212 := by kernel_rfl
  c213 := by kernel_rfl
  c232 := by kernel_rfl
  c233 := by kernel_rfl }
open Go.RowKit in
/-- strings.Compare: "Compare returns an integer comparing two strings lexicographically. The result will be 0 if a == b, -1 if a < b, and +1 if a > b.": IT RETURNS 'Lib.compareBytes a b'; the world is as it was. (LAID: no walk: one application.) -/
theorem Tryz.strings_Compare (a b : ByteArray) (w : World) :
    Calls Tryz.prog 124 #[.string a, .string b] w fun e w' => e = .returned (.int .i64 (Lib.compareBytes a.data.toList b.data.toList)) ∧ w' = w := Any.strings_Compare Tryz.lays106 a b w
open Go.RowKit in
/-- strings.IndexByte: "IndexByte returns the index of the first instance of c in s, or -1 if c is not present in s.": IT RETURNS 'Lib.indexByte s c'; the world is as it was. (LAID: no walk: one application.) -/
theorem Tryz.strings_IndexByte (s : ByteArray) (c : Int) (w : World) :
    Calls Tryz.prog 129 #[.string s, .int .u8 c] w fun e w' => e = .returned (.int .i64 (Lib.indexByte s.data.toList c.toNat.toUInt8)) ∧ w' = w := Any.strings_IndexByte Tryz.lays137 s c w
open Go.RowKit in
/-- strings.CutPrefix: "CutPrefix returns s without the provided leading prefix string and reports whether it found the prefix. If s doesn't start with prefix, CutPrefix returns s, false. If prefix is the empty string, CutPrefix returns s, true.": IT RETURNS '(Lib.trimPrefix s p, Lib.hasPrefix s p)'; the world is as it was. (LAID: no walk: one application.) -/
theorem Tryz.strings_CutPrefix (s p : ByteArray) (w : World) :
    Calls Tryz.prog 110 #[.string s, .string p] w fun e w' => e = .returned (.tuple #[.string ⟨(Lib.trimPrefix s.data.toList p.data.toList).toArray⟩, .bool (Lib.hasPrefix s.data.toList p.data.toList)]) ∧ w' = w := Any.strings_CutPrefix Tryz.lays103 s p w
open Go.RowKit Go.Sort Go.Lib in
/-- strconv.Itoa: "Itoa is equivalent to FormatInt(int64(i), 10).": i's DECIMAL NUMERAL ('Lib.itoa': a '-' where i is negative, then the digits), FOR EVERY int. The world behind the call: the world before it, new blocks behind the heap (the library's 'var a [24]byte'), draws. (LAID: no walk: one application.) -/
theorem Tryz.strconv_Itoa (n : Int) (h0 : -9223372036854775808 ≤ n) (h1 : n ≤ 9223372036854775807) (w : World) (htab : Lib.TabIs Tryz.prog w "internal/strconv.uint64pow10" .u64 Lib.pow10Tab) :
    Calls Tryz.prog 68 #[.int .i64 n] w fun e w' => e = .returned (.string ⟨(Lib.itoa n).toArray⟩) ∧ ∃ k os, w' = grow (w.drewN k) os := Any.strconv_Itoa Tryz.laysM171 n h0 h1 w htab
open Go.RowKit in
/-- strconv.Atoi, AT EVERY STRING THAT SPELLS AN int ('Lib.atoiAll .. = .ok v'; of whatever length: leading zeros count): v, AND NO ERROR. The world: as it was, or with the one new row that '[]byte(..)' lays. (LAID: no walk: one application.) -/
theorem Tryz.strconv_Atoi_ok (s : ByteArray) (hmax : s.size ≤ 9223372036854775806) (v : Int) (h : Lib.atoiAll s.data.toList = .ok v) (w : World) :
    Calls Tryz.prog 67 #[.string s] w fun e w' => e = .returned (.tuple #[.int .i64 v, .nilIface]) ∧ (w' = w ∨ ∃ t, w' = Lib.bytesWorld w 5 t) := Any.strconv_Atoi_ok Tryz.laysC172 s hmax v h w
open Go.RowKit in
theorem Tryz.strconv_Atoi_syntax_var (s : ByteArray) (hlim : s.size ≤ 281474976710656) (h : Lib.atoiAll s.data.toList = Lib.atoiAll []) (tp : TypeId) (p : Value) (w : World) (hvar : w.var? Tryz.prog "strconv.ErrSyntax" = some #[.iface tp p]) :
    Calls Tryz.prog 67 #[.string s] w fun e w' => ∃ N, e = .returned (.tuple #[.int .i64 0, .iface 143 (.pointer (some ⟨N, 0, none⟩))]) ∧ w.heap.size ≤ N ∧ w'.heap[N]? = some (.cells #[.string ⟨#[65, 116, 111, 105]⟩, .string s, .iface tp p] 160 (0, 0)) ∧ Below w.heap.size w w' := Any.strconv_Atoi_syntax_var Tryz.laysC172 s hlim h tp p w hvar
open Go.RowKit in
theorem Tryz.strconv_Atoi_range_var (s : ByteArray) (hlim : s.size ≤ 281474976710656) (h : Lib.atoiAll s.data.toList = .range) (tp : TypeId) (p : Value) (w : World) (hvar : w.var? Tryz.prog "strconv.ErrRange" = some #[.iface tp p]) :
    Calls Tryz.prog 67 #[.string s] w fun e w' => ∃ N, e = .returned (.tuple #[.int .i64 (Lib.atoiSat s.data.toList), .iface 143 (.pointer (some ⟨N, 0, none⟩))]) ∧ w.heap.size ≤ N ∧ w'.heap[N]? = some (.cells #[.string ⟨#[65, 116, 111, 105]⟩, .string s, .iface tp p] 160 (0, 0)) ∧ Below w.heap.size w w' := Any.strconv_Atoi_range_var Tryz.laysC172 s hlim h tp p w hvar
end Go.Proofs

/- lexer.classes: the class of each byte. -/
namespace Go.Proofs.YtaggohobdjidjaaGreatDoor
open Go.Shelf Go.RowKit Go.Sort

/-- The table, its first k places filled; the table whole. -/
def clsArr (k : Nat) : Array Value := Array.ofFn fun j : Fin 256 => Value.int .u8 (if j.val < k then (clsM j.val : Int) else 0)
def clsV : Array Value := Array.ofFn fun j : Fin 256 => Value.int .u8 (clsN j.val)

theorem clsArr_get (k j : Nat) (h : j < 256) : (clsArr k)[j]? = some (.int .u8 (if j < k then (clsM j : Int) else 0)) := by simp [clsArr, h]
theorem clsV_get (j : Nat) (h : j < 256) : clsV[j]? = some (.int .u8 (clsN j)) := by simp [clsV, h]
theorem clsArr_set (k : Nat) (_ : k < 256) {n : Int} (hn : n = clsM k) : (clsArr k).setIfInBounds k (.int .u8 n) = clsArr (k + 1) := by
  subst hn
  refine Array.ext (by simp [clsArr]) fun j h1 h2 => ?_
  have hj : j < 256 := by simpa [clsArr] using h2
  rw [Array.getElem_setIfInBounds (by simpa [clsArr] using hj)]
  simp only [clsArr, Array.getElem_ofFn]
  by_cases e : k = j
  · subst e
    simp
  · rw [if_neg e]
    congr 1
    by_cases e2 : j < k
    · rw [if_pos e2, if_pos (by omega)]
    · rw [if_neg e2, if_neg (by omega)]
theorem clsArr_skip (k : Nat) (h : clsM k = 0) : clsArr k = clsArr (k + 1) := by
  refine Array.ext (by simp [clsArr]) fun j h1 h2 => ?_
  simp only [clsArr, Array.getElem_ofFn]
  congr 1
  by_cases e2 : j < k
  · rw [if_pos e2, if_pos (by omega)]
  · rw [if_neg e2]
    by_cases e3 : j < k + 1
    · obtain rfl : j = k := by omega
      rw [if_pos e3, h]; rfl
    · rw [if_neg e3]
theorem clsArr_last : ((((clsArr 256).setIfInBounds 35 (.int .u8 2)).setIfInBounds 95 (.int .u8 5)).setIfInBounds 34 (.int .u8 7)) = clsV := by kernel_rfl
theorem clsArr_zero : clsArr 0 = Array.replicate 256 (.int .u8 0) := by kernel_rfl

theorem blank_idx : ∀ k : Fin 256, decide (0 ≤ Lib.indexByte [32, 9, 10] (Nat.toUInt8 k.val)) = decide (k.val = 32 ∨ k.val = 9 ∨ k.val = 10) := by decide +kernel
theorem symbol_idx : ∀ k : Fin 256, decide (0 ≤ Lib.indexByte [59, 44, 46, 58, 40, 41, 123, 125, 91, 93, 61, 60, 62, 47, 45] (Nat.toUInt8 k.val)) =
    decide (k.val = 59 ∨ k.val = 44 ∨ k.val = 46 ∨ k.val = 58 ∨ k.val = 40 ∨ k.val = 41 ∨ k.val = 123 ∨ k.val = 125 ∨ k.val = 91 ∨ k.val = 93 ∨ k.val = 61 ∨ k.val = 60 ∨ k.val = 62 ∨ k.val = 47 ∨ k.val = 45) := by decide +kernel

theorem u8_wrap (k : Nat) (h : k < 256) : IntKind.u8.wrap (k : Int) = k := by
  have : IntKind.u8.wrap (k : Int) = (k : Int) % 256 := by simp [IntKind.wrap, IntKind.bits, IntKind.signed]
  rw [this]; omega
/-- Is the byte a blank? -/
def IdxR (yes : Bool) (w : World) (e : Ending) (w' : World) : Prop := ∃ r : Int, decide (0 ≤ r) = yes ∧ e = .returned (.int .i64 r) ∧ w = w'
theorem blank_any (k : Nat) (h : k < 256) (b : Bool) (hb : decide (k = 32 ∨ k = 9 ∨ k = 10) = b) (w : World) : Calls Tryz.prog 129 #[.string ⟨#[32, 9, 10]⟩, .int .u8 k] w (IdxR b w) :=
  (Tryz.strings_IndexByte ⟨#[32, 9, 10]⟩ k w).mono fun e w' ⟨he, hw⟩ => ⟨_, by rw [← hb]; exact blank_idx ⟨k, h⟩, he, hw.symm⟩
theorem symbol_any (k : Nat) (h : k < 256) (b : Bool) (hb : decide (k = 59 ∨ k = 44 ∨ k = 46 ∨ k = 58 ∨ k = 40 ∨ k = 41 ∨ k = 123 ∨ k = 125 ∨ k = 91 ∨ k = 93 ∨ k = 61 ∨ k = 60 ∨ k = 62 ∨ k = 47 ∨ k = 45) = b) (w : World) :
    Calls Tryz.prog 129 #[.string ⟨#[59, 44, 46, 58, 40, 41, 123, 125, 91, 93, 61, 60, 62, 47, 45]⟩, .int .u8 k] w (IdxR b w) :=
  (Tryz.strings_IndexByte ⟨#[59, 44, 46, 58, 40, 41, 123, 125, 91, 93, 61, 60, 62, 47, 45]⟩ k w).mono fun e w' ⟨he, hw⟩ => ⟨_, by rw [← hb]; exact symbol_idx ⟨k, h⟩, he, hw.symm⟩

/-- The table's words, as letters. -/
structure ClsW (cA : Nat → Array Value) (cV : Array Value) : Prop where
  zero : cA 0 = Array.replicate 256 (.int .u8 0)
  get : ∀ k, k < 256 → (cA k)[k]? = some (.int .u8 0)
  set : ∀ k, k < 256 → ∀ n : Int, n = clsM k → (cA k).setIfInBounds k (.int .u8 n) = cA (k + 1)
  skip : ∀ k, clsM k = 0 → cA k = cA (k + 1)
  last : (((cA 256).setIfInBounds 35 (.int .u8 2)).setIfInBounds 95 (.int .u8 5)).setIfInBounds 34 (.int .u8 7) = cV
  g35 : ∃ v, (cA 256)[35]? = some (.int .u8 v)
  g95 : ∃ v, (cA 256)[95]? = some (.int .u8 v)
  g34 : ∃ v, (cA 256)[34]? = some (.int .u8 v)
  size : ∀ k, (cA k).size = 256
  one : cV.all (·.oneCell') = true
theorem clsW : ClsW clsArr clsV := ⟨clsArr_zero, fun k h => by rw [clsArr_get k k h, if_neg (by omega)], fun k h n hn => clsArr_set k h hn, clsArr_skip, clsArr_last, ⟨_, clsArr_get 256 35 (by decide)⟩, ⟨_, clsArr_get 256 95 (by decide)⟩, ⟨_, clsArr_get 256 34 (by decide)⟩, fun k => by simp [clsArr], by kernel_rfl⟩

set_option maxHeartbeats 8000000 in
set_option maxRecDepth 100000 in
theorem classes_gen (cA : Nat → Array Value) (cV : Array Value) (T : ClsW cA cV) (w : World) : Calls Tryz.prog 108 #[] w (RetB w (.agg cV)) := by
  have HT := Lib.hid T
  clear T
  go_enter Tryz.func108, Tryz.ntmps108
  go_wp2
  go_loopw [4] (fun v wr => ∃ k : Nat, k ≤ 256 ∧ v = .int .i64 k ∧ Below w.heap.size w wr ∧ Box wr w.heap.size (cA 0) 132 ∧ Box wr (w.heap.size + 1) (cA k) 132) (fun v _ => 256 - (intOf v).toNat)
  case atStart => exact ⟨0, by omega, rfl, (((Below.refl _ _).alloc (Nat.le_refl _) _).alloc (by simp) _), by rw [HT.out.zero]; exact (Box.new _ _ _).alloc _, by rw [HT.out.zero]; exact Box.new' (by simp) _ _⟩
  case round =>
    obtain ⟨k, hk, rfl, hB, b0, b1⟩ := hrel
    by_cases hlt : k < 256
    · have hc := b1.cell k
      have hf := b1.frozen k
      rw [HT.out.get k hlt] at hc
      have hby := u8_wrap k hlt
      have H0 := Lib.hid b0
      have H1 := Lib.hid b1
      have HC : ∀ n : Int, n = clsM k → Hid (Box (wr.setCell ⟨w.heap.size + 1, k, none⟩ (.int .u8 n)) (w.heap.size + 1) (cA (k + 1)) 132) := fun n hn => Lib.hid (by
        have := b1.set k (.int .u8 n)
        rwa [HT.out.set k hlt n hn] at this)
      have HC2 := Lib.hid HC
      clear b0 b1 HC
      rcases (show (k < 48) ∨ (48 ≤ k ∧ k ≤ 57) ∨ (58 ≤ k ∧ k < 65) ∨ (65 ≤ k ∧ k ≤ 90) ∨ (91 ≤ k ∧ k < 97) ∨ (97 ≤ k ∧ k ≤ 122) ∨ (123 ≤ k ∧ k < 256) by omega) with hr | ⟨hr, hr'⟩ | ⟨hr, hr'⟩ | ⟨hr, hr'⟩ | ⟨hr, hr'⟩ | ⟨hr, hr'⟩ | ⟨hr, hr'⟩
      · cases hbl : decide (k = 32 ∨ k = 9 ∨ k = 10) with
        | true =>
          have HM : Hid ((1 : Int) = clsM k) := Lib.hid (by have := of_decide_eq_true hbl; rcases this with rfl | rfl | rfl <;> rfl)
          have hcall := fun w => blank_any k hlt true hbl w
          clear hbl
          go_wp2_with fail
          refine (hcall _).mono ?_
          rintro e w' ⟨r, hr0, rfl, rfl⟩
          have hr1 : 0 ≤ r := of_decide_eq_true hr0
          clear hr0
          go_wp2
          go_roundw
          case rel => exact ⟨k + 1, by omega, by go_num, hB.setCell (by simp) _, H0.out.set_other (by omega) _ _, (HC2.out 1 HM.out).out⟩
          case measure => simp [intOf]; omega
        | false =>
          have hcall := fun w => blank_any k hlt false hbl w
          cases hsy : decide (k = 59 ∨ k = 44 ∨ k = 46 ∨ k = 58 ∨ k = 40 ∨ k = 41 ∨ k = 123 ∨ k = 125 ∨ k = 91 ∨ k = 93 ∨ k = 61 ∨ k = 60 ∨ k = 62 ∨ k = 47 ∨ k = 45) with
          | true =>
            have HM : Hid ((6 : Int) = clsM k) := Lib.hid (by have := of_decide_eq_true hsy; rcases this with rfl | rfl | rfl | rfl | rfl | rfl | rfl | rfl | rfl | rfl | rfl | rfl | rfl | rfl | rfl <;> rfl)
            have hcall2 := fun w => symbol_any k hlt true hsy w
            clear hbl hsy
            go_wp2_with fail
            refine (hcall _).mono ?_
            rintro e w' ⟨r, hr0, rfl, rfl⟩
            have hr1 : ¬ 0 ≤ r := of_decide_eq_false hr0
            clear hr0
            go_wp2_with fail
            refine (hcall2 _).mono ?_
            rintro e w' ⟨r2, hr0, rfl, rfl⟩
            have hr2 : 0 ≤ r2 := of_decide_eq_true hr0
            clear hr0
            go_wp2
            go_roundw
            case rel => exact ⟨k + 1, by omega, by go_num, hB.setCell (by simp) _, H0.out.set_other (by omega) _ _, (HC2.out 6 HM.out).out⟩
            case measure => simp [intOf]; omega
          | false =>
            have HM : Hid (clsM k = 0) := Lib.hid (by
              have h1 := of_decide_eq_false hbl
              have h2 := of_decide_eq_false hsy
              unfold clsM
              split
              · rfl
              · unfold clsN
                rw [if_neg (by omega), if_neg (by omega), if_neg (by omega), if_neg (by omega), if_neg (by omega), if_neg h1, if_neg h2])
            have hcall2 := fun w => symbol_any k hlt false hsy w
            clear hbl hsy
            go_wp2_with fail
            refine (hcall _).mono ?_
            rintro e w' ⟨r, hr0, rfl, rfl⟩
            have hr1 : ¬ 0 ≤ r := of_decide_eq_false hr0
            clear hr0
            go_wp2_with fail
            refine (hcall2 _).mono ?_
            rintro e w' ⟨r2, hr0, rfl, rfl⟩
            have hr2 : ¬ 0 ≤ r2 := of_decide_eq_false hr0
            clear hr0
            go_wp2
            go_roundw
            case rel => exact ⟨k + 1, by omega, by go_num, hB, H0.out, by rw [← HT.out.skip k HM.out]; exact H1.out⟩
            case measure => simp [intOf]; omega
      · have HM : Hid ((4 : Int) = clsM k) := Lib.hid (by unfold clsM; rw [if_neg (by omega)]; unfold clsN; (first | rw [if_pos (by omega)] | rw [if_neg (by omega), if_pos (by omega)]); rfl)
        go_wp2
        go_roundw
        case rel => exact ⟨k + 1, by omega, by go_num, hB.setCell (by simp) _, H0.out.set_other (by omega) _ _, (HC2.out 4 HM.out).out⟩
        case measure => simp [intOf]; omega
      · cases hbl : decide (k = 32 ∨ k = 9 ∨ k = 10) with
        | true =>
          have HM : Hid ((1 : Int) = clsM k) := Lib.hid (by have := of_decide_eq_true hbl; rcases this with rfl | rfl | rfl <;> rfl)
          have hcall := fun w => blank_any k hlt true hbl w
          clear hbl
          go_wp2_with fail
          refine (hcall _).mono ?_
          rintro e w' ⟨r, hr0, rfl, rfl⟩
          have hr1 : 0 ≤ r := of_decide_eq_true hr0
          clear hr0
          go_wp2
          go_roundw
          case rel => exact ⟨k + 1, by omega, by go_num, hB.setCell (by simp) _, H0.out.set_other (by omega) _ _, (HC2.out 1 HM.out).out⟩
          case measure => simp [intOf]; omega
        | false =>
          have hcall := fun w => blank_any k hlt false hbl w
          cases hsy : decide (k = 59 ∨ k = 44 ∨ k = 46 ∨ k = 58 ∨ k = 40 ∨ k = 41 ∨ k = 123 ∨ k = 125 ∨ k = 91 ∨ k = 93 ∨ k = 61 ∨ k = 60 ∨ k = 62 ∨ k = 47 ∨ k = 45) with
          | true =>
            have HM : Hid ((6 : Int) = clsM k) := Lib.hid (by have := of_decide_eq_true hsy; rcases this with rfl | rfl | rfl | rfl | rfl | rfl | rfl | rfl | rfl | rfl | rfl | rfl | rfl | rfl | rfl <;> rfl)
            have hcall2 := fun w => symbol_any k hlt true hsy w
            clear hbl hsy
            go_wp2_with fail
            refine (hcall _).mono ?_
            rintro e w' ⟨r, hr0, rfl, rfl⟩
            have hr1 : ¬ 0 ≤ r := of_decide_eq_false hr0
            clear hr0
            go_wp2_with fail
            refine (hcall2 _).mono ?_
            rintro e w' ⟨r2, hr0, rfl, rfl⟩
            have hr2 : 0 ≤ r2 := of_decide_eq_true hr0
            clear hr0
            go_wp2
            go_roundw
            case rel => exact ⟨k + 1, by omega, by go_num, hB.setCell (by simp) _, H0.out.set_other (by omega) _ _, (HC2.out 6 HM.out).out⟩
            case measure => simp [intOf]; omega
          | false =>
            have HM : Hid (clsM k = 0) := Lib.hid (by
              have h1 := of_decide_eq_false hbl
              have h2 := of_decide_eq_false hsy
              unfold clsM
              split
              · rfl
              · unfold clsN
                rw [if_neg (by omega), if_neg (by omega), if_neg (by omega), if_neg (by omega), if_neg (by omega), if_neg h1, if_neg h2])
            have hcall2 := fun w => symbol_any k hlt false hsy w
            clear hbl hsy
            go_wp2_with fail
            refine (hcall _).mono ?_
            rintro e w' ⟨r, hr0, rfl, rfl⟩
            have hr1 : ¬ 0 ≤ r := of_decide_eq_false hr0
            clear hr0
            go_wp2_with fail
            refine (hcall2 _).mono ?_
            rintro e w' ⟨r2, hr0, rfl, rfl⟩
            have hr2 : ¬ 0 ≤ r2 := of_decide_eq_false hr0
            clear hr0
            go_wp2
            go_roundw
            case rel => exact ⟨k + 1, by omega, by go_num, hB, H0.out, by rw [← HT.out.skip k HM.out]; exact H1.out⟩
            case measure => simp [intOf]; omega
      · have HM : Hid ((3 : Int) = clsM k) := Lib.hid (by unfold clsM; rw [if_neg (by omega)]; unfold clsN; (first | rw [if_pos (by omega)] | rw [if_neg (by omega), if_pos (by omega)]); rfl)
        go_wp2
        go_roundw
        case rel => exact ⟨k + 1, by omega, by go_num, hB.setCell (by simp) _, H0.out.set_other (by omega) _ _, (HC2.out 3 HM.out).out⟩
        case measure => simp [intOf]; omega
      · cases hbl : decide (k = 32 ∨ k = 9 ∨ k = 10) with
        | true =>
          have HM : Hid ((1 : Int) = clsM k) := Lib.hid (by have := of_decide_eq_true hbl; rcases this with rfl | rfl | rfl <;> rfl)
          have hcall := fun w => blank_any k hlt true hbl w
          clear hbl
          go_wp2_with fail
          refine (hcall _).mono ?_
          rintro e w' ⟨r, hr0, rfl, rfl⟩
          have hr1 : 0 ≤ r := of_decide_eq_true hr0
          clear hr0
          go_wp2
          go_roundw
          case rel => exact ⟨k + 1, by omega, by go_num, hB.setCell (by simp) _, H0.out.set_other (by omega) _ _, (HC2.out 1 HM.out).out⟩
          case measure => simp [intOf]; omega
        | false =>
          have hcall := fun w => blank_any k hlt false hbl w
          cases hsy : decide (k = 59 ∨ k = 44 ∨ k = 46 ∨ k = 58 ∨ k = 40 ∨ k = 41 ∨ k = 123 ∨ k = 125 ∨ k = 91 ∨ k = 93 ∨ k = 61 ∨ k = 60 ∨ k = 62 ∨ k = 47 ∨ k = 45) with
          | true =>
            have HM : Hid ((6 : Int) = clsM k) := Lib.hid (by have := of_decide_eq_true hsy; rcases this with rfl | rfl | rfl | rfl | rfl | rfl | rfl | rfl | rfl | rfl | rfl | rfl | rfl | rfl | rfl <;> rfl)
            have hcall2 := fun w => symbol_any k hlt true hsy w
            clear hbl hsy
            go_wp2_with fail
            refine (hcall _).mono ?_
            rintro e w' ⟨r, hr0, rfl, rfl⟩
            have hr1 : ¬ 0 ≤ r := of_decide_eq_false hr0
            clear hr0
            go_wp2_with fail
            refine (hcall2 _).mono ?_
            rintro e w' ⟨r2, hr0, rfl, rfl⟩
            have hr2 : 0 ≤ r2 := of_decide_eq_true hr0
            clear hr0
            go_wp2
            go_roundw
            case rel => exact ⟨k + 1, by omega, by go_num, hB.setCell (by simp) _, H0.out.set_other (by omega) _ _, (HC2.out 6 HM.out).out⟩
            case measure => simp [intOf]; omega
          | false =>
            have HM : Hid (clsM k = 0) := Lib.hid (by
              have h1 := of_decide_eq_false hbl
              have h2 := of_decide_eq_false hsy
              unfold clsM
              split
              · rfl
              · unfold clsN
                rw [if_neg (by omega), if_neg (by omega), if_neg (by omega), if_neg (by omega), if_neg (by omega), if_neg h1, if_neg h2])
            have hcall2 := fun w => symbol_any k hlt false hsy w
            clear hbl hsy
            go_wp2_with fail
            refine (hcall _).mono ?_
            rintro e w' ⟨r, hr0, rfl, rfl⟩
            have hr1 : ¬ 0 ≤ r := of_decide_eq_false hr0
            clear hr0
            go_wp2_with fail
            refine (hcall2 _).mono ?_
            rintro e w' ⟨r2, hr0, rfl, rfl⟩
            have hr2 : ¬ 0 ≤ r2 := of_decide_eq_false hr0
            clear hr0
            go_wp2
            go_roundw
            case rel => exact ⟨k + 1, by omega, by go_num, hB, H0.out, by rw [← HT.out.skip k HM.out]; exact H1.out⟩
            case measure => simp [intOf]; omega
      · have HM : Hid ((3 : Int) = clsM k) := Lib.hid (by unfold clsM; rw [if_neg (by omega)]; unfold clsN; (first | rw [if_pos (by omega)] | rw [if_neg (by omega), if_pos (by omega)]); rfl)
        go_wp2
        go_roundw
        case rel => exact ⟨k + 1, by omega, by go_num, hB.setCell (by simp) _, H0.out.set_other (by omega) _ _, (HC2.out 3 HM.out).out⟩
        case measure => simp [intOf]; omega
      · cases hbl : decide (k = 32 ∨ k = 9 ∨ k = 10) with
        | true =>
          have HM : Hid ((1 : Int) = clsM k) := Lib.hid (by have := of_decide_eq_true hbl; rcases this with rfl | rfl | rfl <;> rfl)
          have hcall := fun w => blank_any k hlt true hbl w
          clear hbl
          go_wp2_with fail
          refine (hcall _).mono ?_
          rintro e w' ⟨r, hr0, rfl, rfl⟩
          have hr1 : 0 ≤ r := of_decide_eq_true hr0
          clear hr0
          go_wp2
          go_roundw
          case rel => exact ⟨k + 1, by omega, by go_num, hB.setCell (by simp) _, H0.out.set_other (by omega) _ _, (HC2.out 1 HM.out).out⟩
          case measure => simp [intOf]; omega
        | false =>
          have hcall := fun w => blank_any k hlt false hbl w
          cases hsy : decide (k = 59 ∨ k = 44 ∨ k = 46 ∨ k = 58 ∨ k = 40 ∨ k = 41 ∨ k = 123 ∨ k = 125 ∨ k = 91 ∨ k = 93 ∨ k = 61 ∨ k = 60 ∨ k = 62 ∨ k = 47 ∨ k = 45) with
          | true =>
            have HM : Hid ((6 : Int) = clsM k) := Lib.hid (by have := of_decide_eq_true hsy; rcases this with rfl | rfl | rfl | rfl | rfl | rfl | rfl | rfl | rfl | rfl | rfl | rfl | rfl | rfl | rfl <;> rfl)
            have hcall2 := fun w => symbol_any k hlt true hsy w
            clear hbl hsy
            go_wp2_with fail
            refine (hcall _).mono ?_
            rintro e w' ⟨r, hr0, rfl, rfl⟩
            have hr1 : ¬ 0 ≤ r := of_decide_eq_false hr0
            clear hr0
            go_wp2_with fail
            refine (hcall2 _).mono ?_
            rintro e w' ⟨r2, hr0, rfl, rfl⟩
            have hr2 : 0 ≤ r2 := of_decide_eq_true hr0
            clear hr0
            go_wp2
            go_roundw
            case rel => exact ⟨k + 1, by omega, by go_num, hB.setCell (by simp) _, H0.out.set_other (by omega) _ _, (HC2.out 6 HM.out).out⟩
            case measure => simp [intOf]; omega
          | false =>
            have HM : Hid (clsM k = 0) := Lib.hid (by
              have h1 := of_decide_eq_false hbl
              have h2 := of_decide_eq_false hsy
              unfold clsM
              split
              · rfl
              · unfold clsN
                rw [if_neg (by omega), if_neg (by omega), if_neg (by omega), if_neg (by omega), if_neg (by omega), if_neg h1, if_neg h2])
            have hcall2 := fun w => symbol_any k hlt false hsy w
            clear hbl hsy
            go_wp2_with fail
            refine (hcall _).mono ?_
            rintro e w' ⟨r, hr0, rfl, rfl⟩
            have hr1 : ¬ 0 ≤ r := of_decide_eq_false hr0
            clear hr0
            go_wp2_with fail
            refine (hcall2 _).mono ?_
            rintro e w' ⟨r2, hr0, rfl, rfl⟩
            have hr2 : ¬ 0 ≤ r2 := of_decide_eq_false hr0
            clear hr0
            go_wp2
            go_roundw
            case rel => exact ⟨k + 1, by omega, by go_num, hB, H0.out, by rw [← HT.out.skip k HM.out]; exact H1.out⟩
            case measure => simp [intOf]; omega
    · obtain rfl : k = 256 := by omega
      obtain ⟨v35, e35⟩ := HT.out.g35
      obtain ⟨v95, e95⟩ := HT.out.g95
      obtain ⟨v34, e34⟩ := HT.out.g34
      have c35 := b1.cell 35
      have c95 := b1.cell 95
      have c34 := b1.cell 34
      rw [e35] at c35
      rw [e95] at c95
      rw [e34] at c34
      have hf := b1.frozen
      have b2 := ((b1.set 35 (.int .u8 2)).set 95 (.int .u8 5)).set 34 (.int .u8 7)
      rw [HT.out.last] at b2
      have b3 := ((b0.set_other (by omega) 35 (.int .u8 2) (b' := w.heap.size + 1)).set_other (by omega) 95 (.int .u8 5) (b' := w.heap.size + 1)).set_other (by omega) 34 (.int .u8 7) (b' := w.heap.size + 1)
      have hsz : cV.size = 256 := by rw [← HT.out.last]; simp [HT.out.size]
      have H2 := Lib.hid b2
      have H3 := Lib.hid b3
      have HZ := Lib.hid hsz
      clear e35 e95 e34 b0 b1 b2 b3 hsz
      go_wp2_with (first
        | refine wpList_load_row rfl 132 (.tmp 1) rfl (w.heap.size + 1) (by rfl) 132 cV (0, 0) _ H2.out Tryz.underlying132 rfl (by rw [HZ.out]; kernel_rfl) ?_
        | refine wpList_store_mid rfl 132 (.tmp 0) (.tmp 49) rfl w.heap.size 0 cV (by rfl) (by rfl) (by rw [HZ.out, ← HT.out.size 0]; exact H3.out.there) (by rw [HZ.out]; kernel_rfl) HT.out.one ?_)
      have b4 := H3.out.setAll (vs := cV) (by rw [HZ.out, HT.out.size])
      exact ret_box (by rfl) (by rfl) b4 Tryz.underlying132 rfl (by rw [HZ.out]; kernel_rfl) rfl (RetB.mk' rfl (Below.setCells' (Nat.le_refl _) _ _ _ (((hB.setCell (by simp) _).setCell (by simp) _).setCell (by simp) _)))

theorem classes_any (w : World) : Calls Tryz.prog 108 #[] w (RetB w (.agg clsV)) := classes_gen clsArr clsV clsW w
end Go.Proofs.YtaggohobdjidjaaGreatDoor

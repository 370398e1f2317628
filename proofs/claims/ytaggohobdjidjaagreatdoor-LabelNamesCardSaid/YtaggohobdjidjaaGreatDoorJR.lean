import Derived.Test.YtaggohobdjidjaaGreatDoorJH
import Derived.Test.YtaggohobdjidjaaGreatDoorCards
import Derived.Test.YtaggohobdjidjaaGreatDoorTie
import Derived.ProofKit
import Derived.OpenShut
import Derived.Deep.DeepHandedRow
import Derived.Lib.LaidTab
import Derived.Lib.SmallJoins
import Derived.Lay
import Derived.LaidMore
import Derived.LaidSub
import Derived.Stop.LaidErr
import Derived.Shelf.Vars
import Derived.Carry
import Derived.MakeChecks
import Derived.SevenTiedAt
import Derived.Test.YtaggohobdjidjaaGreatDoorJD
import Derived.Test.YtaggohobdjidjaaGreatDoorJA
import Derived.Deep.Slices

/- What each row of this seat asks beside its walk: the library's variables, the way back, the witness. -/
namespace Go.Proofs.YtaggohobdjidjaaGreatDoor
open Go.ChangeShapes Go.WideShapes Go.ChangeAt Go.RowKit Go.Sort

theorem trodAll_below {H : Type} {enc : TypeId × Value → H} {P : Program} (hl : laidOutB P = true) {W W' : World} (hb : Below W.heap.size W W') :
    ∀ {ts : List TypeId} {vs : List Value} {ds : List (DataW H)} {ps : List MemPlace}, (ts.all fun t => P.readableRec t && decide (t < P.types.size)) = true → (∀ x ∈ ps, x.block < W.heap.size) →
      DataW.TrodAll enc P W 0 (fun _ => true) true ts vs ds ps → DataW.TrodAll enc P W' 0 (fun b => decide (b < W.heap.size)) true ts vs ds ps
  | [], [], [], _, _, _, h => h
  | [], _ :: _, _, _, _, _, h => h.elim
  | [], [], _ :: _, _, _, _, h => h.elim
  | _ :: _, [], _, _, _, _, h => h.elim
  | _ :: _, _ :: _, [], _, _, _, h => h.elim
  | t :: ts, v :: vs, d :: ds, ps, hr, hlt, ⟨p, q, h1, h2, e⟩ => by
    simp only [List.all_cons, Bool.and_eq_true, decide_eq_true_eq] at hr
    subst e
    exact ⟨p, q, Below.trod hl hr.1.1 hr.1.2 h1 hb (fun x hx => hlt x (List.mem_append_left _ hx)), trodAll_below hl hb hr.2 (fun x hx => hlt x (List.mem_append_right _ hx)) h2, rfl⟩

/-- True, and only new cells: what every law's row asks of its end. -/
theorem post_true {H : Type} {enc : TypeId × Value → H} {P : Program} {s : ChangeSpec} {f : Func} {W W' : World} {args : Array Value} {ds : List (DataW H)} {before : List MemPlace} {tb : TypeId}
    (hl : laidOutB P = true) (hW : DataW.Whole enc P f.params.toList s.vars false W args.toList ds [] before) (hv : s.vars = []) (hfn : s.fn H (ds ++ []) = { results := [.lit (.bool true)], args := ds })
    (hps : (f.params.toList.all fun t => P.readableRec t && decide (t < P.types.size)) = true) (hres : f.resultTypes = #[tb]) (htb : P.underlying tb = some .bool) (hb : Below W.heap.size W W') :
    s.post enc P f false true false false W args (.bool true) W' := by
  have hlt := hW.lt
  have hW' := hW
  obtain ⟨p, q, hA, hV, e, _, _⟩ := hW
  rw [hv] at hV
  obtain rfl : q = [] := hV
  refine ⟨ds, [], before, [], p, [], hW', ?_, ?_, ?_, hb.frame _, fun h => by cases h⟩
  · rw [hfn, hres]
    exact trodAll_cons_mk (shut_bool htb _) trodAll_mk0
  · rw [hfn]
    exact trodAll_below hl hb hps (fun x hx => hlt x (by rw [e]; exact List.mem_append_left _ hx)) hA
  · rw [hfn, hv]; rfl

abbrev laidL : List (String × DataW Unit) := [("math/bits.deBruijn32tab", Rows.laid_math_bits_deBruijn32tab), ("math/bits.deBruijn64tab", Rows.laid_math_bits_deBruijn64tab), ("internal/strconv.uint64pow10", Rows.laid_internal_strconv_uint64pow10), ("strconv.ErrRange", Rows.laid_strconv_ErrRange), ("strconv.ErrSyntax", Rows.laid_strconv_ErrSyntax)]

theorem own : ownKnob Tryz.prog.godebug = none := by kernel_rfl
theorem star : "*" ++ "errors.errorString" = "*errors.errorString" := by decide
theorem row_errs (u : TypeId) (h : Tryz.prog.typeName? 3 u = some "*errors.errorString") : u = 171 :=
  typeName_ptr_named (nm := "errors.errorString") (by rw [star]; kernel_rfl) (by kernel_rfl) (by decide) u (by rw [star]; exact h)
theorem cells_es : Tryz.prog.cellsOf 173 = 1 := by kernel_rfl
theorem cells_str : Tryz.prog.cellsOf 9 = 1 := by kernel_rfl

theorem gw_of_row {W : World} (hL : laidMetH Tryz.prog laidL W) (hs : W.ShapedOpen Tryz.prog) : Gw W := by
  rw [MakeChecks.laidMetH_plain _ _ _ (by kernel_rfl)] at hL
  have tab : laidMet Tryz.prog [("internal/strconv.uint64pow10", Lib.tabData .u64 Lib.pow10Tab)] W := by
    have h := hL.filter fun x => x.1 == "internal/strconv.uint64pow10"
    have e : (laidL.filter fun x => x.1 == "internal/strconv.uint64pow10") = [("internal/strconv.uint64pow10", Lib.tabData .u64 Lib.pow10Tab)] := by kernel_rfl
    rwa [e] at h
  have syn : laidMet Tryz.prog [("strconv.ErrSyntax", Rows.laid_strconv_ErrSyntax)] W := by
    have h := hL.filter fun x => x.1 == "strconv.ErrSyntax"
    have e : (laidL.filter fun x => x.1 == "strconv.ErrSyntax") = [("strconv.ErrSyntax", Rows.laid_strconv_ErrSyntax)] := by kernel_rfl
    rwa [e] at h
  have rng : laidMet Tryz.prog [("strconv.ErrRange", Rows.laid_strconv_ErrRange)] W := by
    have h := hL.filter fun x => x.1 == "strconv.ErrRange"
    have e : (laidL.filter fun x => x.1 == "strconv.ErrRange") = [("strconv.ErrRange", Rows.laid_strconv_ErrRange)] := by kernel_rfl
    rwa [e] at h
  refine ⟨?_, ?_, ?_, ?_, ?_⟩
  · have h : (((begin Tryz.prog (fun _ _ => 0) default).world.heap[5]?).bind Obj.row?).isSome = true := by kernel_rfl
    obtain ⟨⟨z, t⟩, hz⟩ := Option.isSome_iff_exists.1 h
    obtain ⟨cs, hh, _⟩ := hs.1 5 z t (of_decide_eq_true (by kernel_rfl)) hz
    exact (Array.getElem?_eq_some_iff.1 hh).1
  · exact cell_of_shapedOpen_int (g := 3) (t := 3) (zero := #[.int .i64 0]) hs (of_decide_eq_true (by kernel_rfl)) (by kernel_rfl) rfl (by kernel_rfl) (by kernel_rfl) Tryz.underlying3
  · exact Lib.tabIs_of_head (g := 2) (t := 175) (e := 155) (rest := []) (by kernel_rfl) (by kernel_rfl) Tryz.underlying175 Tryz.underlying155 (by kernel_rfl) (by kernel_rfl) tab
  · obtain ⟨a, _, h, _⟩ := laid_sentinel (g := 0) (ti := 101) syn (by kernel_rfl) (by kernel_rfl) Tryz.underlying101 row_errs Tryz.underlying171 Tryz.underlying173 rfl rfl Tryz.underlying9 cells_es cells_str
    exact ⟨_, _, h⟩
  · obtain ⟨a, _, h, _⟩ := laid_sentinel (g := 1) (ti := 101) rng (by kernel_rfl) (by kernel_rfl) Tryz.underlying101 row_errs Tryz.underlying171 Tryz.underlying173 rfl rfl Tryz.underlying9 cells_es cells_str
    exact ⟨_, _, h⟩

/-- A world for the witnesses. -/
theorem wit_met (os : Os) (args : Array Value) : laidMetH Tryz.prog laidL ((World.laidAll Tryz.prog os laidL).forCall (fun _ _ => 0) ⟨#[], args, []⟩).memory := by
  rw [MakeChecks.laidMetH_plain _ _ _ (by kernel_rfl)]
  exact laidMet_laidAll _ (by kernel_rfl) (by kernel_rfl)
theorem wit_shaped (os : Os) (args : Array Value) : ((World.laidAll Tryz.prog os laidL).forCall (fun _ _ => 0) ⟨#[], args, []⟩).Shaped Tryz.prog :=
  World.shaped_of_ZipB (by kernel_rfl) (by kernel_rfl)

/-- 'There is an input that fits', at the world above. -/
theorem witness_laid {H : Type} {enc : TypeId × Value → H} {os : Os} {f : FuncId} {fn : Func} {s : OpenSpec} (args : Array Value)
    (hok : Input.okWideB Tryz.prog ((World.laidAll Tryz.prog os laidL).forCall (fun _ _ => 0) ⟨#[], args, []⟩) f ⟨#[], args, []⟩ = true)
    (hrow : s.preRow enc Tryz.prog fn [] false laidL ((World.laidAll Tryz.prog os laidL).forCall (fun _ _ => 0) ⟨#[], args, []⟩).memory args) :
    ∃ (w : World) (tape : Tape) (i : Input), w.os = os ∧ (w.forCall tape i).Shaped Tryz.prog ∧ i.vars = [] ∧ Input.okWide Tryz.prog (w.forCall tape i) .any w.heap.size f i ∧
      s.preRow enc Tryz.prog fn [] false laidL (w.forCall tape i).memory i.args ∧ ({} : Assume).holds Tryz.prog (lone (Frame.enter Tryz.prog f i.args .normal) [] (w.forCall tape i)) :=
  ⟨World.laidAll Tryz.prog os laidL, fun _ _ => 0, ⟨#[], args, []⟩, World.laidAll_os _ _ _, wit_shaped os args, (Input.okWide_of_okWideB (base := 0) hok).1, (Input.okWide_of_okWideB hok).2, hrow, by
    simp only [Assume.holds]
    exact ⟨by simp, by simp, fun _ => Modest.zero, by simp, by simp⟩⟩
end Go.Proofs.YtaggohobdjidjaaGreatDoor

/- Points, boxes and lists of labels as they come in. -/
namespace Go.Proofs.YtaggohobdjidjaaGreatDoor
open Go.ChangeShapes Go.WideShapes Go.ChangeAt Go.RowKit Go.Sort

section
variable {H : Type} {enc : TypeId × Value → H} {W : World} {base b : Nat} {sp : Nat → Bool} {held : Bool} {v : Value} {d : DataW H} {p : List MemPlace}

set_option maxRecDepth 20000 in
theorem open_int_cell {n : Nat} {c : Value} {x : DataW H × List MemPlace} (h : DataW.trod enc Tryz.prog W b sp held n 3 [c] = some x) : ∃ z, c = .int .i64 z ∧ -9223372036854775808 ≤ z ∧ z ≤ 9223372036854775807 := by
  obtain ⟨z, k, -, wz⟩ := DataW.trod_int Tryz.underlying3 h
  simp only [List.cons.injEq, and_true] at k
  exact ⟨z, k, (bounds_i64 wz).1, (bounds_i64 wz).2⟩

set_option maxRecDepth 20000 in
theorem open_point (hv : Value.okWide Tryz.prog W .any base 24 v) (h : DataW.Trod enc Tryz.prog W b sp held 24 v d p) :
    ∃ x y, v = .agg #[.int .i64 x, .int .i64 y] ∧ (-9223372036854775808 ≤ x ∧ x ≤ 9223372036854775807) ∧ (-9223372036854775808 ≤ y ∧ y ≤ 9223372036854775807) := by
  obtain ⟨c0, c1, y0, y1, m, rfl, -, -, e0, e1⟩ := Go.Joins.open_agg2 Tryz.underlying24 (by kernel_rfl) (by kernel_rfl) hv h
  obtain ⟨x, rfl, bx⟩ := open_int_cell e0
  obtain ⟨y, rfl, b_y⟩ := open_int_cell e1
  exact ⟨x, y, rfl, bx, b_y⟩

set_option maxRecDepth 20000 in
theorem trod_point {n : Nat} {c0 c1 : Value} {x : DataW H × List MemPlace} (h : DataW.trod enc Tryz.prog W b sp held n 24 [c0, c1] = some x) :
    ∃ x y, c0 = .int .i64 x ∧ c1 = .int .i64 y ∧ (-9223372036854775808 ≤ x ∧ x ≤ 9223372036854775807) ∧ (-9223372036854775808 ≤ y ∧ y ≤ 9223372036854775807) := by
  obtain ⟨y0, y1, m, -, -, e0, e1⟩ := trod_struct2 Tryz.underlying24 h
  have c3 : Tryz.prog.cellsOf 3 = 1 := by kernel_rfl
  simp [c3] at e0 e1
  obtain ⟨x, rfl, bx⟩ := open_int_cell e0
  obtain ⟨y, rfl, b_y⟩ := open_int_cell e1
  exact ⟨x, y, rfl, rfl, bx, b_y⟩

set_option maxRecDepth 20000 in
theorem open_box (hv : Value.okWide Tryz.prog W .any base 26 v) (h : DataW.Trod enc Tryz.prog W b sp held 26 v d p) :
    ∃ a b c e, v = .agg #[.int .i64 a, .int .i64 b, .int .i64 c, .int .i64 e] ∧ ((-9223372036854775808 ≤ a ∧ a ≤ 9223372036854775807) ∧ (-9223372036854775808 ≤ b ∧ b ≤ 9223372036854775807)) ∧ (-9223372036854775808 ≤ c ∧ c ≤ 9223372036854775807) ∧ (-9223372036854775808 ≤ e ∧ e ≤ 9223372036854775807) := by
  obtain ⟨cs, rfl, hsz⟩ := okWide_struct Tryz.underlying26 hv
  obtain ⟨c0, c1, c2, c3, rfl⟩ := Go.Joins.array4 (hsz.trans (by kernel_rfl))
  obtain ⟨fuel, hf⟩ := h
  obtain ⟨y0, y1, m, -, -, e0, e1⟩ := trod_struct2 Tryz.underlying26 hf
  have c31 : Tryz.prog.cellsOf 24 = 2 := by kernel_rfl
  simp [c31, Value.cells] at e0 e1
  obtain ⟨x, y, rfl, rfl, bx, b_y⟩ := trod_point e0
  obtain ⟨x', y', rfl, rfl, bx', b_y'⟩ := trod_point e1
  exact ⟨x, y, x', y', rfl, ⟨bx, b_y⟩, bx', b_y'⟩

set_option maxRecDepth 20000 in
theorem open_int1 (hv : Value.okWide Tryz.prog W .any base 3 v) (h : DataW.Trod enc Tryz.prog W b sp held 3 v d p) : ∃ z, v = .int .i64 z ∧ -9223372036854775808 ≤ z ∧ z ≤ 9223372036854775807 := by
  obtain ⟨z, rfl, -, -, wz⟩ := open_int Tryz.underlying3 hv h
  exact ⟨z, rfl, (bounds_i64 wz).1, (bounds_i64 wz).2⟩

set_option maxRecDepth 20000 in
theorem open_str (hv : Value.okWide Tryz.prog W .any base 9 v) (h : DataW.Trod enc Tryz.prog W b sp held 9 v d p) : ∃ s, v = .string s := by
  obtain ⟨s, rfl, -⟩ := Go.ChangeMaps.open_string Tryz.underlying9 hv h
  exact ⟨s, rfl⟩

set_option maxRecDepth 20000 in
theorem trod_label {n : Nat} {cs : List Value} {x : DataW H × List MemPlace} (h : DataW.trod enc Tryz.prog W b sp held n 47 cs = some x) : ∃ y : Lab, cs = labC y ∧ y.id.size ≤ maxLen := by
  obtain ⟨xs, k, -, -, hl, hxl, hf⟩ := DataW.trod_struct Tryz.underlying47 h
  have hl6 : cs.length = 6 := hl.trans (by kernel_rfl)
  match cs, hl6 with
  | [c0, c1, c2, c3, c4, c5], _ =>
    match xs, hxl with
    | [y0, y1, y2, y3, y4], _ =>
      have g0 := hf 0 _ rfl
      have g1 := hf 1 _ rfl
      have g2 := hf 2 _ rfl
      have g3 := hf 3 _ rfl
      have g4 := hf 4 _ rfl
      have e1 : Tryz.prog.cellsOf 9 = 1 := by kernel_rfl
      have e2 : Tryz.prog.cellsOf 24 = 2 := by kernel_rfl
      have e3 : Tryz.prog.cellsOf 3 = 1 := by kernel_rfl
      simp [e1, e2, e3] at g0 g1 g2 g3 g4
      obtain ⟨s, hs, -, hm⟩ := DataW.trod_string Tryz.underlying9 g0
      obtain ⟨x, y, rfl, rfl, -, -⟩ := trod_point g1
      obtain ⟨z2, rfl, -⟩ := open_int_cell g2
      obtain ⟨z3, rfl, -⟩ := open_int_cell g3
      obtain ⟨z4, rfl, -⟩ := open_int_cell g4
      simp only [List.cons.injEq, and_true] at hs
      subst hs
      exact ⟨⟨s, x, y, z2, z3, z4⟩, rfl, hm⟩

/-- A slice of k cells an element, each of which reads, is a list. -/
theorem open_lies {α : Type} [Inhabited α] {k : Nat} {ek : α → List Value} {t e : TypeId} {ok : α → Prop} {LP : DataW H → Prop} (ht : Tryz.prog.underlying t = some (.slice e)) (hk : Tryz.prog.cellsOf e = k) (hk0 : 0 < k)
    (hel : ∀ {n cs x}, DataW.trod enc Tryz.prog W b sp held n e cs = some x → LP x.1 → ∃ y : α, cs = ek y ∧ ok y) {n : Nat} {cs : List Value} {x : DataW H × List MemPlace} (hz : ∀ es r, x.1 = .slice es r → ∀ d ∈ es, LP d) (h : DataW.trod enc Tryz.prog W b sp held n t cs = some x) :
    ∃ q m cap, ∃ l : List α, cs = [.slice q m cap] ∧ m = l.length ∧ m ≤ cap ∧ cap ≤ maxLen ∧ (q = none → cap = 0) ∧ (∀ y ∈ l, ok y) ∧
      Lies W k ek q l := by
  rcases Deep.open_slice ht h with ⟨rfl, -⟩ | ⟨ad, len, cap, m, n', D, Pl, rfl, -, hl, hm, hmm, hxe, hx⟩
  · exact ⟨none, 0, 0, [], rfl, rfl, Nat.le_refl _, Nat.zero_le _, fun _ => rfl, fun y hy => (by cases hy), .inl rfl, fun a e => (by cases e), fun g o e => (by cases e)⟩
  · rw [hk] at hx
    have hlm : len ≤ m := by rw [hmm]; split <;> omega
    have hch := Deep.choose_lt (α := α) (n := len) (p := fun i y => W.cells? b (ad.add (i * k)) k = some (ek y) ∧ ok y) (fun i hi => by
      obtain ⟨cs', h1, h2⟩ := hx i (by omega)
      obtain ⟨y, rfl, ho⟩ := hel h2 (hz _ _ (by rw [hxe]) (D i) (List.mem_map.2 ⟨i, List.mem_range.2 hi, rfl⟩))
      exact ⟨y, h1, ho⟩)
    obtain ⟨Y, hY⟩ := hch
    have hat : 0 < len → ∃ g o, ad = ⟨g, o, none⟩ ∧ g < W.heap.size := fun h0 => by
      obtain ⟨-, hlen, hc⟩ := World.cells?_some (hY 0 h0).1
      have := hc 0 hk0
      rw [Deep.add_add, Nat.zero_mul, Nat.add_zero] at this
      obtain ⟨hek⟩ : (ek (Y 0))[0]? = some (ek (Y 0))[0] ∧ True := ⟨List.getElem?_eq_getElem (by omega), trivial⟩
      rw [List.getElem?_eq_getElem (by omega)] at this
      obtain ⟨gb, go, gs⟩ := ad
      have hb : gb < W.heap.size := by
        rcases Nat.lt_or_ge gb W.heap.size with h' | h'
        · exact h'
        · simp [Addr.add, World.cell?, Array.getElem?_eq_none h'] at this
      cases gs with
      | none => exact ⟨gb, go, rfl, hb⟩
      | some sp' =>
        exfalso
        simp [Addr.add, World.cell?] at this
        split at this <;> simp_all
    refine ⟨some ad, len, cap, (List.range len).map Y, rfl, by simp, hl, hm, fun e => (by cases e), fun y hy => ?_, ?_, fun a e hne => ?_, fun g o e i y hy j hj => ?_⟩
    · obtain ⟨i, hi, rfl⟩ := List.mem_map.1 hy
      exact (hY i (List.mem_range.1 hi)).2
    · rcases Nat.eq_zero_or_pos len with h0 | h0
      · exact .inl (by rw [h0]; rfl)
      · obtain ⟨g, o, rfl, -⟩ := hat h0
        exact .inr ⟨g, o, rfl⟩
    · cases e
      obtain ⟨g, o, rfl, hgl⟩ := hat (by
        rcases Nat.eq_zero_or_pos len with h0 | h0
        · exact absurd (by rw [h0]; rfl) hne
        · exact h0)
      exact hgl
    · cases e
      have hi : i < len := by have := (List.getElem?_eq_some_iff.1 hy).1; simpa using this
      have hy' : Y i = y := by simpa [hi] using hy
      obtain ⟨-, hlen, hc⟩ := World.cells?_some (hY i hi).1
      have := hc j hj
      rw [Deep.add_add, hy'] at this
      rw [← this]
      unfold Addr.add
      split
      · rename_i h0
        rw [Nat.add_assoc, h0]
        rfl
      · rw [Nat.add_assoc]

set_option maxRecDepth 20000 in
theorem open_labels (hv : Value.okWide Tryz.prog W .any base 22 v) (h : DataW.Trod enc Tryz.prog W b sp held 22 v d p) :
    ∃ q n cap, ∃ l : List Lab, v = .slice q n cap ∧ n = l.length ∧ n ≤ maxLen ∧ (q = none → cap = 0) ∧ Lies W 6 labC q l := by
  obtain ⟨a0, n0, c0, rfl⟩ := okWide_slice Tryz.underlying22 hv
  obtain ⟨fuel, hf⟩ := h
  obtain ⟨q, m, cap, l, hc, hm, hmc, hcm, hq, -, hL⟩ := open_lies (ek := labC) (ok := fun _ => True) Tryz.underlying22 (k := 6) (by kernel_rfl) (by decide) (LP := fun _ => True) (fun h _ => by obtain ⟨y, hy, -⟩ := trod_label h; exact ⟨y, hy, trivial⟩) (fun _ _ _ _ _ => trivial) hf
  have hc' : [Value.slice a0 n0 c0] = [Value.slice q m cap] := hc
  cases hc'
  exact ⟨a0, n0, c0, l, rfl, hm, Nat.le_trans hmc hcm, hq, hL⟩
end
end Go.Proofs.YtaggohobdjidjaaGreatDoor

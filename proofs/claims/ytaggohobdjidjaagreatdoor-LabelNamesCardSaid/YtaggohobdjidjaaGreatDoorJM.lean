import Derived.Test.YtaggohobdjidjaaGreatDoorJR
import Derived.Test.YtaggohobdjidjaaGreatDoorJG
import Derived.Test.YtaggohobdjidjaaGreatDoorJL

/- Maps, lists of texts and small numbers as they come in. -/
namespace Go.Proofs.YtaggohobdjidjaaGreatDoor
open Go.ChangeShapes Go.WideShapes Go.ChangeAt Go.RowKit Go.Sort

/-- No more bytes than memory reaches. -/
def reachN : Nat := 140737488351232
def Light {H : Type} (t : TypeId) (d : DataW H) : Prop := ∀ n ∈ d.weights Tryz.prog t, n ≤ reachN
theorem light_str {H : Type} {t : TypeId} {b : List UInt8} (h : Light (H := H) t (.lit (.string b))) : b.length ≤ reachN := h b.length (by simp [DataW.weights])
theorem light_field {H : Type} {t : TypeId} {fs : Array Field} {xs : List (DataW H × List MemPlace)} {i : Nat} {f : Field} {y : DataW H × List MemPlace} (hu : Tryz.prog.underlying t = some (.struct fs)) (h : Light t (.agg (xs.map (·.1)))) (hf : fs[i]? = some f) (hx : xs[i]? = some y) : Light f.type y.1 := fun n hn => by
  refine h n ?_
  unfold DataW.weights
  rw [hu]
  exact DataW.weights_mem_each (j := i) (t := f.type) (d := y.1) (by simp [hf]) (by simp [hx]) n hn
theorem mem_all {H : Type} {P : Program} {e : TypeId} : ∀ {es : List (DataW H)} {d : DataW H} {n : Nat}, d ∈ es → n ∈ d.weights P e → n ∈ DataW.weightsAll P e es
  | [], _, _, h, _ => by cases h
  | c :: es, d, n, h, hn => by
    unfold DataW.weightsAll
    rcases List.mem_cons.1 h with rfl | h
    · exact List.mem_append_left _ hn
    · exact List.mem_append_right _ (mem_all h hn)
theorem light_elem {H : Type} {t e : TypeId} {es r : List (DataW H)} (hu : Tryz.prog.underlying t = some (.slice e)) (h : Light t (.slice es r)) : ∀ d ∈ es, Light e d := fun d hd n hn => by
  refine h n ?_
  unfold DataW.weights
  rw [hu]
  exact List.mem_cons_of_mem _ (List.mem_append_left _ (mem_all hd hn))
theorem light_arg {H : Type} {ts : List TypeId} {ds : List (DataW H)} (h : (DataW.weightsEach Tryz.prog ts ds).all (· ≤ reachBytes) = true) {j : Nat} {t : TypeId} {d : DataW H} (ht : ts[j]? = some t) (hd : ds[j]? = some d) : Light t d := fun n hn => by
  have := List.all_eq_true.1 h n (DataW.weights_mem_each ht hd n hn)
  exact of_decide_eq_true this

/-- An object of which nothing is known but that it is there. -/
structure BigO (o : Ob) : Prop where
  id : o.id.size ≤ reachN
  refs : ∀ s ∈ o.refs, s.size ≤ reachN
  tags : ∀ t ∈ o.tags, t.1.size ≤ reachN ∧ t.2.size ≤ reachN
  nr : o.refs.length ≤ maxLen
  nt : o.tags.length ≤ maxLen
def BigM (l : List Ob) : Prop := ∀ o ∈ l, BigO o

section
variable {H : Type} {enc : TypeId × Value → H} {W : World} {base b : Nat} {sp : Nat → Bool} {held : Bool} {v : Value} {d : DataW H} {p : List MemPlace}

set_option maxRecDepth 20000 in
theorem trod_str {n : Nat} {cs : List Value} {x : DataW H × List MemPlace} (h : DataW.trod enc Tryz.prog W b sp held n 9 cs = some x) (hz : Light 9 x.1) : ∃ s : ByteArray, cs = strC s ∧ s.size ≤ reachN := by
  obtain ⟨s, hs, hx, -⟩ := DataW.trod_string Tryz.underlying9 h
  rw [hx] at hz
  have := light_str hz
  exact ⟨s, hs, by simpa using this⟩
set_option maxRecDepth 20000 in
theorem trod_tag {n : Nat} {cs : List Value} {x : DataW H × List MemPlace} (h : DataW.trod enc Tryz.prog W b sp held n 69 cs = some x) (hz : Light 69 x.1) : ∃ y : Tg, cs = tagC y ∧ y.1.size ≤ reachN ∧ y.2.size ≤ reachN := by
  obtain ⟨xs, k, -, hx, hl, hxl, hf⟩ := DataW.trod_struct Tryz.underlying69 h
  have hl6 : cs.length = 2 := hl.trans (by kernel_rfl)
  rw [hx] at hz
  match cs, hl6 with
  | [c0, c1], _ =>
    match xs, hxl with
    | [y0, y1], _ =>
      have g0 := hf 0 _ rfl
      have g1 := hf 1 _ rfl
      have z0 := light_field (i := 0) Tryz.underlying69 hz rfl rfl
      have z1 := light_field (i := 1) Tryz.underlying69 hz rfl rfl
      have e1 : Tryz.prog.cellsOf 9 = 1 := by kernel_rfl
      simp [e1] at g0 g1
      obtain ⟨s, hs, hm⟩ := trod_str g0 z0
      obtain ⟨s1, hs1, hm1⟩ := trod_str g1 z1
      unfold strC at hs hs1
      simp only [List.cons.injEq, and_true] at hs hs1
      subst hs hs1
      exact ⟨(s, s1), rfl, hm, hm1⟩

set_option maxRecDepth 20000 in
theorem trod_object {n : Nat} {cs : List Value} {x : DataW H × List MemPlace} (h : DataW.trod enc Tryz.prog W b sp held n 59 cs = some x) (hz : Light 59 x.1) : ∃ y : OV × Ob, cs = ovC y.1 ∧ ObAt W y.1 y.2 ∧ BigO y.2 := by
  obtain ⟨xs, k, -, hx, hl, hxl, hf⟩ := DataW.trod_struct Tryz.underlying59 h
  have hl6 : cs.length = 6 := hl.trans (by kernel_rfl)
  rw [hx] at hz
  match cs, hl6 with
  | [c0, c1, c2, c3, c4, c5], _ =>
    match xs, hxl with
    | [y0, y1, y2, y3, y4], _ =>
      have g0 := hf 0 _ rfl
      have g1 := hf 1 _ rfl
      have g2 := hf 2 _ rfl
      have g3 := hf 3 _ rfl
      have g4 := hf 4 _ rfl
      have z0 := light_field (i := 0) Tryz.underlying59 hz rfl rfl
      have z3 := light_field (i := 3) Tryz.underlying59 hz rfl rfl
      have z4 := light_field (i := 4) Tryz.underlying59 hz rfl rfl
      have e1 : Tryz.prog.cellsOf 9 = 1 := by kernel_rfl
      have e2 : Tryz.prog.cellsOf 24 = 2 := by kernel_rfl
      have e3 : Tryz.prog.cellsOf 3 = 1 := by kernel_rfl
      have e4 : Tryz.prog.cellsOf 36 = 1 := by kernel_rfl
      have e5 : Tryz.prog.cellsOf 57 = 1 := by kernel_rfl
      simp [e1, e2, e3, e4, e5] at g0 g1 g2 g3 g4
      obtain ⟨s, hs, hm⟩ := trod_str g0 z0
      obtain ⟨z1, rfl, -⟩ := open_int_cell g1
      obtain ⟨x, y, rfl, rfl, -, -⟩ := trod_point g2
      obtain ⟨q, m, cap, l, hc, hlm, hmc, hcm, -, hok, hL⟩ := open_lies (ek := strC) (ok := fun s => s.size ≤ reachN) (LP := Light 9) Tryz.underlying36 (k := 1) (by kernel_rfl) (by decide) (fun h z => trod_str h z) (fun es r he => light_elem (r := r) Tryz.underlying36 (he ▸ z3)) g3
      obtain ⟨q', m', cap', l', hc', hlm', hmc', hcm', -, hok', hL'⟩ := open_lies (ek := tagC) (ok := fun t => t.1.size ≤ reachN ∧ t.2.size ≤ reachN) (LP := Light 69) Tryz.underlying57 (k := 2) (by kernel_rfl) (by decide) (fun h z => trod_tag h z) (fun es r he => light_elem (r := r) Tryz.underlying57 (he ▸ z4)) g4
      unfold strC at hs
      simp only [List.cons.injEq, and_true] at hs hc hc'
      subst hs hc hc'
      exact ⟨(⟨s, z1, x, y, q, m, cap, q', m', cap'⟩, ⟨s, z1, x, y, l, l'⟩), rfl, ⟨rfl, rfl, rfl, rfl, hlm, hlm', hL, hL', hmc, hmc'⟩, ⟨hm, hok, hok', by have := hlm ▸ Nat.le_trans hmc hcm; exact this, by have := hlm' ▸ Nat.le_trans hmc' hcm'; exact this⟩⟩

theorem objs_of {q : Option Addr} {l : List (OV × Ob)} (h : Lies W 6 (fun y : OV × Ob => ovC y.1) q l) (hok : ∀ y ∈ l, ObAt W y.1 y.2) : Objs W q (l.map Prod.snd) := by
  refine ⟨l.map Prod.fst, ⟨h.form.imp (fun h => by rw [h]; rfl) id, fun a e hl => h.low a e (fun e' => hl (by rw [e']; rfl)), fun g o e i x hx j hj => ?_⟩, by simp, fun i v o hv ho => ?_⟩
  · rw [List.getElem?_map] at hx
    cases hl : l[i]? with
    | none => rw [hl] at hx; cases hx
    | some y => rw [hl] at hx; cases hx; exact h.cell g o e i y hl j hj
  · rw [List.getElem?_map] at hv ho
    cases hl : l[i]? with
    | none => rw [hl] at hv; cases hv
    | some y => rw [hl] at hv ho; cases hv; cases ho; exact hok y (List.mem_of_getElem? hl)

set_option maxRecDepth 20000 in
theorem trod_objs {n : Nat} {cs : List Value} {x : DataW H × List MemPlace} (h : DataW.trod enc Tryz.prog W b sp held n 33 cs = some x) (hz : Light 33 x.1) : ∃ q m cap, ∃ l : List Ob, cs = [.slice q m cap] ∧ m = l.length ∧ m ≤ cap ∧ cap ≤ maxLen ∧ (q = none → cap = 0) ∧ BigM l ∧ Objs W q l := by
  obtain ⟨q, m, cap, l, hc, hlm, hmc, hcm, hq, hok, hL⟩ := open_lies (α := OV × Ob) (ek := fun y => ovC y.1) (ok := fun y => ObAt W y.1 y.2 ∧ BigO y.2) (LP := Light 59) Tryz.underlying33 (k := 6) (by kernel_rfl) (by decide) (fun h z => trod_object h z) (fun es r he => light_elem (r := r) Tryz.underlying33 (he ▸ hz)) h
  refine ⟨q, m, cap, l.map Prod.snd, hc, by simpa using hlm, hmc, hcm, hq, fun o ho => ?_, objs_of hL (fun y hy => (hok y hy).1)⟩
  obtain ⟨y, hy, rfl⟩ := List.mem_map.1 ho
  exact (hok y hy).2

set_option maxRecDepth 20000 in
theorem open_map (hv : Value.okWide Tryz.prog W .any base 35 v) (h : DataW.Trod enc Tryz.prog W b sp held 35 v d p) (hz : Light 35 d) :
    ∃ q n cap, ∃ l : List Ob, v = .agg #[.slice q n cap] ∧ n = l.length ∧ n ≤ cap ∧ cap ≤ maxLen ∧ (q = none → cap = 0) ∧ BigM l ∧ Objs W q l := by
  obtain ⟨cs, rfl, hsz⟩ := okWide_struct Tryz.underlying35 hv
  obtain ⟨c0, rfl⟩ : ∃ c0, cs = #[c0] := Array.size_eq_one_iff.1 (hsz.trans (by kernel_rfl))
  obtain ⟨fuel, hf⟩ := h
  obtain ⟨xs, k, -, hx, hl, hxl, hg⟩ := DataW.trod_struct Tryz.underlying35 hf
  obtain ⟨rfl, -⟩ := Prod.mk.inj hx
  match xs, hxl with
  | [y0], _ =>
    have g0 := hg 0 _ rfl
    have z0 := light_field (i := 0) Tryz.underlying35 hz rfl rfl
    have e1 : Tryz.prog.cellsOf 33 = 1 := by kernel_rfl
    simp [e1, Value.cells] at g0
    obtain ⟨q, m, cap, l, hc, hrest⟩ := trod_objs g0 z0
    simp only [List.cons.injEq, and_true] at hc
    subst hc
    exact ⟨q, m, cap, l, rfl, hrest⟩

set_option maxRecDepth 20000 in
theorem open_strs (hv : Value.okWide Tryz.prog W .any base 36 v) (h : DataW.Trod enc Tryz.prog W b sp held 36 v d p) (hz : Light 36 d) :
    ∃ q n cap, ∃ l : List ByteArray, v = .slice q n cap ∧ n = l.length ∧ n ≤ cap ∧ cap ≤ maxLen ∧ (q = none → cap = 0) ∧ (∀ s ∈ l, s.size ≤ reachN) ∧ Lies W 1 strC q l := by
  obtain ⟨a0, n0, c0, rfl⟩ := okWide_slice Tryz.underlying36 hv
  obtain ⟨fuel, hf⟩ := h
  obtain ⟨q, m, cap, l, hc, hm, hmc, hcm, hq, hok, hL⟩ := open_lies (ek := strC) (ok := fun s => s.size ≤ reachN) (LP := Light 9) Tryz.underlying36 (k := 1) (by kernel_rfl) (by decide) (fun h z => trod_str h z) (fun es r he => light_elem (r := r) Tryz.underlying36 (he ▸ hz)) hf
  have hc' : [Value.slice a0 n0 c0] = [Value.slice q m cap] := hc
  cases hc'
  exact ⟨a0, n0, c0, l, rfl, hm, hmc, hcm, hq, hok, hL⟩

set_option maxRecDepth 20000 in
theorem open_u8 (hv : Value.okWide Tryz.prog W .any base 5 v) (h : DataW.Trod enc Tryz.prog W b sp held 5 v d p) : ∃ z, v = .int .u8 z ∧ 0 ≤ z ∧ z ≤ 255 := by
  obtain ⟨z, rfl, -, -, wz⟩ := open_int Tryz.underlying5 hv h
  exact ⟨z, rfl, bounds_u8 wz⟩
end
end Go.Proofs.YtaggohobdjidjaaGreatDoor

/- planisphereref13.Few, planispherelaw43.languages: whether what comes in is of a moderate size. -/
namespace Go.Proofs.YtaggohobdjidjaaGreatDoor
open Go.RowKit Go.Sort Go.Shelf

structure FewO (o : Ob) : Prop where
  id : o.id.size ≤ 60
  nr : o.refs.length ≤ 12
  nt : o.tags.length ≤ 20
  refs : ∀ s ∈ o.refs, s.size ≤ 60
  tags : ∀ t ∈ o.tags, t.1.size + t.2.size ≤ 300
def FewM (l : List Ob) : Prop := ∀ o ∈ l, FewO o
theorem FewM.small {l : List Ob} (h : FewM l) : SmallM l := fun o ho => by
  have := h o ho
  exact ⟨by have := this.id; omega, fun s hs => by have := this.refs s hs; omega, fun t ht => by have := this.tags t ht; omega, by have := this.nr; omega, by have := this.nt; omega⟩

set_option maxHeartbeats 8000000 in
set_option maxRecDepth 100000 in
theorem fewM_any (p : Option Addr) (n cap : Nat) (l : List Ob) (most : Nat) (w : World) (hL : Objs w p l) (hn : n = l.length) (hm : most ≤ 1000) (hB : BigM l) :
    Calls Tryz.prog 15 #[.agg #[.slice p n cap], .int .i64 most] w (FewR w (n ≤ most ∧ FewM l)) := by
  have HL := Lib.hid hL
  have HN := Lib.hid hn
  have HB := Lib.hid hB
  clear hL hn hB
  go_enter Tryz.func15, Tryz.ntmps15
  by_cases hnm : n ≤ most
  · have d0 : decide ((most : Int) < (n : Int)) = false := decide_eq_false (by omega)
    have d0' : decide (most < n) = false := decide_eq_false (by omega)
    go_wp2
    go_loopw [5] (fun vi wr => ∃ i : Nat, i ≤ n ∧ vi = .int .i64 i ∧ Below w.heap.size w wr ∧ Box wr w.heap.size #[.slice p n cap] 35 ∧ Hid (∀ (j : Nat) o, j < i → l[j]? = some o → FewO o)) (fun vi _ => n - (intOf vi).toNat)
    case atStart => exact ⟨0, by omega, rfl, (Below.refl _ _).alloc (Nat.le_refl _) _, Box.new _ _ _, Lib.hid (fun j o h _ => by omega)⟩
    case round =>
      obtain ⟨i, hi, rfl, hW, b0, HF⟩ := hrel
      generalize wr = W0 at *
      have r0 := b0.cell 0
      by_cases hlt : i < n
      · obtain ⟨x, hx⟩ : ∃ x, l[i]? = some x := ⟨_, List.getElem?_eq_getElem (by have := HN.out; omega)⟩
        obtain ⟨g, o, rfl⟩ := HL.out.addr (by have := HN.out; omega)
        obtain ⟨v, hat, c0, c1, c2, c3, c4, c5⟩ := (HL.out.below hW (Nat.le_refl _)).at hx
        have HBX := Lib.hid (HB.out x (List.mem_of_getElem? hx))
        have HAT := Lib.hid hat
        have HX := Lib.hid hx
        obtain ⟨vid, vkind, vx, vy, pr, nr, cr, pt, nt, ct⟩ := v
        dsimp only at c0 c1 c2 c3 c4 c5
        have q1 : decide (i < n) = true := decide_eq_true hlt
        clear hat hx
        by_cases hbad : 12 < nr ∨ 20 < nt ∨ 60 < vid.size
        · rcases Nat.lt_or_ge 12 nr with h12 | h12
          · have d1 : decide ((12 : Int) < (nr : Int)) = true := decide_eq_true (by omega)
            clear hbad
            go_wp2
            go_ret
            exact ⟨false, rfl, fun h => (by cases h), hW.alloc hW.size _⟩
          · have d1 : decide ((12 : Int) < (nr : Int)) = false := decide_eq_false (by omega)
            rcases Nat.lt_or_ge 20 nt with h20 | h20
            · have d2 : decide ((20 : Int) < (nt : Int)) = true := decide_eq_true (by omega)
              clear hbad
              go_wp2
              go_ret
              exact ⟨false, rfl, fun h => (by cases h), hW.alloc hW.size _⟩
            · have d2 : decide ((20 : Int) < (nt : Int)) = false := decide_eq_false (by omega)
              have d3 : decide ((60 : Int) < (vid.size : Int)) = true := decide_eq_true (by omega)
              clear hbad
              go_wp2
              go_ret
              exact ⟨false, rfl, fun h => (by cases h), hW.alloc hW.size _⟩
        · have h12 : nr ≤ 12 := by omega
          have h20 : nt ≤ 20 := by omega
          have h60 : vid.size ≤ 60 := by omega
          have d1 : decide ((12 : Int) < (nr : Int)) = false := decide_eq_false (by omega)
          have d2 : decide ((20 : Int) < (nt : Int)) = false := decide_eq_false (by omega)
          have d3 : decide ((60 : Int) < (vid.size : Int)) = false := decide_eq_false (by omega)
          have H60 := Lib.hid h60
          clear hbad
          go_wp2
          have hws := hW.size
          have k0 := b0.lt
          obtain ⟨ko, hko⟩ : ∃ k, W0.heap.size = k := ⟨_, rfl⟩
          have hkk : w.heap.size ≤ ko := by omega
          clear c0 c1 c2 c3 c4 c5 r0 d1 d2 d3 h60
          go_loopw [7] (fun vk W => ∃ k : Nat, k ≤ nr ∧ vk = .int .i64 k ∧ Below w.heap.size w W ∧ Box W w.heap.size #[.slice (some ⟨g, o, none⟩) n cap] 35 ∧ Box W ko #[.string vid, .int .i64 vkind, .int .i64 vx, .int .i64 vy, .slice pr nr cr, .slice pt nt ct] 59 ∧ Below W0.heap.size W0 W ∧ Hid (∀ (j : Nat) s, j < k → x.refs[j]? = some s → s.size ≤ 60)) (fun vk _ => nr - (intOf vk).toNat)
          case atStart => exact ⟨0, by omega, rfl, hW.alloc hws _, b0.alloc _, Box.new' hko.symm _ _, (Below.refl _ _).alloc (Nat.le_refl _) _, Lib.hid (fun j s h _ => by omega)⟩
          case round =>
            clear hW b0 k0
            obtain ⟨k, hk, rfl, hW, b0, b1, hB, HR⟩ := hrel
            have r1 := b1.cell 4
            have k1 := b1.lt
            rcases Nat.lt_or_ge k nr with hkr | hkr
            · obtain ⟨s, hs⟩ : ∃ s, x.refs[k]? = some s := ⟨_, List.getElem?_eq_getElem (by have := HAT.out.nr; dsimp only at this; omega)⟩
              obtain ⟨gr, or_, hpr⟩ := HAT.out.refs.addr (by have := HAT.out.nr; dsimp only at this; omega)
              dsimp only at hpr
              subst hpr
              have s0 := (HAT.out.refs.below hB (Nat.le_refl _)).st hs
              have HS := Lib.hid hs
              have q2 : decide (k < nr) = true := decide_eq_true hkr
              clear hs
              by_cases h : 60 < s.size
              · have d1 : decide ((60 : Int) < (s.size : Int)) = true := decide_eq_true (by omega)
                go_wp2
                go_ret
                exact ⟨false, rfl, fun h => (by cases h), hW⟩
              · have d1 : decide ((60 : Int) < (s.size : Int)) = false := decide_eq_false (by omega)
                go_wp2
                go_roundw
                case rel => exact ⟨k + 1, by omega, by go_num, hW, b0, b1, hB, Lib.hid (fun j s' hj hs' => by
                  rcases Nat.lt_or_ge j k with h1 | h1
                  · exact HR.out j s' h1 hs'
                  · obtain rfl : j = k := by omega
                    have := HS.out
                    rw [hs'] at this
                    cases this
                    omega)⟩
                case measure => simp [intOf]; omega
            · obtain rfl : k = nr := by omega
              have q2 : decide (k < k) = false := decide_eq_false (by omega)
              have HRA := HR
              clear HR
              go_wp2
              clear r1
              go_loopw [8] (fun vk W => ∃ t : Nat, t ≤ nt ∧ vk = .int .i64 t ∧ Below w.heap.size w W ∧ Box W w.heap.size #[.slice (some ⟨g, o, none⟩) n cap] 35 ∧ Box W ko #[.string vid, .int .i64 vkind, .int .i64 vx, .int .i64 vy, .slice pr k cr, .slice pt nt ct] 59 ∧ Below W0.heap.size W0 W ∧ Hid (∀ (j : Nat) s, j < t → x.tags[j]? = some s → s.1.size + s.2.size ≤ 300)) (fun vk _ => nt - (intOf vk).toNat)
              case atStart => exact ⟨0, by omega, rfl, hW, b0, b1, hB, Lib.hid (fun j s h _ => by omega)⟩
              case round =>
                clear hW b0 b1 hB k1
                obtain ⟨t, ht, rfl, hW, b0, b1, hB, HR⟩ := hrel
                have r1 := b1.cell 5
                have k1 := b1.lt
                rcases Nat.lt_or_ge t nt with hkr | hkr
                · obtain ⟨s, hs⟩ : ∃ s, x.tags[t]? = some s := ⟨_, List.getElem?_eq_getElem (by have := HAT.out.nt; dsimp only at this; omega)⟩
                  obtain ⟨gr, or_, hpr⟩ := HAT.out.tags.addr (by have := HAT.out.nt; dsimp only at this; omega)
                  dsimp only at hpr
                  subst hpr
                  obtain ⟨s0, s1⟩ := (HAT.out.tags.below hB (Nat.le_refl _)).tg hs
                  obtain ⟨hb1, hb2⟩ := HBX.out.tags s (List.mem_of_getElem? hs)
                  have HS := Lib.hid hs
                  have q2 : decide (t < nt) = true := decide_eq_true hkr
                  clear hs
                  obtain ⟨sk, sv⟩ := s
                  dsimp only at s0 s1 hb1 hb2
                  unfold reachN at hb1 hb2
                  have hwp : IntKind.i64.wrap ((sk.size : Int) + (sv.size : Int)) = (sk.size : Int) + (sv.size : Int) := by rw [IntKind.wrap_i64]; omega
                  have hBs := hB.size
                  by_cases h : 300 < sk.size + sv.size
                  · have d1 : decide ((300 : Int) < (sk.size : Int) + (sv.size : Int)) = true := decide_eq_true (by omega)
                    clear hb1 hb2
                    go_wp2_with fail
                    have a_r1 := cell_regrown r1
                    have a_s0 := cell_regrown s0
                    have a_s1 := cell_regrown s1
                    refine wp_region_quiet_below (by kernel_rfl) (by kernel_rfl) ?_
                    repeat (go_big_quiet_step (fail))
                    refine wpQuiet_nil ?_
                    rintro W2 hb2
                    replace hb2 := below_of_regrown hb2
                    clear a_r1 a_s0 a_s1 r1 s0 s1
                    replace hW := hW.trans (hb2.mono hW.size)
                    clear hb2 hwp
                    go_wp2
                    go_ret
                    exact ⟨false, rfl, fun h => (by cases h), hW⟩
                  · have d1 : decide ((300 : Int) < (sk.size : Int) + (sv.size : Int)) = false := decide_eq_false (by omega)
                    clear hb1 hb2
                    go_wp2_with fail
                    have a_r1 := cell_regrown r1
                    have a_s0 := cell_regrown s0
                    have a_s1 := cell_regrown s1
                    refine wp_region_quiet_below (by kernel_rfl) (by kernel_rfl) ?_
                    repeat (go_big_quiet_step (fail))
                    refine wpQuiet_nil ?_
                    rintro W2 hb2
                    replace hb2 := below_of_regrown hb2
                    clear a_r1 a_s0 a_s1 r1 s0 s1
                    replace hW := hW.trans (hb2.mono hW.size)
                    replace b0 := b0.below hb2 b0.lt
                    replace b1 := b1.below hb2 b1.lt
                    replace hB := hB.trans (hb2.mono hBs)
                    clear hb2 hwp hBs
                    have HH := Lib.hid h
                    clear h d1
                    go_wp2
                    go_roundw
                    case rel => exact ⟨t + 1, by omega, by go_num, hW, b0, b1, hB, Lib.hid (fun j s' hj hs' => by
                      rcases Nat.lt_or_ge j t with h1 | h1
                      · exact HR.out j s' h1 hs'
                      · obtain rfl : j = t := by omega
                        have := HS.out
                        rw [hs'] at this
                        cases this
                        have := HH.out
                        show sk.size + sv.size ≤ 300
                        omega)⟩
                    case measure => simp [intOf]; omega
                · obtain rfl : t = nt := by omega
                  have q2 : decide (t < t) = false := decide_eq_false (by omega)
                  have HF2 : Hid (∀ (j : Nat) o, j < i + 1 → l[j]? = some o → FewO o) := Lib.hid (fun j o' hj ho => by
                    rcases Nat.lt_or_ge j i with h1 | h1
                    · exact HF.out j o' h1 ho
                    · obtain rfl : j = i := by omega
                      have := HX.out
                      rw [ho] at this
                      cases this
                      have e1 := HAT.out.id
                      have e2 := HAT.out.nr
                      have e3 := HAT.out.nt
                      dsimp only at e1 e2 e3
                      refine ⟨by rw [← e1]; exact H60.out, by omega, by omega, fun s hs => ?_, fun s hs => ?_⟩
                      · obtain ⟨j, hj⟩ := List.getElem?_of_mem hs
                        exact HRA.out j s (by have := (List.getElem?_eq_some_iff.1 hj).1; omega) hj
                      · obtain ⟨j, hj⟩ := List.getElem?_of_mem hs
                        exact HR.out j s (by have := (List.getElem?_eq_some_iff.1 hj).1; omega) hj)
                  clear r1
                  have r1 := b1.cell 5
                  go_wp2
                  go_roundw
                  case rel => exact ⟨i + 1, by omega, by go_num, hW, b0, HF2⟩
                  case measure => simp [intOf]; omega
      · obtain rfl : i = n := by omega
        have q1 : decide (i < i) = false := decide_eq_false (by omega)
        go_wp2
        go_ret
        exact ⟨true, rfl, fun _ => ⟨hnm, fun o ho => by
          obtain ⟨j, hj⟩ := List.getElem?_of_mem ho
          exact HF.out j o (by have := (List.getElem?_eq_some_iff.1 hj).1; have := HN.out; omega) hj⟩, hW⟩
  · have d0 : decide ((most : Int) < (n : Int)) = true := decide_eq_true (by omega)
    have d0' : decide (most < n) = true := decide_eq_true (by omega)
    go_wp2
    go_ret
    exact ⟨false, rfl, fun h => (by cases h), (Below.refl _ _).alloc (Nat.le_refl _) _⟩

set_option maxHeartbeats 4000000 in
theorem languages_any (p : Option Addr) (n cap : Nat) (l : List ByteArray) (w : World) (hL : Lies w 1 strC p l) (hn : n = l.length) (h1 : n ≤ maxLen) :
    Calls Tryz.prog 16 #[.slice p n cap] w (FewR w (n ≤ 8 ∧ ∀ s ∈ l, s.size ≤ 60)) := by
  have HL := Lib.hid hL
  have HN := Lib.hid hn
  clear hL hn
  unfold maxLen at h1
  go_enter Tryz.func16, Tryz.ntmps16
  go_wp2
  go_loopw [3] (fun vi wr => ∃ i : Nat, i ≤ n ∧ i ≤ 9 ∧ vi = .int .i64 i ∧ Below w.heap.size w wr ∧ Hid (∀ (j : Nat) s, j < i → l[j]? = some s → s.size ≤ 60)) (fun vi _ => n - (intOf vi).toNat)
  case atStart => exact ⟨0, by omega, by omega, rfl, Below.refl _ _, Lib.hid (fun j s h _ => by omega)⟩
  case round =>
    obtain ⟨i, hi, hi9, rfl, hW, HF⟩ := hrel
    by_cases hlt : i < n
    · by_cases h9 : i < 9
      · obtain ⟨x, hx⟩ : ∃ x, l[i]? = some x := ⟨_, List.getElem?_eq_getElem (by have := HN.out; omega)⟩
        obtain ⟨g, o, rfl⟩ := HL.out.addr (by have := HN.out; omega)
        have r0 := (HL.out.below hW (Nat.le_refl _)).st hx
        have HX := Lib.hid hx
        have q1 : decide (i < n) = true := decide_eq_true hlt
        have q2 : decide ((i : Int) < 9) = true := decide_eq_true (by omega)
        clear hx
        by_cases h60 : 60 < x.size
        · have q3 : decide ((60 : Int) < (x.size : Int)) = true := decide_eq_true (by omega)
          go_wp2
          go_ret
          exact ⟨false, rfl, fun h => (by cases h), hW⟩
        · have q3 : decide ((60 : Int) < (x.size : Int)) = false := decide_eq_false (by omega)
          go_wp2
          go_roundw
          case rel => exact ⟨i + 1, by omega, by omega, by go_num, hW, Lib.hid (fun j s' hj hs' => by
            rcases Nat.lt_or_ge j i with h1 | h1
            · exact HF.out j s' h1 hs'
            · obtain rfl : j = i := by omega
              have := HX.out
              rw [hs'] at this
              cases this
              omega)⟩
          case measure => simp [intOf]; omega
      · have q1 : decide (i < n) = true := decide_eq_true hlt
        have q2 : decide ((i : Int) < 9) = false := decide_eq_false (by omega)
        have q3 : decide ((n : Int) ≤ 8) = false := decide_eq_false (by omega)
        go_wp2
        go_ret
        exact ⟨false, rfl, fun h => (by cases h), hW⟩
    · obtain rfl : i = n := by omega
      have q1 : decide (i < i) = false := decide_eq_false (by omega)
      by_cases h8 : i ≤ 8
      · have q3 : decide ((i : Int) ≤ 8) = true := decide_eq_true (by omega)
        go_wp2
        go_ret
        exact ⟨true, rfl, fun _ => ⟨h8, fun s hs => by
          obtain ⟨j, hj⟩ := List.getElem?_of_mem hs
          exact HF.out j s (by have := (List.getElem?_eq_some_iff.1 hj).1; have := HN.out; omega) hj⟩, hW⟩
      · have q3 : decide ((i : Int) ≤ 8) = false := decide_eq_false (by omega)
        go_wp2
        go_ret
        exact ⟨false, rfl, fun h => (by cases h), hW⟩
end Go.Proofs.YtaggohobdjidjaaGreatDoor

import Derived.Test.YtaggohobdjidjaaGreatDoorJS
import Derived.Test.YtaggohobdjidjaaGreatDoorJB
import Derived.Test.YtaggohobdjidjaaGreatDoorJA
import Derived.Shelf.Abstract
import Derived.OwnWalk
import Derived.Laws.EntriesVeiled

/- slices.stableCmpFunc over whatever program bears its text, up to 40 elements: what is equal stays in order. -/
namespace Go.Proofs.YtaggohobdjidjaaGreatDoor
open Go.Shelf Go.RowKit Go.Lib Go.Sort

variable {P : Program} {α : Type} [Inhabited α]

/-- What a program must bear: the sort's types and its functions' texts. -/
structure SortFns (P : Program) (k : Nat) : Prop where
  T : SortTys P k
  FS : P.funcs[155]? = some Tryz.f155
  FR : P.funcs[145]? = some Tryz.f145
  FM : P.funcs[132]? = some Tryz.f132
  FI : P.funcs[131]? = some Tryz.f131
  FT : P.funcs[111]? = some Tryz.f111
theorem sortFns : SortFns Tryz.prog 6 := ⟨sortTys, Tryz.func155, Tryz.func145, Tryz.func132, Tryz.func131, Tryz.func111⟩

theorem asd {p : Prop} (h : p) : Aside p := h

section
variable {k : Nat} {enc : α → List Value} {cf : α → α → Int} {g : Nat} {cb : Array Value} {blk off cap sz : Nat} {d0 : Array α} {w0 : World}

theorem insertion_int (F : SortFns P k) (eg : ∀ args w, (callFunc g args).run P w = .ok (.enter g args) w) (hcmp : CmpLays P g cb enc k cf blk off sz w0) (R : RowK enc k w0 blk off d0) (hs0 : d0.size = sz) (hsz : sz < 1000000)
    (a' b' : Int) (pre X post : List α) (w : World) (S : SWK enc k w0 blk off (pre ++ X ++ post).toArray w) (hs : sz = pre.length + X.length + post.length) (ha : a' = pre.length) (hb : b' = pre.length + X.length) :
    Calls P 131 #[.slice (some ⟨blk, off, none⟩) sz cap, .int .i64 a', .int .i64 b', .func (.func g) #[] cb] w fun e w' => e = .returned (.tuple #[]) ∧ SWK enc k w0 blk off (pre ++ isort (ltOf cf) X ++ post).toArray w' := by
  have h := insertion_any k F.T F.FI enc cf g cb blk off cap sz pre.length (pre.length + X.length) d0 (pre ++ X ++ post).toArray w0 w eg hcmp R hs0 (by simp; omega) S (by omega) (by omega) hsz
  have e := insertionSort_list (ltOf cf) X pre post (pre ++ X ++ post).toArray rfl
  rw [show insertionSort (ltOf cf) (pre ++ X ++ post).toArray pre.length (pre.length + X.length) = (pre ++ isort (ltOf cf) X ++ post).toArray from Array.toList_inj.1 (by rw [e])] at h
  subst ha hb
  exact_mod_cast h

theorem symMerge_int (F : SortFns P k) (O : SWO (ltOf cf)) (eg : ∀ args w, (callFunc g args).run P w = .ok (.enter g args) w) (hcmp : CmpLays P g cb enc k cf blk off sz w0) (R : RowK enc k w0 blk off d0) (hs0 : d0.size = sz) (hsz : sz < 1000000)
    (a' m' b' : Int) (A B : List α) (w : World) (S : SWK enc k w0 blk off (isort (ltOf cf) A ++ isort (ltOf cf) B).toArray w) (hs : sz = A.length + B.length) (ha : a' = 0) (hm : m' = A.length) (hb : b' = sz) (hA : 0 < A.length) (hB : 0 < B.length) :
    Calls P 132 #[.slice (some ⟨blk, off, none⟩) sz cap, .int .i64 a', .int .i64 m', .int .i64 b', .func (.func g) #[] cb] w fun e w' => e = .returned (.tuple #[]) ∧ SWK enc k w0 blk off (isort (ltOf cf) (A ++ B)).toArray w' := by
  have h := symMerge_any k F.T F.FS F.FR F.FM enc cf O g cb blk off cap sz d0 w0 eg hcmp R hs0 hsz sz 0 A.length sz w [] (isort (ltOf cf) A) (isort (ltOf cf) B) [] (by omega) (by simpa using S) (by simp [isort_length]; exact hs) rfl (by simp [isort_length]) (by simp [isort_length]; exact hs)
    (by rw [isort_length]; exact hA) (by rw [isort_length]; exact hB) (isort_srt O A) (isort_srt O B)
  rw [mrg_isort O] at h
  subst ha hm hb
  simpa using h
end

set_option maxHeartbeats 4000000 in
set_option maxRecDepth 1000000 in
theorem stable_small (k : Nat) (F : SortFns P k) (enc : α → List Value) (cf : α → α → Int) (g : Nat) (cb : Array Value) (blk off cap sz : Nat) (d0 : Array α) (w0 w : World)
    (eg : ∀ args w, (callFunc g args).run P w = .ok (.enter g args) w) (hcmp : CmpLays P g cb enc k cf blk off sz w0) (R : RowK enc k w0 blk off d0) (hs0 : d0.size = sz) (l : List α) (S : SWK enc k w0 blk off l.toArray w) (hl : l.length = sz) (hsz : sz < 20) :
    Calls P 111 #[.slice (some ⟨blk, off, none⟩) sz cap, .int .i64 sz, .func (.func g) #[] cb] w fun e w' => e = .returned (.tuple #[]) ∧ SWK enc k w0 blk off (isort (ltOf cf) l).toArray w' := by
  have HF : Hid (SortFns P k) := F
  obtain ⟨⟨mixed, t3, a3, z3, v3, t4, a4, z4, v4, ts, ass, zs, vs, tf, af, zf, vf, t0, a0, z0, v0, tu, au, zu, vu, aE, zE⟩, FS, FR, FM, FI, FT⟩ := F
  have eI : ∀ args w, (callFunc 131 args).run P w = .ok (.enter 131 args) w := enters_of FI (by kernel_rfl) rfl
  have hi := insertion_int (cap := cap) HF.out eg hcmp R hs0 (by omega) 0 sz [] l [] w (by simpa using S) (by simp; omega) rfl (by simp; omega)
  have HI : Hid _ := Lib.hid hi
  clear hi S hcmp
  have h20 : ¬ (20 : Int) ≤ (sz : Int) := by omega
  go_enter FT, Tryz.ntmps111
  go_wp2
  go_loopg [7, 8] 1 (fun _ sa sb wr => sa = .int .i64 0 ∧ sb = .int .i64 20 ∧ wr = w)
  case atStart => exact ⟨rfl, rfl, rfl⟩
  case round =>
    obtain ⟨rfl, rfl, rfl⟩ := hrel
    go_wp2_with fail
    refine HI.out.mono ?_
    rintro e w1 ⟨rfl, S1⟩
    have HS := Lib.hid S1
    clear S1
    go_wp2
    go_loopg [6, 7, 8, 9] 1 (fun _ s6 s7 s8 s9 wr2 => s6 = .int .i64 20 ∧ Aside (SWK enc k w0 blk off (isort (ltOf cf) l).toArray wr2))
    case atStart => exact ⟨rfl, asd (by simpa using HS.out)⟩
    case round =>
      clear HS
      obtain ⟨rfl, S2⟩ := hrel
      go_wp2
      go_end0
      exact ⟨rfl, S2.out⟩

set_option maxHeartbeats 4000000 in
set_option maxRecDepth 1000000 in
theorem stable_one (k : Nat) (F : SortFns P k) (enc : α → List Value) (cf : α → α → Int) (O : SWO (ltOf cf)) (g : Nat) (cb : Array Value) (blk off cap sz : Nat) (d0 : Array α) (w0 w : World)
    (eg : ∀ args w, (callFunc g args).run P w = .ok (.enter g args) w) (hcmp : CmpLays P g cb enc k cf blk off sz w0) (R : RowK enc k w0 blk off d0) (hs0 : d0.size = sz) (A B : List α) (S : SWK enc k w0 blk off (A ++ B).toArray w) (hA : A.length = 20) (hl : sz = 20 + B.length) (hsz : sz < 40) :
    Calls P 111 #[.slice (some ⟨blk, off, none⟩) sz cap, .int .i64 sz, .func (.func g) #[] cb] w fun e w' => e = .returned (.tuple #[]) ∧ SWK enc k w0 blk off (isort (ltOf cf) (A ++ B)).toArray w' := by
  have HF : Hid (SortFns P k) := F
  have HO : Hid (SWO (ltOf cf)) := O
  obtain ⟨⟨mixed, t3, a3, z3, v3, t4, a4, z4, v4, ts, ass, zs, vs, tf, af, zf, vf, t0, a0, z0, v0, tu, au, zu, vu, aE, zE⟩, FS, FR, FM, FI, FT⟩ := F
  have eI : ∀ args w, (callFunc 131 args).run P w = .ok (.enter 131 args) w := enters_of FI (by kernel_rfl) rfl
  have eM : ∀ args w, (callFunc 132 args).run P w = .ok (.enter 132 args) w := enters_of FM (by kernel_rfl) rfl
  have H1 : Hid (∀ w, SWK enc k w0 blk off (A ++ B).toArray w → _) := Lib.hid fun w S => insertion_int (cap := cap) HF.out eg hcmp R hs0 (by omega) 0 20 [] A B w (by simpa using S) (by simp; omega) rfl (by simp; omega)
  have H2 : Hid (∀ w, SWK enc k w0 blk off (isort (ltOf cf) A ++ B).toArray w → _) := Lib.hid fun w S => insertion_int (cap := cap) HF.out eg hcmp R hs0 (by omega) 20 sz (isort (ltOf cf) A) B [] w (by simpa using S) (by simp [isort_length]; omega) (by simp [isort_length]; omega) (by simp [isort_length]; omega)
  have HB : Hid (20 + B.length = sz) := Lib.hid hl.symm
  have h20 : (20 : Int) ≤ (sz : Int) := by omega
  have h40 : ¬ (40 : Int) ≤ (sz : Int) := by omega
  have S0 : Aside (SWK enc k w0 blk off (A ++ B).toArray w) := S
  have H3 : Hid (0 < B.length → ∀ w, SWK enc k w0 blk off (isort (ltOf cf) A ++ isort (ltOf cf) B).toArray w → _) := Lib.hid fun h w S => symMerge_int (cap := cap) HF.out HO.out eg hcmp R hs0 (by omega) 0 20 sz A B w S (by omega) rfl (by omega) rfl (by omega) h
  clear S hcmp hl
  go_enter FT, Tryz.ntmps111
  go_wp2
  go_loopg [7, 8] 1 (fun kx sa sb wr => (sa = .int .i64 0 ∧ sb = .int .i64 20 ∧ kx = 1 ∧ Aside (SWK enc k w0 blk off (A ++ B).toArray wr)) ∨ (sa = .int .i64 20 ∧ sb = .int .i64 40 ∧ kx = 0 ∧ Aside (SWK enc k w0 blk off (isort (ltOf cf) A ++ B).toArray wr)))
  case atStart => exact .inl ⟨rfl, rfl, rfl, S0⟩
  case round =>
    clear S0
    rcases hrel with ⟨rfl, rfl, rfl, S1⟩ | ⟨rfl, rfl, rfl, S1⟩
    · go_wp2_with fail
      refine (H1.out _ S1.out).mono ?_
      rintro e w1 ⟨rfl, S2⟩
      replace S2 := asd S2
      clear S1
      go_wp2
      go_roundg 0
      case measure => omega
      case rel => exact .inr ⟨rfl, rfl, rfl, asd (by simpa using S2.out)⟩
    · go_wp2_with fail
      refine (H2.out _ S1.out).mono ?_
      rintro e w1 ⟨rfl, S2⟩
      replace S2 : Aside (SWK enc k w0 blk off (isort (ltOf cf) A ++ isort (ltOf cf) B).toArray w1) := asd (by simpa using S2)
      clear S1
      cases hq : decide ((20 : Int) < (sz : Int)) with
      | true =>
        have hq1 : (20 : Int) < (sz : Int) := of_decide_eq_true hq
        go_wp2
        go_loopg [6, 7, 8, 9] 1 (fun kx s6 s7 s8 s9 wr2 => (s6 = .int .i64 20 ∧ kx = 1 ∧ Aside (SWK enc k w0 blk off (isort (ltOf cf) A ++ isort (ltOf cf) B).toArray wr2)) ∨ (s6 = .int .i64 40 ∧ kx = 0 ∧ Aside (SWK enc k w0 blk off (isort (ltOf cf) (A ++ B)).toArray wr2)))
        case atStart => exact .inl ⟨rfl, rfl, S2⟩
        case round =>
          clear S2
          rcases hrel with ⟨rfl, rfl, S2⟩ | ⟨rfl, rfl, S2⟩
          · go_wp2
            go_loopg [7, 8] 0 (fun kx sa sb wr3 => sa = .int .i64 0 ∧ sb = .int .i64 40 ∧ Aside (SWK enc k w0 blk off (isort (ltOf cf) A ++ isort (ltOf cf) B).toArray wr3))
            case atStart => exact ⟨rfl, rfl, S2⟩
            case round =>
              clear S2
              obtain ⟨rfl, rfl, S3⟩ := hrel
              go_wp2_with fail
              refine (H3.out (by have := HB.out; omega) _ S3.out).mono ?_
              rintro e w2 ⟨rfl, S4⟩
              replace S4 := asd S4
              clear S3
              go_wp2
              go_roundg 0
              case measure => omega
              case rel => exact .inr ⟨rfl, rfl, S4⟩
          · go_wp2
            go_end0
            exact ⟨rfl, S2.out⟩
      | false =>
        have hq1 : ¬ (20 : Int) < (sz : Int) := of_decide_eq_false hq
        go_wp2
        go_loopg [6, 7, 8, 9] 1 (fun _ s6 s7 s8 s9 wr2 => s6 = .int .i64 20 ∧ Aside (SWK enc k w0 blk off (isort (ltOf cf) A ++ isort (ltOf cf) B).toArray wr2))
        case atStart => exact ⟨rfl, S2⟩
        case round =>
          clear S2
          obtain ⟨rfl, S2⟩ := hrel
          go_wp2
          go_end0
          have hb : B = [] := List.length_eq_zero_iff.1 (by have := HB.out; omega)
          refine ⟨rfl, ?_⟩
          have h := S2.out
          rw [hb] at h ⊢
          simpa [isort] using h

set_option maxHeartbeats 4000000 in
set_option maxRecDepth 1000000 in
theorem stable_two (k : Nat) (F : SortFns P k) (enc : α → List Value) (cf : α → α → Int) (O : SWO (ltOf cf)) (g : Nat) (cb : Array Value) (blk off cap sz : Nat) (d0 : Array α) (w0 w : World)
    (eg : ∀ args w, (callFunc g args).run P w = .ok (.enter g args) w) (hcmp : CmpLays P g cb enc k cf blk off sz w0) (R : RowK enc k w0 blk off d0) (hs0 : d0.size = sz) (A B : List α) (S : SWK enc k w0 blk off (A ++ B).toArray w) (hA : A.length = 20) (hl : sz = 20 + B.length) (hsz : sz = 40) :
    Calls P 111 #[.slice (some ⟨blk, off, none⟩) sz cap, .int .i64 sz, .func (.func g) #[] cb] w fun e w' => e = .returned (.tuple #[]) ∧ SWK enc k w0 blk off (isort (ltOf cf) (A ++ B)).toArray w' := by
  have HF : Hid (SortFns P k) := F
  have HO : Hid (SWO (ltOf cf)) := O
  obtain ⟨⟨mixed, t3, a3, z3, v3, t4, a4, z4, v4, ts, ass, zs, vs, tf, af, zf, vf, t0, a0, z0, v0, tu, au, zu, vu, aE, zE⟩, FS, FR, FM, FI, FT⟩ := F
  have eI : ∀ args w, (callFunc 131 args).run P w = .ok (.enter 131 args) w := enters_of FI (by kernel_rfl) rfl
  have eM : ∀ args w, (callFunc 132 args).run P w = .ok (.enter 132 args) w := enters_of FM (by kernel_rfl) rfl
  have H1 : Hid (∀ w, SWK enc k w0 blk off (A ++ B).toArray w → _) := Lib.hid fun w S => insertion_int (cap := cap) HF.out eg hcmp R hs0 (by omega) 0 20 [] A B w (by simpa using S) (by simp; omega) rfl (by simp; omega)
  have H2 : Hid (∀ w, SWK enc k w0 blk off (isort (ltOf cf) A ++ B).toArray w → _) := Lib.hid fun w S => insertion_int (cap := cap) HF.out eg hcmp R hs0 (by omega) 20 40 (isort (ltOf cf) A) B [] w (by simpa using S) (by simp [isort_length]; omega) (by simp [isort_length]; omega) (by simp [isort_length]; omega)
  have H4 : Hid (∀ w, SWK enc k w0 blk off (isort (ltOf cf) A ++ isort (ltOf cf) B).toArray w → _) := Lib.hid fun w S => insertion_int (cap := cap) HF.out eg hcmp R hs0 (by omega) 40 sz (isort (ltOf cf) A ++ isort (ltOf cf) B) [] [] w (by simpa using S) (by simp [isort_length]; omega) (by simp [isort_length]; omega) (by simp [isort_length]; omega)
  have H3 : Hid (∀ w, SWK enc k w0 blk off (isort (ltOf cf) A ++ isort (ltOf cf) B).toArray w → _) := Lib.hid fun w S => symMerge_int (cap := cap) HF.out HO.out eg hcmp R hs0 (by omega) 0 20 40 A B w S (by omega) rfl (by omega) (by omega) (by omega) (by omega)
  have S0 : Aside (SWK enc k w0 blk off (A ++ B).toArray w) := S
  subst hsz
  clear S hcmp hl
  go_enter FT, Tryz.ntmps111
  go_wp2
  go_loopg [7, 8] 2 (fun kx sa sb wr => (sa = .int .i64 0 ∧ sb = .int .i64 20 ∧ kx = 2 ∧ Aside (SWK enc k w0 blk off (A ++ B).toArray wr)) ∨ (sa = .int .i64 20 ∧ sb = .int .i64 40 ∧ kx = 1 ∧ Aside (SWK enc k w0 blk off (isort (ltOf cf) A ++ B).toArray wr)) ∨ (sa = .int .i64 40 ∧ sb = .int .i64 60 ∧ kx = 0 ∧ Aside (SWK enc k w0 blk off (isort (ltOf cf) A ++ isort (ltOf cf) B).toArray wr)))
  case atStart => exact .inl ⟨rfl, rfl, rfl, S0⟩
  case round =>
    clear S0
    rcases hrel with ⟨rfl, rfl, rfl, S1⟩ | ⟨rfl, rfl, rfl, S1⟩ | ⟨rfl, rfl, rfl, S1⟩
    · go_wp2_with fail
      refine (H1.out _ S1.out).mono ?_
      rintro e w1 ⟨rfl, S2⟩
      replace S2 := asd S2
      clear S1
      go_wp2
      go_roundg 1
      case measure => omega
      case rel => exact .inr (.inl ⟨rfl, rfl, rfl, asd (by simpa using S2.out)⟩)
    · go_wp2_with fail
      refine (H2.out _ S1.out).mono ?_
      rintro e w1 ⟨rfl, S2⟩
      replace S2 := asd S2
      clear S1
      go_wp2
      go_roundg 0
      case measure => omega
      case rel => exact .inr (.inr ⟨rfl, rfl, rfl, asd (by simpa using S2.out)⟩)
    · go_wp2_with fail
      refine (H4.out _ S1.out).mono ?_
      rintro e w1 ⟨rfl, S2⟩
      replace S2 : Aside (SWK enc k w0 blk off (isort (ltOf cf) A ++ isort (ltOf cf) B).toArray w1) := asd (by simpa [isort] using S2)
      clear S1
      go_wp2
      go_loopg [6, 7, 8, 9] 1 (fun kx s6 s7 s8 s9 wr2 => (s6 = .int .i64 20 ∧ kx = 1 ∧ Aside (SWK enc k w0 blk off (isort (ltOf cf) A ++ isort (ltOf cf) B).toArray wr2)) ∨ (s6 = .int .i64 40 ∧ kx = 0 ∧ Aside (SWK enc k w0 blk off (isort (ltOf cf) (A ++ B)).toArray wr2)))
      case atStart => exact .inl ⟨rfl, rfl, S2⟩
      case round =>
        clear S2
        rcases hrel with ⟨rfl, rfl, S2⟩ | ⟨rfl, rfl, S2⟩
        · go_wp2
          go_loopg [7, 8] 1 (fun kx sa sb wr3 => (sa = .int .i64 0 ∧ sb = .int .i64 40 ∧ kx = 1 ∧ Aside (SWK enc k w0 blk off (isort (ltOf cf) A ++ isort (ltOf cf) B).toArray wr3)) ∨ (sa = .int .i64 40 ∧ sb = .int .i64 80 ∧ kx = 0 ∧ Aside (SWK enc k w0 blk off (isort (ltOf cf) (A ++ B)).toArray wr3)))
          case atStart => exact .inl ⟨rfl, rfl, rfl, S2⟩
          case round =>
            clear S2
            rcases hrel with ⟨rfl, rfl, rfl, S3⟩ | ⟨rfl, rfl, rfl, S3⟩
            · go_wp2_with fail
              refine (H3.out _ S3.out).mono ?_
              rintro e w2 ⟨rfl, S4⟩
              replace S4 := asd S4
              clear S3
              go_wp2
              go_roundg 0
              case measure => omega
              case rel => exact .inr ⟨rfl, rfl, rfl, S4⟩
            · go_wp2
              go_roundg 0
              case measure => omega
              case rel => exact .inr ⟨rfl, rfl, S3⟩
        · go_wp2
          go_end0
          exact ⟨rfl, S2.out⟩

theorem stable_any (k : Nat) (F : SortFns P k) (enc : α → List Value) (cf : α → α → Int) (O : SWO (ltOf cf)) (g : Nat) (cb : Array Value) (blk off cap sz : Nat) (w0 : World)
    (eg : ∀ args w, (callFunc g args).run P w = .ok (.enter g args) w) (hcmp : CmpLays P g cb enc k cf blk off sz w0) (l : List α) (R : RowK enc k w0 blk off l.toArray) (hl : l.length = sz) (hsz : sz ≤ 40) :
    Calls P 111 #[.slice (some ⟨blk, off, none⟩) sz cap, .int .i64 sz, .func (.func g) #[] cb] w0 fun e w' => e = .returned (.tuple #[]) ∧ SWK enc k w0 blk off (isort (ltOf cf) l).toArray w' := by
  have S : SWK enc k w0 blk off l.toArray w0 := SWK.start R.hH
  by_cases h : sz < 20
  · exact stable_small k F enc cf g cb blk off cap sz _ w0 w0 eg hcmp R (by simpa using hl) l S hl h
  · have e : l.take 20 ++ l.drop 20 = l := List.take_append_drop _ _
    have hA : (l.take 20).length = 20 := by simp; omega
    have hB : sz = 20 + (l.drop 20).length := by simp; omega
    rw [← e] at S
    by_cases h2 : sz < 40
    · have := stable_one k F enc cf O g cb blk off cap sz _ w0 w0 eg hcmp R (by simpa using hl) (l.take 20) (l.drop 20) S hA hB h2
      rwa [e] at this
    · have := stable_two k F enc cf O g cb blk off cap sz _ w0 w0 eg hcmp R (by simpa using hl) (l.take 20) (l.drop 20) S hA hB (by omega)
      rwa [e] at this
end Go.Proofs.YtaggohobdjidjaaGreatDoor

/- The comparison of two labels, as label.sorted hands it to the sort. -/
namespace Go.Proofs.YtaggohobdjidjaaGreatDoor
open Go.Shelf Go.RowKit Go.Lib Go.Sort

/-- A label's cells. -/
def labC (x : Lab) : List Value := [.string x.id, .int .i64 x.x, .int .i64 x.y, .int .i64 x.w, .int .i64 x.h, .int .i64 x.r]
theorem labC_len (x : Lab) : (labC x).length = 6 := rfl
/-- .. as a value. -/
def labV (x : Lab) : Value := .agg #[.string x.id, .int .i64 x.x, .int .i64 x.y, .int .i64 x.w, .int .i64 x.h, .int .i64 x.r]

/-- Draws and new blocks, nothing else. -/
def GB (w w' : World) : Prop := ∃ q os, w' = grow (w.drewN q) os
theorem GB.refl (w : World) : GB w w := ⟨0, #[], by rw [grow_empty]; rfl⟩
theorem GB.alloc {w w' : World} (h : GB w w') (o : Obj) : GB w (w'.alloc o) := by
  obtain ⟨q, os, rfl⟩ := h
  exact ⟨q, os ++ #[o], by rw [alloc_eq_grow, grow_grow]⟩
theorem GB.drewN {w w' : World} (h : GB w w') (n : Nat) : GB w (w'.drewN n) := by
  obtain ⟨q, os, rfl⟩ := h
  exact ⟨q + n, os, by show grow ((w.drewN q).drewN n) os = _; rw [World.drewN_drewN]⟩
theorem GB.drew {w w' : World} (h : GB w w') : GB w w'.drew := h.drewN 1
theorem GB.trans {a b c : World} (h : GB a b) (k : GB b c) : GB a c := by
  obtain ⟨q, os, rfl⟩ := h
  obtain ⟨q', os', rfl⟩ := k
  exact ⟨q + q', os ++ os', by show grow (grow ((a.drewN q).drewN q') os) os' = _; rw [grow_grow, World.drewN_drewN]⟩
theorem GB.below {w w' : World} (h : GB w w') : Below w.heap.size w w' := by
  obtain ⟨q, os, rfl⟩ := h
  exact ⟨rfl, rfl, rfl, by simp [grow], fun j hj => by simp [grow, Array.getElem?_append, hj]⟩
/-- The call returns v; nothing but draws and new blocks. -/
def RetG (w : World) (v : Value) (e : Ending) (w' : World) : Prop := e = .returned v ∧ GB w w'
theorem RetG.mk' {w w' : World} {v v' : Value} (h : v' = v) (hb : GB w w') : RetG w v (.returned v') w' := ⟨by rw [h], hb⟩

/-- The order of two whole numbers; of two texts. -/
def sgnI (m n : Int) : Int := if m < n then -1 else if n < m then 1 else 0
def sgnS (s t : ByteArray) : Int := if Op.bytesLess s.toList t.toList then -1 else if Op.bytesLess t.toList s.toList then 1 else 0
def orI (x y : Int) : Int := if x = 0 then y else x
def cmpL (a b : Lab) : Int := orI (sgnI a.r b.r) (sgnS a.id b.id)

theorem sgnI_lt {m n : Int} (h : m < n) : sgnI m n = -1 := by unfold sgnI; rw [if_pos h]
theorem sgnI_gt {m n : Int} (h : n < m) : sgnI m n = 1 := by unfold sgnI; rw [if_neg (by omega), if_pos h]
theorem sgnI_eq (m : Int) : sgnI m m = 0 := by unfold sgnI; rw [if_neg (by omega), if_neg (by omega)]
theorem ltOf_cmpL : ltOf cmpL = ltL := by
  funext a b
  unfold ltOf cmpL ltL orI
  rcases Int.lt_trichotomy a.r b.r with h | h | h
  · rw [sgnI_lt h, if_neg (by omega)]; simp [h]
  · rw [h, sgnI_eq, if_pos rfl]
    unfold sgnS
    cases Op.bytesLess a.id.toList b.id.toList <;> cases Op.bytesLess b.id.toList a.id.toList <;> simp
  · rw [sgnI_gt h, if_neg (by omega), decide_eq_false (show ¬ a.r < b.r by omega), decide_eq_false (show ¬ a.r = b.r by omega)]; simp

theorem nanI_any (m : Int) (w : World) : Calls Tryz.prog 112 #[.int .i64 m] w fun e w' => e = .returned (.bool false) ∧ w = w' := by
  go_enter Tryz.func112, Tryz.ntmps112
  go_wp2
  go_ret
  exact ⟨by simp, rfl⟩
theorem nanS_any (s : ByteArray) (w : World) : Calls Tryz.prog 113 #[.string s] w fun e w' => e = .returned (.bool false) ∧ w = w' := by
  go_enter Tryz.func113, Tryz.ntmps113
  go_wp2
  go_ret
  exact ⟨by simp, rfl⟩
theorem compareI_any (m n : Int) (w : World) : Calls Tryz.prog 92 #[.int .i64 m, .int .i64 n] w fun e w' => e = .returned (.int .i64 (sgnI m n)) ∧ w = w' := by
  have n1 := nanI_any m
  have n2 := nanI_any n
  rcases Int.lt_trichotomy m n with h | h | h
  · have H := Lib.hid (sgnI_lt h)
    go_enter Tryz.func92, Tryz.ntmps92
    go_wp2_with (first | (go_at_call 112; refine (nanI_any _ _).mono ?_; rintro e w' ⟨rfl, rfl⟩))
    go_ret
    exact ⟨ret_int (by rw [H.out]), rfl⟩
  · subst h
    have H := Lib.hid (sgnI_eq m)
    go_enter Tryz.func92, Tryz.ntmps92
    go_wp2_with (first | (go_at_call 112; refine (nanI_any _ _).mono ?_; rintro e w' ⟨rfl, rfl⟩))
    go_ret
    exact ⟨ret_int (by rw [H.out]), rfl⟩
  · have H := Lib.hid (sgnI_gt h)
    have h2 : ¬ m < n := by omega
    go_enter Tryz.func92, Tryz.ntmps92
    go_wp2_with (first | (go_at_call 112; refine (nanI_any _ _).mono ?_; rintro e w' ⟨rfl, rfl⟩))
    go_ret
    exact ⟨ret_int (by rw [H.out]), rfl⟩
theorem compareS_any (s t : ByteArray) (w : World) : Calls Tryz.prog 93 #[.string s, .string t] w fun e w' => e = .returned (.int .i64 (sgnS s t)) ∧ w = w' := by
  cases h1 : Op.bytesLess s.toList t.toList with
  | true =>
    have H : Hid (sgnS s t = -1) := Lib.hid (by unfold sgnS; rw [h1]; rfl)
    go_enter Tryz.func93, Tryz.ntmps93
    go_wp2_with (first | (go_at_call 113; refine (nanS_any _ _).mono ?_; rintro e w' ⟨rfl, rfl⟩))
    go_ret
    exact ⟨ret_int (by rw [H.out]), rfl⟩
  | false =>
    cases h2 : Op.bytesLess t.toList s.toList with
    | true =>
      have H : Hid (sgnS s t = 1) := Lib.hid (by unfold sgnS; rw [h1, h2]; rfl)
      have h3 : (s.toList == t.toList) = false := by
        rw [beq_eq_false_iff_ne]
        intro e
        rw [e, bytesLess_irrefl] at h2
        cases h2
      go_enter Tryz.func93, Tryz.ntmps93
      go_wp2_with (first | (go_at_call 113; refine (nanS_any _ _).mono ?_; rintro e w' ⟨rfl, rfl⟩))
      go_ret
      exact ⟨ret_int (by rw [H.out]), rfl⟩
    | false =>
      have H : Hid (sgnS s t = 0) := Lib.hid (by unfold sgnS; rw [h1, h2]; rfl)
      have h3 : (s.toList == t.toList) = true := by rw [beq_iff_eq]; exact bytesLess_tri _ _ h1 h2
      go_enter Tryz.func93, Tryz.ntmps93
      go_wp2_with (first | (go_at_call 113; refine (nanS_any _ _).mono ?_; rintro e w' ⟨rfl, rfl⟩))
      go_ret
      exact ⟨ret_int (by rw [H.out]), rfl⟩

set_option maxHeartbeats 1000000 in
theorem or_any (g : Nat) (x y : Int) (w : World) (h0 : w.cell? ⟨g, 0, none⟩ = some (.int .i64 x)) (h1 : w.cell? ⟨g, 1, none⟩ = some (.int .i64 y)) :
    Calls Tryz.prog 91 #[.slice (some ⟨g, 0, none⟩) 2 2] w fun e w' => e = .returned (.int .i64 (orI x y)) ∧ w = w' := by
  by_cases hx : x = 0
  · subst hx
    have H : Hid (orI 0 y = y) := Lib.hid (if_pos rfl)
    go_enter Tryz.func91, Tryz.ntmps91
    go_wp2
    go_loop [5, 8] (fun _ vi => vi = .int .i64 0 ∨ vi = .int .i64 1 ∨ (vi = .int .i64 2 ∧ y = 0)) (fun _ vi => 2 - (intOf vi).toNat)
    case atStart => exact .inl rfl
    case round =>
      rcases hrel with rfl | rfl | ⟨rfl, rfl⟩
      · go_wp2
        go_round
        case rel => exact .inr (.inl rfl)
        case measure => simp [intOf]
      · by_cases hy : y = 0
        · subst hy
          go_wp2
          go_round
          case rel => exact .inr (.inr ⟨rfl, trivial⟩)
          case measure => simp [intOf]
        · have hy' : (y == 0) = false := beq_eq_false_iff_ne.2 hy
          go_wp2
          go_ret
          exact ⟨ret_int (by rw [H.out]), rfl⟩
      · go_wp2
        go_ret
        exact ⟨ret_int (by rw [H.out]), rfl⟩
  · have H : Hid (orI x y = x) := Lib.hid (if_neg hx)
    have hx' : (x == 0) = false := beq_eq_false_iff_ne.2 hx
    go_enter Tryz.func91, Tryz.ntmps91
    go_wp2
    go_loop [5, 8] (fun _ vi => vi = .int .i64 0) (fun _ vi => 2 - (intOf vi).toNat)
    case atStart => exact rfl
    case round =>
      obtain rfl := hrel
      go_wp2
      go_ret
      exact ⟨ret_int (by rw [H.out]), rfl⟩

set_option maxHeartbeats 1000000 in
theorem key_any (x : Lab) (w : World) : Calls Tryz.prog 60 #[labV x] w (RetG w (.tuple #[.int .i64 x.r, .string x.id])) := by
  unfold labV
  go_enter Tryz.func60, Tryz.ntmps60
  go_wp2
  go_quiet (fail)
  go_wp2
  go_ret2
  exact ⟨rfl, ((GB.refl w).alloc _).drewN _⟩

set_option maxHeartbeats 4000000 in
set_option maxRecDepth 100000 in
theorem less_any (x y : Lab) (c : Nat) (w : World) (hc : w.cell? ⟨c, 0, none⟩ = some (.func (.func 60) #[] #[])) (hcl : c < w.heap.size) :
    Calls Tryz.prog 90 #[labV x, labV y, .pointer (some ⟨c, 0, none⟩)] w (RetG w (.int .i64 (cmpL x y))) := by
  have HC : Hid (cmpL x y = orI (sgnI x.r y.r) (sgnS x.id y.id)) := Lib.hid rfl
  unfold labV
  go_enter Tryz.func90, Tryz.ntmps90
  go_wp2_with fail
  refine (key_any x _).mono ?_
  rintro e w1 ⟨rfl, hw⟩
  have h1 : Below w.heap.size w w1 := ((((Below.refl _ _).alloc (Nat.le_refl _) _).alloc (by simp) _)).trans (hw.below.mono (by simp; omega))
  have c1 := (h1.cell (p := ⟨c, 0, none⟩) hcl).trans hc
  have b1 := ((Box.new' (w := w.alloc (.cells #[.string x.id, .int .i64 x.x, .int .i64 x.y, .int .i64 x.w, .int .i64 x.h, .int .i64 x.r] 47)) (by simp) #[.string y.id, .int .i64 y.x, .int .i64 y.y, .int .i64 y.w, .int .i64 y.h, .int .i64 y.r] 47) : Box _ (w.heap.size + 1) _ _).below hw.below (by simp)
  have g1 : GB w w1 := (((GB.refl w).alloc _).alloc _).trans hw
  have r1 := b1.cell
  clear hw hc
  go_wp2_with fail
  refine (key_any y _).mono ?_
  rintro e w2 ⟨rfl, hw⟩
  replace g1 := g1.trans hw
  clear hw r1 b1 c1 h1
  go_wp2_with fail
  refine (compareI_any _ _ _).mono ?_
  rintro e w' ⟨rfl, rfl⟩
  go_wp2_with fail
  refine (compareS_any _ _ _).mono ?_
  rintro e w' ⟨rfl, rfl⟩
  go_wp2_with fail
  refine (or_any w2.heap.size (sgnI x.r y.r) (sgnS x.id y.id) _ (by simp) (by simp)).mono ?_
  rintro e w' ⟨rfl, rfl⟩
  go_wp2
  go_ret
  exact ⟨ret_int (by rw [HC.out]), g1.alloc _⟩

/-- .. as the sort asks it. -/
theorem less_lays (c : Nat) (blk off size : Nat) (w : World) (hc : w.cell? ⟨c, 0, none⟩ = some (.func (.func 60) #[] #[])) (hcl : c < w.heap.size) (hne : c ≠ blk) :
    CmpLays Tryz.prog 90 #[.pointer (some ⟨c, 0, none⟩)] labC 6 cmpL blk off size w := by
  intro m os dk _ x y
  have hz : c < (putRowK labC 6 (Sort.ahead w m) blk off dk).heap.size := by rw [size_putRowK]; exact hcl
  have hcell : (sortWorldK labC 6 w blk off m dk os).cell? ⟨c, 0, none⟩ = some (.func (.func 60) #[] #[]) := by
    unfold sortWorldK
    rw [cell?_grow _ _ _ hz, cell?_putRowK_other labC 6 _ blk off dk _ hne]
    exact hc
  exact (less_any x y c _ hcell (by unfold sortWorldK; rw [size_grow]; omega)).mono fun e w' h => h
end Go.Proofs.YtaggohobdjidjaaGreatDoor

/- label.sorted: the labels in order, what is equal as it came; at most 40. -/
namespace Go.Proofs.YtaggohobdjidjaaGreatDoor
open Go.Shelf Go.RowKit Go.Lib Go.Sort

theorem infoLab : (Tryz.prog.info? 47).map (fun i => (i.zero, i.size, i.bytes)) = some (some (.agg #[.string ⟨#[]⟩, .int .i64 0, .int .i64 0, .int .i64 0, .int .i64 0, .int .i64 0]), 6, 56) := by kernel_rfl
theorem labC_one (x : Lab) : ∀ v ∈ labC x, v.oneCell' = true := by
  intro v hv
  simp only [labC, List.mem_cons, List.not_mem_nil, or_false] at hv
  rcases hv with rfl | rfl | rfl | rfl | rfl | rfl <;> rfl
theorem labs_one (l : List Lab) : ∀ v ∈ l.flatMap labC, v.oneCell' = true := by
  intro v hv
  obtain ⟨x, _, hx⟩ := List.mem_flatMap.1 hv
  exact labC_one x v hx

set_option maxHeartbeats 1000000 in
theorem cloneL_any (p : Option Addr) (n cap : Nat) (l : List Lab) (w : World) (hL : Lies w 6 labC p l) (hn : n = l.length) (h40 : n ≤ 1000000) (hc : p = none → cap = 0) :
    Calls Tryz.prog 88 #[.slice p n cap] w fun e w' => ∃ v, e = .returned v ∧ w'.ownsRow w.heap.size 47 6 v n (l.flatMap labC) ∧ Below w.heap.size w w' := by
  obtain ⟨i0, hi, hz0, hz1, hz2⟩ := info_parts infoLab
  have q22 : ∀ (w : World) (a : Option Addr) (n c n' c' : Nat), (binOp .eql 22 (.slice a n c) (.slice none n' c')).run Tryz.prog w = .ok (.bool a.isNone) w := fun w a n c n' c' => Lib.run_eql_slice_nil w _ _ a n c n' c' Tryz.underlying22
  have HL := Lib.hid hL
  have HN := Lib.hid hn
  rcases p with _ | ad
  · have hl : l = [] := by
      rcases hL.form with h | ⟨_, _, h⟩
      · exact h
      · cases h
    have h0 : n = 0 := by rw [hn, hl]; rfl
    have h1 := hc rfl
    subst h0 h1
    clear hL hn hc
    go_enter Tryz.func88, Tryz.ntmps88
    go_wp2
    go_ret
    refine ⟨_, rfl, ?_, Below.refl _ _⟩
    rw [hl]
    exact World.ownsRow_nil _ _ _ _
  · clear hL hn hc
    go_enter Tryz.func88, Tryz.ntmps88
    go_wp2_with (at_builtin; refine wpList_append_own _ rfl _ _ 22 rfl w.heap.size 47 i0 _ 6 56 Tryz.underlying22 hi hz0 hz1 hz2 rfl (by decide) _ _ _ rfl (World.ownsRow_made w #[] 0 (Nat.le_refl _) (Nat.zero_le _) (by simp)) ad n cap (l.flatMap labC) rfl ?qc1 ?qc2 ?qc3 ?qc4 ?qc5 ?qc6 ?_)
    case qc1 => rw [flat_length labC_len, HN.out]
    case qc2 =>
      intro j u hj
      rcases HL.out.form with h | ⟨g, o, h⟩
      · rw [h] at hj; simp at hj
      · cases h
        rw [Addr.add_lit]
        exact Lib.cell?_alloc_some _ (HL.out.flat labC_len rfl j u hj)
    case qc3 => exact labs_one l
    case qc4 => unfold maxLen; omega
    case qc5 => omega
    case qc6 => simp
    intro v' w1 hown hgrow hnil
    go_wp2
    go_ret
    refine ⟨v', rfl, by simpa using hown, ?_⟩
    refine ⟨hgrow.os, hgrow.tape, hgrow.output, ?_, fun b hb => (hgrow.block b (by simp; omega) ?_).trans (Below.heap_alloc _ _ _ hb)⟩
    · have := hgrow.size
      simp at this
      omega
    · simp [Value.ownBlock]
      omega

/-- A row that the call owns, as the sort asks it; and back. -/
theorem holds_of_owns {W : World} {l : List Lab} {g n cap : Nat} {B : Nat} (h : W.ownsRow B 47 6 (.slice (some ⟨g, 0, none⟩) n cap) n (l.flatMap labC)) (hn : n = l.length) : RowK labC 6 W g 0 l.toArray := by
  obtain ⟨-, h⟩ := h
  rcases h with ⟨h, -⟩ | ⟨g', cap', cur, he, hB, hg, hc, -, hsz, ht⟩
  · cases h
  · cases he
    refine ⟨labC_len, labC_one, ?_, (Array.getElem?_eq_some_iff.1 hg).1⟩
    intro j hj
    rw [size_flatK, List.size_toArray] at hj
    have hq : j / 6 < l.length := by omega
    have hx : l[j / 6]? = some l[j / 6] := List.getElem?_eq_getElem hq
    have hf := flat_at labC_len [] l (j / 6) _ hx (j % 6) (by omega)
    have e6 : j / 6 * 6 + j % 6 = j := by omega
    rw [List.append_nil, e6, ← ht, List.getElem?_take, if_pos (by omega)] at hf
    have hk : j % 6 < (labC l[j / 6]).length := by rw [labC_len]; omega
    constructor
    · rw [get_flatK _ _ _ _ (by rw [List.size_toArray]; exact hj), getElem!_pos l.toArray (j / 6) (by simpa using hq)]
      simp only [List.getElem_toArray]
      rw [getElem!_pos (labC l[j / 6]) (j % 6) hk]
      show W.cell? ⟨g, 0 + j, none⟩ = _
      rw [List.getElem?_eq_getElem hk] at hf
      rw [Nat.zero_add]
      simp only [World.cell?, hg]
      simpa using hf
    · simp [World.frozen?, hg]

theorem below_of_sort {w0 W : World} {g : Nat} {d : Array Lab} {B : Nat} (h : SWK labC 6 w0 g 0 d W) (hB : B ≤ g) (hg : g < w0.heap.size) : Below B w0 W := by
  obtain ⟨n, os, rfl⟩ := h
  unfold sortWorldK
  have hb : ∀ k, k ≠ g → (putRowK labC 6 (Sort.ahead w0 n) g 0 d).heap[k]? = w0.heap[k]? := fun k hk => by
    unfold putRowK
    simp [putRow, mapBlock, Sort.ahead, Array.getElem?_modify, Ne.symm hk]
  refine ⟨rfl, rfl, rfl, ?_, fun k hk => ?_⟩
  · rw [size_grow, size_putRowK]
    show w0.heap.size ≤ w0.heap.size + _
    omega
  · rw [heap_grow_old _ _ (by rw [size_putRowK]; show k < w0.heap.size; omega)]
    exact hb k (by omega)

theorem lies_of_sort {w0 W : World} {g : Nat} {l : List Lab} {d0 : Array Lab} (h : SWK labC 6 w0 g 0 l.toArray W) (R : RowK labC 6 w0 g 0 d0) (hs : l.length = d0.size) : Lies W 6 labC (some ⟨g, 0, none⟩) l := by
  have hH := h.holds R.hblk R.hH (by simpa using hs)
  refine ⟨.inr ⟨g, 0, rfl⟩, fun a e _ => ?_, fun g' o' e i x hx j hj => ?_⟩
  · cases e
    exact h.lt R.hblk
  · cases e
    have hi : i < l.length := (List.getElem?_eq_some_iff.1 hx).1
    have hk : j < (labC x).length := by rw [labC_len]; exact hj
    have h1 := HoldsK.cells hH labC_len (i := i) (by simpa using hi) j (labC x)[j] (by
      rw [getElem!_pos l.toArray i (by simpa using hi)]
      simp only [List.getElem_toArray]
      rw [List.getElem?_eq_getElem hi] at hx
      cases hx
      exact List.getElem?_eq_getElem hk)
    rw [Addr.add_lit] at h1
    rw [h1, List.getElem?_eq_getElem hk]

/-- A key of its own in a box, and the row apart from it. -/
theorem stableFn_any (g n cap c : Nat) (l : List Lab) (w : World) (B : Nat) (h : w.ownsRow B 47 6 (.slice (some ⟨g, 0, none⟩) n cap) n (l.flatMap labC)) (hn : n = l.length) (h40 : n ≤ 40) (hc : w.cell? ⟨c, 0, none⟩ = some (.func (.func 60) #[] #[])) (hcl : c < w.heap.size) (hne : c ≠ g) :
    Calls Tryz.prog 89 #[.slice (some ⟨g, 0, none⟩) n cap, .func (.func 90) #[] #[.pointer (some ⟨c, 0, none⟩)]] w fun e w' =>
      e = .returned (.tuple #[]) ∧ SWK labC 6 w g 0 (isort ltL l).toArray w' := by
  have R := holds_of_owns h hn
  have O : SWO (ltOf cmpL) := by rw [ltOf_cmpL]; exact ltL_swo
  have eg : ∀ args w, (callFunc 90 args).run Tryz.prog w = .ok (.enter 90 args) w := enters_of Tryz.func90 (by kernel_rfl) rfl
  have hs := stable_any 6 sortFns labC cmpL O 90 #[.pointer (some ⟨c, 0, none⟩)] g 0 cap n w eg (less_lays c g 0 n w hc hcl hne) l R hn.symm h40
  rw [ltOf_cmpL] at hs
  have HS := Lib.hid hs
  clear hs R O h hn hc
  go_enter Tryz.func89, Tryz.ntmps89
  go_wp2_with fail
  refine HS.out.mono ?_
  rintro e w1 ⟨rfl, S⟩
  go_wp2
  go_end0
  exact ⟨rfl, S⟩

theorem insertion_nil (fv : Value) (w : World) : Calls Tryz.prog 131 #[.slice none 0 0, .int .i64 0, .int .i64 0, fv] w fun e w' => e = .returned (.tuple #[]) ∧ w = w' := by
  go_enter Tryz.func131, Tryz.ntmps131
  go_wp2
  go_loopw [8] (fun vi wr => vi = .int .i64 1 ∧ w = wr) (fun _ _ => 0)
  case atStart => exact ⟨rfl, rfl⟩
  case round =>
    obtain ⟨rfl, rfl⟩ := hrel
    go_wp2
    go_end0
    exact ⟨rfl, rfl⟩
theorem stable_nil (fv : Value) (w : World) : Calls Tryz.prog 111 #[.slice none 0 0, .int .i64 0, fv] w fun e w' => e = .returned (.tuple #[]) ∧ w = w' := by
  go_enter Tryz.func111, Tryz.ntmps111
  go_wp2
  go_loopw [7, 8] (fun va vb wr => va = .int .i64 0 ∧ vb = .int .i64 20 ∧ w = wr) (fun _ _ _ => 0)
  case atStart => exact ⟨rfl, rfl, rfl⟩
  case round =>
    obtain ⟨rfl, rfl, rfl⟩ := hrel
    go_wp2_with fail
    refine (insertion_nil _ _).mono ?_
    rintro e w' ⟨rfl, rfl⟩
    go_wp2
    go_loopw [6, 7, 8, 9] (fun v6 _ _ _ wr => v6 = .int .i64 20 ∧ w = wr) (fun _ _ _ _ _ => 0)
    case atStart => exact ⟨rfl, rfl⟩
    case round =>
      obtain ⟨rfl, rfl⟩ := hrel
      go_wp2
      go_end0
      exact ⟨rfl, rfl⟩
theorem stableFn_nil (fv : Value) (w : World) : Calls Tryz.prog 89 #[.slice none 0 0, fv] w fun e w' => e = .returned (.tuple #[]) ∧ w = w' := by
  go_enter Tryz.func89, Tryz.ntmps89
  go_wp2_with fail
  refine (stable_nil _ _).mono ?_
  rintro e w' ⟨rfl, rfl⟩
  go_wp2
  go_end0
  exact ⟨rfl, rfl⟩

set_option maxRecDepth 100000 in
set_option maxHeartbeats 1000000 in
theorem ordered_any (p : Option Addr) (n cap : Nat) (l : List Lab) (w : World) (hL : Lies w 6 labC p l) (hn : n = l.length) (h40 : n ≤ 40) (hc : p = none → cap = 0) :
    Calls Tryz.prog 59 #[.slice p n cap, .func (.func 60) #[] #[]] w (RetL w 6 labC (isort ltL l)) := by
  have HN := Lib.hid hn
  clear hn
  go_enter Tryz.func59, Tryz.ntmps59
  go_wp2_with fail
  refine calls_abs (fun W => Below w.heap.size w W ∧ Box W w.heap.size #[.func (.func 60) #[] #[]] 98 ∧ w.heap.size + 1 ≤ W.heap.size) ⟨(Below.refl _ _).alloc (Nat.le_refl _) _, Box.new _ _ _, by simp⟩ ?_
  rintro W ⟨hW, b0, hsz⟩
  refine (cloneL_any p n cap l W (hL.below hW hL.lt) HN.out (by omega) hc).mono ?_
  rintro e w1 ⟨v, rfl, hown, hb⟩
  have b1 := b0.below hb b0.lt
  have c1 := b1.cell 0
  have hw1 := hW.trans (hb.mono hW.size)
  have hs1 := hb.size
  clear hL hc b0
  rcases hown.2 with ⟨rfl, rfl⟩ | ⟨g, cap', cur, rfl, hB, hg, -⟩
  · go_wp2_with fail
    refine (stableFn_nil _ _).mono ?_
    rintro e w' ⟨rfl, rfl⟩
    go_wp2
    go_ret
    have hl : l = [] := List.length_eq_zero_iff.1 HN.out.symm
    exact ⟨none, 0, 0, rfl, by rw [hl]; rfl, Nat.le_refl _, ⟨.inl (by rw [hl]; rfl), fun a e => (by cases e), fun g o e => (by cases e)⟩, fun a e => (by cases e), fun _ => ⟨rfl, rfl⟩, hw1⟩
  · have R := holds_of_owns hown HN.out
    have hcall := stableFn_any g n cap' w.heap.size l w1 _ hown HN.out h40 c1 (by omega) (by omega)
    have HC := Lib.hid hcall
    have HR := Lib.hid R
    have hcap : n ≤ cap' := by
      obtain ⟨-, h⟩ := hown
      rcases h with ⟨h, -⟩ | ⟨_, _, _, he, _, _, hc, _⟩
      · cases h
      · cases he; exact hc
    clear hcall R hown b1 c1 hg
    go_wp2_with fail
    refine HC.out.mono ?_
    rintro e w2 ⟨rfl, S⟩
    have HS := Lib.hid S
    clear S
    go_wp2
    go_ret
    have hlen : (isort ltL l).length = n := by rw [isort_length, HN.out]
    exact ⟨_, n, cap', rfl, hlen.symm, hcap, lies_of_sort HS.out HR.out (by rw [isort_length]; simp), fun a e => (by cases e; show w.heap.size ≤ g; omega), fun e => (by cases e), hw1.trans (below_of_sort HS.out (by omega) HR.out.hblk)⟩

theorem sorted_any (p : Option Addr) (n cap : Nat) (l : List Lab) (w : World) (hL : Lies w 6 labC p l) (hn : n = l.length) (h40 : n ≤ 40) (hc : p = none → cap = 0) :
    Calls Tryz.prog 36 #[.slice p n cap] w (RetL w 6 labC (isort ltL l)) := by
  have HC := Lib.hid (ordered_any p n cap l w hL hn h40 hc)
  clear hL hn hc
  go_enter Tryz.func36, Tryz.ntmps36
  go_wp2_with fail
  refine HC.out.mono ?_
  rintro e w1 ⟨p', n', cap', rfl, h⟩
  have H := Lib.hid h
  clear h
  go_wp2
  go_ret
  exact ⟨p', n', cap', rfl, H.out⟩
end Go.Proofs.YtaggohobdjidjaaGreatDoor

/- Where labels find a place: plain numbers and lists. -/
namespace Go.Proofs.YtaggohobdjidjaaGreatDoor

/-- A box: its least corner, its greatest. -/
structure Bx where
  a : Int
  b : Int
  c : Int
  d : Int
deriving DecidableEq
/-- A placed label. -/
structure Pl where
  id : ByteArray
  bx : Bx
instance : Inhabited Bx := ⟨⟨0, 0, 0, 0⟩⟩
instance : Inhabited Pl := ⟨⟨ByteArray.empty, default⟩⟩

def validL (x : Lab) : Bool := decide ((-67108864 ≤ x.x ∧ x.x ≤ 67108864 ∧ -67108864 ≤ x.y ∧ x.y ≤ 67108864) ∧ 1 ≤ x.w ∧ x.w ≤ 2000 ∧ 1 ≤ x.h ∧ x.h ≤ 2000)
theorem validL_spec {x : Lab} (h : validL x = true) : (-67108864 ≤ x.x ∧ x.x ≤ 67108864 ∧ -67108864 ≤ x.y ∧ x.y ≤ 67108864) ∧ 1 ≤ x.w ∧ x.w ≤ 2000 ∧ 1 ≤ x.h ∧ x.h ≤ 2000 := of_decide_eq_true h

/-- The least corners of the four places. -/
def cornX (k : Nat) (x : Lab) : Int := match k with
  | 0 => x.x + 1
  | 1 => x.x - x.w
  | _ => x.x - x.w / 2
def cornY (k : Nat) (x : Lab) : Int := match k with
  | 0 => x.y - x.h / 2
  | 1 => x.y - x.h / 2
  | 2 => x.y + 1
  | _ => x.y - x.h
def boxAt (k : Nat) (x : Lab) : Bx := ⟨cornX k x, cornY k x, cornX k x + x.w - 1, cornY k x + x.h - 1⟩

def inF (f b : Bx) : Bool := decide (b.a ≤ f.a ∧ b.b ≤ f.b ∧ f.c ≤ b.c ∧ f.d ≤ b.d)
def overF (f p : Bx) : Bool := decide (f.a ≤ p.c ∧ p.a ≤ f.c ∧ f.b ≤ p.d ∧ p.b ≤ f.d)
def freeF (b : Bx) (out : List Pl) (f : Bx) : Bool := inF f b && !out.any fun p => overF f p.bx
/-- The first free place from the k-th on. -/
def tryF (b : Bx) (out : List Pl) (x : Lab) : Nat → Nat → List Pl
  | _, 0 => out
  | k, n + 1 => if freeF b out (boxAt k x) then out ++ [⟨x.id, boxAt k x⟩] else tryF b out x (k + 1) n
def stepF (b : Bx) (out : List Pl) (x : Lab) : List Pl := if validL x then tryF b out x 0 4 else out
def placeF (b : Bx) (l : List Lab) : List Pl := (isort ltL l).foldl (stepF b) []

theorem tryF_length (b : Bx) (out : List Pl) (x : Lab) : ∀ n k, (tryF b out x k n).length ≤ out.length + 1
  | 0, _ => by unfold tryF; omega
  | n + 1, k => by
    unfold tryF
    split
    · simp
    · exact tryF_length b out x n (k + 1)
theorem stepF_length (b : Bx) (out : List Pl) (x : Lab) : (stepF b out x).length ≤ out.length + 1 := by
  unfold stepF
  split
  · exact tryF_length b out x 4 0
  · omega
theorem foldF_length (b : Bx) : ∀ (l : List Lab) (out : List Pl), (l.foldl (stepF b) out).length ≤ out.length + l.length
  | [], out => by simp
  | x :: l, out => by
    have h1 := foldF_length b l (stepF b out x)
    have h2 := stepF_length b out x
    simp only [List.foldl_cons, List.length_cons]
    omega
theorem placeF_length (b : Bx) (l : List Lab) : (placeF b l).length ≤ l.length := by
  have := foldF_length b (isort ltL l) []
  rw [isort_length] at this
  simpa [placeF] using this
end Go.Proofs.YtaggohobdjidjaaGreatDoor

/- The small functions of label.Place. -/
namespace Go.Proofs.YtaggohobdjidjaaGreatDoor
open Go.Shelf Go.RowKit Go.Lib Go.Sort

def bxV (b : Bx) : Value := .agg #[.int .i64 b.a, .int .i64 b.b, .int .i64 b.c, .int .i64 b.d]
def plC (p : Pl) : List Value := [.string p.id, .int .i64 p.bx.a, .int .i64 p.bx.b, .int .i64 p.bx.c, .int .i64 p.bx.d]
def plV (p : Pl) : Value := .agg #[.string p.id, .int .i64 p.bx.a, .int .i64 p.bx.b, .int .i64 p.bx.c, .int .i64 p.bx.d]
theorem plC_len (x : Pl) : (plC x).length = 5 := rfl

set_option maxHeartbeats 1000000 in
theorem validL_any (x : Lab) (w : World) : Calls Tryz.prog 37 #[labV x] w (RetB w (.bool (validL x))) := by
  have HB : Hid (validL x = decide ((-67108864 ≤ x.x ∧ x.x ≤ 67108864 ∧ -67108864 ≤ x.y ∧ x.y ≤ 67108864) ∧ 1 ≤ x.w ∧ x.w ≤ 2000 ∧ 1 ≤ x.h ∧ x.h ≤ 2000)) := Lib.hid rfl
  unfold labV
  go_enter Tryz.func37, Tryz.ntmps37
  go_wp2
  all_goals
    go_ret
    refine RetB.mk' (congrArg Value.bool ?_) ((Below.refl _ _).alloc (Nat.le_refl _) _)
    rw [HB.out, Bool.eq_iff_iff]
    simp
    try omega

set_option maxHeartbeats 1000000 in
theorem meets_any (f : Bx) (p : Pl) (w : World) : Calls Tryz.prog 39 #[bxV f, plV p] w (RetB w (.bool (overF f p.bx))) := by
  have HB : Hid (overF f p.bx = decide (f.a ≤ p.bx.c ∧ p.bx.a ≤ f.c ∧ f.b ≤ p.bx.d ∧ p.bx.b ≤ f.d)) := Lib.hid rfl
  unfold bxV plV
  go_enter Tryz.func39, Tryz.ntmps39
  go_wp2
  all_goals
    go_ret
    refine RetB.mk' (congrArg Value.bool ?_) (((Below.refl _ _).alloc (Nat.le_refl _) _).alloc (by simp) _)
    rw [HB.out, Bool.eq_iff_iff]
    simp
    try omega

set_option maxHeartbeats 1000000 in
theorem holds_any (b f : Bx) (w : World) : Calls Tryz.prog 40 #[bxV b, bxV f] w (RetB w (.bool (inF f b))) := by
  have HB : Hid (inF f b = decide (b.a ≤ f.a ∧ b.b ≤ f.b ∧ f.c ≤ b.c ∧ f.d ≤ b.d)) := Lib.hid rfl
  unfold bxV
  go_enter Tryz.func40, Tryz.ntmps40
  go_wp2
  all_goals
    go_ret
    refine RetB.mk' (congrArg Value.bool ?_) (((Below.refl _ _).alloc (Nat.le_refl _) _).alloc (by simp) _)
    rw [HB.out, Bool.eq_iff_iff]
    simp
    try omega

set_option maxHeartbeats 1000000 in
theorem corner1 (x : Lab) (hv : validL x = true) (w : World) : Calls Tryz.prog 61 #[labV x] w (RetB w (.agg #[.int .i64 (cornX 0 x), .int .i64 (cornY 0 x)])) := by
  obtain ⟨⟨h1, h2, h3, h4⟩, h5, h6, h7, h8⟩ := validL_spec hv
  unfold labV
  clear hv
  go_enter Tryz.func61, Tryz.ntmps61
  go_wp2
  exact ret_box (by rfl) (by rfl) (Box.new' (by simp) _ _) Tryz.underlying24 rfl (by kernel_rfl) rfl (RetB.mk' rfl (by repeat (first | assumption | exact Below.refl _ _ | refine Below.setCell ?_ (by first | (simp; done) | (simp; omega) | omega) _ | refine Below.alloc ?_ (by first | (simp; done) | (simp; omega) | omega) _)))

set_option maxHeartbeats 1000000 in
theorem corner2 (x : Lab) (hv : validL x = true) (w : World) : Calls Tryz.prog 62 #[labV x] w (RetB w (.agg #[.int .i64 (cornX 1 x), .int .i64 (cornY 1 x)])) := by
  obtain ⟨⟨h1, h2, h3, h4⟩, h5, h6, h7, h8⟩ := validL_spec hv
  unfold labV
  clear hv
  go_enter Tryz.func62, Tryz.ntmps62
  go_wp2
  exact ret_box (by rfl) (by rfl) (Box.new' (by simp) _ _) Tryz.underlying24 rfl (by kernel_rfl) rfl (RetB.mk' rfl (by repeat (first | assumption | exact Below.refl _ _ | refine Below.setCell ?_ (by first | (simp; done) | (simp; omega) | omega) _ | refine Below.alloc ?_ (by first | (simp; done) | (simp; omega) | omega) _)))

set_option maxHeartbeats 1000000 in
theorem corner3 (x : Lab) (hv : validL x = true) (w : World) : Calls Tryz.prog 63 #[labV x] w (RetB w (.agg #[.int .i64 (cornX 2 x), .int .i64 (cornY 2 x)])) := by
  obtain ⟨⟨h1, h2, h3, h4⟩, h5, h6, h7, h8⟩ := validL_spec hv
  unfold labV
  clear hv
  go_enter Tryz.func63, Tryz.ntmps63
  go_wp2
  exact ret_box (by rfl) (by rfl) (Box.new' (by simp) _ _) Tryz.underlying24 rfl (by kernel_rfl) rfl (RetB.mk' rfl (by repeat (first | assumption | exact Below.refl _ _ | refine Below.setCell ?_ (by first | (simp; done) | (simp; omega) | omega) _ | refine Below.alloc ?_ (by first | (simp; done) | (simp; omega) | omega) _)))

set_option maxHeartbeats 1000000 in
theorem corner4 (x : Lab) (hv : validL x = true) (w : World) : Calls Tryz.prog 64 #[labV x] w (RetB w (.agg #[.int .i64 (cornX 3 x), .int .i64 (cornY 3 x)])) := by
  obtain ⟨⟨h1, h2, h3, h4⟩, h5, h6, h7, h8⟩ := validL_spec hv
  unfold labV
  clear hv
  go_enter Tryz.func64, Tryz.ntmps64
  go_wp2
  exact ret_box (by rfl) (by rfl) (Box.new' (by simp) _ _) Tryz.underlying24 rfl (by kernel_rfl) rfl (RetB.mk' rfl (by repeat (first | assumption | exact Below.refl _ _ | refine Below.setCell ?_ (by first | (simp; done) | (simp; omega) | omega) _ | refine Below.alloc ?_ (by first | (simp; done) | (simp; omega) | omega) _)))

theorem places_any (w : World) : Calls Tryz.prog 38 #[] w (RetB w (.agg #[.func (.func 61) #[] #[], .func (.func 62) #[] #[], .func (.func 63) #[] #[], .func (.func 64) #[] #[]])) := by
  go_enter Tryz.func38, Tryz.ntmps38
  go_wp2
  exact ret_box (by rfl) (by rfl) (Box.new _ _ _) Tryz.underlying71 rfl (by kernel_rfl) rfl (RetB.mk' rfl (by repeat (first | assumption | exact Below.refl _ _ | refine Below.setCell ?_ (by first | (simp; done) | (simp; omega) | omega) _ | refine Below.alloc ?_ (by first | (simp; done) | (simp; omega) | omega) _)))
end Go.Proofs.YtaggohobdjidjaaGreatDoor

/- slices.ContainsFunc at placed labels. -/
namespace Go.Proofs.YtaggohobdjidjaaGreatDoor
open Go.Shelf Go.RowKit Go.Lib Go.Sort

/-- A placed label's cells in a list. -/
theorem Lies.pl {W : World} {g o i : Nat} {l : List Pl} {x : Pl} (h : Lies W 5 plC (some ⟨g, o, none⟩) l) (hx : l[i]? = some x) : W.cell? ⟨g, o + i * 5, none⟩ = some (.string x.id) ∧ W.cell? ⟨g, o + i * 5 + 1, none⟩ = some (.int .i64 x.bx.a) ∧
    W.cell? ⟨g, o + i * 5 + 2, none⟩ = some (.int .i64 x.bx.b) ∧ W.cell? ⟨g, o + i * 5 + 3, none⟩ = some (.int .i64 x.bx.c) ∧ W.cell? ⟨g, o + i * 5 + 4, none⟩ = some (.int .i64 x.bx.d) :=
  ⟨h.cell g o rfl i x hx 0 (by omega), h.cell g o rfl i x hx 1 (by omega), h.cell g o rfl i x hx 2 (by omega), h.cell g o rfl i x hx 3 (by omega), h.cell g o rfl i x hx 4 (by omega)⟩

/-- The call returns a place, or -1: whether one is there. -/
def RetI (w : World) (b : Bool) (e : Ending) (w' : World) : Prop := ∃ r : Int, e = .returned (.int .i64 r) ∧ decide (0 ≤ r) = b ∧ Below w.heap.size w w'

theorem any_take_false {α : Type} {l : List α} {p : α → Bool} {i : Nat} (hi : i = l.length) (h : (l.take i).any p = false) : l.any p = false := by subst hi; simpa using h
theorem any_take_true {α : Type} {l : List α} {p : α → Bool} {i : Nat} {x : α} (hx : l[i]? = some x) (h : p x = true) : l.any p = true := by
  rw [List.any_eq_true]
  exact ⟨x, List.mem_of_getElem? hx, h⟩
theorem any_take_succ {α : Type} {l : List α} {p : α → Bool} {i : Nat} {x : α} (hx : l[i]? = some x) (h : (l.take i).any p = false) (hp : p x = false) : (l.take (i + 1)).any p = false := by
  have hi := (List.getElem?_eq_some_iff.1 hx)
  obtain ⟨hi, rfl⟩ := hi
  rw [List.take_succ_eq_append_getElem hi, List.any_append, h]
  simp [hp]

set_option maxHeartbeats 1000000 in
theorem indexP_any (p : Option Addr) (n cap : Nat) (l : List Pl) (pr : Pl → Bool) (gf : Nat) (fi cb : Array Value) (w : World) (hL : Lies w 5 plC p l) (hn : n = l.length) (h1 : n ≤ 1000000)
    (eg : ∀ args w, (callFunc gf args).run Tryz.prog w = .ok (.enter gf args) w) (hp : ∀ W', Below w.heap.size w W' → ∀ x, Calls Tryz.prog gf (fi ++ #[plV x] ++ cb) W' (RetB W' (.bool (pr x)))) :
    Calls Tryz.prog 65 #[.slice p n cap, .func (.func gf) fi cb] w (RetI w (l.any pr)) := by
  have HL := Lib.hid hL
  have HN := Lib.hid hn
  have HP := Lib.hid hp
  clear hL hn hp
  go_enter Tryz.func65, Tryz.ntmps65
  go_wp2
  go_loopw [5, 8] (fun _ vi wr => ∃ i : Nat, i ≤ n ∧ vi = .int .i64 i ∧ Below w.heap.size w wr ∧ Hid ((l.take i).any pr = false)) (fun _ vi _ => n - (intOf vi).toNat)
  case atStart => exact ⟨0, by omega, rfl, Below.refl _ _, Lib.hid (by simp)⟩
  case round =>
    obtain ⟨i, hi, rfl, hW, HF⟩ := hrel
    by_cases hlt : i < n
    · obtain ⟨g, o, rfl⟩ := HL.out.addr (by have := HN.out; omega)
      obtain ⟨x, hx⟩ : ∃ x, l[i]? = some x := ⟨_, List.getElem?_eq_getElem (by have := HN.out; omega)⟩
      obtain ⟨r0, r1, r2, r3, r4⟩ := (HL.out.below hW HL.out.lt).pl hx
      have HX := Lib.hid hx
      have hc := HP.out wr hW x
      unfold plV at hc
      clear hx
      cases hb : pr x with
      | true =>
        rw [hb] at hc
        have HR : Hid (l.any pr = true) := Lib.hid (any_take_true HX.out hb)
        clear hb
        go_wp2_with fail
        refine hc.mono ?_
        rintro e w1 ⟨rfl, hb1⟩
        clear r0 r1 r2 r3 r4 hc
        go_wp2
        go_ret
        exact ⟨i, rfl, by rw [HR.out]; simp, hW.trans (hb1.mono hW.size)⟩
      | false =>
        rw [hb] at hc
        have HR : Hid ((l.take (i + 1)).any pr = false) := Lib.hid (any_take_succ HX.out HF.out hb)
        clear hb
        go_wp2_with fail
        refine hc.mono ?_
        rintro e w1 ⟨rfl, hb1⟩
        replace hW := hW.trans (hb1.mono hW.size)
        clear r0 r1 r2 r3 r4 hc hb1
        go_wp2
        go_roundw
        case rel => exact ⟨i + 1, by omega, by go_num, hW, HR⟩
        case measure => simp [intOf]; omega
    · have HE : Hid (i = n) := Lib.hid (by omega)
      go_wp2
      go_ret
      exact ⟨-1, rfl, by rw [any_take_false (HE.out.trans HN.out) HF.out]; rfl, hW⟩

set_option maxHeartbeats 1000000 in
theorem containsP_any (p : Option Addr) (n cap : Nat) (l : List Pl) (pr : Pl → Bool) (gf : Nat) (fi cb : Array Value) (w : World) (hL : Lies w 5 plC p l) (hn : n = l.length) (h1 : n ≤ 1000000)
    (eg : ∀ args w, (callFunc gf args).run Tryz.prog w = .ok (.enter gf args) w) (hp : ∀ W', Below w.heap.size w W' → ∀ x, Calls Tryz.prog gf (fi ++ #[plV x] ++ cb) W' (RetB W' (.bool (pr x)))) :
    Calls Tryz.prog 41 #[.slice p n cap, .func (.func gf) fi cb] w (RetB w (.bool (l.any pr))) := by
  have HC := Lib.hid (indexP_any p n cap l pr gf fi cb w hL hn h1 eg hp)
  clear hL hn hp
  go_enter Tryz.func41, Tryz.ntmps41
  go_wp2_with fail
  refine HC.out.mono ?_
  rintro e w1 ⟨r, rfl, hr, hb⟩
  have HR := Lib.hid hr
  clear hr
  go_wp2
  go_ret
  exact RetB.mk' (by rw [← HR.out]; simp) hb
end Go.Proofs.YtaggohobdjidjaaGreatDoor

/- Rows that the call owns. -/
namespace Go.Proofs.YtaggohobdjidjaaGreatDoor
open Go.RowKit Go.Sort

/-- An owned row stays where nothing old turns. -/
theorem owns_below {W W' : World} {B B' : Nat} {e : TypeId} {k : Nat} {v : Value} {n : Nat} {xs : List Value} (h : W.ownsRow B e k v n xs) (hb : Below B' W W') (hB : W.heap.size ≤ B') : W'.ownsRow B e k v n xs := by
  refine ⟨h.1, h.2.imp id ?_⟩
  rintro ⟨g, cap, cur, hv, hg, hc, r⟩
  exact ⟨g, cap, cur, hv, hg, (hb.block g (Nat.lt_of_lt_of_le (Array.getElem?_eq_some_iff.1 hc).1 hB)).trans hc, r⟩
theorem owns_far {W w1 : World} {B : Nat} {e : TypeId} {size : Nat} {v : Value} {n : Nat} {xs : List Value} {tmp : Obj} (h : W.ownsRow B e size v n xs) (hg : (W.alloc tmp).grownBy w1 v.ownBlock) {b : Nat} (hb : b < B) (hB : B ≤ W.heap.size) : w1.heap[b]? = W.heap[b]? := by
  refine (hg.block b (by simp; omega) fun e' => ?_).trans (Below.heap_alloc _ _ _ (by omega))
  have := (h.lt b e'.symm).1
  omega
theorem below_append {W w1 : World} {B : Nat} {e : TypeId} {size : Nat} {v : Value} {n : Nat} {xs : List Value} {tmp : Obj} (h : W.ownsRow B e size v n xs) (hg : (W.alloc tmp).grownBy w1 v.ownBlock) (hB : B ≤ W.heap.size) : Below B W w1 :=
  ⟨hg.os, hg.tape, hg.output, by have := hg.size; simp at this; omega, fun b hb => owns_far h hg hb hB⟩
theorem owns_base {w : World} {B B' : Nat} {e : TypeId} {size : Nat} {v : Value} {n : Nat} {xs : List Value} (h : w.ownsRow B e size v n xs) (hB : B' ≤ B) : w.ownsRow B' e size v n xs := by
  refine ⟨h.1, h.2.imp id ?_⟩
  rintro ⟨g, cap, cur, hv, hg, r⟩
  exact ⟨g, cap, cur, hv, by omega, r⟩

end Go.Proofs.YtaggohobdjidjaaGreatDoor

import Derived.Test.YtaggohobdjidjaaGreatDoorJ0
import Derived.Test.YtaggohobdjidjaaGreatDoorJA
import Derived.Shelf.SlSortCmp.KitK
import Derived.Sort.WalkB2
import Derived.Sort.WalkB12
import Derived.Deep.LoopGhost

/- slices.swapRangeCmpFunc over whatever program bears its text. -/
namespace Go.Proofs.YtaggohobdjidjaaGreatDoor
open Go.Shelf Go.RowKit Go.Lib Go.Sort

/-- What a program must say of the sort's types: elements are aggregates of k cells. -/
structure SortTys (P : Program) (k : Nat) : Prop where
  mixed : P.follows .mixedOrders = true
  t3 : P.underlying 3 = some (TypeDesc.int IntKind.i64)
  a3 : ∀ w, (isAgg 3).run P w = .ok false w
  z3 : ∀ w, (Go.sizeOf 3).run P w = .ok 1 w
  v3 : ∀ w, (zeroValue 3).run P w = .ok (Value.int IntKind.i64 0) w
  t4 : P.underlying 4 = some (TypeDesc.bool)
  a4 : ∀ w, (isAgg 4).run P w = .ok false w
  z4 : ∀ w, (Go.sizeOf 4).run P w = .ok 1 w
  v4 : ∀ w, (zeroValue 4).run P w = .ok (Value.bool false) w
  ts : P.underlying 22 = some (TypeDesc.slice 47)
  ass : ∀ w, (isAgg 22).run P w = .ok false w
  zs : ∀ w, (Go.sizeOf 22).run P w = .ok 1 w
  vs : ∀ w, (zeroValue 22).run P w = .ok (Value.slice none 0 0) w
  tf : P.underlying 123 = some (TypeDesc.func #[47, 47] #[3] false)
  af : ∀ w, (isAgg 123).run P w = .ok false w
  zf : ∀ w, (Go.sizeOf 123).run P w = .ok 1 w
  vf : ∀ w, (zeroValue 123).run P w = .ok (Value.nilFunc) w
  t0 : P.underlying 0 = some (TypeDesc.tuple #[])
  a0 : ∀ w, (isAgg 0).run P w = .ok false w
  z0 : ∀ w, (Go.sizeOf 0).run P w = .ok 1 w
  v0 : ∀ w, (zeroValue 0).run P w = .ok (Value.tuple #[]) w
  tu : P.underlying 86 = some (TypeDesc.int IntKind.u64)
  au : ∀ w, (isAgg 86).run P w = .ok false w
  zu : ∀ w, (Go.sizeOf 86).run P w = .ok 1 w
  vu : ∀ w, (zeroValue 86).run P w = .ok (Value.int IntKind.u64 0) w
  aE : ∀ w, (isAgg 47).run P w = .ok true w
  zE : ∀ w, (Go.sizeOf 47).run P w = .ok k w

theorem sortTys : SortTys Tryz.prog 6 where
  mixed := by kernel_rfl
  t3 := Tryz.underlying3
  a3 := Tryz.isAgg3
  z3 := Tryz.sizeOf3
  v3 := Tryz.zeroValue3
  t4 := Tryz.underlying4
  a4 := Tryz.isAgg4
  z4 := Tryz.sizeOf4
  v4 := Tryz.zeroValue4
  ts := Tryz.underlying22
  ass := Tryz.isAgg22
  zs := Tryz.sizeOf22
  vs := Tryz.zeroValue22
  tf := Tryz.underlying123
  af := Tryz.isAgg123
  zf := Tryz.sizeOf123
  vf := Tryz.zeroValue123
  t0 := Tryz.underlying0
  a0 := Tryz.isAgg0
  z0 := Tryz.sizeOf0
  v0 := Tryz.zeroValue0
  tu := Tryz.underlying86
  au := Tryz.isAgg86
  zu := Tryz.sizeOf86
  vu := Tryz.zeroValue86
  aE := Tryz.isAgg47
  zE := Tryz.sizeOf47

variable {P : Program} {α : Type} [Inhabited α]

set_option maxHeartbeats 4000000 in
set_option maxRecDepth 1000000 in
theorem swapRange_any (k : Nat) (T : SortTys P k) (FG : P.funcs[155]? = some Tryz.f155) (enc : α → List Value) (fv : Value) (blk off cap p q n : Nat) (d0 d : Array α) (w0 w : World)
    (R : RowK enc k w0 blk off d0) (hs : d0.size = d.size) (S : SWK enc k w0 blk off d w) (hpq : p + n ≤ q) (hq : q + n ≤ d.size) (hsz : d.size < 1000000) :
    Calls P 155 #[.slice (some ⟨blk, off, none⟩) d.size cap, .int .i64 p, .int .i64 q, .int .i64 n, fv] w fun e w' => e = .returned (.tuple #[]) ∧ SWK enc k w0 blk off (swapR d p q n) w' := by
  obtain ⟨mixed, t3, a3, z3, v3, t4, a4, z4, v4, ts, ass, zs, vs, tf, af, zf, vf, t0, a0, z0, v0, tu, au, zu, vu, aE, zE⟩ := T
  have S0 : Aside (SWK enc k w0 blk off d w) := S
  clear S
  go_enter FG, Tryz.ntmps155
  go_wp2
  go_loopg [10] n (fun kx s8 wr => ∃ i : Nat, i ≤ n ∧ s8 = .int .i64 i ∧ n - i ≤ kx ∧ Aside (SWK enc k w0 blk off (swapR d p q i) wr))
  case atStart => exact ⟨0, by omega, rfl, by omega, S0⟩
  case round =>
    clear S0
    obtain ⟨i, hi, rfl, hkx, S1⟩ := hrel
    by_cases hlt : (i : Int) < (n : Int)
    · go_wp2_with fail
      have ea44 : ((p : Int) + (i : Int)).toNat = p + i := by omega
      have pa44 : (0 : Int) ≤ (p : Int) + (i : Int) := by omega
      have ba44 : (p : Int) + (i : Int) < (d.size : Int) := by omega
      have ra44 : IntKind.i64.wrap ((p : Int) + (i : Int)) = (p : Int) + (i : Int) := by rw [IntKind.wrap_i64]; omega
      have ec44 : ((q : Int) + (i : Int)).toNat = q + i := by omega
      have pc44 : (0 : Int) ≤ (q : Int) + (i : Int) := by omega
      have bc44 : (q : Int) + (i : Int) < (d.size : Int) := by omega
      have rc44 : IntKind.i64.wrap ((q : Int) + (i : Int)) = (q : Int) + (i : Int) := by rw [IntKind.wrap_i64]; omega
      have hds : d0.size = (swapR d p q i).size := by rw [size_swapR]; exact hs
      have h1 : p + i < (swapR d p q i).size := by rw [size_swapR]; omega
      have h2 : q + i < (swapR d p q i).size := by rw [size_swapR]; omega
      have S2 : Aside (SWK enc k w0 blk off (swapR d p q (i + 1)) ((wr.drew.setCells blk (off + (p + i) * k) (enc (swapR d p q i)[q + i]!)).setCells blk (off + (q + i) * k) (enc (swapR d p q i)[p + i]!))) := S1.out.swapped R (p + i) (q + i) h1 h2
      have l44a := S1.out.ld1 R hds.symm P (p + i) h1
      have l44b := S1.out.ld1 R hds.symm P (q + i) h2
      have s44a := S1.out.st1 R hds.symm P (p + i) h1 (swapR d p q i)[q + i]!
      have s44b := S1.out.st2 R hds.symm P (p + i) (q + i) h1 h2 (swapR d p q i)[q + i]! (swapR d p q i)[p + i]!
      have n44a : (enc (swapR d p q i)[p + i]!).length = k := R.hk _
      have n44b : (enc (swapR d p q i)[q + i]!).length = k := R.hk _
      generalize enc (swapR d p q i)[p + i]! = cI44 at S2 l44a s44b n44a
      generalize enc (swapR d p q i)[q + i]! = cJ44 at S2 l44b s44a s44b n44b
      clear S1 hds h1 h2
      go_big_region_o
      clear l44a l44b s44a s44b
      generalize (wr.drew.setCells blk (off + (p + i) * k) cJ44).setCells blk (off + (q + i) * k) cI44 = w2 at S2 ⊢
      go_wp2
      go_roundg (n - (i + 1))
      case measure => omega
      case rel => exact ⟨i + 1, by omega, by simp, Nat.le_refl _, S2⟩
    · obtain rfl : i = n := by omega
      go_wp2
      go_end0
      exact ⟨rfl, S1.out⟩
end Go.Proofs.YtaggohobdjidjaaGreatDoor

/- slices.rotateCmpFunc over whatever program bears its text: two neighbouring parts change places. -/
namespace Go.Proofs.YtaggohobdjidjaaGreatDoor
open Go.Shelf Go.RowKit Go.Lib Go.Sort

variable {P : Program} {α : Type} [Inhabited α]

theorem swapRange_int (k : Nat) (T : SortTys P k) (FG : P.funcs[155]? = some Tryz.f155) (enc : α → List Value) (fv : Value) (blk off cap sz : Nat) (p' q' n' : Int) (d0 : Array α) (w0 w : World)
    (R : RowK enc k w0 blk off d0) (pre X mid Y post : List α) (S : SWK enc k w0 blk off (pre ++ X ++ mid ++ Y ++ post).toArray w) (hl : X.length = Y.length) (hs0 : d0.size = sz) (hs : sz = pre.length + X.length + mid.length + Y.length + post.length) (hsz : sz < 1000000)
    (hp : p' = pre.length) (hq : q' = pre.length + X.length + mid.length) (hn : n' = X.length) :
    Calls P 155 #[.slice (some ⟨blk, off, none⟩) sz cap, .int .i64 p', .int .i64 q', .int .i64 n', fv] w fun e w' => e = .returned (.tuple #[]) ∧ SWK enc k w0 blk off (pre ++ Y ++ mid ++ X ++ post).toArray w' := by
  have hd : (pre ++ X ++ mid ++ Y ++ post).toArray.size = sz := by simp; omega
  have h := swapRange_any k T FG enc fv blk off cap pre.length (pre.length + X.length + mid.length) X.length d0 _ w0 w R (hs0.trans hd.symm) S (by omega) (by rw [hd]; omega) (by rw [hd]; exact hsz)
  rw [hd] at h
  have e : swapR (pre ++ X ++ mid ++ Y ++ post).toArray pre.length (pre.length + X.length + mid.length) X.length = (pre ++ Y ++ mid ++ X ++ post).toArray := by
    have := swapR_all (d := (pre ++ X ++ mid ++ Y ++ post).toArray) (pre := pre) (X := X) (mid := mid) (Y := Y) (post := post) rfl hl rfl rfl rfl
    rw [← this]
  rw [e] at h
  subst hp hq hn
  exact_mod_cast h

set_option maxHeartbeats 4000000 in
set_option maxRecDepth 1000000 in
theorem rotate_any (k : Nat) (T : SortTys P k) (FS : P.funcs[155]? = some Tryz.f155) (FG : P.funcs[145]? = some Tryz.f145) (enc : α → List Value) (fv : Value) (blk off cap sz a m b : Nat) (d0 : Array α) (w0 w : World)
    (R : RowK enc k w0 blk off d0) (pre X Y post : List α) (S : SWK enc k w0 blk off (pre ++ X ++ Y ++ post).toArray w) (hs0 : d0.size = sz) (hs : sz = pre.length + X.length + Y.length + post.length) (hsz : sz < 1000000)
    (ha : a = pre.length) (hm : m = pre.length + X.length) (hb : b = pre.length + X.length + Y.length) (hX : 0 < X.length) (hY : 0 < Y.length) :
    Calls P 145 #[.slice (some ⟨blk, off, none⟩) sz cap, .int .i64 a, .int .i64 m, .int .i64 b, fv] w fun e w' => e = .returned (.tuple #[]) ∧ SWK enc k w0 blk off (pre ++ Y ++ X ++ post).toArray w' := by
  have hT := T
  obtain ⟨mixed, t3, a3, z3, v3, t4, a4, z4, v4, ts, ass, zs, vs, tf, af, zf, vf, t0, a0, z0, v0, tu, au, zu, vu, aE, zE⟩ := T
  have eS : ∀ args w, (callFunc 155 args).run P w = .ok (.enter 155 args) w := enters_of FS (by kernel_rfl) rfl
  have S0 : Aside (SWK enc k w0 blk off (pre ++ X ++ Y ++ post).toArray w) := S
  have H0 : Hid (sz = pre.length + X.length + Y.length + post.length ∧ a = pre.length ∧ m = pre.length + X.length ∧ b = pre.length + X.length + Y.length ∧ 0 < X.length ∧ 0 < Y.length) := Lib.hid ⟨hs, ha, hm, hb, hX, hY⟩
  have ham : a ≤ m := by omega
  have hmb : m ≤ b := by omega
  have hbz : b < 1000000 := by omega
  clear S hs ha hm hb hX hY
  go_enter FG, Tryz.ntmps145
  go_wp2
  go_loopg [10, 11] (b - a) (fun kx si sj wr => ∃ (i j : Nat) (P' X' Y' Q' : List α), si = .int .i64 i ∧ sj = .int .i64 j ∧ i + j ≤ kx ∧ 0 < i ∧ 0 < j ∧ i ≤ m ∧ m + j < 1000000 ∧ Hid (i = X'.length ∧ j = Y'.length ∧ m = P'.length + X'.length ∧ sz = P'.length + X'.length + Y'.length + Q'.length ∧ P' ++ Y' ++ X' ++ Q' = pre ++ Y ++ X ++ post) ∧
    Aside (SWK enc k w0 blk off (P' ++ X' ++ Y' ++ Q').toArray wr))
  case atStart =>
    obtain ⟨h1, h2, h3, h4, h5, h6⟩ := H0.out
    exact ⟨m - a, b - m, pre, X, Y, post, by simp; omega, by simp; omega, by omega, by omega, by omega, by omega, by omega, Lib.hid ⟨by omega, by omega, h3, h1, rfl⟩, S0⟩
  case round =>
    clear S0
    obtain ⟨i, j, P', X', Y', Q', rfl, rfl, hkx, hi, hj, him, hmj, HL, S1⟩ := hrel
    rcases Nat.lt_trichotomy i j with hij | hij | hij
    · have hc : (i : Int) < (j : Int) := by omega
      obtain ⟨h1, h2, h3, h4, h5⟩ := HL.out
      have hY : Y' = Y'.take (j - i) ++ Y'.drop (j - i) := (List.take_append_drop _ _).symm
      have hy1 : (Y'.take (j - i)).length = j - i := by simp; omega
      have hy2 : (Y'.drop (j - i)).length = i := by simp; omega
      generalize Y'.take (j - i) = Y1 at hY hy1
      generalize Y'.drop (j - i) = Y2 at hY hy2
      subst hY
      have S2 : SWK enc k w0 blk off (P' ++ X' ++ Y1 ++ Y2 ++ Q').toArray wr := by simpa using S1.out
      have hcall := swapRange_int k hT FS enc fv blk off cap sz ((m : Int) - i) ((m : Int) + j - i) i d0 w0 wr R P' X' Y1 Y2 Q' S2 (by omega) hs0 (by simp at h4; omega) hsz (by omega) (by omega) (by omega)
      have HE : Hid (i = Y2.length ∧ j - i = Y1.length ∧ m = P'.length + Y2.length ∧ sz = P'.length + Y2.length + Y1.length + (X' ++ Q').length ∧ P' ++ Y1 ++ Y2 ++ (X' ++ Q') = pre ++ Y ++ X ++ post) := Lib.hid ⟨by omega, by omega, by omega, by simp at h4 ⊢; omega, by simpa using h5⟩
      have HC : Hid _ := Lib.hid hcall
      clear S1 S2 HL h1 h2 h3 h4 h5 hy1 hy2 hcall
      go_wp2_with (go_at_fn 155; refine HC.out.mono ?_; rintro e w1 ⟨rfl, S3⟩)
      go_roundg j
      case measure => omega
      case rel => exact ⟨i, j - i, P', Y2, Y1, X' ++ Q', rfl, by simp; omega, by omega, by omega, by omega, by omega, by omega, HE, (show SWK enc k w0 blk off (P' ++ Y2 ++ Y1 ++ (X' ++ Q')).toArray w1 by simpa using S3)⟩
    · subst hij
      obtain ⟨h1, h2, h3, h4, h5⟩ := HL.out
      have hcall := swapRange_int k hT FS enc fv blk off cap sz ((m : Int) - i) m i d0 w0 wr R P' X' [] Y' Q' (by simpa using S1.out) (by omega) hs0 (by simp; omega) hsz (by omega) (by simp; omega) (by omega)
      have HE : Hid (P' ++ Y' ++ X' ++ Q' = pre ++ Y ++ X ++ post) := Lib.hid h5
      have HC : Hid _ := Lib.hid hcall
      clear S1 HL h1 h2 h3 h4 h5 hcall
      go_wp2_with (go_at_fn 155; refine HC.out.mono ?_; rintro e w1 ⟨rfl, S3⟩)
      go_end0
      exact ⟨rfl, by rw [← HE.out]; simpa using S3⟩
    · have hc : (j : Int) < (i : Int) := by omega
      obtain ⟨h1, h2, h3, h4, h5⟩ := HL.out
      have hX : X' = X'.take j ++ X'.drop j := (List.take_append_drop _ _).symm
      have hx1 : (X'.take j).length = j := by simp; omega
      have hx2 : (X'.drop j).length = i - j := by simp; omega
      generalize X'.take j = X1 at hX hx1
      generalize X'.drop j = X2 at hX hx2
      subst hX
      have S2 : SWK enc k w0 blk off (P' ++ X1 ++ X2 ++ Y' ++ Q').toArray wr := by simpa using S1.out
      have hcall := swapRange_int k hT FS enc fv blk off cap sz ((m : Int) - i) m j d0 w0 wr R P' X1 X2 Y' Q' S2 (by omega) hs0 (by simp at h4; omega) hsz (by simp at h3; omega) (by simp at h3; omega) (by omega)
      have HE : Hid (i - j = X2.length ∧ j = X1.length ∧ m = (P' ++ Y').length + X2.length ∧ sz = (P' ++ Y').length + X2.length + X1.length + Q'.length ∧ (P' ++ Y') ++ X1 ++ X2 ++ Q' = pre ++ Y ++ X ++ post) := Lib.hid ⟨by omega, by omega, by simp at h3 ⊢; omega, by simp at h4 ⊢; omega, by simpa using h5⟩
      have HC : Hid _ := Lib.hid hcall
      clear S1 S2 HL h1 h2 h3 h4 h5 hx1 hx2 hcall
      go_wp2_with (go_at_fn 155; refine HC.out.mono ?_; rintro e w1 ⟨rfl, S3⟩)
      go_roundg i
      case measure => omega
      case rel => exact ⟨i - j, j, P' ++ Y', X2, X1, Q', by simp; omega, rfl, by omega, by omega, by omega, by omega, by omega, HE, (show SWK enc k w0 blk off (P' ++ Y' ++ X2 ++ X1 ++ Q').toArray w1 by simpa using S3)⟩
end Go.Proofs.YtaggohobdjidjaaGreatDoor

/- slices.insertionSortCmpFunc over whatever program bears its text. -/
namespace Go.Proofs.YtaggohobdjidjaaGreatDoor
open Go.Shelf Go.RowKit Go.Lib Go.Sort

variable {P : Program} {α : Type} [Inhabited α]

set_option maxHeartbeats 4000000 in
set_option maxRecDepth 1000000 in
theorem insertion_any (k : Nat) (T : SortTys P k) (FG : P.funcs[131]? = some Tryz.f131) (enc : α → List Value) (cf : α → α → Int) (g : Nat) (cb : Array Value) (blk off cap sz a b : Nat) (d0 d : Array α) (w0 w : World)
    (eg : ∀ args w, (callFunc g args).run P w = .ok (.enter g args) w) (hcmp : CmpLays P g cb enc k cf blk off sz w0)
    (R : RowK enc k w0 blk off d0) (hs0 : d0.size = sz) (hs : d.size = sz) (S : SWK enc k w0 blk off d w) (hab : a ≤ b) (hb : b ≤ sz) (hsz : sz < 1000000) :
    Calls P 131 #[.slice (some ⟨blk, off, none⟩) sz cap, .int .i64 a, .int .i64 b, .func (.func g) #[] cb] w fun e w' => e = .returned (.tuple #[]) ∧ SWK enc k w0 blk off (insertionSort (ltOf cf) d a b) w' := by
  obtain ⟨mixed, t3, a3, z3, v3, t4, a4, z4, v4, ts, ass, zs, vs, tf, af, zf, vf, t0, a0, z0, v0, tu, au, zu, vu, aE, zE⟩ := T
  have u22 := run_underlying ts
  have S0 : Aside (SWK enc k w0 blk off d w) := S
  have HC : Aside _ := hcmp
  clear S hcmp
  go_enter FG, Tryz.ntmps131
  go_wp2
  go_loopg [8] (b - a) (fun g1 vi wr => ∃ (i : Nat) (dk : Array α), vi = .int .i64 i ∧ a < i ∧ i ≤ b + 1 ∧ b + 1 - i ≤ g1 + 1 ∧ dk.size = sz ∧ Aside (SWK enc k w0 blk off dk wr) ∧ Hid (insOuter (ltOf cf) a b i dk = insOuter (ltOf cf) a b (a + 1) d))
  case atStart => exact ⟨a + 1, d, by go_num, by omega, by omega, by omega, hs, S0, rfl⟩
  case round =>
    clear S0
    obtain ⟨i, dk, rfl, hai, hib, hg1, hsk, S1, HO⟩ := hrel
    by_cases hlt : i < b
    · have hltz : (i : Int) < (b : Int) := by omega
      go_wp2
      go_loopg [9] i (fun g2 vj wr2 => ∃ (j : Nat) (dj : Array α), vj = .int .i64 j ∧ a ≤ j ∧ j ≤ i ∧ j ≤ g2 ∧ dj.size = sz ∧ Aside (SWK enc k w0 blk off dj wr2) ∧ Hid (insInner (ltOf cf) a j dj = insInner (ltOf cf) a i dk))
      case atStart => exact ⟨i, dk, rfl, by omega, Nat.le_refl _, Nat.le_refl _, hsk, S1, rfl⟩
      case round =>
        clear S1
        obtain ⟨j, dj, rfl, haj, hji, hg2, hsj, S1, HI⟩ := hrel
        have out : (j ≤ a ∨ ltOf cf dj[j]! dj[j - 1]! = false) → Hid (insOuter (ltOf cf) a b (i + 1) dj = insOuter (ltOf cf) a b (a + 1) d) := fun hs => by
          show _ = _
          rw [← HO.out, insOuter_go _ _ _ _ _ hlt, ← HI.out, insInner_stop _ _ _ _ hs]
        have OUT : Aside _ := out
        clear out
        by_cases hja : a < j
        · have hjaz : (a : Int) < (j : Int) := by omega
          obtain ⟨jp, rfl⟩ : ∃ jp, j = jp + 1 := ⟨j - 1, by omega⟩
          have hjaz' : (a : Int) < (jp : Int) + 1 := by omega
          cases hlv : ltOf cf dj[jp + 1]! dj[jp]! with
          | true =>
            have HN : Hid (insInner (ltOf cf) a jp (swp dj (jp + 1) jp) = insInner (ltOf cf) a i dk) := by
              show _ = _
              have := insInner_go (ltOf cf) a (jp + 1) dj hja (by simp only [Nat.add_sub_cancel]; exact hlv)
              simp only [Nat.add_sub_cancel] at this
              rw [← HI.out, this]
            have ea90 : ((jp : Int) + 1).toNat = jp + 1 := by omega
            have pa90 : (0 : Int) ≤ (jp : Int) + 1 := by omega
            have ba90 : (jp : Int) + 1 < (sz : Int) := by omega
            have ra90 : IntKind.i64.wrap ((jp : Int) + 1) = (jp : Int) + 1 := by rw [IntKind.wrap_i64]; omega
            have ec90 : ((jp : Int)).toNat = jp := by omega
            have pc90 : (0 : Int) ≤ (jp : Int) := by omega
            have bc90 : (jp : Int) < (sz : Int) := by omega
            have rc90 : IntKind.i64.wrap ((jp : Int)) = (jp : Int) := by rw [IntKind.wrap_i64]; omega
            obtain ⟨x90, hx90⟩ : ∃ x, x = dj[jp + 1]! := ⟨_, rfl⟩
            obtain ⟨y90, hy90⟩ : ∃ x, x = dj[jp]! := ⟨_, rfl⟩
            have l90a := S1.out.ld R (by omega) P (jp + 1) (by omega)
            have l90b := S1.out.ld R (by omega) P (jp) (by omega)
            rw [← hx90] at l90a
            rw [← hy90] at l90b
            have hc90 := S1.out.cmp HC.out (by omega) x90 y90
            have hv90 : cf x90 y90 < 0 := by rw [hx90, hy90]; exact of_decide_eq_true hlv
            have hd90 : decide (cf x90 y90 < 0) = true := decide_eq_true hv90
            clear hx90 hy90
            go_wp2_with fail
            go_quiet_grown (first | (go_at_fn g; refine Calls.grown_of (hc90 _ _)))
            have S2 : Aside (SWK enc k w0 blk off dj (grow (wr.drewN nq) osq)) := S1.out.grown nq osq
            clear l90a l90b hc90 S1
            generalize grow (wr.drewN nq) osq = w2 at S2 ⊢
            clear nq osq ea90 pa90 ba90 ra90 ec90 pc90 bc90 rc90
            clear hlv HI OUT
            go_wp2_with fail
            have ea91 : ((jp : Int) + 1).toNat = jp + 1 := by omega
            have pa91 : (0 : Int) ≤ (jp : Int) + 1 := by omega
            have ba91 : (jp : Int) + 1 < (sz : Int) := by omega
            have ra91 : IntKind.i64.wrap ((jp : Int) + 1) = (jp : Int) + 1 := by rw [IntKind.wrap_i64]; omega
            have ec91 : ((jp : Int)).toNat = jp := by omega
            have pc91 : (0 : Int) ≤ (jp : Int) := by omega
            have bc91 : (jp : Int) < (sz : Int) := by omega
            have rc91 : IntKind.i64.wrap ((jp : Int)) = (jp : Int) := by rw [IntKind.wrap_i64]; omega
            have S3 : Aside (SWK enc k w0 blk off (swp dj (jp + 1) (jp)) ((w2.drew.setCells blk (off + (jp + 1) * k) (enc dj[jp]!)).setCells blk (off + (jp) * k) (enc dj[jp + 1]!))) := S2.out.swapped R (jp + 1) (jp) (by omega) (by omega)
            have l91a := S2.out.ld1 R (by omega) P (jp + 1) (by omega)
            have l91b := S2.out.ld1 R (by omega) P (jp) (by omega)
            have s91a := S2.out.st1 R (by omega) P (jp + 1) (by omega) dj[jp]!
            have s91b := S2.out.st2 R (by omega) P (jp + 1) (jp) (by omega) (by omega) dj[jp]! dj[jp + 1]!
            have n91a : (enc dj[jp + 1]!).length = k := R.hk _
            have n91b : (enc dj[jp]!).length = k := R.hk _
            generalize enc dj[jp + 1]! = cI91 at S3 l91a s91b n91a
            generalize enc dj[jp]! = cJ91 at S3 l91b s91a s91b n91b
            clear S2
            go_wp2_with fail
            go_big_region_o
            clear l91a l91b s91a s91b
            generalize (w2.drew.setCells blk (off + (jp + 1) * k) cJ91).setCells blk (off + (jp) * k) cI91 = w3 at S3 ⊢
            all_goals go_wp2
            go_roundg jp
            case measure => omega
            case rel => exact ⟨jp, swp dj (jp + 1) jp, by simp, by omega, by omega, Nat.le_refl _, by rw [size_swp]; exact hsj, S3, HN⟩
          | false =>
            have HN := OUT.out (Or.inr (by simp only [Nat.add_sub_cancel]; exact hlv))
            have ea90 : ((jp : Int) + 1).toNat = jp + 1 := by omega
            have pa90 : (0 : Int) ≤ (jp : Int) + 1 := by omega
            have ba90 : (jp : Int) + 1 < (sz : Int) := by omega
            have ra90 : IntKind.i64.wrap ((jp : Int) + 1) = (jp : Int) + 1 := by rw [IntKind.wrap_i64]; omega
            have ec90 : ((jp : Int)).toNat = jp := by omega
            have pc90 : (0 : Int) ≤ (jp : Int) := by omega
            have bc90 : (jp : Int) < (sz : Int) := by omega
            have rc90 : IntKind.i64.wrap ((jp : Int)) = (jp : Int) := by rw [IntKind.wrap_i64]; omega
            obtain ⟨x90, hx90⟩ : ∃ x, x = dj[jp + 1]! := ⟨_, rfl⟩
            obtain ⟨y90, hy90⟩ : ∃ x, x = dj[jp]! := ⟨_, rfl⟩
            have l90a := S1.out.ld R (by omega) P (jp + 1) (by omega)
            have l90b := S1.out.ld R (by omega) P (jp) (by omega)
            rw [← hx90] at l90a
            rw [← hy90] at l90b
            have hc90 := S1.out.cmp HC.out (by omega) x90 y90
            have hv90 : ¬ cf x90 y90 < 0 := by rw [hx90, hy90]; exact of_decide_eq_false hlv
            have hd90 : decide (cf x90 y90 < 0) = false := decide_eq_false hv90
            clear hx90 hy90
            go_wp2_with fail
            go_quiet_grown (first | (go_at_fn g; refine Calls.grown_of (hc90 _ _)))
            have S2 : Aside (SWK enc k w0 blk off dj (grow (wr.drewN nq) osq)) := S1.out.grown nq osq
            clear l90a l90b hc90 S1
            generalize grow (wr.drewN nq) osq = w2 at S2 ⊢
            clear nq osq ea90 pa90 ba90 ra90 ec90 pc90 bc90 rc90
            clear hlv HI OUT
            go_wp2
            go_roundg (b - (i + 1))
            case measure => omega
            case rel => exact ⟨i + 1, dj, by go_num, by omega, by omega, by omega, hsj, S2, HN⟩
        · have hjaz : decide ((j : Int) > (a : Int)) = false := decide_eq_false (by omega)
          have hjaz' : ¬ (a : Int) < (j : Int) := by omega
          have S2 : Aside (SWK enc k w0 blk off dj wr.drew) := S1.out.drew
          have HN := OUT.out (Or.inl (by omega))
          clear S1 OUT HI
          go_wp2_with fail
          go_big_region_o
          all_goals go_wp2
          go_roundg (b - (i + 1))
          case measure => omega
          case rel => exact ⟨i + 1, dj, by go_num, by omega, by omega, by omega, hsj, S2, HN⟩
    · have hltz : ¬ (i : Int) < (b : Int) := by omega
      go_wp2
      go_end0
      exact ⟨rfl, by unfold Sort.insertionSort; rw [← HO.out, insOuter_stop _ _ _ _ _ hlt]; exact S1.out⟩
end Go.Proofs.YtaggohobdjidjaaGreatDoor

import Derived.Test.YtaggohobdjidjaaGreatDoorJM
import Derived.Test.YtaggohobdjidjaaGreatDoorJNam

/- LabelNames: the row and its card. -/
namespace Go.Proofs.YtaggohobdjidjaaGreatDoor.RowNam
open Go.ChangeShapes Go.WideShapes Go.ChangeAt Go.RowKit Go.Sort

set_option maxRecDepth 20000 in
theorem contract (H : Type) (enc : TypeId × Value → H) (W : World) (base : Nat) (args : Array Value) (ds gs : List (DataW H)) (before : List MemPlace)
    (vt : List TypeId) (hz : (DataW.weightsEach Tryz.prog (Tryz.f9.params.toList ++ vt) (ds ++ gs)).all (· ≤ reachBytes) = true)
    (hval : ∀ (j : Nat) t v, Tryz.f9.params[j]? = some t → args[j]? = some v → Value.okWide Tryz.prog W .any base t v)
    (hW : DataW.Whole enc Tryz.prog Tryz.f9.params.toList Rows.labelNamesSpec.vars false W args.toList ds gs before) (hG : Gw W) :
    Calls Tryz.prog 9 args W fun e W' => ∃ v, e = .returned v ∧ Rows.labelNamesSpec.post enc Tryz.prog Tryz.f9 false true false false W args v W' := by
  have hW' := hW
  obtain ⟨p, q, hA0, hV, rfl, hfz, hnd⟩ := hW
  have hA : DataW.TrodAll enc Tryz.prog W 0 (fun _ => true) true Tryz.f9.params.toList args.toList ds p := hA0
  rw [Tryz.params9] at hA hval hz
  obtain ⟨v0, vs0, d0, ds0, p0, q0, hargs, rfl, rfl, h0, r0⟩ := trodAll_cons hA
  obtain ⟨v1, vs1, d1, ds1, p1, q1, rfl, rfl, rfl, h1, r1⟩ := trodAll_cons r0
  obtain ⟨v2, vs2, d2, ds2, p2, q2, rfl, rfl, rfl, h2, r2⟩ := trodAll_cons r1
  obtain ⟨rfl, rfl, rfl⟩ := trodAll_nil r2
  obtain rfl : args = #[v0, v1, v2] := by cases args; simp_all
  obtain ⟨rfl, rfl⟩ := trodVars_none hV
  have hv0 : Value.okWide Tryz.prog W .any base 35 v0 := hval 0 35 v0 rfl rfl
  have hv1 : Value.okWide Tryz.prog W .any base 5 v1 := hval 1 5 v1 rfl rfl
  have hv2 : Value.okWide Tryz.prog W .any base 36 v2 := hval 2 36 v2 rfl rfl
  have z0 : Light 35 d0 := light_arg hz (j := 0) rfl rfl
  obtain ⟨q0, n0, cap0, l0, rfl, hn0, hnc0, hcm0, hc0, hB0, hL0⟩ := open_map hv0 h0 z0
  obtain ⟨n1, rfl, hlo1, hhi1⟩ := open_u8 hv1 h1
  have z2 : Light 36 d2 := light_arg hz (j := 2) rfl rfl
  obtain ⟨q2, n2, cap2, l2, rfl, hn2, hnc2, hcm2, hc2, hz2, hL2⟩ := open_strs hv2 h2 z2
  refine (names_law q0 n0 cap0 l0 n1 q2 n2 cap2 l2 W hL0 hn0 hB0 hlo1 hhi1 hL2 hn2 (Nat.le_trans hnc2 hcm2) hG).mono fun e W' ⟨he, hb⟩ => ?_
  subst he
  exact ⟨_, rfl, post_true (tb := 4) (by kernel_rfl) hW' rfl rfl (by kernel_rfl) (by kernel_rfl) Tryz.underlying4 hb⟩

set_option maxRecDepth 100000 in
theorem lifted (os : Os) (started : os.Started) (H : Type) (enc : TypeId × Value → H) (F : Stop.Interp) :
    ReturnsInHanded {} Tryz.checked os 9 .any ((OpenSpec.ofChange Rows.labelNamesSpec).preRow enc Tryz.prog Tryz.f9 Rows.labelNamesRow.domain false Rows.labelNamesRow.laid) (((OpenSpec.ofChange Rows.labelNamesSpec).at F).post enc Tryz.prog Tryz.f9 false true false false) := by
  have hx : ∃ places, DataW.whole enc Tryz.prog ((World.laidAll Tryz.prog os laidL).forCall (fun _ _ => 0) ⟨#[], #[.agg #[.slice none 0 0], .int .u8 0, .slice none 0 0], []⟩).memory Tryz.f9.params.toList Rows.labelNamesSpec.vars false #[Value.agg #[.slice none 0 0], .int .u8 0, .slice none 0 0].toList 8 = some ([.agg [.nil], .lit (.int .u8 0), .nil], [], places) := ⟨[], by kernel_rfl⟩
  obtain ⟨places, hx⟩ := hx
  refine returnsInHanded_of_row (C := Tryz.checked) (s := OpenSpec.ofChange Rows.labelNamesSpec) own started (by kernel_rfl) Tryz.func9
    (witness_laid (enc := enc) #[.agg #[.slice none 0 0], .int .u8 0, .slice none 0 0] (by kernel_rfl)
      (OpenSpec.preRow_of_cond 8 hx (by kernel_rfl) (fun k hk => by cases hk) (by kernel_rfl) (wit_met os _))) ?_
  intro W base args ds gs before hval hW _ _ hz hL hs _
  exact contract H enc W base args ds gs before _ hz hval hW (gw_of_row hL hs)

theorem said : Rows.LabelNamesSaid :=
  OpenClaim.holds_of_cond 9 Tryz.f9 rfl rfl rfl rfl rfl rfl rfl ⟨rfl, rfl, rfl, rfl, rfl⟩ rfl rfl rfl rfl rfl (by kernel_rfl) Tryz.func9 (by kernel_rfl)
    (of_decide_eq_true (by kernel_rfl)) (by unfold Func.isWrapper; first | (rw [if_pos (by decide +kernel)]; kernel_rfl) | (rw [if_neg (by decide +kernel)]; exact ⟨rfl, rfl⟩))
    (fun os started H enc _ F => by rw [OpenClaim.pre_eq_preRow]; exact lifted os started H enc F)

theorem plain (f : FuncId) (fn : Func) (hf : Tryz.pinned.checked.prog.funcNamed "planisphere/planispherelaw43.LabelNames" = some f) (hfn : Tryz.pinned.checked.prog.funcs[f]? = some fn) :
    true = Tryz.pinned.checked.prog.looks [] ∧ ∀ (j : Nat) t, fn.params[j]? = some t → Tryz.pinned.checked.prog.wantsStandIn t = false := by
  obtain rfl : f = 9 := Option.some.inj ((show Tryz.prog.funcNamed "planisphere/planispherelaw43.LabelNames" = some 9 by kernel_rfl).symm.trans hf) |>.symm
  obtain rfl : fn = Tryz.f9 := (Option.some.inj (Tryz.func9.symm.trans hfn)).symm
  refine ⟨by kernel_rfl, fun j t ht => ?_⟩
  have hall : (Tryz.f9.params.toList.all fun u => !Tryz.prog.wantsStandIn u) = true := by kernel_rfl
  have := List.all_eq_true.1 hall t (by simpa using Array.mem_of_getElem? ht)
  exact (show Tryz.prog.wantsStandIn t = false by simpa using this)

/-- The card. -/
theorem card : Rows.LabelNamesCardSaid :=
  Claim7.holds_tied_plain_at .later [] _ _ _ _ said (fun _ h => by cases h) (by kernel_rfl) (fun _ h => by cases h) labelNames_row_tie rfl ⟨rfl, rfl⟩ (by kernel_rfl) rfl plain (by kernel_rfl)
end Go.Proofs.YtaggohobdjidjaaGreatDoor.RowNam

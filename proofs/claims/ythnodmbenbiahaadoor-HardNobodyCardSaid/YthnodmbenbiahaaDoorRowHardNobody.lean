/- The law HardNobody: its row and its tied card. -/
import Derived.Test.YthnodmbenbiahaaDoorRowTabs
import Derived.Test.YthnodmbenbiahaaDoorHardNobody
namespace Go.Proofs.YthnodmbenbiahaaDoor
open Go.ChangeShapes Go.WideShapes Go.ChangeAt Go.RowKit
open Go.ChangeMaps (open_string shut_string)

set_option maxRecDepth 100000 in
theorem hardNobody_lifted (os : Os) (started : os.Started) (H : Type) (enc : TypeId × Value → H) :
    ReturnsInHanded {} Tryd.checked os 8 .any (fun w args => (Rows.hardNobodySpec.pre enc Tryd.prog Tryd.f8 Rows.hardNobodyRow.domain false w args ∧ laidMetH Tryd.prog Rows.hardNobodyRow.laid w) ∧ sizedMet enc Tryd.prog Tryd.f8 (OpenSpec.ofChange Rows.hardNobodySpec) false w args)
      (Rows.hardNobodySpec.post enc Tryd.prog Tryd.f8 false true false false) := by
  refine returnsInHanded_of_change_and (C := Tryd.checked) (X := fun w _ => laidMetH Tryd.prog Rows.hardNobodyRow.laid w) (fun _ _ _ hh h => h.of_heap hh) own started (by kernel_rfl) Tryd.func8
    (ChangeSpec.witness_shaped (enc := enc) (C := Tryd.checked) (os := os) (X := fun w _ => laidMetH Tryd.prog Rows.hardNobodyRow.laid w) false (World.laidAll Tryd.prog os Rows.hardNobodyRow.laid) #[.int .i64 0, .agg #[.int .u64 0, .int .i64 0, .int .u64 0]] 8 (World.laidAll_os _ _ _)
      (World.shaped_of_ZipB (by kernel_rfl) (by kernel_rfl)) (by kernel_rfl) (by kernel_rfl) (by kernel_rfl)
      (by rw [MakeChecks.laidMetH_plain _ _ _ (by kernel_rfl)]; exact laidMet_laidAll _ (by kernel_rfl) (by kernel_rfl))) ?_
  intro W base args ds gs before hval0 hW hc hsz0 hL _
  have hT : Tabs W := by
    have hL' : laidMetH Tryd.prog Rows.hardNobodyRow.laid W := hL
    rw [MakeChecks.laidMetH_plain _ _ _ (by kernel_rfl)] at hL'
    exact tabs_of hL' (by kernel_rfl) (by kernel_rfl)
  have hsz : (DataW.weightsEach Tryd.prog (Tryd.f8.params.toList ++ Rows.hardNobodySpec.plain.varTypes Tryd.prog) (ds ++ gs)).all (· ≤ reachBytes) = true := hsz0
  have hval : ∀ (j : Nat) t v, Tryd.f8.params[j]? = some t → args[j]? = some v → Value.okWide Tryd.prog W .any base t v := hval0
  have hW' := hW
  obtain ⟨p, q, hA0, hV, rfl, hfz, hnd⟩ := hW
  have hA : DataW.TrodAll enc Tryd.prog W 0 (fun _ => true) true Tryd.f8.params.toList args.toList ds p := hA0
  rw [Tryd.params8] at hA hval hsz
  obtain ⟨v0, v1, d0, d1, p0, p1, rfl, rfl, rfl, h0, h1⟩ := trodAll_two hA
  obtain ⟨rfl, rfl⟩ := trodVars_none hV
  have lt0 := trod_below h0
  have lt1 := trod_below h1
  have k0 := h0
  have k1 := h1
  obtain ⟨g, rfl, rfl, rfl, wg⟩ := open_int Tryd.underlying3 (hval 0 3 v0 rfl rfl) h0
  simp only [Lit.wf, Bool.and_eq_true, decide_eq_true_eq] at wg
  have hv1 := hval 1 64 v1 rfl rfl
  simp only [Value.okWide, Tryd.underlying64] at hv1
  obtain ⟨cs, rfl, hcs, _⟩ := hv1
  rw [cells_hard] at hcs
  obtain ⟨f1, hf1⟩ := h1
  obtain ⟨x, hfit, hx⟩ := hard_cells (by simpa [Value.cells] using hcs) hf1 (sized_at hsz 1 64 rfl rfl)
  have hx' : cs = #[.int .u64 x.term, .int .i64 x.vote, .int .u64 x.commit] := by
    apply Array.toList_inj.1
    simpa [Value.cells] using hx
  subst hx'
  refine (hardNobody_walk W hT g wg.1 wg.2 x hfit).mono fun e W' ⟨he, bel⟩ => ?_
  subst he
  exact ⟨_, rfl, _, _, _, [], _, [], hW', trodAll_mk1 (shut_bool Tryd.underlying4 _), trodAll_mk2 (Below.trod laidOut (by kernel_rfl) (of_decide_eq_true (by kernel_rfl)) k0 bel lt0) (Below.trod laidOut (by kernel_rfl) (of_decide_eq_true (by kernel_rfl)) k1 bel lt1), rfl, bel.frame _, fun h => by cases h⟩
theorem hardNobody_said : Rows.HardNobodySaid :=
  OpenClaim.holds_of_wide 8 Tryd.f8 rfl rfl rfl rfl rfl rfl rfl ⟨rfl, rfl, rfl, rfl, rfl⟩ rfl rfl rfl rfl rfl (by kernel_rfl) Tryd.func8 (by kernel_rfl)
    (of_decide_eq_true (by kernel_rfl)) (by unfold Func.isWrapper; first | (rw [if_pos (by decide +kernel)]; kernel_rfl) | (rw [if_neg (by decide +kernel)]; exact ⟨rfl, rfl⟩))
    (fun os started H enc _ => hardNobody_lifted os started H enc)
set_option maxRecDepth 100000 in
theorem hardNobody_holds : Rows.HardNobodyCardSaid :=
  Claim7.holds_tied_plain_at .later [] [.data, .data, .data, .data, .data, .pinned] true (true, "83738085767691aa91aba8c279b03baf897617bceb54b1a8bdaef6a7d7062b50") false hardNobody_said (fun _ h => by cases h) (by kernel_rfl) (fun _ h => by cases h) hardNobody_row_tie rfl ⟨rfl, rfl⟩ (by kernel_rfl) rfl
    (fun f fn hf hfn => by
      obtain rfl : f = 8 := Option.some.inj ((show Tryd.prog.funcNamed "gudgeon/gudgeonlaw07.HardNobody" = some 8 by kernel_rfl).symm.trans hf) |>.symm
      obtain rfl : fn = Tryd.f8 := (Option.some.inj (Tryd.func8.symm.trans hfn)).symm
      exact ⟨by kernel_rfl, fun j t ht => by
        rw [Tryd.params8] at ht
        have hm : t ∈ [3, 64] := by simpa using Array.mem_of_getElem? ht
        have hall : ([3, 64].all fun u => !Tryd.prog.wantsStandIn u) = true := by kernel_rfl
        exact (show Tryd.prog.wantsStandIn t = false by simpa using List.all_eq_true.1 hall t hm)⟩)
    (by kernel_rfl)
#print axioms hardNobody_holds
end Go.Proofs.YthnodmbenbiahaaDoor

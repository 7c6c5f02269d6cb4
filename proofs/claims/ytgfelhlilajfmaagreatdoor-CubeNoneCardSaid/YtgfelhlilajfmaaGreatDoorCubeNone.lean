/-
  PROVED: 'Rows.CubeNoneCardSaid': the law CubeNone of chapter 16 returns true at every input, and what it is handed reads behind the call as it read before. Condition: the row's own (the library's two tables lie as its text lays them; the card ties them). The call is run by the canonical evaluator of the texts ..CeA to ..CeL, by the kernel, with the argument unknown.
-/
import Derived.Test.YtgfelhlilajfmaaGreatDoorCubeLives
import Derived.Test.YtgfelhlilajfmaaGreatDoorCubeFrame
import Derived.Test.YtgfelhlilajfmaaGreatDoorTie
import Derived.Test.YtgfelhlilajfmaaGreatDoorCards
import Derived.SevenTiedAt
namespace Go.Proofs.YtgfelhlilajfmaaGreatDoor.cubeNone
set_option linter.unusedVariables false
set_option linter.unusedSimpArgs false
set_option linter.unusedSectionVars false
set_option linter.unnecessarySimpa false
open Go.ChangeShapes Go.WideShapes Go.ChangeAt Go.RowKit

theorem hasBody : Tryz.f5.body.isSome = true := by kernel_rfl
set_option maxRecDepth 100000 in
/-- The run: whatever the argument is. -/
theorem run : (@CE.ccall gl0 Tryz.prog (cfgL gl0) 400 0 (.fn 5) [.any] []).allB CE.isTrue = true := by kernel_rfl

set_option maxRecDepth 100000 in
theorem walk (v : Value) (w : World) : Calls Tryz.prog 5 #[v] w fun e w' => e = .returned (.bool true) ∧ Below w.heap.size w w' := by
  obtain ⟨c, hc⟩ := Option.isSome_iff_exists.1 hasBody
  exact @CE.calls_true gl0 Tryz.prog follows (@namesOk gl0) (cfgL gl0) w (gl0Ok w) (cfgLOk gl0 w) 400 5 Tryz.f5 c Tryz.func5 hc #[v] [.any] ⟨@CE.VR.any gl0 _ v, trivial⟩ run

set_option maxRecDepth 100000 in
theorem lifted (os : Os) (started : os.Started) (H : Type) (enc : TypeId × Value → H) :
    ReturnsInHanded {} Tryz.checked os 5 .any (fun w args => (Rows.cubeNoneSpec.pre enc Tryz.prog Tryz.f5 Rows.cubeNoneRow.domain false w args ∧ laidMetH Tryz.prog Rows.cubeNoneRow.laid w) ∧ sizedMet enc Tryz.prog Tryz.f5 (OpenSpec.ofChange Rows.cubeNoneSpec) false w args)
      (Rows.cubeNoneSpec.post enc Tryz.prog Tryz.f5 false true false false) := by
  refine returns_shaped (C := Tryz.checked) (X := fun w _ => laidMetH Tryz.prog Rows.cubeNoneRow.laid w) (fun _ _ _ hh h => h.of_heap hh) own started (by kernel_rfl) Tryz.func5
    (ChangeSpec.witness_shaped (enc := enc) (C := Tryz.checked) (os := os) (X := fun w _ => laidMetH Tryz.prog Rows.cubeNoneRow.laid w) false (World.laidAll Tryz.prog os Rows.cubeNoneRow.laid) #[.slice none 0 0] 8 (World.laidAll_os _ _ _)
      (World.shaped_of_ZipB (by kernel_rfl) (by kernel_rfl)) (by kernel_rfl) (by kernel_rfl) (by kernel_rfl)
      (by rw [MakeChecks.laidMetH_plain _ _ _ (by kernel_rfl)]; exact laidMet_laidAll _ (by kernel_rfl) (by kernel_rfl))) ?_
  intro W base args ds gs before hval0 hW hL hsh
  have hW' := hW
  obtain ⟨p, q, hA0, hV, rfl, hfz, hnd⟩ := hW
  have hA : DataW.TrodAll enc Tryz.prog W 0 (fun _ => true) true Tryz.f5.params.toList args.toList ds p := hA0
  rw [Tryz.params5] at hA
  obtain ⟨v0, vs0, d0, ds0, p0, q0, hargs, rfl, rfl, h0, r0⟩ := trodAll_cons hA
  obtain ⟨rfl, rfl, rfl⟩ := trodAll_nil r0
  obtain rfl : args = #[v0] := by cases args; simp_all
  obtain ⟨rfl, rfl⟩ := trodVars_none hV
  have lt0 : ∀ x ∈ p0, x.block < W.heap.size := by obtain ⟨m, hm⟩ := h0; exact DataW.trod_lt m _ _ _ hm
  clear hA0 hval0
  refine (walk v0 W).mono fun e W' ⟨he, bel⟩ => ?_
  subst he
  exact ⟨_, rfl, _, _, _, [], _, [], hW', trodAll_mk1 (shut_bool Tryz.underlying4 _), (trodAll_cons_mk (Below.trod laidOut (by kernel_rfl) (of_decide_eq_true (by kernel_rfl)) h0 bel lt0) trodAll_mk0), rfl, bel.frame _, fun h => by cases h⟩

theorem holds : Rows.CubeNoneSaid :=
  OpenClaim.holds_of_wide 5 Tryz.f5 rfl rfl rfl rfl rfl rfl rfl ⟨rfl, rfl, rfl, rfl, rfl⟩ rfl rfl rfl rfl rfl (by kernel_rfl) Tryz.func5 (by kernel_rfl)
    (of_decide_eq_true (by kernel_rfl)) (by unfold Func.isWrapper; first | (rw [if_pos (by decide +kernel)]; kernel_rfl) | (rw [if_neg (by decide +kernel)]; exact ⟨rfl, rfl⟩))
    (fun os started H enc _ => lifted os started H enc)

theorem proved : Rows.CubeNoneCardSaid :=
  Claim7.holds_tied_plain_at .later [] [.data, .pinned] true (true, "9c2f12b1ca7909e5a6322e1e209e9b40ab011f8d205b586b06978ec424d4cc7e") true holds (fun _ h => by cases h) (by kernel_rfl) (fun _ h => by cases h) cubeNone_row_tie rfl ⟨rfl, rfl⟩ (by kernel_rfl) rfl
    (fun f fn hf hfn => by
      obtain rfl : f = 5 := Option.some.inj ((show Tryz.prog.funcNamed "talus/taluslaw16.CubeNone" = some 5 by kernel_rfl).symm.trans hf) |>.symm
      obtain rfl : fn = Tryz.f5 := (Option.some.inj (Tryz.func5.symm.trans hfn)).symm
      exact ⟨by kernel_rfl, fun j t ht => by
        rw [Tryz.params5] at ht
        have hm : t ∈ [26] := by simpa using Array.mem_of_getElem? ht
        have hall : ([26].all fun u => !Tryz.prog.wantsStandIn u) = true := by kernel_rfl
        exact (show Tryz.prog.wantsStandIn t = false by simpa using List.all_eq_true.1 hall t hm)⟩)
    (by kernel_rfl)
#print axioms proved
end Go.Proofs.YtgfelhlilajfmaaGreatDoor.cubeNone

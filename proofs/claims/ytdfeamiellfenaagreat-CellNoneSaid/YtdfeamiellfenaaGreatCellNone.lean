/-
  PROVED: 'Rows.CellNoneSaid': the law CellNone of chapter 15 returns true at every input, and what it is handed reads behind the call as it read before. No condition. The call is run by the canonical evaluator of the texts ..CeA to ..CeJ (sound for every start, every order that a region may draw, every capacity that append may choose), by the kernel, with the argument unknown.
-/
import Derived.Test.YtdfeamiellfenaaGreatRows
import Derived.WalkKit
import Derived.ProofKit
import Derived.OpenShut
import Derived.ShutString
import Derived.KernelRfl
import Derived.ChangeOld
import Derived.Carry
import Derived.Below
import Derived.Test.YtdfeamiellfenaaGreatCeK
namespace Go.Proofs.YtdfeamiellfenaaGreat.cellNone
open Go.ChangeShapes Go.WideShapes Go.ChangeAt Go.RowKit
open Go.ChangeMaps (open_string shut_string)
set_option linter.unusedVariables false      -- a walk need not use every 'w<i>' (that an integer argument fits its kind)

theorem own : ownKnob Tryz.prog.godebug = none := by kernel_rfl

theorem laidOut : laidOutB Tryz.prog = true := by kernel_rfl
theorem follows : Tryz.prog.follows .mixedOrders = true := by kernel_rfl
theorem names : (Tryz.prog.funcs.toList.all fun fn => fn.name != "runtime.NumGoroutine") = true := by kernel_rfl
theorem hasBody : Tryz.f5.body.isSome = true := by kernel_rfl
def cfg : CE.Cfg := CE.Cfg.of [(150, CE.add64C)]
theorem addLaw : CE.ExtLaw Tryz.prog 150 CE.add64C :=
  CE.extLaw_of (e := add64Entry) Tryz.func150 (by kernel_rfl) (by kernel_rfl) (by kernel_rfl) (by kernel_rfl) CE.add64_fit
theorem cfgOk (w : World) : CE.CfgOk Tryz.prog w cfg := CE.CfgOk.of (fun p hp => by
  simp only [List.mem_singleton] at hp
  subst hp
  exact addLaw) w
set_option maxRecDepth 100000 in
/-- The run: whatever the argument is. -/
theorem run : (CE.ccall Tryz.prog cfg 400 0 5 [.any] []).allB CE.isTrue = true := by kernel_rfl

theorem walk (v : Value) (w : World) : Calls Tryz.prog 5 #[v] w fun e w' => e = .returned (.bool true) ∧ Below w.heap.size w w' := by
  obtain ⟨c, hc⟩ := Option.isSome_iff_exists.1 hasBody
  exact CE.calls_true follows (CE.namesOk_of names) cfg (cfgOk w) Tryz.func5 hc (args := [.any]) ⟨.any _, trivial⟩ run

/-! ### THE ROW's STEP: WRITTEN OUT: LEAVE IT -/
set_option maxRecDepth 100000 in
theorem lifted (os : Os) (started : os.Started) (H : Type) (enc : TypeId × Value → H) :
    ReturnsInHanded {} Tryz.checked os 5 .any (Rows.cellNoneSpec.pre6 enc Tryz.prog Tryz.f5 Rows.cellNoneRow.domain false) (Rows.cellNoneSpec.post enc Tryz.prog Tryz.f5 false true false false) := by
  refine returnsInHanded_of_change (C := Tryz.checked) own started (by kernel_rfl) Tryz.func5
    (ChangeSpec.witness6 (enc := enc) (C := Tryz.checked) false ⟨#[], #[.int .i64 0], []⟩ 8 (by kernel_rfl) (by kernel_rfl) (by kernel_rfl) (by kernel_rfl)) ?_
  intro W base args ds gs before hval0 hW hcnd _
  have hval : ∀ (j : Nat) t v, Tryz.f5.params[j]? = some t → args[j]? = some v → Value.okWide Tryz.prog W .any base t v := hval0
  have hW' := hW
  obtain ⟨p, q, hA0, hV, rfl, hfz, hnd⟩ := hW
  have hA : DataW.TrodAll enc Tryz.prog W 0 (fun _ => true) true Tryz.f5.params.toList args.toList ds p := hA0
  rw [Tryz.params5] at hA hval
  obtain ⟨v0, vs0, d0, ds0, p0, q0, hargs, rfl, rfl, h0, r0⟩ := trodAll_cons hA
  obtain ⟨rfl, rfl, rfl⟩ := trodAll_nil r0
  obtain rfl : args = #[v0] := by cases args; simp_all
  obtain ⟨rfl, rfl⟩ := trodVars_none hV
  have k0 := h0
  have lt0 : ∀ x ∈ p0, x.block < W.heap.size := by obtain ⟨m, hm⟩ := k0; exact DataW.trod_lt m _ _ _ hm
  clear hA0 hval0
  refine (walk v0 W).mono fun e W' ⟨he, bel⟩ => ?_
  subst he
  exact ⟨_, rfl, _, _, _, [], _, [], hW', trodAll_mk1 (shut_bool Tryz.underlying4 _), (trodAll_cons_mk (Below.trod laidOut (by kernel_rfl) (of_decide_eq_true (by kernel_rfl)) k0 bel lt0) trodAll_mk0), rfl, bel.frame _, fun h => by cases h⟩

theorem over : Rows.cellNoneRow.holds Tryz.pinned (OpenSpec.ofChange Rows.cellNoneSpec) :=
  OpenClaim.holds_of_wide 5 Tryz.f5 rfl rfl rfl rfl rfl rfl rfl ⟨rfl, rfl, rfl, rfl, rfl⟩ rfl rfl rfl rfl rfl (by kernel_rfl) Tryz.func5 (by kernel_rfl)
    (of_decide_eq_true (by kernel_rfl)) (by unfold Func.isWrapper; first | (rw [if_pos (by decide +kernel)]; kernel_rfl) | (rw [if_neg (by decide +kernel)]; exact ⟨rfl, rfl⟩))
    (fun os started H enc _ => lifted os started H enc)

theorem proved : Rows.CellNoneSaid :=
  over
#print axioms proved
end Go.Proofs.YtdfeamiellfenaaGreat.cellNone

/-
  Chapter 16's examples: 'lives' comes to true, whatever map order, region order and capacity: a run by the canonical evaluator.
-/
import Derived.Test.YtgfelhlilajfmaaGreatDoorProg
import Derived.Test.YtgfelhlilajfmaaGreatDoorCeL
import Derived.KernelRfl
namespace Go.Proofs.YtgfelhlilajfmaaGreatDoor
set_option linter.unusedVariables false
set_option linter.unusedSimpArgs false
set_option linter.unusedSectionVars false
set_option linter.unnecessarySimpa false
open Go.RowKit (Below)

theorem follows : Tryz.prog.follows .mixedOrders = true := by kernel_rfl
theorem names : (Tryz.prog.funcs.toList.all fun fn => fn.name != "runtime.NumGoroutine") = true := by kernel_rfl
theorem namesOk [CE.Glob] : CE.NamesOk Tryz.prog := CE.namesOk_of names

section
variable [CE.Glob]
theorem fromLaw : CE.ExtLaw Tryz.prog 116 CE.fromBitsC := CE.extLaw_of (e := Extern.MathFloatBits.float64frombits) Tryz.func116 (by kernel_rfl) (by kernel_rfl) (by kernel_rfl) (by kernel_rfl) CE.fromBits_fit
theorem cmpLaw : CE.ExtLaw Tryz.prog 117 CE.cmpStrC := CE.extLaw_of (e := Extern.BytealgCompare.compare) Tryz.func117 (by kernel_rfl) (by kernel_rfl) (by kernel_rfl) (by kernel_rfl) CE.cmpStr_fit
theorem idxByteLaw : CE.ExtLaw Tryz.prog 154 CE.indexByteC := CE.extLaw_of (e := Extern.BytealgIndexByte.indexByte) Tryz.func154 (by kernel_rfl) (by kernel_rfl) (by kernel_rfl) (by kernel_rfl) CE.indexByte_fit
theorem countLaw : CE.ExtLaw Tryz.prog 146 CE.countC := CE.extLaw_of (e := Extern.BytealgCount.count) Tryz.func146 (by kernel_rfl) (by kernel_rfl) (by kernel_rfl) (by kernel_rfl) CE.count_fit
/-- The functions without a body that the examples meet. -/
def exts : List (FuncId × (List CE.CV → Option CE.CV)) := [(154, CE.indexByteC), (117, CE.cmpStrC), (146, CE.countC), (116, CE.fromBitsC)]
theorem extsOk : ∀ p ∈ exts, CE.ExtLaw Tryz.prog p.1 p.2 := by
  intro p hp
  simp only [exts, List.mem_cons, List.mem_nil_iff, or_false] at hp
  rcases hp with rfl | rfl | rfl | rfl
  · exact idxByteLaw
  · exact cmpLaw
  · exact countLaw
  · exact fromLaw
/-- cube.at ranges over a function. -/
def cfg : CE.Cfg := CE.Cfg.of exts [29]
theorem cfgOk (w : World) : CE.CfgOk Tryz.prog w cfg := CE.CfgOk.of extsOk w
end

/-- Nothing is known. -/
abbrev gl0 : CE.Glob := ⟨fun _ => .any, fun _ => 0, fun _ _ => none, fun _ _ => none, fun _ _ _ h => (by cases h), fun _ _ _ h => (by cases h), fun _ => ByteArray.empty, fun _ _ => none, fun _ _ => none, fun _ _ _ h => (by cases h), fun _ _ _ h => (by cases h)⟩
theorem gl0Ok (w : World) : @CE.GlOk gl0 w := fun _ => @CE.VR.any gl0 _ _

/-- The runs of a table. -/
noncomputable def runs (G : CE.Glob) (cfg : CE.Cfg) (n : Nat) (f : FuncId) (t : CE.Tbl) : Bool := t.all fun p => (CE.reals p.1).isSome && (CE.real p.2).isSome && (CE.ccall Tryz.prog cfg n 0 (.fn f) p.1 []).allB (CE.isVal p.2)

def nameTbl : CE.Tbl := [([.str [97]], .bool true), ([.str [98]], .bool true), ([.str [114]], .bool true), ([.str [116]], .bool true)]
set_option maxRecDepth 100000 in
theorem runName : runs gl0 (@cfg gl0) 400 50 nameTbl = true := by kernel_rfl
theorem body50 : Tryz.f50.body.isSome = true := by kernel_rfl
set_option maxRecDepth 100000 in
theorem nameTells (w : World) : CE.Tells Tryz.prog 50 nameTbl w :=
  @CE.tells_of_runs gl0 Tryz.prog follows (@namesOk gl0) _ w (gl0Ok w) (@cfgOk gl0 w) 400 50 Tryz.f50 Tryz.func50 body50 nameTbl runName

def goodTbl : CE.Tbl := [([.agg [.int .i64 1, .int .i64 1, .str []]], .bool true), ([.agg [.int .i64 3, .int .i64 0, .str [120]]], .bool true), ([.agg [.int .i64 3, .int .i64 0, .str [121]]], .bool true)]
set_option maxRecDepth 100000 in
theorem runGood : runs gl0 (@cfg gl0) 400 73 goodTbl = true := by kernel_rfl
theorem body73 : Tryz.f73.body.isSome = true := by kernel_rfl
set_option maxRecDepth 100000 in
theorem goodTells (w : World) : CE.Tells Tryz.prog 73 goodTbl w :=
  @CE.tells_of_runs gl0 Tryz.prog follows (@namesOk gl0) _ w (gl0Ok w) (@cfgOk gl0 w) 400 73 Tryz.f73 Tryz.func73 body73 goodTbl runGood

/-- What is known; what of a call is kept. -/
def cfgN : CE.Cfg := { ((@cfg gl0).with 50 nameTbl).with 73 goodTbl with apart := fun f => [20, 21, 22, 27, 32, 7, 57, 36, 87, 70].contains f }
set_option maxRecDepth 100000 in
theorem cfgNOk (w : World) : @CE.CfgOk gl0 Tryz.prog w cfgN := by
  obtain ⟨c5, h5⟩ := Option.isSome_iff_exists.1 body50
  obtain ⟨c7, h7⟩ := Option.isSome_iff_exists.1 body73
  have h := @CE.CfgOk.with gl0 Tryz.prog (@namesOk gl0) _ w (@CE.CfgOk.with gl0 Tryz.prog (@namesOk gl0) _ w (@cfgOk gl0 w) 50 Tryz.f50 c5 Tryz.func50 h5 nameTbl fun w' _ => nameTells w') 73 Tryz.f73 c7 Tryz.func73 h7 goodTbl fun w' _ => goodTells w'
  obtain ⟨h1, h2⟩ := h
  exact @CE.CfgOk.mk gl0 Tryz.prog w cfgN h1 h2

def livesTbl : CE.Tbl := [([], .bool true)]
set_option maxRecDepth 100000 in
theorem runLives : runs gl0 cfgN 400 6 livesTbl = true := by kernel_rfl
theorem body6 : Tryz.f6.body.isSome = true := by kernel_rfl
set_option maxRecDepth 100000 in
/-- The examples are as the document says. -/
theorem livesTells (w : World) : CE.Tells Tryz.prog 6 livesTbl w :=
  @CE.tells_of_runs gl0 Tryz.prog follows (@namesOk gl0) _ w (gl0Ok w) (cfgNOk w) 400 6 Tryz.f6 Tryz.func6 body6 livesTbl runLives

/-- What is known with the examples. -/
def cfgL (G : CE.Glob) : CE.Cfg := (@cfg G).with 6 livesTbl
set_option maxRecDepth 100000 in
theorem cfgLOk (G : CE.Glob) (w : World) : @CE.CfgOk G Tryz.prog w (cfgL G) := by
  obtain ⟨c, hc⟩ := Option.isSome_iff_exists.1 body6
  exact @CE.CfgOk.with G Tryz.prog (@namesOk G) _ w (@cfgOk G w) 6 Tryz.f6 c Tryz.func6 hc livesTbl fun w' _ => livesTells w'

end Go.Proofs.YtgfelhlilajfmaaGreatDoor

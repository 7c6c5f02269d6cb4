/-
  Chapter 20's examples, part 1: which words are names, which are the language's: each a run by the canonical evaluator, whatever internal/bytealg.MaxLen holds.
-/
import Derived.Test.YtpfljhdfinbdcaaGreatDoorIndex
import Derived.KernelRfl
namespace Go.Proofs.YtpfljhdfinbdcaaGreatDoor
set_option linter.unusedVariables false
set_option linter.unusedSimpArgs false
set_option linter.unusedSectionVars false
set_option linter.unnecessarySimpa false
open Go.RowKit (Below)

theorem follows : Tryz.prog.follows .mixedOrders = true := by kernel_rfl
theorem names : (Tryz.prog.funcs.toList.all fun fn => fn.name != "runtime.NumGoroutine") = true := by kernel_rfl
theorem namesOk [CE.Glob] : CE.NamesOk Tryz.prog := CE.namesOk_of names

section
variable [CE.Glob]
theorem addLaw : CE.ExtLaw Tryz.prog 87 CE.add64C := CE.extLaw_of (e := add64Entry) Tryz.func87 (by kernel_rfl) (by kernel_rfl) (by kernel_rfl) (by kernel_rfl) CE.add64_fit
theorem subLaw : CE.ExtLaw Tryz.prog 88 CE.sub64C := CE.extLaw_of (e := CE.sub64Entry) Tryz.func88 (by kernel_rfl) (by kernel_rfl) (by kernel_rfl) (by kernel_rfl) CE.sub64_fit
theorem fromLaw : CE.ExtLaw Tryz.prog 129 CE.fromBitsC := CE.extLaw_of (e := Extern.MathFloatBits.float64frombits) Tryz.func129 (by kernel_rfl) (by kernel_rfl) (by kernel_rfl) (by kernel_rfl) CE.fromBits_fit
theorem toLaw : CE.ExtLaw Tryz.prog 140 CE.toBitsC := CE.extLaw_of (e := Extern.MathFloatBits.float64bits) Tryz.func140 (by kernel_rfl) (by kernel_rfl) (by kernel_rfl) (by kernel_rfl) CE.toBits_fit
theorem cmpLaw : CE.ExtLaw Tryz.prog 130 CE.cmpStrC := CE.extLaw_of (e := Extern.BytealgCompare.compare) Tryz.func130 (by kernel_rfl) (by kernel_rfl) (by kernel_rfl) (by kernel_rfl) CE.cmpStr_fit
theorem idxByteLaw : CE.ExtLaw Tryz.prog 154 CE.indexByteC := CE.extLaw_of (e := Extern.BytealgIndexByte.indexByte) Tryz.func154 (by kernel_rfl) (by kernel_rfl) (by kernel_rfl) (by kernel_rfl) CE.indexByte_fit
theorem countLaw : CE.ExtLaw Tryz.prog 163 CE.countC := CE.extLaw_of (e := Extern.BytealgCount.count) Tryz.func163 (by kernel_rfl) (by kernel_rfl) (by kernel_rfl) (by kernel_rfl) CE.count_fit
/-- The functions without a body that need no package variable. -/
def exts : List (FuncId × (List CE.CV → Option CE.CV)) := [(87, CE.add64C), (88, CE.sub64C), (129, CE.fromBitsC), (140, CE.toBitsC), (130, CE.cmpStrC), (154, CE.indexByteC), (163, CE.countC)]
theorem extsOk : ∀ p ∈ exts, CE.ExtLaw Tryz.prog p.1 p.2 := by
  intro p hp
  simp only [exts, List.mem_cons, List.mem_nil_iff, or_false] at hp
  rcases hp with rfl | rfl | rfl | rfl | rfl | rfl | rfl
  · exact addLaw
  · exact subLaw
  · exact fromLaw
  · exact toLaw
  · exact cmpLaw
  · exact idxByteLaw
  · exact countLaw
theorem body150 : Tryz.f150.body.isSome = true := by kernel_rfl
/-- syntax.read defers; internal/stringslite.Index is known. -/
def cfg : CE.Cfg := (CE.Cfg.of exts [29]).withF 150 CE.indexC
set_option maxRecDepth 100000 in
theorem cfgOk {w : World} (h : MaxOk w) : CE.CfgOk Tryz.prog w cfg := by
  obtain ⟨c, hc⟩ := Option.isSome_iff_exists.1 body150
  exact CE.CfgOk.withF (CE.CfgOk.of extsOk w) fun args v hk g hp w' rargs hw hargs =>
    CE.indexC_fit namesOk Tryz.func150 hc (fun w1 hb s sub hs => indexLaw (h.below hb) s sub hs) args v hk g hp w' rargs hw hargs
end

/-- Nothing is known. -/
abbrev gl0 : CE.Glob := ⟨fun _ => .any, fun _ => 0, fun _ _ => none, fun _ _ => none, fun _ _ _ h => (by cases h), fun _ _ _ h => (by cases h), fun _ => ByteArray.empty, fun _ _ => none, fun _ _ => none, fun _ _ _ h => (by cases h), fun _ _ _ h => (by cases h)⟩
theorem gl0Ok (w : World) : @CE.GlOk gl0 w := fun _ => @CE.VR.any gl0 _ _

/-- The runs of a table. -/
noncomputable def runs (G : CE.Glob) (cfg : CE.Cfg) (n : Nat) (f : FuncId) (t : CE.Tbl) : Bool := t.all fun p => (CE.reals p.1).isSome && (CE.real p.2).isSome && (CE.ccall Tryz.prog cfg n 0 f p.1 []).allB (CE.isVal p.2)

def wordTbl : CE.Tbl := [([.str [97]], .bool false), ([.str [98]], .bool false), ([.str [65, 78, 68]], .bool true), ([.str [79, 82]], .bool true)]
def nameTbl : CE.Tbl := [([.str [97]], .bool true), ([.str [98]], .bool true)]

set_option maxRecDepth 100000 in
theorem runWord : runs gl0 (@cfg gl0) 400 125 wordTbl = true := by kernel_rfl
set_option maxRecDepth 100000 in
theorem runName : runs gl0 (@cfg gl0) 400 126 nameTbl = true := by kernel_rfl
theorem body125 : Tryz.f125.body.isSome = true := by kernel_rfl
theorem body126 : Tryz.f126.body.isSome = true := by kernel_rfl

set_option maxRecDepth 100000 in
theorem wordTells {w : World} (h : MaxOk w) : CE.Tells Tryz.prog 125 wordTbl w :=
  @CE.tells_of_runs gl0 Tryz.prog follows (@namesOk gl0) _ w (gl0Ok w) (@cfgOk gl0 w h) 400 125 Tryz.f125 Tryz.func125 body125 wordTbl runWord
set_option maxRecDepth 100000 in
theorem nameTells {w : World} (h : MaxOk w) : CE.Tells Tryz.prog 126 nameTbl w :=
  @CE.tells_of_runs gl0 Tryz.prog follows (@namesOk gl0) _ w (gl0Ok w) (@cfgOk gl0 w h) 400 126 Tryz.f126 Tryz.func126 body126 nameTbl runName

end Go.Proofs.YtpfljhdfinbdcaaGreatDoor

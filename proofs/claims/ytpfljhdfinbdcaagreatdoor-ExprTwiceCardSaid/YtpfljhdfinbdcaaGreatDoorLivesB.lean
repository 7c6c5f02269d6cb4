/-
  Chapter 20's examples, part 2: what the three texts come to, and 'lives': true, whatever internal/bytealg.MaxLen holds.
-/
import Derived.Test.YtpfljhdfinbdcaaGreatDoorLivesA
namespace Go.Proofs.YtpfljhdfinbdcaaGreatDoor
set_option linter.unusedVariables false
set_option linter.unusedSimpArgs false
set_option linter.unusedSectionVars false
set_option linter.unnecessarySimpa false
open Go.RowKit (Below)

def cfgB : CE.Cfg := ((@cfg gl0).with 125 wordTbl).with 126 nameTbl

theorem cfgBOk {w : World} (h : MaxOk w) : @CE.CfgOk gl0 Tryz.prog w cfgB := by
  obtain ⟨c5, h5⟩ := Option.isSome_iff_exists.1 body125
  obtain ⟨c6, h6⟩ := Option.isSome_iff_exists.1 body126
  exact @CE.CfgOk.with gl0 Tryz.prog (@namesOk gl0) _ w (@CE.CfgOk.with gl0 Tryz.prog (@namesOk gl0) _ w (@cfgOk gl0 w h) 125 Tryz.f125 c5 Tryz.func125 h5 wordTbl fun w' hb => wordTells (h.below hb)) 126 Tryz.f126 c6 Tryz.func126 h6 nameTbl fun w' hb => nameTells (h.below hb)

def reckonTbl : CE.Tbl := [([.str [97, 32, 43, 32, 49], .agg [.int .i64 1, .int .i64 9223372036854775807, .str []]], .tup [.agg [.int .i64 0, .int .i64 0, .str []], .int .i64 15]),
  ([.str [49, 32, 47, 32, 48, 32, 61, 32, 49, 32, 79, 82, 32, 84, 82, 85, 69], .agg [.int .i64 0, .int .i64 0, .str []]], .tup [.agg [.int .i64 0, .int .i64 0, .str []], .int .i64 16]),
  ([.str [78, 85, 76, 76, 32, 61, 32, 49], .agg [.int .i64 0, .int .i64 0, .str []]], .tup [.agg [.int .i64 0, .int .i64 0, .str []], .int .i64 0])]
set_option maxRecDepth 100000 in
theorem runReckon1 : runs gl0 cfgB 400 16 (reckonTbl.take 1) = true := by kernel_rfl
set_option maxRecDepth 100000 in
theorem runReckon2 : runs gl0 cfgB 400 16 ((reckonTbl.drop 1).take 1) = true := by kernel_rfl
set_option maxRecDepth 100000 in
theorem runReckon3 : runs gl0 cfgB 400 16 (reckonTbl.drop 2) = true := by kernel_rfl
theorem body16 : Tryz.f16.body.isSome = true := by kernel_rfl
theorem reckonTells {w : World} (h : MaxOk w) : CE.Tells Tryz.prog 16 reckonTbl w := by
  have key : ∀ t, runs gl0 cfgB 400 16 t = true → CE.Tells Tryz.prog 16 t w := fun t hrun =>
    @CE.tells_of_runs gl0 Tryz.prog follows (@namesOk gl0) _ w (gl0Ok w) (cfgBOk h) 400 16 Tryz.f16 Tryz.func16 body16 t hrun
  intro p hp
  simp only [reckonTbl, List.mem_cons, List.mem_nil_iff, or_false] at hp
  rcases hp with rfl | rfl | rfl
  · exact key _ runReckon1 _ (List.mem_cons_self ..)
  · exact key _ runReckon2 _ (List.mem_cons_self ..)
  · exact key _ runReckon3 _ (List.mem_cons_self ..)

def cfgL : CE.Cfg := cfgB.with 16 reckonTbl
theorem cfgLOk {w : World} (h : MaxOk w) : @CE.CfgOk gl0 Tryz.prog w cfgL := by
  obtain ⟨c, hc⟩ := Option.isSome_iff_exists.1 body16
  exact @CE.CfgOk.with gl0 Tryz.prog (@namesOk gl0) _ w (cfgBOk h) 16 Tryz.f16 c Tryz.func16 hc reckonTbl fun w' hb => reckonTells (h.below hb)

def livesTbl : CE.Tbl := [([], .bool true)]
set_option maxRecDepth 100000 in
theorem runLives : runs gl0 cfgL 400 9 livesTbl = true := by kernel_rfl
theorem body9 : Tryz.f9.body.isSome = true := by kernel_rfl
/-- The examples are as the document says. -/
theorem livesTells {w : World} (h : MaxOk w) : CE.Tells Tryz.prog 9 livesTbl w :=
  @CE.tells_of_runs gl0 Tryz.prog follows (@namesOk gl0) _ w (gl0Ok w) (cfgLOk h) 400 9 Tryz.f9 Tryz.func9 body9 livesTbl runLives

end Go.Proofs.YtpfljhdfinbdcaaGreatDoor

/-
  The law ExprLogic: its runs: each argument's truth is -1, 0 or 1; nothing else is known of it.
-/
import Derived.Test.YtpfljhdfinbdcaaGreatDoorTruth
import Derived.Test.YtpfljhdfinbdcaaGreatDoorTwo
namespace Go.Proofs.YtpfljhdfinbdcaaGreatDoor.exprLogic
set_option linter.unusedVariables false
set_option linter.unusedSimpArgs false
set_option linter.unusedSectionVars false
set_option linter.unnecessarySimpa false
open Go.RowKit (Below)

def cfgX [CE.Glob] (t u : Int) : CE.Cfg := (cfg.with 9 livesTbl).with 36 (([.agg [.sym .i64 1, .sym .i64 2, .symS 1]], .int .i64 t) :: ([.agg [.sym .i64 3, .sym .i64 4, .symS 2]], .int .i64 u) :: truth.tbl)
noncomputable def run (G : CE.Glob) (t u : Int) : Bool := (CE.ccall Tryz.prog (cfgX t u) 400 0 4 [.agg [.sym .i64 1, .sym .i64 2, .symS 1], .agg [.sym .i64 3, .sym .i64 4, .symS 2]] []).allB CE.isTrue
set_option maxRecDepth 100000
theorem run00 (k n k2 n2 : Int) (s s2 : ByteArray) : run (gl2 k n k2 n2 s s2) (-1) (-1) = true := by kernel_rfl
theorem run01 (k n k2 n2 : Int) (s s2 : ByteArray) : run (gl2 k n k2 n2 s s2) (-1) 0 = true := by kernel_rfl
theorem run02 (k n k2 n2 : Int) (s s2 : ByteArray) : run (gl2 k n k2 n2 s s2) (-1) 1 = true := by kernel_rfl
theorem run10 (k n k2 n2 : Int) (s s2 : ByteArray) : run (gl2 k n k2 n2 s s2) 0 (-1) = true := by kernel_rfl
theorem run11 (k n k2 n2 : Int) (s s2 : ByteArray) : run (gl2 k n k2 n2 s s2) 0 0 = true := by kernel_rfl
theorem run12 (k n k2 n2 : Int) (s s2 : ByteArray) : run (gl2 k n k2 n2 s s2) 0 1 = true := by kernel_rfl
theorem run20 (k n k2 n2 : Int) (s s2 : ByteArray) : run (gl2 k n k2 n2 s s2) 1 (-1) = true := by kernel_rfl
theorem run21 (k n k2 n2 : Int) (s s2 : ByteArray) : run (gl2 k n k2 n2 s s2) 1 0 = true := by kernel_rfl
theorem run22 (k n k2 n2 : Int) (s s2 : ByteArray) : run (gl2 k n k2 n2 s s2) 1 1 = true := by kernel_rfl

theorem runs_all (k n k2 n2 : Int) (s s2 : ByteArray) {t u : Int} (ht : t = -1 ∨ t = 0 ∨ t = 1) (hu : u = -1 ∨ u = 0 ∨ u = 1) : run (gl2 k n k2 n2 s s2) t u = true := by
  rcases ht with rfl | rfl | rfl <;> rcases hu with rfl | rfl | rfl
  · exact run00 k n k2 n2 s s2
  · exact run01 k n k2 n2 s s2
  · exact run02 k n k2 n2 s s2
  · exact run10 k n k2 n2 s s2
  · exact run11 k n k2 n2 s s2
  · exact run12 k n k2 n2 s s2
  · exact run20 k n k2 n2 s s2
  · exact run21 k n k2 n2 s s2
  · exact run22 k n k2 n2 s s2

theorem walk {k n k2 n2 : Int} {s s2 : ByteArray} (wk : IntKind.i64.wrap k = k) (wn : IntKind.i64.wrap n = n) (wk2 : IntKind.i64.wrap k2 = k2) (wn2 : IntKind.i64.wrap n2 = n2) {w : World} (h : MaxOk w) :
    Calls Tryz.prog 4 #[.agg #[.int .i64 k, .int .i64 n, .string s], .agg #[.int .i64 k2, .int .i64 n2, .string s2]] w fun e w' => e = .returned (.bool true) ∧ Below w.heap.size w w' := by
  obtain ⟨t, ht, htc⟩ := truth.calls (s := s) wk wn
  obtain ⟨u, hu, huc⟩ := truth.calls (s := s2) wk2 wn2
  have hrun := runs_all k n k2 n2 s s2 ht hu
  letI G := gl2 k n k2 n2 s s2
  obtain ⟨c, hc⟩ := Option.isSome_iff_exists.1 (show Tryz.f4.body.isSome = true by kernel_rfl)
  obtain ⟨c9, hc9⟩ := Option.isSome_iff_exists.1 body9
  obtain ⟨c36, hc36⟩ := Option.isSome_iff_exists.1 truth.body36
  have hcfg : CE.CfgOk Tryz.prog w (cfgX t u) := CE.CfgOk.withV namesOk (CE.CfgOk.with namesOk (cfgOk h) Tryz.func9 hc9 fun w' hb => livesTells (h.below hb)) Tryz.func36 hc36 fun w' hb => by
    intro p hp g rargs hargs
    rcases List.mem_cons.1 hp with rfl | hp
    · rw [CE.value_inv hargs]
      exact ⟨.int .i64 t, fun g' => .int _ _, htc w' (h.below hb)⟩
    rcases List.mem_cons.1 hp with rfl | hp
    · rw [CE.value_inv hargs]
      exact ⟨.int .i64 u, fun g' => .int _ _, huc w' (h.below hb)⟩
    · exact (truth.tells (h.below hb)).toV p hp g rargs hargs
  exact CE.calls_true (args := [.agg [.sym .i64 1, .sym .i64 2, .symS 1], .agg [.sym .i64 3, .sym .i64 4, .symS 2]]) follows namesOk (cfgX t u) (fun _ => .any _) hcfg Tryz.func4 hc
    ⟨.agg' ⟨.sym .i64 1 wk, .sym .i64 2 wn, .symS 1, trivial⟩, .agg' ⟨.sym .i64 3 wk2, .sym .i64 4 wn2, .symS 2, trivial⟩, trivial⟩ hrun

end Go.Proofs.YtpfljhdfinbdcaaGreatDoor.exprLogic

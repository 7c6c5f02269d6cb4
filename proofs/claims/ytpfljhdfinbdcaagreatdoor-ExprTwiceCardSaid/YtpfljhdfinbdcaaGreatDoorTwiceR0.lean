/-
  The law ExprTwice: its runs, part 0.
-/
import Derived.Test.YtpfljhdfinbdcaaGreatDoorTwiceD
namespace Go.Proofs.YtpfljhdfinbdcaaGreatDoor.exprTwice
set_option linter.unusedVariables false
set_option linter.unusedSimpArgs false
set_option linter.unusedSectionVars false
set_option linter.unnecessarySimpa false
set_option maxRecDepth 100000
theorem runLt (k n k2 n2 : Int) (s s2 : ByteArray) (hr : compare k k2 = .lt) (hz) : run (gl k n k2 n2 s s2 .lt none hr hz) = true := by kernel_rfl
theorem runGt (k n k2 n2 : Int) (s s2 : ByteArray) (hr : compare k k2 = .gt) (hz) : run (gl k n k2 n2 s s2 .gt none hr hz) = true := by kernel_rfl
theorem runNull (k n k2 n2 : Int) (s s2 : ByteArray) (hr : compare k k2 = .eq) (hz) : run (gl k n k2 n2 s s2 .eq (some .eq) hr hz) = true := by kernel_rfl

end Go.Proofs.YtpfljhdfinbdcaaGreatDoor.exprTwice

/-
  The law ExprTwice: its runs, part 2.
-/
import Derived.Test.YtpfljhdfinbdcaaGreatDoorTwiceD
namespace Go.Proofs.YtpfljhdfinbdcaaGreatDoor.exprTwice
set_option linter.unusedVariables false
set_option linter.unusedSimpArgs false
set_option linter.unusedSectionVars false
set_option linter.unnecessarySimpa false
set_option maxRecDepth 100000
theorem runTgt0 (k n k2 n2 : Int) (s s2 : ByteArray) (hr : compare k k2 = .eq) (hz) : runT (gl k n k2 n2 s s2 .eq (some .gt) hr hz) (-1) = true := by kernel_rfl
theorem runTgt1 (k n k2 n2 : Int) (s s2 : ByteArray) (hr : compare k k2 = .eq) (hz) : runT (gl k n k2 n2 s s2 .eq (some .gt) hr hz) 0 = true := by kernel_rfl
theorem runTgt2 (k n k2 n2 : Int) (s s2 : ByteArray) (hr : compare k k2 = .eq) (hz) : runT (gl k n k2 n2 s s2 .eq (some .gt) hr hz) 1 = true := by kernel_rfl

end Go.Proofs.YtpfljhdfinbdcaaGreatDoor.exprTwice

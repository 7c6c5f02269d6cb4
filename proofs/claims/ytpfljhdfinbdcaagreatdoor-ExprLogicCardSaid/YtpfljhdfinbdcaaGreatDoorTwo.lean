/-
  Two values of which nothing is known.
-/
import Derived.Test.YtpfljhdfinbdcaaGreatDoorLivesB
namespace Go.Proofs.YtpfljhdfinbdcaaGreatDoor
set_option linter.unusedVariables false
set_option linter.unusedSimpArgs false
set_option linter.unusedSectionVars false
set_option linter.unnecessarySimpa false

abbrev gl2 (k n k2 n2 : Int) (s s2 : ByteArray) : CE.Glob :=
  ⟨fun _ => .any, fun x => match x with | 1 => k | 2 => n | 3 => k2 | _ => n2, fun _ _ => none, fun _ _ => none, fun _ _ _ h => (by cases h), fun _ _ _ h => (by cases h),
    fun x => match x with | 1 => s | _ => s2, fun _ _ => none, fun _ _ => none, fun _ _ _ h => (by cases h), fun _ _ _ h => (by cases h)⟩

end Go.Proofs.YtpfljhdfinbdcaaGreatDoor

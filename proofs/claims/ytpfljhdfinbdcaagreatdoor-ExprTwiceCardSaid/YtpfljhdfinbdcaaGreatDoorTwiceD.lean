/-
  The law ExprTwice: its runs: of the two values it is known how their kinds compare, and what value.Cmp tells.
-/
import Derived.Test.YtpfljhdfinbdcaaGreatDoorCmp
namespace Go.Proofs.YtpfljhdfinbdcaaGreatDoor.exprTwice
set_option linter.unusedVariables false
set_option linter.unusedSimpArgs false
set_option linter.unusedSectionVars false
set_option linter.unnecessarySimpa false
open Go.RowKit (Below)

def rel (r : Ordering) (i j : Nat) : Option Ordering :=
  match i, j with
  | 1, 3 => some r
  | 3, 1 => some r.swap
  | _, _ => none
def know (z : Option Ordering) (i : Nat) (c : Int) : Option Ordering :=
  if c = 0 then (match i with | 1 => z | 3 => z | _ => none) else none

abbrev gl (k n k2 n2 : Int) (s s2 : ByteArray) (r : Ordering) (z : Option Ordering) (hr : compare k k2 = r) (hz : ∀ o, z = some o → compare k 0 = o ∧ compare k2 0 = o) : CE.Glob :=
  ⟨fun _ => .any, fun x => match x with | 1 => k | 2 => n | 3 => k2 | _ => n2, know z, rel r,
    fun x c o h => (by
      unfold know at h
      split at h
      · rename_i hc
        subst hc
        split at h
        · exact (hz o h).1
        · exact (hz o h).2
        · cases h
      · cases h),
    fun x y o h => (by
      unfold rel at h
      split at h
      · cases h; exact hr
      · cases h; rw [← hr]; exact Std.OrientedCmp.eq_swap
      · cases h),
    fun x => match x with | 1 => s | _ => s2, fun _ _ => none, fun _ _ => none, fun _ _ _ h => (by cases h), fun _ _ _ h => (by cases h)⟩
abbrev va : CE.CV := .agg [.sym .i64 1, .sym .i64 2, .symS 1]
abbrev vb : CE.CV := .agg [.sym .i64 3, .sym .i64 4, .symS 2]
def tbl (c : Int) : CE.Tbl := [([va, vb], .int .i64 c), ([vb, va], .int .i64 (-c))]
/-- expr.Eval makes nothing that is looked at behind it. -/
def cfg0 [CE.Glob] : CE.Cfg := { cfg.with 9 livesTbl with apart := fun f => f == 10 }
def cfgT [CE.Glob] (c : Int) : CE.Cfg := cfg0.with 65 (tbl c)
noncomputable def run (G : CE.Glob) : Bool := (CE.ccall Tryz.prog cfg0 400 0 5 [va, vb] []).allB CE.isTrue
noncomputable def runT (G : CE.Glob) (c : Int) : Bool := (CE.ccall Tryz.prog (cfgT c) 400 0 5 [va, vb] []).allB CE.isTrue

end Go.Proofs.YtpfljhdfinbdcaaGreatDoor.exprTwice

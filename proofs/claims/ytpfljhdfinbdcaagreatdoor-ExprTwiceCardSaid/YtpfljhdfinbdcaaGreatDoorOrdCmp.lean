/-
  order.Cmp over this program: what it tells of two numbers, and that it tells the opposite of them turned round.
-/
import Derived.Test.YtpfljhdfinbdcaaGreatDoorProg
import Derived.WalkKit
import Derived.ProofKit
import Derived.Laws.Cover2
import Derived.Laws.Externs
namespace Go.Proofs.YtpfljhdfinbdcaaGreatDoor.ordCmp
set_option linter.unusedVariables false
set_option linter.unusedSimpArgs false
set_option linter.unusedSectionVars false
set_option linter.unnecessarySimpa false

/-- What order.Cmp tells of two floats' bits. -/
def cmpB (x y : Nat) : Int :=
  if FloatKind.f64.format.order x y == some .lt then -1
  else if FloatKind.f64.format.order x y == some .gt then 1
  else if FloatKind.f64.format.order x y == some .eq then 0
  else if FloatKind.f64.format.order x x != some .eq then (if FloatKind.f64.format.order y y != some .eq then 0 else 1)
  else -1

theorem order_swap (a b : Ieee.Datum) : Ieee.Datum.order b a = (Ieee.Datum.order a b).map Ordering.swap := by
  cases a <;> cases b <;> simp only [Ieee.Datum.order, Option.map_none, Option.map_some, Option.some.injEq]
  all_goals first
    | exact Std.OrientedCmp.eq_swap (cmp := (compare : Nat → Nat → Ordering))
    | (rw [Int.min_comm]; exact Std.OrientedCmp.eq_swap (cmp := (compare : Int → Int → Ordering)))
    | (split <;> rfl)

theorem order_none {a b : Ieee.Datum} (h : Ieee.Datum.order a b = none) : Ieee.Datum.order a a = none ∨ Ieee.Datum.order b b = none := by
  cases a <;> cases b <;> simp_all [Ieee.Datum.order]

theorem order_self {a : Ieee.Datum} : Ieee.Datum.order a a = none ∨ Ieee.Datum.order a a = some .eq := by
  cases a <;> simp [Ieee.Datum.order]

theorem cmpB_turned (x y : Nat) : cmpB y x = -cmpB x y := by
  unfold cmpB
  have hs : FloatKind.f64.format.order y x = (FloatKind.f64.format.order x y).map Ordering.swap := order_swap _ _
  rw [hs]
  cases ho : FloatKind.f64.format.order x y with
  | none =>
    have h1 : FloatKind.f64.format.order x x = none ∨ FloatKind.f64.format.order y y = none := order_none ho
    have h2 : FloatKind.f64.format.order x x = none ∨ FloatKind.f64.format.order x x = some .eq := order_self
    have h3 : FloatKind.f64.format.order y y = none ∨ FloatKind.f64.format.order y y = some .eq := order_self
    rcases h2 with h2 | h2 <;> rcases h3 with h3 | h3 <;> rw [h2, h3] <;> first | decide | (rw [h2, h3] at h1; simp at h1)
  | some o => cases o <;> rfl

theorem cmpB_range (x y : Nat) : cmpB x y = -1 ∨ cmpB x y = 0 ∨ cmpB x y = 1 := by
  unfold cmpB
  repeat' split
  all_goals simp

/-- The bits of a number. -/
def bits (a : Int) : Nat := (IntKind.u64.wrap a).toNat

theorem frombits (n : Int) (w : World) : (callFunc 129 #[.int .u64 n]).run Tryz.prog w = .ok (.value (.float .f64 n.toNat)) w := by
  rw [run_callFunc_extern (e := Extern.MathFloatBits.float64frombits) Tryz.func129 (by kernel_rfl) (by kernel_rfl) (by kernel_rfl) (by kernel_rfl)]
  rfl

set_option maxRecDepth 10000 in
theorem float_calls (a : Int) (w : World) : Calls Tryz.prog 107 #[.int .i64 a] w fun e w' => e = .returned (.float .f64 (bits a)) ∧ w' = w := by
  have hx := frombits (IntKind.u64.wrap a)
  go_enter Tryz.func107, Tryz.ntmps107
  go_wp2
  go_ret
  exact ⟨rfl, rfl⟩

set_option maxRecDepth 10000 in
theorem calls (a b : Int) (w : World) : Calls Tryz.prog 85 #[.int .i64 a, .int .i64 b] w fun e w' => e = .returned (.int .i64 (cmpB (bits a) (bits b))) ∧ w' = w := by
  go_enter Tryz.func85, Tryz.ntmps85
  go_wp2_with (go_at_call 107; refine (float_calls _ _).mono ?_; rintro e w' ⟨rfl, rfl⟩)
  all_goals go_ret
  all_goals refine ⟨?_, rfl⟩
  all_goals simp_all [cmpB]

end Go.Proofs.YtpfljhdfinbdcaaGreatDoor.ordCmp

/-
  The canonical evaluator: functions without a body that it knows.
-/
import Derived.Test.YtdfeamiellfenaaGreatCeJ
import Derived.Laws.Externs
namespace Go.CE
set_option linter.unusedVariables false
set_option linter.unusedSimpArgs false
set_option linter.unusedSectionVars false
set_option linter.unnecessarySimpa false
open Go.RowKit (Below)

/-- What a function without a body comes to: a value, and nothing else. -/
def ExtLaw (P : Program) (f : FuncId) (k : List CV → Option CV) : Prop :=
  ∀ (g : Gho) (w : World) (rargs : List Value) (args : List CV) (v : CV), VRL g rargs args → k args = some v → ∃ y, (callFunc f rargs.toArray).run P w = .ok (.value y) w ∧ VR g y v

def Cfg.of (l : List (FuncId × (List CV → Option CV))) : Cfg := ⟨fun _ => false, fun f args => match l.lookup f with
  | some k => k args
  | none => none, fun _ => none⟩

theorem lookup_mem {l : List (FuncId × (List CV → Option CV))} {f : FuncId} {k : List CV → Option CV} (h : l.lookup f = some k) : (f, k) ∈ l := by
  induction l with
  | nil => cases h
  | cons x l ih =>
    simp only [List.lookup] at h
    split at h
    · rename_i he
      cases h
      have : f = x.1 := by simpa using he
      subst this
      simp
    · simp [ih h]

theorem CfgOk.of {P : Program} {l : List (FuncId × (List CV → Option CV))} (hl : ∀ p ∈ l, ExtLaw P p.1 p.2) (w0 : World) : CfgOk P w0 (Cfg.of l) := by
  refine ⟨fun f fn args v _ _ h g hp w rargs hw hargs => ?_, fun _ _ _ _ h => (by cases h)⟩
  simp only [Cfg.of] at h
  split at h
  · rename_i k hk
    obtain ⟨y, h1, h2⟩ := hl _ (lookup_mem hk) g w rargs args v hargs h
    rw [h1]
    exact ⟨v, hp, g, rfl, Gle.refl _ _, hw, h2⟩
  · cases h

/-- A function of the outer world's table. -/
theorem extLaw_of {P : Program} {f : FuncId} {fn : Func} {e : Array Value → Sem Value} {k : List CV → Option CV} (hf : P.funcs[f]? = some fn) (hname : (fn.name == "runtime.NumGoroutine") = false) (hb : fn.body.isNone = true)
    (hn : Extern.findNext fn = none) (he : Extern.find fn = some e) (hk : ∀ (g : Gho) (w : World) (rargs : List Value) (args : List CV) (v : CV), VRL g rargs args → k args = some v → ∃ y, (e rargs.toArray).run P w = .ok y w ∧ VR g y v) : ExtLaw P f k := by
  intro g w rargs args v h1 h2
  obtain ⟨y, h3, h4⟩ := hk g w rargs args v h1 h2
  exact ⟨y, by rw [run_callFunc_extern hf hname hb hn he, h3]; rfl, h4⟩

def add64C : List CV → Option CV
  | [.int _ x, .int _ y, .int _ c] => if c = 0 ∨ c = 1 then some (.tup [.int .u64 (Int.ofNat ((x.toNat + y.toNat + c.toNat) % 18446744073709551616)), .int .u64 (Int.ofNat ((x.toNat + y.toNat + c.toNat) / 18446744073709551616))]) else none
  | _ => none

def sub64C : List CV → Option CV
  | [.int _ x, .int _ y, .int _ b] => if b = 0 ∨ b = 1 then some (.tup [.int .u64 (Int.ofNat ((x.toNat + 18446744073709551616 - y.toNat - b.toNat) % 18446744073709551616)), .int .u64 (Int.ofNat (if x.toNat < y.toNat + b.toNat then 1 else 0))]) else none
  | _ => none

def sub64Entry : Array Value → Sem Value := fun args => do
  let (x, y, b) ← Extern.MathBitsCarry.three "Sub64" args
  pure (Extern.MathBitsCarry.pair ((x + Extern.MathBitsCarry.m64 - y - b) % Extern.MathBitsCarry.m64) (if x < y + b then 1 else 0))

theorem add64_fit {P : Program} (g : Gho) (w : World) (rargs : List Value) (args : List CV) (v : CV) (h : VRL g rargs args) (hk : add64C args = some v) : ∃ y, (add64Entry rargs.toArray).run P w = .ok y w ∧ VR g y v := by
  unfold add64C at hk
  split at hk
  · rename_i k1 x k2 y k3 c
    split at hk
    · rename_i hc
      cases hk
      match rargs, h with
      | [a, b, d], h =>
        obtain ⟨h1, h2, h3, _⟩ := h
        cases h1; cases h2; cases h3
        refine ⟨.tuple #[.int .u64 (Int.ofNat ((x.toNat + y.toNat + c.toNat) % 18446744073709551616)), .int .u64 (Int.ofNat ((x.toNat + y.toNat + c.toNat) / 18446744073709551616))], ?_, .tup' ⟨.int _ _, .int _ _, trivial⟩⟩
        rcases hc with rfl | rfl <;> rfl
    · cases hk
  · cases hk

theorem sub64_fit {P : Program} (g : Gho) (w : World) (rargs : List Value) (args : List CV) (v : CV) (h : VRL g rargs args) (hk : sub64C args = some v) : ∃ y, (sub64Entry rargs.toArray).run P w = .ok y w ∧ VR g y v := by
  unfold sub64C at hk
  split at hk
  · rename_i k1 x k2 y k3 c
    split at hk
    · rename_i hc
      cases hk
      match rargs, h with
      | [a, b, d], h =>
        obtain ⟨h1, h2, h3, _⟩ := h
        cases h1; cases h2; cases h3
        refine ⟨.tuple #[.int .u64 (Int.ofNat ((x.toNat + 18446744073709551616 - y.toNat - c.toNat) % 18446744073709551616)), .int .u64 (Int.ofNat (if x.toNat < y.toNat + c.toNat then 1 else 0))], ?_, .tup' ⟨.int _ _, .int _ _, trivial⟩⟩
        rcases hc with rfl | rfl <;> rfl
    · cases hk
  · cases hk

def fromBitsC : List CV → Option CV
  | [.int .u64 n] => some (.flt .f64 n.toNat)
  | _ => none

def toBitsC : List CV → Option CV
  | [.flt .f64 b] => some (.int .u64 b)
  | _ => none

theorem fromBits_fit {P : Program} (g : Gho) (w : World) (rargs : List Value) (args : List CV) (v : CV) (h : VRL g rargs args) (hk : fromBitsC args = some v) : ∃ y, (Extern.MathFloatBits.float64frombits rargs.toArray).run P w = .ok y w ∧ VR g y v := by
  unfold fromBitsC at hk
  split at hk
  · rename_i n
    cases hk
    match rargs, h with
    | [a], h =>
      obtain ⟨h1, _⟩ := h
      cases h1
      exact ⟨.float .f64 n.toNat, rfl, .flt _ _⟩
  · cases hk

theorem toBits_fit {P : Program} (g : Gho) (w : World) (rargs : List Value) (args : List CV) (v : CV) (h : VRL g rargs args) (hk : toBitsC args = some v) : ∃ y, (Extern.MathFloatBits.float64bits rargs.toArray).run P w = .ok y w ∧ VR g y v := by
  unfold toBitsC at hk
  split at hk
  · rename_i n
    cases hk
    match rargs, h with
    | [a], h =>
      obtain ⟨h1, _⟩ := h
      cases h1
      exact ⟨.int .u64 n, rfl, .int _ _⟩
  · cases hk

end Go.CE

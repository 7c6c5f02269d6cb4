/-
  The law ExprTwice: true at every two values.
-/
import Derived.Test.YtpfljhdfinbdcaaGreatDoorTwiceR0
import Derived.Test.YtpfljhdfinbdcaaGreatDoorTwiceR1
import Derived.Test.YtpfljhdfinbdcaaGreatDoorTwiceR2
namespace Go.Proofs.YtpfljhdfinbdcaaGreatDoor.exprTwice
set_option linter.unusedVariables false
set_option linter.unusedSimpArgs false
set_option linter.unusedSectionVars false
set_option linter.unnecessarySimpa false
open Go.RowKit (Below)
set_option maxRecDepth 100000

theorem value2_inv [CE.Glob] {g : CE.Gho} {rargs : List Value} {i j l i2 j2 l2 : Nat} (h : CE.VRL g rargs [.agg [.sym .i64 i, .sym .i64 j, .symS l], .agg [.sym .i64 i2, .sym .i64 j2, .symS l2]]) :
    rargs = [.agg #[.int .i64 (CE.Glob.sval i), .int .i64 (CE.Glob.sval j), .string (CE.Glob.sstr l)], .agg #[.int .i64 (CE.Glob.sval i2), .int .i64 (CE.Glob.sval j2), .string (CE.Glob.sstr l2)]] := by
  match rargs, h with
  | [u, v], ⟨hu, hv⟩ =>
    have h1 := CE.value_inv (rargs := [u]) ⟨hu, trivial⟩
    have h2 := CE.value_inv (rargs := [v]) hv
    simp only [List.cons.injEq, and_true] at h1 h2
    rw [h1, h2]

theorem cfg0Ok [CE.Glob] {w : World} (h : MaxOk w) : CE.CfgOk Tryz.prog w cfg0 := by
  obtain ⟨c9, hc9⟩ := Option.isSome_iff_exists.1 body9
  have := CE.CfgOk.with namesOk (cfgOk h) Tryz.func9 hc9 fun w' hb => livesTells (h.below hb)
  exact ⟨this.ext, this.spec⟩

theorem body5 : Tryz.f5.body.isSome = true := by kernel_rfl
theorem walk {k n k2 n2 : Int} {s s2 : ByteArray} (wk : IntKind.i64.wrap k = k) (wn : IntKind.i64.wrap n = n) (wk2 : IntKind.i64.wrap k2 = k2) (wn2 : IntKind.i64.wrap n2 = n2) {w : World} (h : MaxOk w) :
    Calls Tryz.prog 5 #[.agg #[.int .i64 k, .int .i64 n, .string s], .agg #[.int .i64 k2, .int .i64 n2, .string s2]] w fun e w' => e = .returned (.bool true) ∧ Below w.heap.size w w' := by
  obtain ⟨c, hc⟩ := Option.isSome_iff_exists.1 body5
  obtain ⟨c65, hc65⟩ := Option.isSome_iff_exists.1 cmp.body65
  have plain : ∀ (r : Ordering) (z : Option Ordering) (hr : compare k k2 = r) (hz), run (gl k n k2 n2 s s2 r z hr hz) = true → Calls Tryz.prog 5 #[.agg #[.int .i64 k, .int .i64 n, .string s], .agg #[.int .i64 k2, .int .i64 n2, .string s2]] w fun e w' => e = .returned (.bool true) ∧ Below w.heap.size w w' := by
    intro r z hr hz hrun
    letI G := gl k n k2 n2 s s2 r z hr hz
    have hcfg : CE.CfgOk Tryz.prog w cfg0 := cfg0Ok h
    exact CE.calls_true (args := [va, vb]) follows namesOk cfg0 (fun _ => .any _) hcfg Tryz.func5 hc ⟨.agg' ⟨.sym .i64 1 wk, .sym .i64 2 wn, .symS 1, trivial⟩, .agg' ⟨.sym .i64 3 wk2, .sym .i64 4 wn2, .symS 2, trivial⟩, trivial⟩ hrun
  have told : ∀ (z : Option Ordering) (hr : compare k k2 = .eq) (hz) (t : Int), k = k2 → cmp.Both k n n2 s s2 t → runT (gl k n k2 n2 s s2 .eq z hr hz) t = true → Calls Tryz.prog 5 #[.agg #[.int .i64 k, .int .i64 n, .string s], .agg #[.int .i64 k2, .int .i64 n2, .string s2]] w fun e w' => e = .returned (.bool true) ∧ Below w.heap.size w w' := by
    intro z hr hz t he hb hrun
    subst he
    letI G := gl k n k n2 s s2 .eq z hr hz
    have hcfg : CE.CfgOk Tryz.prog w (cfgT t) := CE.CfgOk.withV namesOk (cfg0Ok h) Tryz.func65 hc65 fun w' hbl => by
      intro p hp g rargs hargs
      rcases List.mem_cons.1 hp with rfl | hp
      · rw [value2_inv hargs]
        exact ⟨_, fun g' => .int _ _, (hb w' (h.below hbl)).1⟩
      rcases List.mem_cons.1 hp with rfl | hp
      · rw [value2_inv hargs]
        exact ⟨_, fun g' => .int _ _, (hb w' (h.below hbl)).2⟩
      · cases hp
    exact CE.calls_true (args := [va, vb]) follows namesOk (cfgT t) (fun _ => .any _) hcfg Tryz.func5 hc ⟨.agg' ⟨.sym .i64 1 wk, .sym .i64 2 wn, .symS 1, trivial⟩, .agg' ⟨.sym .i64 3 wk2, .sym .i64 4 wn2, .symS 2, trivial⟩, trivial⟩ hrun
  cases hr : compare k k2 with
  | lt => exact plain _ none hr (fun _ h => by cases h) (runLt k n k2 n2 s s2 hr _)
  | gt => exact plain _ none hr (fun _ h => by cases h) (runGt k n k2 n2 s s2 hr _)
  | eq =>
    have he : k = k2 := by simpa using hr
    by_cases h0 : k = 0
    · have hz : ∀ o, some Ordering.eq = some o → compare k 0 = o ∧ compare k2 0 = o := fun o ho => by cases ho; subst he; subst h0; exact ⟨rfl, rfl⟩
      exact plain _ _ hr hz (runNull k n k2 n2 s s2 hr hz)
    · obtain ⟨t, ht, hb⟩ := cmp.both (s := s) (s2 := s2) wk wn wn2 h0
      cases hk0 : compare k 0 with
      | eq => exact (h0 (by simpa using hk0)).elim
      | lt =>
        have hz : ∀ o, some Ordering.lt = some o → compare k 0 = o ∧ compare k2 0 = o := fun o ho => by cases ho; subst he; exact ⟨hk0, hk0⟩
        rcases ht with rfl | rfl | rfl
        · exact told _ hr hz _ he hb (runTlt0 k n k2 n2 s s2 hr hz)
        · exact told _ hr hz _ he hb (runTlt1 k n k2 n2 s s2 hr hz)
        · exact told _ hr hz _ he hb (runTlt2 k n k2 n2 s s2 hr hz)
      | gt =>
        have hz : ∀ o, some Ordering.gt = some o → compare k 0 = o ∧ compare k2 0 = o := fun o ho => by cases ho; subst he; exact ⟨hk0, hk0⟩
        rcases ht with rfl | rfl | rfl
        · exact told _ hr hz _ he hb (runTgt0 k n k2 n2 s s2 hr hz)
        · exact told _ hr hz _ he hb (runTgt1 k n k2 n2 s s2 hr hz)
        · exact told _ hr hz _ he hb (runTgt2 k n k2 n2 s s2 hr hz)

end Go.Proofs.YtpfljhdfinbdcaaGreatDoor.exprTwice

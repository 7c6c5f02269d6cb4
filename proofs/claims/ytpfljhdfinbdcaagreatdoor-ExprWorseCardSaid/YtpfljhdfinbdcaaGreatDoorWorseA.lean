/-
  The law ExprWorse: its runs: each argument is a number of one of six classes (below 0, 0, between, 15, 16, above).
-/
import Derived.Test.YtpfljhdfinbdcaaGreatDoorLivesB
namespace Go.Proofs.YtpfljhdfinbdcaaGreatDoor.exprWorse
set_option linter.unusedVariables false
set_option linter.unusedSimpArgs false
set_option linter.unusedSectionVars false
set_option linter.unnecessarySimpa false
open Go.RowKit (Below)

/-- What is known of a number of a class. -/
def know (k : Nat) (c : Int) : Option Ordering :=
  match k with
  | 0 => if 0 ≤ c then some .lt else none
  | 1 => some (compare 0 c)
  | 2 => if c ≤ 0 then some .gt else if 15 ≤ c then some .lt else none
  | 3 => some (compare 15 c)
  | 4 => some (compare 16 c)
  | _ => if c ≤ 16 then some .gt else none
/-- Is it of the class? -/
def isIn (k : Nat) (x : Int) : Prop :=
  match k with
  | 0 => x < 0
  | 1 => x = 0
  | 2 => 0 < x ∧ x < 15
  | 3 => x = 15
  | 4 => x = 16
  | _ => 16 < x
theorem know_ok {k : Nat} {x : Int} (h : isIn k x) : ∀ c o, know k c = some o → compare x c = o := by
  intro c o hk
  unfold know at hk
  unfold isIn at h
  split at hk <;> simp only at h
  · split at hk <;> cases hk; rw [Int.compare_eq_lt]; omega
  · subst h; cases hk; rfl
  · split at hk
    · cases hk; rw [Int.compare_eq_gt]; omega
    · split at hk <;> cases hk; rw [Int.compare_eq_lt]; omega
  · subst h; cases hk; rfl
  · subst h; cases hk; rfl
  · split at hk
    · cases hk
      rw [Int.compare_eq_gt]
      omega
    · cases hk

abbrev gl (a b : Int) (j k : Nat) (ha : isIn j a) (hb : isIn k b) : CE.Glob :=
  ⟨fun _ => .any, fun i => match i with | 1 => a | _ => b, fun i c => match i with | 1 => know j c | 2 => know k c | _ => none, fun _ _ => none,
    fun i c o hk => (by
      split at hk
      · exact know_ok ha c o hk
      · exact know_ok hb c o hk
      · cases hk),
    fun _ _ _ h => (by cases h), fun _ => ByteArray.empty, fun _ _ => none, fun _ _ => none, fun _ _ _ h => (by cases h), fun _ _ _ h => (by cases h)⟩
def cfgW : CE.Cfg := cfg.with 9 livesTbl
noncomputable def run (G : CE.Glob) : Bool := (CE.ccall Tryz.prog cfgW 400 0 3 [.sym .i64 1, .sym .i64 2] []).allB CE.isTrue
set_option maxRecDepth 100000
theorem run00 (a b : Int) (ha : isIn 0 a) (hb : isIn 0 b) : run (gl a b 0 0 ha hb) = true := by kernel_rfl
theorem run01 (a b : Int) (ha : isIn 0 a) (hb : isIn 1 b) : run (gl a b 0 1 ha hb) = true := by kernel_rfl
theorem run02 (a b : Int) (ha : isIn 0 a) (hb : isIn 2 b) : run (gl a b 0 2 ha hb) = true := by kernel_rfl
theorem run03 (a b : Int) (ha : isIn 0 a) (hb : isIn 3 b) : run (gl a b 0 3 ha hb) = true := by kernel_rfl
theorem run04 (a b : Int) (ha : isIn 0 a) (hb : isIn 4 b) : run (gl a b 0 4 ha hb) = true := by kernel_rfl
theorem run05 (a b : Int) (ha : isIn 0 a) (hb : isIn 5 b) : run (gl a b 0 5 ha hb) = true := by kernel_rfl
theorem run10 (a b : Int) (ha : isIn 1 a) (hb : isIn 0 b) : run (gl a b 1 0 ha hb) = true := by kernel_rfl
theorem run11 (a b : Int) (ha : isIn 1 a) (hb : isIn 1 b) : run (gl a b 1 1 ha hb) = true := by kernel_rfl
theorem run12 (a b : Int) (ha : isIn 1 a) (hb : isIn 2 b) : run (gl a b 1 2 ha hb) = true := by kernel_rfl
theorem run13 (a b : Int) (ha : isIn 1 a) (hb : isIn 3 b) : run (gl a b 1 3 ha hb) = true := by kernel_rfl
theorem run14 (a b : Int) (ha : isIn 1 a) (hb : isIn 4 b) : run (gl a b 1 4 ha hb) = true := by kernel_rfl
theorem run15 (a b : Int) (ha : isIn 1 a) (hb : isIn 5 b) : run (gl a b 1 5 ha hb) = true := by kernel_rfl
theorem run20 (a b : Int) (ha : isIn 2 a) (hb : isIn 0 b) : run (gl a b 2 0 ha hb) = true := by kernel_rfl
theorem run21 (a b : Int) (ha : isIn 2 a) (hb : isIn 1 b) : run (gl a b 2 1 ha hb) = true := by kernel_rfl
theorem run22 (a b : Int) (ha : isIn 2 a) (hb : isIn 2 b) : run (gl a b 2 2 ha hb) = true := by kernel_rfl
theorem run23 (a b : Int) (ha : isIn 2 a) (hb : isIn 3 b) : run (gl a b 2 3 ha hb) = true := by kernel_rfl
theorem run24 (a b : Int) (ha : isIn 2 a) (hb : isIn 4 b) : run (gl a b 2 4 ha hb) = true := by kernel_rfl
theorem run25 (a b : Int) (ha : isIn 2 a) (hb : isIn 5 b) : run (gl a b 2 5 ha hb) = true := by kernel_rfl
theorem run30 (a b : Int) (ha : isIn 3 a) (hb : isIn 0 b) : run (gl a b 3 0 ha hb) = true := by kernel_rfl
theorem run31 (a b : Int) (ha : isIn 3 a) (hb : isIn 1 b) : run (gl a b 3 1 ha hb) = true := by kernel_rfl
theorem run32 (a b : Int) (ha : isIn 3 a) (hb : isIn 2 b) : run (gl a b 3 2 ha hb) = true := by kernel_rfl
theorem run33 (a b : Int) (ha : isIn 3 a) (hb : isIn 3 b) : run (gl a b 3 3 ha hb) = true := by kernel_rfl
theorem run34 (a b : Int) (ha : isIn 3 a) (hb : isIn 4 b) : run (gl a b 3 4 ha hb) = true := by kernel_rfl
theorem run35 (a b : Int) (ha : isIn 3 a) (hb : isIn 5 b) : run (gl a b 3 5 ha hb) = true := by kernel_rfl
theorem run40 (a b : Int) (ha : isIn 4 a) (hb : isIn 0 b) : run (gl a b 4 0 ha hb) = true := by kernel_rfl
theorem run41 (a b : Int) (ha : isIn 4 a) (hb : isIn 1 b) : run (gl a b 4 1 ha hb) = true := by kernel_rfl
theorem run42 (a b : Int) (ha : isIn 4 a) (hb : isIn 2 b) : run (gl a b 4 2 ha hb) = true := by kernel_rfl
theorem run43 (a b : Int) (ha : isIn 4 a) (hb : isIn 3 b) : run (gl a b 4 3 ha hb) = true := by kernel_rfl
theorem run44 (a b : Int) (ha : isIn 4 a) (hb : isIn 4 b) : run (gl a b 4 4 ha hb) = true := by kernel_rfl
theorem run45 (a b : Int) (ha : isIn 4 a) (hb : isIn 5 b) : run (gl a b 4 5 ha hb) = true := by kernel_rfl
theorem run50 (a b : Int) (ha : isIn 5 a) (hb : isIn 0 b) : run (gl a b 5 0 ha hb) = true := by kernel_rfl
theorem run51 (a b : Int) (ha : isIn 5 a) (hb : isIn 1 b) : run (gl a b 5 1 ha hb) = true := by kernel_rfl
theorem run52 (a b : Int) (ha : isIn 5 a) (hb : isIn 2 b) : run (gl a b 5 2 ha hb) = true := by kernel_rfl
theorem run53 (a b : Int) (ha : isIn 5 a) (hb : isIn 3 b) : run (gl a b 5 3 ha hb) = true := by kernel_rfl
theorem run54 (a b : Int) (ha : isIn 5 a) (hb : isIn 4 b) : run (gl a b 5 4 ha hb) = true := by kernel_rfl
theorem run55 (a b : Int) (ha : isIn 5 a) (hb : isIn 5 b) : run (gl a b 5 5 ha hb) = true := by kernel_rfl

theorem classes (x : Int) : ∃ k, k < 6 ∧ isIn k x := by
  rcases (by omega : x < 0 ∨ x = 0 ∨ (0 < x ∧ x < 15) ∨ x = 15 ∨ x = 16 ∨ 16 < x) with h | h | h | h | h | h
  · exact ⟨0, by omega, h⟩
  · exact ⟨1, by omega, h⟩
  · exact ⟨2, by omega, h⟩
  · exact ⟨3, by omega, h⟩
  · exact ⟨4, by omega, h⟩
  · exact ⟨5, by omega, h⟩

theorem runs_all (a b : Int) (j k : Nat) (hj : j < 6) (hk : k < 6) (ha : isIn j a) (hb : isIn k b) : run (gl a b j k ha hb) = true := by
  match j, hj, k, hk with
  | 0, _, 0, _ => exact run00 a b ha hb
  | 0, _, 1, _ => exact run01 a b ha hb
  | 0, _, 2, _ => exact run02 a b ha hb
  | 0, _, 3, _ => exact run03 a b ha hb
  | 0, _, 4, _ => exact run04 a b ha hb
  | 0, _, 5, _ => exact run05 a b ha hb
  | 1, _, 0, _ => exact run10 a b ha hb
  | 1, _, 1, _ => exact run11 a b ha hb
  | 1, _, 2, _ => exact run12 a b ha hb
  | 1, _, 3, _ => exact run13 a b ha hb
  | 1, _, 4, _ => exact run14 a b ha hb
  | 1, _, 5, _ => exact run15 a b ha hb
  | 2, _, 0, _ => exact run20 a b ha hb
  | 2, _, 1, _ => exact run21 a b ha hb
  | 2, _, 2, _ => exact run22 a b ha hb
  | 2, _, 3, _ => exact run23 a b ha hb
  | 2, _, 4, _ => exact run24 a b ha hb
  | 2, _, 5, _ => exact run25 a b ha hb
  | 3, _, 0, _ => exact run30 a b ha hb
  | 3, _, 1, _ => exact run31 a b ha hb
  | 3, _, 2, _ => exact run32 a b ha hb
  | 3, _, 3, _ => exact run33 a b ha hb
  | 3, _, 4, _ => exact run34 a b ha hb
  | 3, _, 5, _ => exact run35 a b ha hb
  | 4, _, 0, _ => exact run40 a b ha hb
  | 4, _, 1, _ => exact run41 a b ha hb
  | 4, _, 2, _ => exact run42 a b ha hb
  | 4, _, 3, _ => exact run43 a b ha hb
  | 4, _, 4, _ => exact run44 a b ha hb
  | 4, _, 5, _ => exact run45 a b ha hb
  | 5, _, 0, _ => exact run50 a b ha hb
  | 5, _, 1, _ => exact run51 a b ha hb
  | 5, _, 2, _ => exact run52 a b ha hb
  | 5, _, 3, _ => exact run53 a b ha hb
  | 5, _, 4, _ => exact run54 a b ha hb
  | 5, _, 5, _ => exact run55 a b ha hb

theorem walk {a b : Int} (ha : IntKind.i64.wrap a = a) (hb : IntKind.i64.wrap b = b) {w : World} (h : MaxOk w) : Calls Tryz.prog 3 #[.int .i64 a, .int .i64 b] w fun e w' => e = .returned (.bool true) ∧ Below w.heap.size w w' := by
  obtain ⟨j, hj, hja⟩ := classes a
  obtain ⟨k, hk, hkb⟩ := classes b
  have hrun := runs_all a b j k hj hk hja hkb
  letI G := gl a b j k hja hkb
  obtain ⟨c, hc⟩ := Option.isSome_iff_exists.1 (show Tryz.f3.body.isSome = true by kernel_rfl)
  obtain ⟨c9, hc9⟩ := Option.isSome_iff_exists.1 body9
  have hcfg : CE.CfgOk Tryz.prog w cfgW := CE.CfgOk.with namesOk (cfgOk h) Tryz.func9 hc9 fun w' hb => livesTells (h.below hb)
  exact CE.calls_true (args := [.sym .i64 1, .sym .i64 2]) follows namesOk cfgW (fun _ => .any _) hcfg Tryz.func3 hc ⟨.sym .i64 1 ha, .sym .i64 2 hb, trivial⟩ hrun

end Go.Proofs.YtpfljhdfinbdcaaGreatDoor.exprWorse

/-
  value.Truth at any value: -1, 0 or 1 (its runs: a class of kinds and of numbers each).
-/
import Derived.Test.YtpfljhdfinbdcaaGreatDoorLivesB
namespace Go.Proofs.YtpfljhdfinbdcaaGreatDoor.truth
set_option linter.unusedVariables false
set_option linter.unusedSimpArgs false
set_option linter.unusedSectionVars false
set_option linter.unnecessarySimpa false
open Go.RowKit (Below)

/-- What is known of a kind of a class: below 0; 0 to 4; above. -/
def knowK (j : Nat) (c : Int) : Option Ordering :=
  match j with
  | 0 => if 0 ≤ c then some .lt else none
  | 6 => if c ≤ 4 then some .gt else none
  | j + 1 => some (compare (j : Int) c)
def isK (j : Nat) (x : Int) : Prop :=
  match j with
  | 0 => x < 0
  | 6 => 4 < x
  | j + 1 => x = j
theorem knowK_ok {j : Nat} {x : Int} (h : isK j x) : ∀ c o, knowK j c = some o → compare x c = o := by
  intro c o hk
  unfold knowK at hk
  unfold isK at h
  split at hk <;> simp only at h
  · split at hk <;> cases hk; rw [Int.compare_eq_lt]; omega
  · split at hk <;> cases hk; rw [Int.compare_eq_gt]; omega
  · subst h; cases hk; rfl
/-- What is known of a number: nothing; below 0; 0; above. -/
def knowN (j : Nat) (c : Int) : Option Ordering :=
  match j with
  | 0 => none
  | 1 => if 0 ≤ c then some .lt else none
  | 2 => some (compare 0 c)
  | _ => if c ≤ 0 then some .gt else none
def isN (j : Nat) (x : Int) : Prop :=
  match j with
  | 0 => True
  | 1 => x < 0
  | 2 => x = 0
  | _ => 0 < x
theorem knowN_ok {j : Nat} {x : Int} (h : isN j x) : ∀ c o, knowN j c = some o → compare x c = o := by
  intro c o hk
  unfold knowN at hk
  unfold isN at h
  split at hk <;> simp only at h
  · cases hk
  · split at hk <;> cases hk; rw [Int.compare_eq_lt]; omega
  · subst h; cases hk; rfl
  · split at hk <;> cases hk; rw [Int.compare_eq_gt]; omega

abbrev gl (k n : Int) (s : ByteArray) (i j : Nat) (hk : isK i k) (hn : isN j n) : CE.Glob :=
  ⟨fun _ => .any, fun x => match x with | 1 => k | _ => n, fun x c => match x with | 1 => knowK i c | 2 => knowN j c | _ => none, fun _ _ => none,
    fun x c o h => (by
      split at h
      · exact knowK_ok hk c o h
      · exact knowN_ok hn c o h
      · cases h),
    fun _ _ _ h => (by cases h), fun _ => s, fun _ _ => none, fun _ _ => none, fun _ _ _ h => (by cases h), fun _ _ _ h => (by cases h)⟩
noncomputable def run (G : CE.Glob) (t : Int) : Bool := (CE.ccall Tryz.prog cfg 400 0 36 [.agg [.sym .i64 1, .sym .i64 2, .symS 1]] []).allB (CE.isVal (.int .i64 t))
set_option maxRecDepth 100000
theorem run00 (k n : Int) (s : ByteArray) (hk : isK 0 k) (hn : isN 0 n) : run (gl k n s 0 0 hk hn) (-1) = true := by kernel_rfl
theorem run10 (k n : Int) (s : ByteArray) (hk : isK 1 k) (hn : isN 0 n) : run (gl k n s 1 0 hk hn) (-1) = true := by kernel_rfl
theorem run20 (k n : Int) (s : ByteArray) (hk : isK 2 k) (hn : isN 0 n) : run (gl k n s 2 0 hk hn) (-1) = true := by kernel_rfl
theorem run30 (k n : Int) (s : ByteArray) (hk : isK 3 k) (hn : isN 0 n) : run (gl k n s 3 0 hk hn) (-1) = true := by kernel_rfl
theorem run40 (k n : Int) (s : ByteArray) (hk : isK 4 k) (hn : isN 0 n) : run (gl k n s 4 0 hk hn) (-1) = true := by kernel_rfl
theorem run51 (k n : Int) (s : ByteArray) (hk : isK 5 k) (hn : isN 1 n) : run (gl k n s 5 1 hk hn) 1 = true := by kernel_rfl
theorem run52 (k n : Int) (s : ByteArray) (hk : isK 5 k) (hn : isN 2 n) : run (gl k n s 5 2 hk hn) 0 = true := by kernel_rfl
theorem run53 (k n : Int) (s : ByteArray) (hk : isK 5 k) (hn : isN 3 n) : run (gl k n s 5 3 hk hn) 1 = true := by kernel_rfl
theorem run60 (k n : Int) (s : ByteArray) (hk : isK 6 k) (hn : isN 0 n) : run (gl k n s 6 0 hk hn) (-1) = true := by kernel_rfl

theorem body36 : Tryz.f36.body.isSome = true := by kernel_rfl
theorem calls {k n : Int} {s : ByteArray} (wk : IntKind.i64.wrap k = k) (wn : IntKind.i64.wrap n = n) : ∃ t : Int, (t = -1 ∨ t = 0 ∨ t = 1) ∧ ∀ w, MaxOk w →
    Calls Tryz.prog 36 #[.agg #[.int .i64 k, .int .i64 n, .string s]] w fun e w' => e = .returned (.int .i64 t) ∧ Below w.heap.size w w' := by
  obtain ⟨c, hc⟩ := Option.isSome_iff_exists.1 body36
  have key : ∀ (i j : Nat) (hk : isK i k) (hn : isN j n) (t : Int), run (gl k n s i j hk hn) t = true → ∀ w, MaxOk w →
      Calls Tryz.prog 36 #[.agg #[.int .i64 k, .int .i64 n, .string s]] w fun e w' => e = .returned (.int .i64 t) ∧ Below w.heap.size w w' := by
    intro i j hk hn t hrun w hw
    letI G := gl k n s i j hk hn
    exact CE.calls_of_run (res := .int .i64 t) (args := [.agg [.sym .i64 1, .sym .i64 2, .symS 1]]) follows namesOk cfg (fun _ => .any _) (cfgOk hw) Tryz.func36 hc
      ⟨.agg' ⟨.sym .i64 1 wk, .sym .i64 2 wn, .symS 1, trivial⟩, trivial⟩ rfl hrun
  rcases (by omega : k < 0 ∨ k = 0 ∨ k = 1 ∨ k = 2 ∨ k = 3 ∨ k = 4 ∨ 4 < k) with h | h | h | h | h | h | h
  · exact ⟨-1, by omega, key 0 0 h trivial _ (run00 k n s h trivial)⟩
  · exact ⟨-1, by omega, key 1 0 h trivial _ (run10 k n s h trivial)⟩
  · exact ⟨-1, by omega, key 2 0 h trivial _ (run20 k n s h trivial)⟩
  · exact ⟨-1, by omega, key 3 0 h trivial _ (run30 k n s h trivial)⟩
  · exact ⟨-1, by omega, key 4 0 h trivial _ (run40 k n s h trivial)⟩
  · rcases (by omega : n < 0 ∨ n = 0 ∨ 0 < n) with h' | h' | h'
    · exact ⟨1, by omega, key 5 1 h h' _ (run51 k n s h h')⟩
    · exact ⟨0, by omega, key 5 2 h h' _ (run52 k n s h h')⟩
    · exact ⟨1, by omega, key 5 3 h h' _ (run53 k n s h h')⟩
  · exact ⟨-1, by omega, key 6 0 h trivial _ (run60 k n s h trivial)⟩

/-- Of the truths that are told. -/
def tbl : CE.Tbl := [([.agg [.int .i64 4, .int .i64 0, .str []]], .int .i64 0), ([.agg [.int .i64 4, .int .i64 1, .str []]], .int .i64 1), ([.agg [.int .i64 0, .int .i64 0, .str []]], .int .i64 (-1))]
theorem runTbl : runs gl0 (@cfg gl0) 400 36 tbl = true := by kernel_rfl
theorem tells {w : World} (h : MaxOk w) : CE.Tells Tryz.prog 36 tbl w :=
  @CE.tells_of_runs gl0 Tryz.prog follows (@namesOk gl0) _ w (gl0Ok w) (@cfgOk gl0 w h) 400 36 Tryz.f36 Tryz.func36 body36 tbl runTbl

end Go.Proofs.YtpfljhdfinbdcaaGreatDoor.truth

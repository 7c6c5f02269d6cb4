/-
  value.Cmp at two values of one kind that is not 0: -1, 0 or 1, and the opposite of them turned round (its runs: a class of kinds, and how numbers or texts compare).
-/
import Derived.Test.YtpfljhdfinbdcaaGreatDoorLivesB
import Derived.Test.YtpfljhdfinbdcaaGreatDoorTruth
import Derived.Test.YtpfljhdfinbdcaaGreatDoorOrdCmp
namespace Go.Proofs.YtpfljhdfinbdcaaGreatDoor.cmp
set_option linter.unusedVariables false
set_option linter.unusedSimpArgs false
set_option linter.unusedSectionVars false
set_option linter.unnecessarySimpa false
open Go.RowKit (Below)

/-- How two numbers compare, both ways. -/
def relN (o : Ordering) (i j : Nat) : Option Ordering :=
  match i, j with
  | 1, 3 => some .eq
  | 3, 1 => some .eq
  | 2, 4 => some o
  | 4, 2 => some o.swap
  | _, _ => none
def relS (o : Ordering) (i j : Nat) : Option Ordering :=
  match i, j with
  | 1, 2 => some o
  | 2, 1 => some o.swap
  | _, _ => none

/-- Two values of kind k, of class j; their numbers compare as o, their texts as q. -/
abbrev gl (k n n2 : Int) (s s2 : ByteArray) (j : Nat) (o q : Ordering) (hk : truth.isK j k) (ho : compare n n2 = o) (hq : CE.strCmp (CE.bytesL s) (CE.bytesL s2) = q) : CE.Glob :=
  ⟨fun _ => .any, fun x => match x with | 1 => k | 2 => n | 3 => k | _ => n2, fun x c => match x with | 1 => truth.knowK j c | 3 => truth.knowK j c | _ => none, relN o,
    fun x c p h => (by
      split at h
      · exact truth.knowK_ok hk c p h
      · exact truth.knowK_ok hk c p h
      · cases h),
    fun x y p h => (by
      unfold relN at h
      split at h
      · cases h; simp
      · cases h; simp
      · cases h; exact ho
      · cases h; rw [← ho]; exact Std.OrientedCmp.eq_swap
      · cases h),
    fun x => match x with | 1 => s | _ => s2, fun _ _ => none, relS q, fun _ _ _ h => (by cases h),
    fun x y p h => (by
      unfold relS at h
      split at h
      · cases h; exact hq
      · cases h; rw [← hq]; exact @CE.strCmp_swap gl0 _ _
      · cases h)⟩
abbrev va : CE.CV := .agg [.sym .i64 1, .sym .i64 2, .symS 1]
abbrev vb : CE.CV := .agg [.sym .i64 3, .sym .i64 4, .symS 2]
/-- value.Cmp, both ways round. -/
noncomputable def run (G : CE.Glob) (t : Int) : Bool :=
  (CE.ccall Tryz.prog cfg 400 0 65 [va, vb] []).allB (CE.isVal (.int .i64 t)) && (CE.ccall Tryz.prog cfg 400 0 65 [vb, va] []).allB (CE.isVal (.int .i64 (-t)))
def tblF (t : Int) : CE.Tbl := [([.sym .i64 2, .sym .i64 4], .int .i64 t), ([.sym .i64 4, .sym .i64 2], .int .i64 (-t))]
def cfgF [CE.Glob] (t : Int) : CE.Cfg := cfg.with 85 (tblF t)
noncomputable def runF (G : CE.Glob) (t : Int) : Bool :=
  (CE.ccall Tryz.prog (cfgF t) 400 0 65 [va, vb] []).allB (CE.isVal (.int .i64 t)) && (CE.ccall Tryz.prog (cfgF t) 400 0 65 [vb, va] []).allB (CE.isVal (.int .i64 (-t)))
set_option maxRecDepth 100000
theorem run00 (k n n2 : Int) (s s2 : ByteArray) (q : Ordering) (hk : truth.isK 0 k) (ho : compare n n2 = .lt) (hq : CE.strCmp (CE.bytesL s) (CE.bytesL s2) = q) : run (gl k n n2 s s2 0 .lt q hk ho hq) (-1) = true := by kernel_rfl
theorem run01 (k n n2 : Int) (s s2 : ByteArray) (q : Ordering) (hk : truth.isK 0 k) (ho : compare n n2 = .eq) (hq : CE.strCmp (CE.bytesL s) (CE.bytesL s2) = q) : run (gl k n n2 s s2 0 .eq q hk ho hq) 0 = true := by kernel_rfl
theorem run02 (k n n2 : Int) (s s2 : ByteArray) (q : Ordering) (hk : truth.isK 0 k) (ho : compare n n2 = .gt) (hq : CE.strCmp (CE.bytesL s) (CE.bytesL s2) = q) : run (gl k n n2 s s2 0 .gt q hk ho hq) 1 = true := by kernel_rfl
theorem run20 (k n n2 : Int) (s s2 : ByteArray) (q : Ordering) (hk : truth.isK 2 k) (ho : compare n n2 = .lt) (hq : CE.strCmp (CE.bytesL s) (CE.bytesL s2) = q) : run (gl k n n2 s s2 2 .lt q hk ho hq) (-1) = true := by kernel_rfl
theorem run21 (k n n2 : Int) (s s2 : ByteArray) (q : Ordering) (hk : truth.isK 2 k) (ho : compare n n2 = .eq) (hq : CE.strCmp (CE.bytesL s) (CE.bytesL s2) = q) : run (gl k n n2 s s2 2 .eq q hk ho hq) 0 = true := by kernel_rfl
theorem run22 (k n n2 : Int) (s s2 : ByteArray) (q : Ordering) (hk : truth.isK 2 k) (ho : compare n n2 = .gt) (hq : CE.strCmp (CE.bytesL s) (CE.bytesL s2) = q) : run (gl k n n2 s s2 2 .gt q hk ho hq) 1 = true := by kernel_rfl
theorem run50 (k n n2 : Int) (s s2 : ByteArray) (q : Ordering) (hk : truth.isK 5 k) (ho : compare n n2 = .lt) (hq : CE.strCmp (CE.bytesL s) (CE.bytesL s2) = q) : run (gl k n n2 s s2 5 .lt q hk ho hq) (-1) = true := by kernel_rfl
theorem run51 (k n n2 : Int) (s s2 : ByteArray) (q : Ordering) (hk : truth.isK 5 k) (ho : compare n n2 = .eq) (hq : CE.strCmp (CE.bytesL s) (CE.bytesL s2) = q) : run (gl k n n2 s s2 5 .eq q hk ho hq) 0 = true := by kernel_rfl
theorem run52 (k n n2 : Int) (s s2 : ByteArray) (q : Ordering) (hk : truth.isK 5 k) (ho : compare n n2 = .gt) (hq : CE.strCmp (CE.bytesL s) (CE.bytesL s2) = q) : run (gl k n n2 s s2 5 .gt q hk ho hq) 1 = true := by kernel_rfl
theorem run60 (k n n2 : Int) (s s2 : ByteArray) (q : Ordering) (hk : truth.isK 6 k) (ho : compare n n2 = .lt) (hq : CE.strCmp (CE.bytesL s) (CE.bytesL s2) = q) : run (gl k n n2 s s2 6 .lt q hk ho hq) (-1) = true := by kernel_rfl
theorem run61 (k n n2 : Int) (s s2 : ByteArray) (q : Ordering) (hk : truth.isK 6 k) (ho : compare n n2 = .eq) (hq : CE.strCmp (CE.bytesL s) (CE.bytesL s2) = q) : run (gl k n n2 s s2 6 .eq q hk ho hq) 0 = true := by kernel_rfl
theorem run62 (k n n2 : Int) (s s2 : ByteArray) (q : Ordering) (hk : truth.isK 6 k) (ho : compare n n2 = .gt) (hq : CE.strCmp (CE.bytesL s) (CE.bytesL s2) = q) : run (gl k n n2 s s2 6 .gt q hk ho hq) 1 = true := by kernel_rfl
theorem run30 (k n n2 : Int) (s s2 : ByteArray) (o q : Ordering) (hk : truth.isK 3 k) (ho : compare n n2 = o) (hq : CE.strCmp (CE.bytesL s) (CE.bytesL s2) = q) : runF (gl k n n2 s s2 3 o q hk ho hq) (-1) = true := by kernel_rfl
theorem run31 (k n n2 : Int) (s s2 : ByteArray) (o q : Ordering) (hk : truth.isK 3 k) (ho : compare n n2 = o) (hq : CE.strCmp (CE.bytesL s) (CE.bytesL s2) = q) : runF (gl k n n2 s s2 3 o q hk ho hq) 0 = true := by kernel_rfl
theorem run32 (k n n2 : Int) (s s2 : ByteArray) (o q : Ordering) (hk : truth.isK 3 k) (ho : compare n n2 = o) (hq : CE.strCmp (CE.bytesL s) (CE.bytesL s2) = q) : runF (gl k n n2 s s2 3 o q hk ho hq) 1 = true := by kernel_rfl
theorem run40 (k n n2 : Int) (s s2 : ByteArray) (o : Ordering) (hk : truth.isK 4 k) (ho : compare n n2 = o) (hq : CE.strCmp (CE.bytesL s) (CE.bytesL s2) = .lt) : run (gl k n n2 s s2 4 o .lt hk ho hq) (-1) = true := by kernel_rfl
theorem run41 (k n n2 : Int) (s s2 : ByteArray) (o : Ordering) (hk : truth.isK 4 k) (ho : compare n n2 = o) (hq : CE.strCmp (CE.bytesL s) (CE.bytesL s2) = .eq) : run (gl k n n2 s s2 4 o .eq hk ho hq) 0 = true := by kernel_rfl
theorem run42 (k n n2 : Int) (s s2 : ByteArray) (o : Ordering) (hk : truth.isK 4 k) (ho : compare n n2 = o) (hq : CE.strCmp (CE.bytesL s) (CE.bytesL s2) = .gt) : run (gl k n n2 s s2 4 o .gt hk ho hq) 1 = true := by kernel_rfl

theorem body65 : Tryz.f65.body.isSome = true := by kernel_rfl
theorem body85 : Tryz.f85.body.isSome = true := by kernel_rfl
abbrev A (k n : Int) (s : ByteArray) : Value := .agg #[.int .i64 k, .int .i64 n, .string s]
/-- What is to be shown. -/
def Both (k n n2 : Int) (s s2 : ByteArray) (t : Int) : Prop := ∀ w, MaxOk w →
    Calls Tryz.prog 65 #[A k n s, A k n2 s2] w (fun e w' => e = .returned (.int .i64 t) ∧ Below w.heap.size w w') ∧
    Calls Tryz.prog 65 #[A k n2 s2, A k n s] w (fun e w' => e = .returned (.int .i64 (-t)) ∧ Below w.heap.size w w')

theorem both_of {k n n2 : Int} {s s2 : ByteArray} (wk : IntKind.i64.wrap k = k) (wn : IntKind.i64.wrap n = n) (wn2 : IntKind.i64.wrap n2 = n2) {j : Nat} {o q : Ordering} (hk : truth.isK j k) (ho : compare n n2 = o) (hq : CE.strCmp (CE.bytesL s) (CE.bytesL s2) = q) {t : Int}
    (hrun : run (gl k n n2 s s2 j o q hk ho hq) t = true) : Both k n n2 s s2 t := by
  obtain ⟨c, hc⟩ := Option.isSome_iff_exists.1 body65
  intro w hw
  simp only [run, Bool.and_eq_true] at hrun
  letI G := gl k n n2 s s2 j o q hk ho hq
  have ha : CE.VR (CE.Gho.start w) (A k n s) va := .agg' ⟨.sym .i64 1 wk, .sym .i64 2 wn, .symS 1, trivial⟩
  have hb : CE.VR (CE.Gho.start w) (A k n2 s2) vb := .agg' ⟨.sym .i64 3 wk, .sym .i64 4 wn2, .symS 2, trivial⟩
  exact ⟨CE.calls_of_run (res := .int .i64 t) (args := [va, vb]) follows namesOk cfg (fun _ => .any _) (cfgOk hw) Tryz.func65 hc ⟨ha, hb, trivial⟩ rfl hrun.1,
    CE.calls_of_run (res := .int .i64 (-t)) (args := [vb, va]) follows namesOk cfg (fun _ => .any _) (cfgOk hw) Tryz.func65 hc ⟨hb, ha, trivial⟩ rfl hrun.2⟩

theorem tellsF {k n n2 : Int} {s s2 : ByteArray} {j : Nat} {o q : Ordering} (hk : truth.isK j k) (ho : compare n n2 = o) (hq : CE.strCmp (CE.bytesL s) (CE.bytesL s2) = q) (w : World) :
    @CE.TellsV (gl k n n2 s s2 j o q hk ho hq) Tryz.prog 85 (tblF (ordCmp.cmpB (ordCmp.bits n) (ordCmp.bits n2))) w := by
  letI G := gl k n n2 s s2 j o q hk ho hq
  intro p hp g rargs hargs
  rcases List.mem_cons.1 hp with rfl | hp
  · match rargs, hargs with
    | [u, v], ⟨hu, hv, _⟩ =>
      cases hu; cases hv
      exact ⟨_, fun g' => .int _ _, (ordCmp.calls n n2 w).mono fun e w' ⟨he, hw⟩ => ⟨he, hw ▸ Below.refl _ _⟩⟩
  rcases List.mem_cons.1 hp with rfl | hp
  · match rargs, hargs with
    | [u, v], ⟨hu, hv, _⟩ =>
      cases hu; cases hv
      exact ⟨_, fun g' => .int _ _, (ordCmp.calls n2 n w).mono fun e w' ⟨he, hw⟩ => ⟨by rw [he, ordCmp.cmpB_turned], hw ▸ Below.refl _ _⟩⟩
  · cases hp

theorem bothF_of {k n n2 : Int} {s s2 : ByteArray} (wk : IntKind.i64.wrap k = k) (wn : IntKind.i64.wrap n = n) (wn2 : IntKind.i64.wrap n2 = n2) {j : Nat} {o q : Ordering} (hk : truth.isK j k) (ho : compare n n2 = o) (hq : CE.strCmp (CE.bytesL s) (CE.bytesL s2) = q) {t : Int}
    (ht : ordCmp.cmpB (ordCmp.bits n) (ordCmp.bits n2) = t) (hrun : runF (gl k n n2 s s2 j o q hk ho hq) t = true) : Both k n n2 s s2 t := by
  obtain ⟨c, hc⟩ := Option.isSome_iff_exists.1 body65
  obtain ⟨c85, hc85⟩ := Option.isSome_iff_exists.1 body85
  intro w hw
  simp only [runF, Bool.and_eq_true] at hrun
  letI G := gl k n n2 s s2 j o q hk ho hq
  have ha : CE.VR (CE.Gho.start w) (A k n s) va := .agg' ⟨.sym .i64 1 wk, .sym .i64 2 wn, .symS 1, trivial⟩
  have hb : CE.VR (CE.Gho.start w) (A k n2 s2) vb := .agg' ⟨.sym .i64 3 wk, .sym .i64 4 wn2, .symS 2, trivial⟩
  have hcfg : CE.CfgOk Tryz.prog w (cfgF t) := CE.CfgOk.withV namesOk (cfgOk hw) Tryz.func85 hc85 fun w' _ => ht ▸ tellsF hk ho hq w'
  exact ⟨CE.calls_of_run (res := .int .i64 t) (args := [va, vb]) follows namesOk (cfgF t) (fun _ => .any _) hcfg Tryz.func65 hc ⟨ha, hb, trivial⟩ rfl hrun.1,
    CE.calls_of_run (res := .int .i64 (-t)) (args := [vb, va]) follows namesOk (cfgF t) (fun _ => .any _) hcfg Tryz.func65 hc ⟨hb, ha, trivial⟩ rfl hrun.2⟩

theorem both {k n n2 : Int} {s s2 : ByteArray} (wk : IntKind.i64.wrap k = k) (wn : IntKind.i64.wrap n = n) (wn2 : IntKind.i64.wrap n2 = n2) (h0 : k ≠ 0) : ∃ t : Int, (t = -1 ∨ t = 0 ∨ t = 1) ∧ Both k n n2 s s2 t := by
  rcases (by omega : k < 0 ∨ k = 1 ∨ k = 2 ∨ k = 3 ∨ k = 4 ∨ 4 < k) with h | h | h | h | h | h
  · cases ho : compare n n2 with
    | lt => exact ⟨-1, by omega, both_of (j := 0) wk wn wn2 h ho rfl (run00 k n n2 s s2 _ h ho rfl)⟩
    | eq => exact ⟨0, by omega, both_of (j := 0) wk wn wn2 h ho rfl (run01 k n n2 s s2 _ h ho rfl)⟩
    | gt => exact ⟨1, by omega, both_of (j := 0) wk wn wn2 h ho rfl (run02 k n n2 s s2 _ h ho rfl)⟩
  · cases ho : compare n n2 with
    | lt => exact ⟨-1, by omega, both_of (j := 2) wk wn wn2 h ho rfl (run20 k n n2 s s2 _ h ho rfl)⟩
    | eq => exact ⟨0, by omega, both_of (j := 2) wk wn wn2 h ho rfl (run21 k n n2 s s2 _ h ho rfl)⟩
    | gt => exact ⟨1, by omega, both_of (j := 2) wk wn wn2 h ho rfl (run22 k n n2 s s2 _ h ho rfl)⟩
  · rcases ordCmp.cmpB_range (ordCmp.bits n) (ordCmp.bits n2) with ht | ht | ht
    · exact ⟨-1, by omega, bothF_of (j := 3) wk wn wn2 h rfl rfl ht (run30 k n n2 s s2 _ _ h rfl rfl)⟩
    · exact ⟨0, by omega, bothF_of (j := 3) wk wn wn2 h rfl rfl ht (run31 k n n2 s s2 _ _ h rfl rfl)⟩
    · exact ⟨1, by omega, bothF_of (j := 3) wk wn wn2 h rfl rfl ht (run32 k n n2 s s2 _ _ h rfl rfl)⟩
  · cases hq : CE.strCmp (CE.bytesL s) (CE.bytesL s2) with
    | lt => exact ⟨-1, by omega, both_of (j := 4) wk wn wn2 h rfl hq (run40 k n n2 s s2 _ h rfl hq)⟩
    | eq => exact ⟨0, by omega, both_of (j := 4) wk wn wn2 h rfl hq (run41 k n n2 s s2 _ h rfl hq)⟩
    | gt => exact ⟨1, by omega, both_of (j := 4) wk wn wn2 h rfl hq (run42 k n n2 s s2 _ h rfl hq)⟩
  · cases ho : compare n n2 with
    | lt => exact ⟨-1, by omega, both_of (j := 5) wk wn wn2 h ho rfl (run50 k n n2 s s2 _ h ho rfl)⟩
    | eq => exact ⟨0, by omega, both_of (j := 5) wk wn wn2 h ho rfl (run51 k n n2 s s2 _ h ho rfl)⟩
    | gt => exact ⟨1, by omega, both_of (j := 5) wk wn wn2 h ho rfl (run52 k n n2 s s2 _ h ho rfl)⟩
  · cases ho : compare n n2 with
    | lt => exact ⟨-1, by omega, both_of (j := 6) wk wn wn2 h ho rfl (run60 k n n2 s s2 _ h ho rfl)⟩
    | eq => exact ⟨0, by omega, both_of (j := 6) wk wn wn2 h ho rfl (run61 k n n2 s s2 _ h ho rfl)⟩
    | gt => exact ⟨1, by omega, both_of (j := 6) wk wn wn2 h ho rfl (run62 k n n2 s s2 _ h ho rfl)⟩

end Go.Proofs.YtpfljhdfinbdcaaGreatDoor.cmp

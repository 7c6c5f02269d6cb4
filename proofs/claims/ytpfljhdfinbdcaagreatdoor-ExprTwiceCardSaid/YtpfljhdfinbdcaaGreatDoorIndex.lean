/-
  internal/stringslite.Index over this program: what the library's contract of it asks: numbers, bodies, types (each a closed fact); whatever internal/bytealg.MaxLen holds.
-/
import Derived.Test.YtpfljhdfinbdcaaGreatDoorProg
import Derived.Shelf.Strings.Search2
import Derived.Test.YtpfljhdfinbdcaaGreatDoorCeL
namespace Go.Proofs.YtpfljhdfinbdcaaGreatDoor
set_option linter.unusedVariables false
set_option linter.unusedSimpArgs false
set_option linter.unusedSectionVars false
set_option linter.unnecessarySimpa false
open Go.RowKit (Below)

def ren : Go.Shelf.Ren := ⟨fun x => match x with
  | 217 => 148
  | 219 => 150
  | 224 => 146
  | 225 => 147
  | 266 => 154
  | 267 => 156
  | 314 => 161
  | _ => 0, fun x => match x with
  | 3 => 3
  | 4 => 4
  | 5 => 5
  | 9 => 9
  | 46 => 117
  | 51 => 196
  | 146 => 197
  | _ => 0, fun x => match x with
  | 1 => 0
  | _ => 1⟩

theorem mixed : Tryz.prog.follows .mixedOrders = true := by kernel_rfl
theorem lays219 : Lays.n219 Tryz.prog ren := {
  mixed := mixed
  f217 := by kernel_rfl
  f219 := by kernel_rfl
  f224 := by kernel_rfl
  f225 := by kernel_rfl
  f266 := by kernel_rfl
  f267 := by kernel_rfl
  f314 := by kernel_rfl
  t3 := Tryz.underlying3
  a3 := Tryz.isAgg3
  z3 := Tryz.sizeOf3
  v3 := Tryz.zeroValue3
  t4 := Tryz.underlying4
  a4 := Tryz.isAgg4
  z4 := Tryz.sizeOf4
  v4 := Tryz.zeroValue4
  t5 := Tryz.underlying5
  a5 := Tryz.isAgg5
  z5 := Tryz.sizeOf5
  v5 := Tryz.zeroValue5
  t9 := Tryz.underlying9
  a9 := Tryz.isAgg9
  z9 := Tryz.sizeOf9
  v9 := Tryz.zeroValue9
  t46 := Tryz.underlying117
  a46 := Tryz.isAgg117
  z46 := Tryz.sizeOf117
  v46 := Tryz.zeroValue117
  t51 := Tryz.underlying196
  a51 := Tryz.isAgg196
  z51 := Tryz.sizeOf196
  v51 := Tryz.zeroValue196
  t146 := Tryz.underlying197
  a146 := Tryz.isAgg197
  z146 := Tryz.sizeOf197
  v146 := Tryz.zeroValue197
  g1 := by kernel_rfl }

/-- MaxLen holds a whole number. -/
def MaxOk (w : World) : Prop := ∃ m, w.cell? ⟨0, 0, none⟩ = some (.int .i64 m)
theorem MaxOk.below {w w' : World} (h : MaxOk w) (hb : Below w.heap.size w w') : MaxOk w' := by
  obtain ⟨m, h1⟩ := h
  have := World.block_lt_of_cell? _ _ h1
  exact ⟨m, by rw [hb.cell (by simpa using this)]; exact h1⟩

theorem indexLaw {w : World} (h : MaxOk w) (s sub : ByteArray) (hs : s.size < 4294967281) :
    Calls Tryz.prog 150 #[.string s, .string sub] w fun e w' => e = .returned (.int .i64 (Lib.index s.data.toList sub.data.toList)) ∧ w' = w := by
  obtain ⟨m, hm⟩ := h
  exact Any.stringslite_Index lays219 s sub m w hs hm

end Go.Proofs.YtpfljhdfinbdcaaGreatDoor

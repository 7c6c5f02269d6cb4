/-
  The canonical evaluator's operations: what lays a new block; stores.
-/
import Derived.Test.YtgfelhlilajfmaaGreatDoorCeC4
namespace Go.CE
set_option linter.unusedVariables false
set_option linter.unusedSimpArgs false
set_option linter.unusedSectionVars false
set_option linter.unnecessarySimpa false
open Go.RowKit (Below)
variable [Glob]

/-- Where a new block may come to lie. -/
def SlotOk (g : Gho) (h : Heap) (nb : Nat) : Option Nat → Prop
  | none => nb ≤ h.length
  | some i => nb ≤ i ∧ i < h.length ∧ g.φ i = none

section
variable {P : Program} {w0 w : World} {g : Gho} {h : Heap} {nb : Nat}

theorem dom_none (hw : WI w0 g h w) {id : Nat} (hid : h.length ≤ id) : g.φ id = none := by
  cases hc : g.φ id with
  | none => rfl
  | some x => have := hw.dom id x hc; omega

/-- A block at its place, and what it needs of the new real block. -/
theorem place_new (hw : WI w0 g h w) {slot : Option Nat} (hs : SlotOk g h nb slot) {x : Blk} {ob : Obj} {L : Nat}
    (hbr : ∀ id, (∀ i, i < nb → i ≠ id) → BR (g.new id w.heap.size L) (w.alloc ob) id w.heap.size 0 L x) :
    ∃ g', Gle nb g g' ∧ WI w0 g' (place slot h x).2 (w.alloc ob) ∧ g'.φ (place slot h x).1 = some (w.heap.size, 0, L) := by
  cases slot with
  | none =>
    have hid := dom_none hw (Nat.le_refl h.length)
    refine ⟨g.new h.length w.heap.size L, Gho.new_le hw hid hs, ?_, by simp [Gho.new, place]⟩
    refine WI.new hw hid (by simp [place]) (by simp [place]) (by simp [place]) (fun i hi hlt => by simp [place, List.getElem?_append_left hlt]) (hbr _ (fun i hi => by have : nb ≤ h.length := hs; omega))
  | some i =>
    obtain ⟨h1, h2, h3⟩ := hs
    refine ⟨g.new i w.heap.size L, Gho.new_le hw h3 h1, ?_, by simp [Gho.new, place]⟩
    refine WI.new hw h3 (by simp [place]) (by simpa [place] using h2) (by simp [place, h2]) (fun j hj hlt => by simp [place, List.getElem?_set, Ne.symm hj]) (hbr _ (fun j hj => by omega))

theorem row_new (hw : WI w0 g h w) {cs : Array Value} {cells : List CV} {T : TypeId} (id : Nat) (hv : VRL g (cs.toList.take cells.length) cells) (hid : g.φ id = none) :
    BR (g.new id w.heap.size cs.size) (w.alloc (.cells cs T)) id w.heap.size 0 cs.size (.row cells) := by
  have hle := Gho.new_le (n := 0) (L := cs.size) hw hid (Nat.zero_le _)
  have hlen : cells.length ≤ cs.size := by
    have := hv.length
    simp at this
    omega
  refine ⟨hlen, fun j hj => ⟨by simp [Gho.new], ⟨cs[j], by simp [hj]⟩, by simp⟩, fun j hj => ?_⟩
  have hjs : j < cs.size := by omega
  refine ⟨cs[j], by simp [hjs], ?_⟩
  have := (VRL_iff.1 hv).2 j hj
  have hle' := VR.le hle this
  simpa [List.getD, List.getElem?_take, hj, hjs] using hle'

theorem fresh_id (hw : WI w0 g h w) {slot : Option Nat} (hs : SlotOk g h nb slot) {x : Blk} : g.φ (place slot h x).1 = none := by
  cases slot with
  | none => exact dom_none hw (Nat.le_refl _)
  | some i => exact hs.2.2

theorem place_row (hw : WI w0 g h w) {slot : Option Nat} (hs : SlotOk g h nb slot) {cs : Array Value} {cells : List CV} {T : TypeId} (hv : VRL g (cs.toList.take cells.length) cells) :
    ∃ g', Gle nb g g' ∧ WI w0 g' (place slot h (.row cells)).2 (w.alloc (.cells cs T)) ∧ g'.φ (place slot h (.row cells)).1 = some (w.heap.size, 0, cs.size) := by
  cases slot with
  | none =>
    have hid := dom_none hw (Nat.le_refl h.length)
    refine ⟨g.new h.length w.heap.size cs.size, Gho.new_le hw hid hs, ?_, by simp [Gho.new, place]⟩
    exact WI.new hw hid (by simp [place]) (by simp [place]) (by simp [place]) (fun i hi hlt => by simp [place, List.getElem?_append_left hlt]) (row_new hw _ hv hid)
  | some i =>
    obtain ⟨h1, h2, h3⟩ := hs
    refine ⟨g.new i w.heap.size cs.size, Gho.new_le hw h3 h1, ?_, by simp [Gho.new, place]⟩
    exact WI.new hw h3 (by simp [place]) (by simpa [place] using h2) (by simp [place, h2]) (fun j hj hlt => by simp [place, List.getElem?_set, Ne.symm hj]) (row_new hw _ hv h3)

theorem place_rowAll (hw : WI w0 g h w) {slot : Option Nat} (hs : SlotOk g h nb slot) {cs : Array Value} {cells : List CV} {T : TypeId} (hv : VRL g cs.toList cells) :
    ∃ g', Gle nb g g' ∧ WI w0 g' (place slot h (.row cells)).2 (w.alloc (.cells cs T)) ∧ g'.φ (place slot h (.row cells)).1 = some (w.heap.size, 0, cs.size) :=
  place_row hw hs (by rw [List.take_of_length_le (by rw [hv.length]; exact Nat.le_refl _)]; exact hv)

theorem cells_VR {v : Value} {c : CV} (hv : VR g v c) (hc : c ≠ .any) : VRL g v.cells.toList (ccells c) := by
  cases hv <;> first
    | exact absurd rfl hc
    | (simp only [Value.cells, ccells, VRL, and_true]; constructor <;> assumption)
    | skip
  case agg cs cs' h1 h2 => exact VRL_iff.2 ⟨h1, h2⟩
  all_goals exact ⟨by constructor <;> assumption, trivial⟩

theorem set_splice : ∀ (xs : List Value) (cells : Array Value) (off k : Nat), off + k + xs.length ≤ cells.size →
    ((xs.zipIdx k).foldl (fun cs (p : Value × Nat) => cs.setIfInBounds (off + p.2) p.1) cells).toList = cells.toList.take (off + k) ++ xs ++ cells.toList.drop (off + k + xs.length)
  | [], cells, off, k, h => by simp
  | x :: xs, cells, off, k, h => by
    simp only [List.length_cons] at h
    simp only [List.zipIdx_cons, List.foldl_cons]
    rw [show (xs.zipIdx (k + 1)) = xs.zipIdx (k + 1) from rfl, set_splice xs _ off (k + 1) (by simp; omega)]
    simp only [Array.toList_setIfInBounds, List.length_cons]
    have hlt : off + k < cells.toList.length := by simp; omega
    rw [show off + (k + 1) = off + k + 1 by omega]
    rw [List.take_succ_eq_append_getElem (by simpa using hlt), List.take_set, List.drop_set]
    simp only [List.getElem_set_self]
    rw [if_pos (by omega)]
    have : (cells.toList.take (off + k)).set (off + k) x = cells.toList.take (off + k) := List.set_eq_of_length_le (by simp; omega)
    rw [this, show off + k + 1 + xs.length = off + k + (xs.length + 1) by omega]
    simp

theorem fill_fit : ∀ {parts : List (Nat × Value)} {parts' : List (Nat × CV)} {place : Nat → Option (Nat × Nat)} {cells : Array Value} {cells' out : List CV},
    (parts.length = parts'.length ∧ ∀ (j : Nat) (p : Nat × Value) (p' : Nat × CV), parts[j]? = some p → parts'[j]? = some p' → p.1 = p'.1 ∧ VR g p.2 p'.2) → VRL g cells.toList cells' →
    cfill place cells' parts' = some out → ∃ o, Instr.fill place cells parts = some o ∧ VRL g o.toList out
  | [], [], place, cells, cells', out, _, hc, h => by
    simp [cfill] at h
    subst h
    exact ⟨cells, rfl, hc⟩
  | [], _ :: _, _, _, _, _, hp, _, _ => by simp at hp
  | _ :: _, [], _, _, _, _, hp, _, _ => by simp at hp
  | (i, v) :: parts, (i', v') :: parts', place, cells, cells', out, hp, hc, h => by
    obtain ⟨hl, hp⟩ := hp
    obtain ⟨rfl, hv⟩ := hp 0 _ _ rfl rfl
    simp only at hv
    simp only [cfill] at h
    split at h
    · cases h
    · rename_i v' _ _ off size hpl hna
      split at h
      · rename_i hcond
        have hcv := cells_VR hv (by intro e; exact hna e)
        have hlen := hcv.length
        have hcl := hc.length
        have hsz : v.cells.size = size := by simp at hlen; omega
        have hle : off + v.cells.size ≤ cells.size := by simp at hcl; omega
        have hsp : VRL g (v.cells.zipIdx.foldl (fun cs (p : Value × Nat) => cs.setIfInBounds (off + p.2) p.1) cells).toList (splice cells' off (ccells v')) := by
          rw [← Array.foldl_toList, Array.toList_zipIdx, set_splice _ _ _ _ (by simpa using hle)]
          simp only [Nat.add_zero, splice]
          rw [hlen]
          exact ((hc.take off).append hcv).append (hc.drop _)
        obtain ⟨o, h1, h2⟩ := fill_fit (parts := parts) (parts' := parts') (place := place) ⟨by simpa using hl, fun j p p' a b => hp (j + 1) p p' a b⟩ hsp h
        refine ⟨o, ?_, h2⟩
        simp only [Instr.fill, hpl]
        rw [if_neg (by simp [hsz]; omega)]
        exact h1
      · cases h
    · cases h

end
end Go.CE

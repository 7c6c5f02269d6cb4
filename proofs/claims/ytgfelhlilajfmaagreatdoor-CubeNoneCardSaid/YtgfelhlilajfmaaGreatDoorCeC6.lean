/-
  The canonical evaluator's operations: stores into rows; append; copy.
-/
import Derived.Test.YtgfelhlilajfmaaGreatDoorCeC5
namespace Go.CE
set_option linter.unusedVariables false
set_option linter.unusedSimpArgs false
set_option linter.unusedSectionVars false
set_option linter.unnecessarySimpa false
open Go.RowKit (Below)
variable [Glob]

/-- Cells written one behind the other. -/
def setCells (w : World) (b o : Nat) : List Value → World
  | [] => w
  | v :: vs => setCells (w.setCell ⟨b, o, none⟩ v) b (o + 1) vs

section
variable {P : Program} {w0 w : World} {g : Gho} {h : Heap} {nb : Nat}

theorem setCells_size (b : Nat) : ∀ (vs : List Value) (w : World) (o : Nat), (setCells w b o vs).heap.size = w.heap.size
  | [], _, _ => rfl
  | v :: vs, w, o => by simp [setCells, setCells_size b vs]
theorem setCells_frozen (b : Nat) (a : Addr) : ∀ (vs : List Value) (w : World) (o : Nat), (setCells w b o vs).frozen? a = w.frozen? a
  | [], _, _ => rfl
  | v :: vs, w, o => by simp [setCells, setCells_frozen b a vs]
theorem setCells_other (b b' o' : Nat) : ∀ (vs : List Value) (w : World) (o : Nat), (b' ≠ b ∨ o' < o ∨ o + vs.length ≤ o') → (setCells w b o vs).cell? ⟨b', o', none⟩ = w.cell? ⟨b', o', none⟩
  | [], _, _, _ => rfl
  | v :: vs, w, o, hh => by
    simp only [setCells]
    rw [setCells_other b b' o' vs _ (o + 1) (by simp at hh; omega)]
    exact World.cell?_setCell_other _ _ _ _ (by simp at hh ⊢; intro e; omega)
theorem setCells_block (b b' : Nat) (hb : b' ≠ b) : ∀ (vs : List Value) (w : World) (o : Nat), (setCells w b o vs).heap[b']? = w.heap[b']?
  | [], _, _ => rfl
  | v :: vs, w, o => by
    simp only [setCells]
    rw [setCells_block b b' hb vs _ (o + 1)]
    simp only [World.setCell, Array.getElem?_modify]
    rw [if_neg (Ne.symm hb)]
theorem setCells_at (b : Nat) : ∀ (vs : List Value) (w : World) (o : Nat), (∀ j, j < vs.length → ∃ u, w.cell? ⟨b, o + j, none⟩ = some u) → ∀ j, j < vs.length →
    (setCells w b o vs).cell? ⟨b, o + j, none⟩ = vs[j]?
  | [], _, _, _, j, hj => by simp at hj
  | v :: vs, w, o, hc, j, hj => by
    simp only [setCells]
    obtain ⟨u, hu⟩ := hc 0 (by simp)
    cases j with
    | zero =>
      rw [setCells_other b b (o + 0) vs _ (o + 1) (by right; left; omega)]
      simp only [Nat.add_zero] at hu ⊢
      simpa using World.cell?_setCell_same w _ v hu
    | succ j =>
      have := setCells_at b vs (w.setCell ⟨b, o, none⟩ v) (o + 1) (fun i hi => by
        obtain ⟨u', hu'⟩ := hc (i + 1) (by simpa using hi)
        refine ⟨u', ?_⟩
        rw [World.cell?_setCell_other _ _ _ _ (by simp; omega), ← hu']
        congr 2; omega) j (by simpa using hj)
      rw [show o + (j + 1) = o + 1 + j by omega, this]
      simp
theorem setCells_below {B : Nat} {w1 : World} (b : Nat) (hB : B ≤ b) : ∀ (vs : List Value) (w : World) (o : Nat), Below B w1 w → Below B w1 (setCells w b o vs)
  | [], _, _, k => k
  | v :: vs, w, o, k => setCells_below b hB vs _ (o + 1) (k.setCell (p := ⟨b, o, none⟩) hB v)

theorem run_storeCells (a : Addr) (b o : Nat) (ha : ∀ i, a.add i = ⟨b, o + i, none⟩) : ∀ (vs : List Value) (w : World) (i : Nat),
    (∀ j, j < vs.length → ∃ u, w.cell? ⟨b, o + i + j, none⟩ = some u) → (∀ j, j < vs.length → w.frozen? ⟨b, o + i + j, none⟩ = false) → (∀ v ∈ vs, v.oneCell' = true) →
    (storeCells a vs i).run P w = .ok () (setCells w b (o + i) vs)
  | [], w, i, _, _, _ => rfl
  | v :: vs, w, i, h1, h2, h3 => by
    obtain ⟨u, hu⟩ := h1 0 (by simp)
    have hf := h2 0 (by simp)
    simp only [Nat.add_zero] at hu hf
    simp only [storeCells, Sem.run_bind, ha]
    rw [run_store _ _ _ _ _ (h3 v (by simp)), hu]
    simp only [hf, Bool.false_eq_true, if_false, Result.andThen_ok]
    rw [run_storeCells a b o ha vs _ (i + 1) ?_ ?_ (fun v hv => h3 v (by simp [hv]))]
    · rfl
    · intro j hj
      obtain ⟨u', hu'⟩ := h1 (j + 1) (by simpa using hj)
      refine ⟨u', ?_⟩
      rw [World.cell?_setCell_other _ _ _ _ (by simp; omega), ← hu']
      congr 2; omega
    · intro j hj
      rw [World.frozen?_setCell]
      have := h2 (j + 1) (by simpa using hj)
      rw [← this]
      congr 2; omega

theorem one_of {v : Value} {c : CV} (hv : VR g v c) (hc : isCell c = true) : v.oneCell' = true := by
  cases hv <;> simp [isCell] at hc <;> rfl

theorem one_all : ∀ {vs : List Value} {cs : List CV}, VRL g vs cs → cs.all isCell = true → ∀ v ∈ vs, v.oneCell' = true
  | [], [], _, _ => by simp
  | v :: vs, c :: cs, hv, hc => by
    simp only [List.all_cons, Bool.and_eq_true] at hc
    intro u hu
    simp at hu
    rcases hu with rfl | hu
    · exact one_of hv.1 hc.1
    · exact one_all hv.2 hc.2 u hu

/-- Cells of a row of our own are written. -/
theorem WI.cells (hw : WI w0 g h w) {id b o L off : Nat} {cells new : List CV} {vs : List Value} (hφ : g.φ id = some (b, o, L)) (hrow : h[id]? = some (.row cells)) (hlt : id < h.length)
    (hv : VRL g vs new) (hle : off + new.length ≤ cells.length) : WI w0 g (h.set id (.row (splice cells off new))) (setCells w b (o + off) vs) := by
  obtain ⟨hL, hown, hR⟩ := hw.blk id b o L _ hφ hrow
  have hlen := hv.length
  have hspl : (splice cells off new).length = cells.length := by simp [splice]; omega
  have hat := setCells_at b vs w (o + off) (fun j hj => by
    obtain ⟨u, hu⟩ := (hown (off + j) (by omega)).2.1
    exact ⟨u, by rw [Nat.add_assoc]; exact hu⟩)
  by_cases hz : vs = []
  · subst hz
    have : new = [] := by cases new with
      | nil => rfl
      | cons _ _ => simp at hlen
    subst this
    have hsp : splice cells off [] = cells := by simp [splice]
    rw [hsp]
    simp only [setCells]
    refine hw.less (by simp) fun i x hx => ?_
    right
    rw [← hx, List.getElem?_set]
    by_cases hi : id = i
    · subst hi; rw [if_pos rfl, if_pos hlt, hrow]
    · simp [hi]
  have hb0 : w0.heap.size ≤ b := by
    have : 0 < vs.length := List.length_pos_iff.2 hz
    exact (hw.old b (o + off) id ((hown off (by omega)).1)).1
  refine hw.write (x := .row (splice cells off new)) hφ (by simp) (by simp [hlt]) (fun i hi => by simp [List.getElem?_set, Ne.symm hi]) (setCells_below b hb0 vs _ _ hw.below) (by rw [setCells_size]; exact Nat.le_refl _) (fun b' o' hG hlt' => ?_) (fun b' hG hlt' => ?_) ?_
  · refine ⟨setCells_other b b' o' vs w _ ?_, setCells_frozen b _ vs w _⟩
    rcases Nat.lt_or_ge o' (o + off) with h1 | h1
    · exact .inr (.inl h1)
    · rcases Nat.lt_or_ge o' (o + off + vs.length) with h2 | h2
      · left
        rintro rfl
        refine hG ?_
        have := (hown (o' - o) (by omega)).1
        rwa [show o + (o' - o) = o' by omega] at this
      · exact .inr (.inr h2)
  · refine setCells_block b b' ?_ vs w _
    rintro rfl
    have : 0 < vs.length := List.length_pos_iff.2 hz
    exact hG _ ((hown off (by omega)).1)
  · refine ⟨by omega, fun j hj => ?_, fun j hj => ?_⟩
    · obtain ⟨k1, ⟨u, k2⟩, k3⟩ := hown j hj
      refine ⟨k1, ?_, by rw [setCells_frozen]; exact k3⟩
      by_cases hin : off ≤ j ∧ j < off + vs.length
      · refine ⟨vs[j - off]'(by omega), ?_⟩
        have := hat (j - off) (by omega)
        rw [show o + off + (j - off) = o + j by omega] at this
        rw [this, List.getElem?_eq_getElem (by omega)]
      · exact ⟨u, by rw [setCells_other b b (o + j) vs w _ (by omega)]; exact k2⟩
    · rw [hspl] at hj
      by_cases hin : off ≤ j ∧ j < off + vs.length
      · have h1 := hat (j - off) (by omega)
        rw [show o + off + (j - off) = o + j by omega] at h1
        have h2 := (VRL_iff.1 hv).2 (j - off) (by omega)
        refine ⟨vs.getD (j - off) undef, ?_, ?_⟩
        · rw [h1]; simp [List.getD, List.getElem?_eq_getElem (show j - off < vs.length by omega)]
        · have h3 : (splice cells off new).getD j .any = new.getD (j - off) .any := by
            simp only [splice, List.getD]
            rw [List.append_assoc, List.getElem?_append_right (by simp; omega), List.getElem?_append_left (by simp; omega)]
            congr 2; simp; omega
          rw [h3]; exact h2
      · obtain ⟨u, k1, k2⟩ := hR j hj
        refine ⟨u, by rw [setCells_other b b (o + j) vs w _ (by omega)]; exact k1, ?_⟩
        have h3 : (splice cells off new).getD j .any = cells.getD j .any := by
          simp only [splice, List.getD]
          rcases Nat.lt_or_ge j off with hjo | hjo
          · rw [List.append_assoc, List.getElem?_append_left (by simp; omega), List.getElem?_take]
            simp [hjo]
          · rw [List.getElem?_append_right (by simp; omega)]
            simp only [List.length_append, List.length_take, List.getElem?_drop]
            congr 2; omega
        rw [h3]; exact k2

theorem store_fit (hw : WI w0 g h w) {fl : Nat} {t : TypeId} {u x : Value} {p c : CV} {h' : Heap} (hp : VR g u p) (hx : VR g x c) (hc : cstore P fl t h p c = some h') :
    ∃ w', (Instr.storeAt t u x).run P w = .ok () w' ∧ WI w0 g h' w' := by
  unfold cstore at hc
  split at hc
  · rename_i id off n ag hs ha
    split at hc
    · rename_i cells hrow
      split at hc
      · rename_i hcond
        obtain ⟨hfl, hn, hle, hall⟩ := hcond
        cases hc
        cases hp with
        | hp _ _ b o L hφ =>
        have hne : c ≠ .any := by rintro rfl; simp [ccells, isCell] at hall
        have hcv := cells_VR hx hne
        obtain ⟨hL, hown, hR⟩ := hw.blk id b o L _ hφ hrow
        have hlen := hcv.length
        have hst := run_storeCells (P := P) ⟨b, o + off, none⟩ b (o + off) (fun i => add_none b (o + off) i) x.cells.toList w 0
          (fun j hj => by obtain ⟨v, hv⟩ := (hown (off + j) (by omega)).2.1; exact ⟨v, by rw [show o + off + 0 + j = o + (off + j) by omega]; exact hv⟩)
          (fun j hj => by have := (hown (off + j) (by omega)).2.2; rw [show o + off + 0 + j = o + (off + j) by omega]; exact this)
          (one_all hcv hall)
        refine ⟨_, ?_, hw.cells hφ hrow ((List.getElem?_eq_some_iff.1 hrow).1) hcv (by omega)⟩
        have hsz : x.cells.size = n := by simp at hlen; omega
        simp only [Instr.storeAt, Instr.sureAddr, Sem.run_bind, Sem.run_pure, Result.andThen_ok, storeVar, run_sizeOf hs, hsz, ne_eq, not_true_eq_false, if_false]
        exact hst
      · cases hc
    · cases hc
  · cases hc

end
end Go.CE

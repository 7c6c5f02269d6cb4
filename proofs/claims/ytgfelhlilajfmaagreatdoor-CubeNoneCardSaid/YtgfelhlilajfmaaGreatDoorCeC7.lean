/-
  The canonical evaluator's operations: append, copy.
-/
import Derived.Test.YtgfelhlilajfmaaGreatDoorCeC6
namespace Go.CE
set_option linter.unusedVariables false
set_option linter.unusedSimpArgs false
set_option linter.unusedSectionVars false
set_option linter.unnecessarySimpa false
open Go.RowKit (Below)
variable [Glob]
section
variable {P : Program} {w0 w : World} {g : Gho} {h : Heap} {nb : Nat}

/-- A slice's cells, read. -/
theorem sliceCells_fit (hw : WI w0 g h w) {v : Value} {x : CV} {cells : List CV} (hv : VR g v x) (hc : sliceCells h x = some cells) :
    ∃ base len c, v = .slice base len c ∧ len ≤ c ∧ (x = .nils → base = none ∧ len = 0 ∧ c = 0) ∧ (∀ a b n z k, x = .hs a b n z k → len = n ∧ base ≠ none) ∧ (∀ a n z k, x = .rs a n z k → len = n ∧ base ≠ none ∧ ∀ q, k = some q → c = q) ∧
      ∀ sz, cells.length = len * sz → ∃ vs : Array Value, (∀ w', (∀ a, w'.cell? a = w.cell? a) → (Builtin.firstCells sz len v).run P w' = .ok vs w') ∧ VRL g vs.toList cells := by
  unfold sliceCells at hc
  split at hc
  · cases hv
    cases hc
    refine ⟨none, 0, 0, rfl, Nat.le_refl _, fun _ => ⟨rfl, rfl, rfl⟩, by simp, by simp, fun sz _ => ⟨#[], fun w' _ => rfl, by simp [VRL]⟩⟩
  · split at hc
    · rename_i id off len sz cap _ cells0 hrow
      split at hc
      · rename_i hle
        cases hc
        cases hv with
        | hs a c _ _ _ _ _ b o L hφ hlc hcap haddr =>
        refine ⟨some a, len, c, rfl, hlc, by simp, by simp; intros; assumption, by simp, fun sz' hsz => ?_⟩
        have hl : ((cells0.drop off).take (len * sz)).length = len * sz := by simp; omega
        by_cases h0 : len = 0
        · subst h0
          refine ⟨#[], fun w' _ => by simp [Builtin.firstCells, loadCells, loadCellsFrom], by simp [VRL]⟩
        · obtain ⟨rfl, _⟩ := haddr (by omega)
          have hR := ((hw.blk _ b o L _ hφ hrow).2.2.drop off).take (len * sz)
          obtain ⟨vs, k1, k2, k3⟩ := hR.load P
          rw [hsz] at k2
          refine ⟨vs, fun w' hw' => ?_, k3⟩
          have hR' : CellsR g w' b (o + off) ((cells0.drop off).take (len * sz)) := fun j hj => by rw [hw']; exact hR j hj
          have hrun := run_loadCells (P := P) w' ⟨b, o + off, none⟩ (len * sz') (fun j => (w.cell? ⟨b, o + off + j, none⟩).getD undef) (fun j hj => by
            rw [add_none, hw']
            obtain ⟨u, hu, _⟩ := hR j (by omega)
            simp [hu])
          have hrun0 := run_loadCells (P := P) w ⟨b, o + off, none⟩ (len * sz') (fun j => (w.cell? ⟨b, o + off + j, none⟩).getD undef) (fun j hj => by
            rw [add_none]
            obtain ⟨u, hu, _⟩ := hR j (by omega)
            simp [hu])
          rw [hrun0] at k2
          cases k2
          exact hrun
      · cases hc
    · cases hc
  · rename_i cells0 len sz cap
    split at hc
    · rename_i hlen
      cases hc
      cases hv with
      | rs a c _ _ _ _ f h1 h2 h3 h4 h5 h6 =>
      refine ⟨some a, len, c, rfl, h1, by simp, by simp, ?_, fun sz' hsz => ?_⟩
      · intro a' n z k e
        cases e
        exact ⟨rfl, by simp, h2⟩
      · by_cases hne : cells = []
        · subst hne
          have : len * sz' = 0 := by simpa using hsz.symm
          refine ⟨#[], fun w' _ => by simp [Builtin.firstCells, this, loadCells, loadCellsFrom], by simp [VRL]⟩
        · obtain ⟨ab, ao, asp⟩ := a
          have hsp : asp = none := h4 hne
          subst hsp
          refine ⟨((List.range (len * sz')).map f).toArray, fun w' hw' => ?_, ?_⟩
          · exact run_loadCells w' _ _ f (fun j hj => by rw [add_none, hw']; exact hw.immv _ _ _ (h5 j (by omega)))
          · rw [VRL_iff]
            refine ⟨by simp; omega, fun j hj => ?_⟩
            have := h6 j hj
            have hj' : j < len * sz' := by omega
            simpa [List.getD, hj'] using this
    · cases hc
  · cases hc

theorem bytes_VRL (g : Gho) (s : ByteArray) : VRL g (s.data.toList.map fun b => Value.int .u8 b.toNat) ((s.data.toList.map UInt8.toNat).map fun (n : Nat) => CV.int .u8 n) := by
  rw [List.map_map]
  exact VRL.map fun x _ => .int _ _

/-- What is appended or copied, read. -/
theorem srcCells_fit (hw : WI w0 g h w) {v : Value} {x : CV} {sz n : Nat} {new : List CV} (hv : VR g v x) (hc : srcCells h sz x = some (new, n)) (hlen : new.length = n * sz) :
    (∀ w', (Builtin.lenOf v).run P w' = .ok n w') ∧ ∀ m, m ≤ n → ∃ vs : Array Value, (∀ w', (∀ a, w'.cell? a = w.cell? a) → (Builtin.firstCells sz m v).run P w' = .ok vs w') ∧ VRL g vs.toList (new.take (m * sz)) := by
  unfold srcCells at hc
  split at hc
  · split at hc
    · rename_i hs1
      cases hc
      subst hs1
      cases hv with
      | str s =>
      refine ⟨fun w' => by rw [str_length]; rfl, fun m hm => ⟨((s.extract 0 m).data.map fun b => Value.int .u8 b.toNat), fun w' _ => rfl, ?_⟩⟩
      have := (bytes_VRL g s).take m
      rw [Array.toList_map, extract_list]
      simpa [List.map_take] using this
    · cases hc
  · cases hc
    cases hv
    refine ⟨fun w' => rfl, fun m hm => ⟨#[], fun w' _ => rfl, by simp [VRL]⟩⟩
  · rename_i a b n' z k
    split at hc
    · rename_i hz
      subst hz
      cases hq : sliceCells h (.hs a b n' z k) with
      | none => simp [hq] at hc
      | some cs =>
        simp [hq] at hc
        obtain ⟨rfl, rfl⟩ := hc
        simp only [sliceCells] at hq
        split at hq
        · rename_i cells0 hrow
          split at hq
          · rename_i hle
            cases hq
            cases hv with
            | hs ad c _ _ _ _ _ bb o L hφ hlc hcap haddr =>
            refine ⟨fun w' => rfl, fun m hm => ?_⟩
            by_cases h0 : n' = 0
            · subst h0
              have : m = 0 := by omega
              subst this
              refine ⟨#[], fun w' _ => by simp [Builtin.firstCells, loadCells, loadCellsFrom], by simp [VRL]⟩
            · obtain ⟨rfl, _⟩ := haddr (by omega)
              have hmz : m * z ≤ n' * z := Nat.mul_le_mul_right _ hm
              have hR := (((hw.blk _ bb o L _ hφ hrow).2.2.drop b).take (n' * z)).take (m * z)
              have hl : (((cells0.drop b).take (n' * z)).take (m * z)).length = m * z := by simp; omega
              refine ⟨((List.range (m * z)).map (fun j => (w.cell? ⟨bb, o + b + j, none⟩).getD undef)).toArray, fun w' hw' => ?_, ?_⟩
              · exact run_loadCells (P := P) w' ⟨bb, o + b, none⟩ (m * z) _ (fun j hj => by
                  rw [add_none, hw']
                  obtain ⟨u, hu, _⟩ := hR j (by omega)
                  simp [hu])
              · rw [VRL_iff]
                refine ⟨by rw [hl]; simp, fun j hj => ?_⟩
                obtain ⟨u, hu, hr⟩ := hR j hj
                have hj' : j < m * z := by omega
                simpa [List.getD, hj', hu] using hr
          · cases hq
        · cases hq
    · cases hc
  · rename_i a n' z k
    split at hc
    · rename_i hz
      subst hz
      cases hq : sliceCells h (.rs a n' z k) with
      | none => simp [hq] at hc
      | some cs =>
        simp [hq] at hc
        obtain ⟨rfl, rfl⟩ := hc
        simp only [sliceCells] at hq
        split at hq
        · cases hq
          cases hv with
          | rs ad c _ _ _ _ f h1 h2 h3 h4 h5 h6 =>
          refine ⟨fun w' => rfl, fun m hm => ?_⟩
          have hmz : m * z ≤ n' * z := Nat.mul_le_mul_right _ hm
          by_cases hne : a = []
          · subst hne
            have : n' * z = 0 := by simpa using h3.symm
            have : m * z = 0 := by omega
            refine ⟨#[], fun w' _ => by simp [Builtin.firstCells, this, loadCells, loadCellsFrom], by simp [VRL]⟩
          · obtain ⟨ab, ao, asp⟩ := ad
            have hsp : asp = none := h4 hne
            subst hsp
            refine ⟨((List.range (m * z)).map f).toArray, fun w' hw' => ?_, ?_⟩
            · exact run_loadCells w' _ _ f (fun j hj => by rw [add_none, hw']; exact hw.immv _ _ _ (h5 j (by omega)))
            · rw [VRL_iff]
              have hl : (a.take (m * z)).length = m * z := by simp; omega
              refine ⟨by rw [hl]; simp, fun j hj => ?_⟩
              rw [hl] at hj
              have := h6 j (by omega)
              simpa [List.getD, hj, List.getElem?_take] using this
        · cases hq
    · cases hc
  · cases hc

end
end Go.CE

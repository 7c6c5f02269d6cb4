/-
  The canonical evaluator's operations, one by one: those that look and reckon.
-/
import Derived.Test.YtgfelhlilajfmaaGreatDoorCeB
namespace Go.CE
set_option linter.unusedVariables false
set_option linter.unusedSimpArgs false
set_option linter.unusedSectionVars false
set_option linter.unnecessarySimpa false
variable [Glob]

section runs
variable {P : Program} {w : World}

theorem run_underlying {t : TypeId} {d : TypeDesc} (h : P.underlying t = some d) : (underlying t).run P w = .ok d w := by simp [underlying, h]
theorem run_typeInfo {t : TypeId} {i : TypeInfo} (h : P.info? t = some i) : (typeInfo t).run P w = .ok i w := by simp [typeInfo, h]
theorem szOf_spec {t : TypeId} {n : Nat} (h : szOf P t = some n) : ∃ i, P.info? t = some i ∧ i.size = n := by
  unfold szOf at h
  cases hi : P.info? t with
  | none => simp [hi] at h
  | some i => exact ⟨i, rfl, by simpa [hi] using h⟩
theorem run_sizeOf {t : TypeId} {n : Nat} (h : szOf P t = some n) : (sizeOf t).run P w = .ok n w := by
  obtain ⟨i, h1, rfl⟩ := szOf_spec h
  simp [sizeOf, run_typeInfo h1]
theorem zeroOf_spec {t : TypeId} {z : CV} (h : zeroOf P t = some z) : ∃ v, (∀ w, (zeroValue t).run P w = .ok v w) ∧ z = ofConst v := by
  unfold zeroOf at h
  cases hi : P.info? t with
  | none => simp [hi] at h
  | some i =>
    cases hz : i.zero with
    | none => simp [hi, hz] at h
    | some v => exact ⟨v, fun w => by simp [zeroValue, run_typeInfo hi, hz], by simpa [hi, hz] using h.symm⟩
theorem run_isAgg {t : TypeId} {b : Bool} (h : aggOf P t = some b) : (isAgg t).run P w = .ok b w := by
  unfold aggOf at h
  cases hu : P.underlying t with
  | none => simp [hu] at h
  | some d =>
    simp only [isAgg, Sem.run_bind, run_underlying hu, Result.andThen_ok]
    cases d <;> simp [hu] at h <;> subst h <;> rfl
theorem aggOf_under {t : TypeId} {b : Bool} (h : aggOf P t = some b) : ∃ d, P.underlying t = some d := by
  unfold aggOf at h
  cases hu : P.underlying t with
  | none => simp [hu] at h
  | some d => exact ⟨d, rfl⟩
end runs

theorem ofCell_VR (g : Gho) (v : Value) : VR g v (ofCell v) := by
  unfold ofCell
  split
  · exact .bool _
  · exact .int _ _
  · exact .flt _ _
  · exact .str _
  · exact .nilp
  · exact .nils
  · exact .nilm
  · exact .nilf
  · exact .nili
  · exact .any _

theorem ofConst_VR (g : Gho) (v : Value) : VR g v (ofConst v) := by
  unfold ofConst
  split
  · exact .agg' (by have := VRL.map (g := g) (f := id) (k := ofCell) (l := (‹Array Value›).toList) (fun x _ => ofCell_VR g x); simpa using this)
  · exact .tup' (by have := VRL.map (g := g) (f := id) (k := ofCell) (l := (‹Array Value›).toList) (fun x _ => ofCell_VR g x); simpa using this)
  · split
    · rename_i h
      obtain ⟨ha, hb⟩ := h
      refine .fn' ?_ ?_
      · rw [Array.eq_empty_of_size_eq_zero ha]; simp [VRL]
      · rw [Array.eq_empty_of_size_eq_zero hb]; simp [VRL]
    · exact .any _
  · exact ofCell_VR g _

theorem ofScal_VR (g : Gho) (v : Value) : VR g v (ofScal v) := by
  unfold ofScal
  split
  · exact .bool _
  · exact .int _ _
  · exact .flt _ _
  · exact .any _

theorem scal_VR {g : Gho} {u v : Value} {c : CV} (h : scal c = some v) (hv : VR g u c) : u = v := by
  cases hv <;> simp [scal] at h <;> exact h

theorem ceval_VR {g : Gho} {a : Act} {tm : Env} (h : VRL g a.tmps.toList tm) {w0 w : World} {hp : Heap} (hw : WI w0 g hp w) (x : Operand) : VR g (a.eval x) (ceval tm x) := by
  cases x with
  | tmp t =>
    have := h.getD t
    simpa [Act.eval, ceval, getK_eq, Array.getD_eq_getD_getElem?, List.getD] using this
  | const v => exact ofConst_VR g v
  | global n => exact hw.glob n
  | func f => exact .fn' (by simp [VRL]) (by simp [VRL])

theorem pureVal_run {α : Type} {P : Program} {w : World} : ∀ {s : Sem α} {a : α}, pureVal P s = some a → s.run P w = .ok a w
  | .pure a, _, h => by simp [pureVal] at h; subst h; rfl
  | .program k, _, h => by simp only [pureVal] at h; exact pureVal_run (s := k P) h
  | .mark m k, _, h => by simp only [pureVal] at h; exact pureVal_run (s := k) h
  | .load .., _, h => by simp [pureVal] at h
  | .store .., _, h => by simp [pureVal] at h
  | .new .., _, h => by simp [pureVal] at h
  | .shape .., _, h => by simp [pureVal] at h
  | .freeze .., _, h => by simp [pureVal] at h
  | .frozen .., _, h => by simp [pureVal] at h
  | .getObj .., _, h => by simp [pureVal] at h
  | .setObj .., _, h => by simp [pureVal] at h
  | .choose .., _, h => by simp [pureVal] at h
  | .sys .., _, h => by simp [pureVal] at h
  | .halt .., _, h => by simp [pureVal] at h

/-! cells -/

theorem CellsR.drop {g : Gho} {w : World} {b o : Nat} {cells : List CV} (h : CellsR g w b o cells) (k : Nat) : CellsR g w b (o + k) (cells.drop k) := by
  intro j hj
  simp only [List.length_drop] at hj
  obtain ⟨v, h1, h2⟩ := h (k + j) (by omega)
  exact ⟨v, by rw [← h1, Nat.add_assoc], by simpa [List.getD] using h2⟩

theorem CellsR.take {g : Gho} {w : World} {b o : Nat} {cells : List CV} (h : CellsR g w b o cells) (k : Nat) : CellsR g w b o (cells.take k) := by
  intro j hj
  simp only [List.length_take] at hj
  obtain ⟨v, h1, h2⟩ := h j (by omega)
  refine ⟨v, h1, ?_⟩
  have : j < k := by omega
  simpa [List.getD, List.getElem?_take, this] using h2

theorem add_none (b o j : Nat) : (⟨b, o, none⟩ : Addr).add j = ⟨b, o + j, none⟩ := by
  unfold Addr.add
  split
  · rename_i h; simp [h]
  · rfl

/-- The cells read one by one. -/
theorem CellsR.load {g : Gho} {w : World} {b o : Nat} {cells : List CV} (h : CellsR g w b o cells) (P : Program) : ∃ vs, vs.toList.length = cells.length ∧ (loadCells ⟨b, o, none⟩ cells.length).run P w = .ok vs w ∧ VRL g vs.toList cells := by
  have hf : ∃ f : Nat → Value, ∀ j, j < cells.length → w.cell? ⟨b, o + j, none⟩ = some (f j) ∧ VR g (f j) (cells.getD j .any) := by
    refine ⟨fun j => (w.cell? ⟨b, o + j, none⟩).getD undef, fun j hj => ?_⟩
    obtain ⟨v, h1, h2⟩ := h j hj
    exact ⟨by simp [h1], by show VR g ((w.cell? ⟨b, o + j, none⟩).getD undef) _; rw [h1]; exact h2⟩
  obtain ⟨f, hf⟩ := hf
  refine ⟨((List.range cells.length).map f).toArray, by simp, run_loadCells w _ _ f (fun j hj => by rw [add_none]; exact (hf j hj).1), ?_⟩
  rw [VRL_iff]
  refine ⟨by simp, fun j hj => ?_⟩
  have := (hf j hj).2
  simpa [List.getD, hj] using this

theorem cellsAt_R {w0 : World} {g : Gho} {h : Heap} {w : World} (hw : WI w0 g h w) {u : Value} {p : CV} {cells : List CV} (hv : VR g u p) (hc : cellsAt h p = some cells) :
    ∃ b o, u = .pointer (some ⟨b, o, none⟩) ∧ CellsR g w b o cells := by
  cases hv <;> simp only [cellsAt] at hc
  case hp id off b o L hφ =>
    split at hc
    · rename_i cells0 hb
      cases hc
      exact ⟨b, o + off, rfl, (hw.blk id b o L _ hφ hb).2.2.drop off⟩
    · cases hc
  case rp b o cells0 f h1 h2 =>
    cases hc
    exact ⟨b, o, rfl, fun j hj => ⟨f j, hw.immv _ _ _ (h1 j hj), h2 j hj⟩⟩
  all_goals cases hc

theorem part_VR {P : Program} {t : TypeId} {g : Gho} {cs : Array Value} {cells : List CV} {off : Nat} {v : CV} (h : cpart P t cells off = some v) (hv : VRL g cs.toList cells) (w : World) :
    ∃ u, (part t cs off).run P w = .ok u w ∧ VR g u v := by
  unfold cpart at h
  split at h
  · rename_i n ha hs
    split at h
    · rename_i hle
      cases h
      refine ⟨.agg (cs.extract off (off + n)), by simp [part, run_isAgg ha, run_sizeOf hs], .agg' ?_⟩
      have := (hv.drop off).take n
      simpa [Array.toList_extract, List.extract_eq_take_drop] using this
    · cases h
  · rename_i n ha hs
    obtain ⟨u, h1, h2⟩ := hv.get h
    have h1' : cs[off]? = some u := by simpa using h1
    exact ⟨u, by simp [part, run_isAgg ha, h1'], h2⟩
  · cases h

theorem loadVar_VR {P : Program} {t : TypeId} {g : Gho} {w : World} {b o : Nat} {cells : List CV} {v : CV} (h : cpart P t cells 0 = some v) (hc : CellsR g w b o cells) :
    ∃ u, (loadVar t ⟨b, o, none⟩).run P w = .ok u w ∧ VR g u v := by
  unfold cpart at h
  split at h
  · rename_i n ha hs
    split at h
    · rename_i hle
      cases h
      obtain ⟨vs, h1, h2, h3⟩ := (hc.take n).load P
      have hn : (cells.take n).length = n := by simp; omega
      rw [hn] at h2
      exact ⟨.agg vs, by simp [loadVar, run_isAgg ha, run_sizeOf hs, h2], .agg' (by simpa using h3)⟩
    · cases h
  · rename_i n ha hs
    have hl : 0 < cells.length := by
      cases cells with
      | nil => simp at h
      | cons _ _ => simp
    obtain ⟨u, h1, h2⟩ := hc 0 hl
    refine ⟨u, by simp [loadVar, run_isAgg ha]; simp at h1; simp [h1], ?_⟩
    simpa [List.getD, h] using h2
  · cases h

theorem load_fit {P : Program} {w0 : World} {g : Gho} {h : Heap} {w : World} (hw : WI w0 g h w) {t : TypeId} {u : Value} {p v : CV} (hv : VR g u p) (hc : cload P t h p = some v) :
    ∃ x, (Instr.loadAt t u).run P w = .ok x w ∧ VR g x v := by
  unfold cload at hc
  split at hc
  · rename_i cells hce
    obtain ⟨b, o, rfl, hR⟩ := cellsAt_R hw hv hce
    obtain ⟨x, h1, h2⟩ := loadVar_VR hc hR
    exact ⟨x, by simp [Instr.loadAt, Instr.sureAddr, h1], h2⟩
  · cases hc

theorem field_fit {P : Program} {g : Gho} {w : World} {t : TypeId} {i : Nat} {u : Value} {x v : CV} (hv : VR g u x) (hc : cfield P t x i = some v) : ∃ y, (Instr.field t u i).run P w = .ok y w ∧ VR g y v := by
  unfold cfield at hc
  split at hc
  · rename_i fields cs hu
    cases hv with
    | agg cs' _ h1 h2 =>
    split at hc
    · rename_i f hf
      obtain ⟨y, k1, k2⟩ := part_VR hc (VRL_iff.2 ⟨h1, h2⟩) w
      exact ⟨y, by simp [Instr.field, run_underlying hu, hf, asAgg, k1], k2⟩
    · cases hc
  · cases hc

theorem fieldAddr_fit {P : Program} {g : Gho} {w : World} {s : TypeId} {i : Nat} {u : Value} {x v : CV} (hv : VR g u x) (hc : cfieldAddr P s x i = some v) : ∃ y, (Instr.fieldAt s u i).run P w = .ok y w ∧ VR g y v := by
  unfold cfieldAddr at hc
  split at hc
  · rename_i fields hu
    split at hc
    · rename_i f hf
      split at hc
      · rename_i n id off hs
        cases hc
        cases hv with
        | hp _ _ b o L hφ =>
        exact ⟨.pointer (some ⟨b, o + (off + f.offset), none⟩), by simp [Instr.fieldAt, run_underlying hu, hf, Instr.sureAddr, fieldPlace, run_sizeOf hs, add_none, Nat.add_assoc], .hp _ _ b o L hφ⟩
      · rename_i n cells hs
        split at hc
        · rename_i hle
          cases hc
          cases hv with
          | rp b o _ k h1 h2 =>
          refine ⟨.pointer (some ⟨b, o + f.offset, none⟩), by simp [Instr.fieldAt, run_underlying hu, hf, Instr.sureAddr, fieldPlace, run_sizeOf hs, add_none], .rp _ _ _ (fun j => k (f.offset + j)) (fun j hj => ?_) (fun j hj => ?_)⟩
          · simp at hj; rw [Nat.add_assoc]; exact h1 _ (by omega)
          · simp at hj; have := h2 (f.offset + j) (by omega); simpa [List.getD] using this
        · cases hc
      · cases hc
    · cases hc
  · cases hc

theorem rp_drop {g : Gho} {b o : Nat} {cells : List CV} {k : Nat → Value} (n : Nat) (h1 : ∀ j, j < cells.length → g.G b (o + j) = .imm (k j)) (h2 : ∀ j, j < cells.length → VR g (k j) (cells.getD j .any)) :
    VR g (.pointer (some ⟨b, o + n, none⟩)) (.rp (cells.drop n)) := by
  refine .rp _ _ _ (fun j => k (n + j)) (fun j hj => ?_) (fun j hj => ?_)
  · simp at hj; rw [Nat.add_assoc]; exact h1 _ (by omega)
  · simp at hj; have := h2 (n + j) (by omega); simpa [List.getD] using this

theorem mul_lt_of_lt {i len sz : Nat} (h : i < len) : i * sz + sz ≤ len * sz := by
  have : (i + 1) * sz ≤ len * sz := Nat.mul_le_mul_right _ h
  rwa [Nat.add_mul, Nat.one_mul] at this

theorem indexAddr_fit {P : Program} {g : Gho} {w : World} {t : TypeId} {u ui : Value} {x i v : CV} (hv : VR g u x) (hi : VR g ui i) (hc : cindexAddr P t x i = some v) :
    ∃ y, (Instr.indexAt t u ui).run P w = .ok y w ∧ VR g y v := by
  unfold cindexAddr at hc
  split at hc
  · rename_i e id off len sz cap k n hu
    cases hi
    split at hc
    · rename_i m hs
      split at hc
      · rename_i hcond
        obtain ⟨rfl, h0, hlt⟩ := hcond
        cases hc
        cases hv with
        | hs a c _ _ _ _ _ b o L hφ hle hcap haddr =>
        have hc0 : c ≠ 0 := by omega
        obtain ⟨rfl, _⟩ := haddr hc0
        exact ⟨.pointer (some ⟨b, o + (off + n.toNat * m), none⟩), by simp [Instr.indexAt, asIntOf, run_underlying hu, h0, hlt, run_sizeOf hs, add_none, Nat.add_assoc], .hp _ _ b o L hφ⟩
      · cases hc
    · cases hc
  · rename_i e cells len sz cap k n hu
    cases hi
    split at hc
    · rename_i m hs
      split at hc
      · rename_i hcond
        obtain ⟨rfl, hm0, h0, hlt, hlen⟩ := hcond
        cases hc
        cases hv with
        | rs a c _ _ _ _ f h1 h2 h3 h4 h5 h6 =>
        have hne : cells ≠ [] := by
          intro he
          have h7 : len * m = 0 := by rw [← h3, he]; rfl
          rcases Nat.mul_eq_zero.1 h7 with h8 | h8
          · omega
          · exact hm0 h8
        obtain ⟨ab, ao, asp⟩ := a
        have hsp : asp = none := h4 hne
        subst hsp
        exact ⟨.pointer (some ⟨ab, ao + n.toNat * m, none⟩), by simp [Instr.indexAt, asIntOf, run_underlying hu, h0, hlt, run_sizeOf hs, add_none], rp_drop _ h5 h6⟩
      · cases hc
    · cases hc
  · rename_i len e id off k n hu
    cases hi
    split at hc
    · rename_i m hs
      split at hc
      · rename_i hcond
        obtain ⟨h0, hlt⟩ := hcond
        cases hc
        cases hv with
        | hp _ _ b o L hφ =>
        exact ⟨.pointer (some ⟨b, o + (off + n.toNat * m), none⟩), by simp [Instr.indexAt, asIntOf, run_underlying hu, h0, hlt, Instr.sureAddr, run_sizeOf hs, add_none, Nat.add_assoc], .hp _ _ b o L hφ⟩
      · cases hc
    · cases hc
  · rename_i len e cells k n hu
    cases hi
    split at hc
    · rename_i m hs
      split at hc
      · rename_i hcond
        obtain ⟨h0, hlt, hle⟩ := hcond
        cases hc
        cases hv with
        | rp b o _ f h1 h2 =>
        exact ⟨.pointer (some ⟨b, o + n.toNat * m, none⟩), by simp [Instr.indexAt, asIntOf, run_underlying hu, h0, hlt, Instr.sureAddr, run_sizeOf hs, add_none], rp_drop _ h1 h2⟩
      · cases hc
    · cases hc
  · cases hc

theorem bytes_get (s : ByteArray) (i : Nat) : (s.data.toList.map UInt8.toNat)[i]? = (s.data[i]?).map UInt8.toNat := by simp

theorem index_fit {P : Program} {g : Gho} {w : World} {t : TypeId} {u ui : Value} {x i v : CV} (hv : VR g u x) (hi : VR g ui i) (hc : cindex P t x i = some v) :
    ∃ y, (Instr.index t u ui).run P w = .ok y w ∧ VR g y v := by
  unfold cindex at hc
  split at hc
  · rename_i s k n hu
    cases hi
    split at hc
    · rename_i h0
      cases hv with
      | str s =>
      cases hb : s.data[n.toNat]? with
      | none => simp [hb] at hc
      | some b =>
        simp [hb] at hc
        subst hc
        have hb' : s[n.toNat]? = some b := by
          have hlt : n.toNat < s.data.size := by
            rcases Nat.lt_or_ge n.toNat s.data.size with h' | h'
            · exact h'
            · simp [Array.getElem?_eq_none h'] at hb
          have h2 : s.data[n.toNat] = b := by simpa [Array.getElem?_eq_getElem hlt] using hb
          have : n.toNat < s.size := hlt
          rw [getElem?_pos s n.toNat this]
          exact congrArg some h2
        exact ⟨.int .u8 b.toNat, by simp [Instr.index, asIntOf, run_underlying hu, h0, hb'], .int _ _⟩
    · cases hc
  · rename_i len e cs k n hu
    cases hi
    split at hc
    · rename_i m hs
      split at hc
      · rename_i hcond
        cases hv with
        | agg cs' _ h1 h2 =>
        obtain ⟨y, k1, k2⟩ := part_VR hc (VRL_iff.2 ⟨h1, h2⟩) w
        exact ⟨y, by simp [Instr.index, asIntOf, run_underlying hu, hcond, run_sizeOf hs, k1], k2⟩
      · cases hc
    · cases hc
  · cases hc

end Go.CE

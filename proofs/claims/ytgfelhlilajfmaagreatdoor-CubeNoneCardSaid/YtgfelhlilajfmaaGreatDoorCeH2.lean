/-
  The canonical evaluator: operations look at their operands alone; what pure and reading operations come to; blocks that are known early.
-/
import Derived.Test.YtgfelhlilajfmaaGreatDoorCeH
namespace Go.CE
set_option linter.unusedVariables false
set_option linter.unusedSimpArgs false
set_option linter.unusedSectionVars false
set_option linter.unnecessarySimpa false
open Go.RowKit (Below)
variable [Glob]

section
variable {P : Program} {callf : CallF} {fl : Nat}

theorem map_congr' {α β : Type} {f k : α → β} {l : List α} (h : ∀ x ∈ l, f x = k x) : l.map f = l.map k := List.map_congr_left h

theorem opRun_congr {slot : Option Nat} {tm tm' : Env} (o : Oper) (h : ∀ x ∈ o.op.operands, ceval tm x = ceval tm' x) (hp : Heap) : opRun P callf fl slot tm o hp = opRun P callf fl slot tm' o hp := by
  obtain ⟨dst, op, type, pos, after, guard⟩ := o
  have pairs : ∀ ps : Array (Nat × Operand), (∀ x ∈ ps.map (·.2), ceval tm x = ceval tm' x) →
      (ps.toList.map fun (i, x) => (i, ceval tm x)) = (ps.toList.map fun (i, x) => (i, ceval tm' x)) := fun ps hp =>
    List.map_congr_left fun p hm => by
      obtain ⟨i, x⟩ := p
      simp only [hp x (Array.mem_map.2 ⟨(i, x), by simpa using hm, rfl⟩)]
  have many : ∀ ps : Array Operand, (∀ x ∈ ps, ceval tm x = ceval tm' x) → ps.toList.map (ceval tm) = ps.toList.map (ceval tm') := fun ps hp =>
    List.map_congr_left fun p hm => hp p (by simpa using hm)
  cases op <;> simp only [Op.operands] at h <;> simp only [opRun]
  case build t ps => rw [pairs ps fun x hx => h x (by simpa using hx)]
  case buildSlice t n ps => rw [pairs ps fun x hx => h x (by simpa using hx)]
  case makeFunc fn first captured =>
    rw [many first fun x hx => h x (by simp [hx]), many captured fun x hx => h x (by simp [hx])]
  case call c =>
    have hargs := many c.args fun x hx => h x (by simp [Call.operands, hx])
    simp only [hargs]
    cases hc : c.callee with
    | value f => have hf : ceval tm f = ceval tm' f := h f (by simp [Call.operands, hc]); simp only [hf]
    | invoke r m => have hr : ceval tm r = ceval tm' r := h r (by simp [Call.operands, hc]); simp only [hr]
    | builtin b => rfl
  case makeMap t r => cases r <;> simp_all
  case slice t x lo hi mx => cases lo <;> cases hi <;> cases mx <;> simp_all
  all_goals (first | rfl | (simp_all; done))

theorem opRun_pure {tm : Env} {o : Oper} (hc : cls0 P o = .p) : ∃ r : Option CV, ∀ h, opRun P callf fl none tm o h = vh r h := by
  obtain ⟨dst, op, type, pos, after, guard⟩ := o
  cases op <;> simp only [cls0] at hc <;> simp only [opRun]
  case move x => exact ⟨some _, fun h => rfl⟩
  case assign x => exact ⟨some _, fun h => rfl⟩
  case pick c a b =>
    split
    · exact ⟨some _, fun h => rfl⟩
    · exact ⟨none, fun h => rfl⟩
  case build t ps =>
    split
    · split
      · exact ⟨_, fun h => rfl⟩
      · exact ⟨none, fun h => rfl⟩
    · split
      · exact ⟨_, fun h => rfl⟩
      · exact ⟨none, fun h => rfl⟩
    · exact ⟨none, fun h => rfl⟩
  case nilCheck x =>
    split
    · exact ⟨none, fun h => rfl⟩
    · exact ⟨none, fun h => rfl⟩
    · exact ⟨none, fun h => rfl⟩
    · exact ⟨none, fun h => rfl⟩
    · exact ⟨some _, fun h => rfl⟩
    · exact ⟨none, fun h => rfl⟩
    · exact ⟨some _, fun h => rfl⟩
  case unOp op t x =>
    split
    · exact ⟨_, fun h => rfl⟩
    · exact ⟨none, fun h => rfl⟩
  case makeInterface t x =>
    split
    · exact ⟨none, fun h => rfl⟩
    · exact ⟨none, fun h => rfl⟩
    · exact ⟨some _, fun h => rfl⟩
    · exact ⟨none, fun h => rfl⟩
  case makeFunc f a b => exact ⟨some _, fun h => rfl⟩
  case extract t i =>
    split
    · exact ⟨_, fun h => rfl⟩
    · exact ⟨none, fun h => rfl⟩
  case convert src dst x =>
    split at hc
    · rename_i k hd
      cases hs : P.underlying src with
      | none => exact ⟨none, fun h => by simp [cconvert, hs, vhh, vh]⟩
      | some s =>
        cases hx : ceval tm x with
        | int k' n => exact ⟨some (.int k (k.wrap n)), fun h => by simp [cconvert, hs, hd, vhh, vh]⟩
        | sym l i =>
          by_cases hk : k = l
          · exact ⟨some (.sym l i), fun h => by simp [cconvert, hs, hd, hk, vhh, vh]⟩
          · exact ⟨none, fun h => by simp [cconvert, hs, hd, hk, vhh, vh]⟩
        | _ => exact ⟨none, fun h => by simp [cconvert, hs, hd, vhh, vh]⟩
    · cases hc
    · cases hc
  case call c =>
    cases hcal : c.callee with
    | builtin b =>
      rw [hcal] at hc
      have key : ∀ r : Option CV, ∃ r' : Option CV, ∀ h : Heap, vhh (r.map (·, h)) = vh r' h := fun r => ⟨r, fun h => by cases r <;> rfl⟩
      cases b <;> simp at hc <;> simp only [cbuiltin]
      case cap =>
        split
        all_goals first
          | contradiction
          | exact key _
          | exact ⟨none, fun h => rfl⟩
      all_goals exact key _
    | value f => rw [hcal] at hc; simp at hc
    | invoke f n => rw [hcal] at hc; simp at hc
  all_goals first
    | exact ⟨_, fun h => rfl⟩
    | (cases hc; done)

theorem opRun_quiet {tm : Env} {o : Oper} (hc : cls0 P o = .p ∨ cls0 P o = .l) (h : Heap) : ∃ r : Option CV, opRun P callf fl none tm o h = vh r h := by
  rcases hc with hc | hc
  · obtain ⟨r, hr⟩ := opRun_pure (callf := callf) (fl := fl) (tm := tm) hc
    exact ⟨r, hr h⟩
  · obtain ⟨dst, op, type, pos, after, guard⟩ := o
    cases op <;> simp only [cls0] at hc <;> simp only [opRun]
    case convert src dst x =>
      split at hc
      · cases hc
      · rename_i hd
        refine ⟨(cconvert P src dst h (ceval tm x)).map (·.1), ?_⟩
        cases hcc : cconvert P src dst h (ceval tm x) with
        | none => rfl
        | some y =>
          have : y.2 = h := by
            unfold cconvert at hcc
            split at hcc
            · cases hcc; rfl
            · split at hcc
              · cases hcc; rfl
              · cases hcc
            · cases hcc; rfl
            · cases hcc; rfl
            · rename_i hd' _; rw [hd] at hd'; cases hd'
            · split at hcc
              · split at hcc
                · cases hcc
                · split at hcc
                  · simp only [Option.map_eq_some_iff] at hcc
                    obtain ⟨_, _, rfl⟩ := hcc
                    rfl
                  · cases hcc
              · cases hcc
            · cases hcc
          obtain ⟨y1, y2⟩ := y
          subst this
          rfl
      · cases hc
    case call c =>
      cases hcal : c.callee with
      | builtin b =>
        rw [hcal] at hc
        have key : ∀ r : Option CV, ∃ r' : Option CV, vhh (r.map (·, h)) = vh r' h := fun r => ⟨r, by cases r <;> rfl⟩
        cases b <;> simp at hc
        simp only [cbuiltin]
        split
        all_goals first
          | contradiction
          | exact key _
          | exact ⟨none, rfl⟩
      | value f => rw [hcal] at hc; simp at hc
      | invoke f n => rw [hcal] at hc; simp at hc
    all_goals first
      | exact ⟨_, rfl⟩
      | (cases hc; done)

theorem Blk.beq_eq : ∀ {a b : Blk}, Blk.beq a b = true → a = b
  | .dead, b, h => by cases b <;> simp_all [Blk.beq]
  | .row a, b, h => by
    cases b <;> simp [Blk.beq] at h
    rw [CV.beqL_eq _ _ h]
  | .map es c, b, h => by
    cases es <;> cases b <;> simp [Blk.beq] at h
    rename_i es' c'
    cases es' <;> simp [Blk.beq] at h
    rw [h]
  | .siter a c, b, h => by cases b <;> simp_all [Blk.beq]
  | .miter a b c d, e, h => by cases e <;> simp_all [Blk.beq]

variable {w0 w : World} {g : Gho} {h : Heap} {a : Act}

/-- What is known early, comes. -/
theorem early_fit {tm : Env} (he : VRL g a.tmps.toList tm) (hw : WI w0 g h w) {o : Oper} {id : Nat} {b : Blk × CV} (hb : early P tm o id = some b) (hid : g.φ id = none) (hlt : h[id]? = some b.1) :
    ∃ (y : Value) (ob : Obj) (L : Nat), (execOp a.eval o).run P w = .ok (.value y) (w.alloc ob) ∧ WI w0 (g.new id w.heap.size L) h (w.alloc ob) ∧ VR (g.new id w.heap.size L) y b.2 := by
  have hil : id < h.length := by
    rcases Nat.lt_or_ge id h.length with h' | h'
    · exact h'
    · simp [List.getElem?_eq_none h'] at hlt
  obtain ⟨dst, op, type, pos, after, guard⟩ := o
  cases op <;> simp only [early] at hb <;> first
    | (cases hb; done)
    | skip
  case alloc t =>
    simp only [Option.map_eq_some_iff] at hb
    obtain ⟨z, hz, rfl⟩ := hb
    obtain ⟨v, h1, h2⟩ := zcells_spec hz
    refine ⟨.pointer (some ⟨w.heap.size, 0, none⟩), .cells v.cells t, v.cells.size, ?_, WI.new hw hid (Nat.le_refl _) hil hlt (fun _ _ _ => rfl) (row_new hw id ?_ hid), .hp _ 0 w.heap.size 0 v.cells.size (by simp [Gho.new])⟩
    · simp [execOp, Instr.alloc, h1, newVar, newRow]
    · have := h2 g
      rw [List.take_of_length_le (by rw [this.length]; exact Nat.le_refl _)]
      exact this
  case makeMap t r =>
    cases r with
    | some x => cases hb
    | none =>
      simp only at hb
      split at hb
      · cases hb
        refine ⟨.map (some w.heap.size), .map #[] 0, 0, by simp [execOp, Instr.makeMap], WI.new hw hid (Nat.le_refl _) hil hlt (fun _ _ _ => rfl) ⟨by simp [Gho.new], rfl, #[], alloc_get _ _, trivial⟩, .hm _ w.heap.size 0 0 (by simp [Gho.new])⟩
      · cases hb
  case box t x =>
    split at hb
    · cases hb
    · rename_i hne
      cases hb
      have hv := ceval_VR he hw x
      have hcv := cells_VR hv (fun e => hne e)
      refine ⟨.pointer (some ⟨w.heap.size, 0, none⟩), .cells (a.eval x).cells t, (a.eval x).cells.size, ?_, WI.new hw hid (Nat.le_refl _) hil hlt (fun _ _ _ => rfl) (row_new hw id ?_ hid), .hp _ 0 w.heap.size 0 (a.eval x).cells.size (by simp [Gho.new])⟩
      · simp [execOp, Instr.box, newVar, newRow]
      · rw [List.take_of_length_le (by rw [hcv.length]; exact Nat.le_refl _)]
        exact hcv
  case buildSlice t len parts =>
    split at hb
    · rename_i e hu
      split at hb
      · rename_i n z hn hz
        obtain ⟨v, h1, h2⟩ := zcells_spec hz
        split at hb
        · rename_i hcond
          obtain ⟨hlen, hzl, hn0⟩ := hcond
          simp only [Option.map_eq_some_iff] at hb
          obtain ⟨cells, hcells, rfl⟩ := hb
          have hzs : v.cells.size = n := by have := (h2 g).length; simp at this; omega
          have hrep := repCells_VRL (h2 g) len
          obtain ⟨o', k1, k2⟩ := fill_fit (cells := ((Array.range (len * n)).map fun j => v.cells[j % v.cells.size]!)) (parts_rel he hw parts) (by rw [← hzs, range_flatten _ (by omega)]; exact hrep) hcells
          have hol : o'.size = len * n := by
            have := fill_size k1
            rw [this]; simp
          have hlt' : ¬ (len * n > 2 ^ 24) := by omega
          have hs : (Instr.buildSlice t len (parts.map fun p => (p.1, a.eval p.2))).run P w = .ok (.slice (some ⟨w.heap.size, 0, none⟩) len len) (w.alloc (.cells o' e)) := by
            simp only [Instr.buildSlice, Sem.run_bind, run_underlying hu, Result.andThen_ok, run_sizeOf hn, hlt', if_false]
            by_cases h0 : len * n = 0
            · simp only [h0, if_true, Sem.run_pure, Result.andThen_ok]
              have e1 : (Array.range 0).map (fun j => (#[] : Array Value)[j % (#[] : Array Value).size]!) = #[] := by simp [Array.range]
              have e2 : (Array.range (len * n)).map (fun j => v.cells[j % v.cells.size]!) = #[] := by rw [h0]; simp [Array.range]
              rw [e2] at k1
              rw [Sem.run_bind, Sem.run_pure]
              simp only [Result.andThen_ok]
              rw [e1, k1]
              simp only [Sem.run_bind, newRow, run_newObj, Sem.run_pure, Result.andThen_ok]
              rfl
            · simp only [h0, if_false, Sem.run_bind, h1, Result.andThen_ok, Sem.run_pure, k1, newRow, run_newObj]
              rfl
          refine ⟨.slice (some ⟨w.heap.size, 0, none⟩) len len, .cells o' e, o'.size, ?_, WI.new hw hid (Nat.le_refl _) hil hlt (fun _ _ _ => rfl) (row_new hw id ?_ hid), .hs _ _ _ _ _ _ _ w.heap.size 0 o'.size (by simp [Gho.new]) (Nat.le_refl _) (fun k hk => by cases hk; rfl) (fun _ => ⟨rfl, by rw [hol]; omega⟩)⟩
          · simp only [execOp, Sem.run_bind, hs]
            rfl
          · rw [List.take_of_length_le (by rw [k2.length]; exact Nat.le_refl _)]
            exact k2
        · cases hb
      · cases hb
    · cases hb

theorem early_congr {tm tm' : Env} (o : Oper) (h : ∀ x ∈ o.op.operands, ceval tm x = ceval tm' x) (id : Nat) : early P tm o id = early P tm' o id := by
  obtain ⟨dst, op, type, pos, after, guard⟩ := o
  have pairs : ∀ ps : Array (Nat × Operand), (∀ x ∈ ps.map (·.2), ceval tm x = ceval tm' x) →
      (ps.toList.map fun (i, x) => (i, ceval tm x)) = (ps.toList.map fun (i, x) => (i, ceval tm' x)) := fun ps hp =>
    List.map_congr_left fun p hm => by
      obtain ⟨i, x⟩ := p
      simp only [hp x (Array.mem_map.2 ⟨(i, x), by simpa using hm, rfl⟩)]
  cases op <;> simp only [Op.operands] at h <;> try simp only [early]
  case box t x => rw [h x (by simp)]
  case buildSlice t n ps => rw [pairs ps fun x hx => h x (by simpa using hx)]
  case makeMap t r => cases r <;> rfl

end
end Go.CE

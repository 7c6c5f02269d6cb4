/-
  The canonical evaluator: operations look at their operands alone; what pure and reading operations come to; blocks that are known early.
-/
import Derived.Test.YtdfeamiellfenaaGreatCeH
namespace Go.CE
set_option linter.unusedVariables false
set_option linter.unusedSimpArgs false
set_option linter.unusedSectionVars false
set_option linter.unnecessarySimpa false
open Go.RowKit (Below)

section
variable {P : Program} {callf : CallF} {fl : Nat}

theorem map_congr' {α β : Type} {f k : α → β} {l : List α} (h : ∀ x ∈ l, f x = k x) : l.map f = l.map k := List.map_congr_left h

theorem opRun_congr {slot : Option Nat} {tm tm' : Env} (o : Oper) (h : ∀ x ∈ o.op.operands, ceval tm x = ceval tm' x) (hp : Heap) : opRun P callf fl slot tm o hp = opRun P callf fl slot tm' o hp := by
  obtain ⟨dst, op, type, pos, after, guard⟩ := o
  have pairs : ∀ ps : Array (Nat × Operand), (∀ x ∈ ps.map (·.2), ceval tm x = ceval tm' x) →
      (ps.toList.map fun (i, x) => (i, ceval tm x)) = (ps.toList.map fun (i, x) => (i, ceval tm' x)) := fun ps hp =>
    List.map_congr_left fun p hm => by
      obtain ⟨i, x⟩ := p
      simp only [hp x (Array.mem_map.2 ⟨(i, x), by simpa using hm, rfl⟩)]
  have many : ∀ ps : Array Operand, (∀ x ∈ ps, ceval tm x = ceval tm' x) → ps.toList.map (ceval tm) = ps.toList.map (ceval tm') := fun ps hp =>
    List.map_congr_left fun p hm => hp p (by simpa using hm)
  cases op <;> simp only [Op.operands] at h <;> simp only [opRun]
  case build t ps => rw [pairs ps fun x hx => h x (by simpa using hx)]
  case buildSlice t n ps => rw [pairs ps fun x hx => h x (by simpa using hx)]
  case makeFunc fn first captured =>
    rw [many first fun x hx => h x (by simp [hx]), many captured fun x hx => h x (by simp [hx])]
  case call c =>
    have hargs := many c.args fun x hx => h x (by simp [Call.operands, hx])
    simp only [hargs]
    cases hc : c.callee with
    | value f => have hf : ceval tm f = ceval tm' f := h f (by simp [Call.operands, hc]); simp only [hf]
    | invoke r m => have hr : ceval tm r = ceval tm' r := h r (by simp [Call.operands, hc]); simp only [hr]
    | builtin b => rfl
  case makeMap t r => cases r <;> simp_all
  case slice t x lo hi mx => cases lo <;> cases hi <;> cases mx <;> simp_all
  all_goals (first | rfl | (simp_all; done))

theorem opRun_pure {tm : Env} {o : Oper} (hc : cls P o = .p) : ∃ r : Option CV, ∀ h, opRun P callf fl none tm o h = vh r h := by
  obtain ⟨dst, op, type, pos, after, guard⟩ := o
  cases op <;> simp only [cls] at hc <;> simp only [opRun]
  case move x => exact ⟨some _, fun h => rfl⟩
  case assign x => exact ⟨some _, fun h => rfl⟩
  case pick c a b =>
    split
    · exact ⟨some _, fun h => rfl⟩
    · exact ⟨none, fun h => rfl⟩
  case alloc t => split at hc <;> cases hc
  case makeMap t r => split at hc <;> cases hc
  case build t ps =>
    split
    · split
      · exact ⟨_, fun h => rfl⟩
      · exact ⟨none, fun h => rfl⟩
    · split
      · exact ⟨_, fun h => rfl⟩
      · exact ⟨none, fun h => rfl⟩
    · exact ⟨none, fun h => rfl⟩
  case nilCheck x =>
    split
    · exact ⟨none, fun h => rfl⟩
    · exact ⟨none, fun h => rfl⟩
    · exact ⟨none, fun h => rfl⟩
    · exact ⟨none, fun h => rfl⟩
    · exact ⟨some _, fun h => rfl⟩
    · exact ⟨none, fun h => rfl⟩
    · exact ⟨some _, fun h => rfl⟩
  case unOp op t x =>
    split
    · exact ⟨_, fun h => rfl⟩
    · exact ⟨none, fun h => rfl⟩
  case makeInterface t x =>
    split
    · exact ⟨none, fun h => rfl⟩
    · exact ⟨none, fun h => rfl⟩
    · exact ⟨some _, fun h => rfl⟩
    · exact ⟨none, fun h => rfl⟩
  case makeFunc f a b => exact ⟨some _, fun h => rfl⟩
  case extract t i =>
    split
    · exact ⟨_, fun h => rfl⟩
    · exact ⟨none, fun h => rfl⟩
  case convert src dst x =>
    split at hc
    · rename_i k hd
      cases hs : P.underlying src with
      | none => exact ⟨none, fun h => by simp [cconvert, hs, vhh, vh]⟩
      | some s =>
        cases hx : ceval tm x with
        | int k' n => exact ⟨some (.int k (k.wrap n)), fun h => by simp [cconvert, hs, hd, vhh, vh]⟩
        | _ => exact ⟨none, fun h => by simp [cconvert, hs, hd, vhh, vh]⟩
    · cases hc
    · cases hc
  case call c =>
    cases hcal : c.callee with
    | builtin b =>
      rw [hcal] at hc
      have key : ∀ r : Option CV, ∃ r' : Option CV, ∀ h : Heap, vhh (r.map (·, h)) = vh r' h := fun r => ⟨r, fun h => by cases r <;> rfl⟩
      cases b <;> simp at hc <;> simp only [cbuiltin]
      case cap =>
        split
        all_goals first
          | contradiction
          | exact key _
          | exact ⟨none, fun h => rfl⟩
      all_goals exact key _
    | value f => rw [hcal] at hc; simp at hc
    | invoke f n => rw [hcal] at hc; simp at hc
  all_goals first
    | exact ⟨_, fun h => rfl⟩
    | (cases hc; done)

theorem opRun_quiet {tm : Env} {o : Oper} (hc : cls P o = .p ∨ cls P o = .l) (h : Heap) : ∃ r : Option CV, opRun P callf fl none tm o h = vh r h := by
  rcases hc with hc | hc
  · obtain ⟨r, hr⟩ := opRun_pure (callf := callf) (fl := fl) (tm := tm) hc
    exact ⟨r, hr h⟩
  · obtain ⟨dst, op, type, pos, after, guard⟩ := o
    cases op <;> simp only [cls] at hc <;> simp only [opRun]
    case alloc t => split at hc <;> cases hc
    case makeMap t r => split at hc <;> cases hc
    case convert src dst x =>
      split at hc
      · cases hc
      · rename_i hd
        refine ⟨(cconvert P src dst h (ceval tm x)).map (·.1), ?_⟩
        cases hcc : cconvert P src dst h (ceval tm x) with
        | none => rfl
        | some y =>
          have : y.2 = h := by
            unfold cconvert at hcc
            split at hcc
            · cases hcc; rfl
            · cases hcc; rfl
            · rename_i hd' _; rw [hd] at hd'; cases hd'
            · split at hcc
              · split at hcc
                · cases hcc
                · split at hcc
                  · simp only [Option.map_eq_some_iff] at hcc
                    obtain ⟨_, _, rfl⟩ := hcc
                    rfl
                  · cases hcc
              · cases hcc
            · cases hcc
          obtain ⟨y1, y2⟩ := y
          subst this
          rfl
      · cases hc
    case call c =>
      cases hcal : c.callee with
      | builtin b =>
        rw [hcal] at hc
        have key : ∀ r : Option CV, ∃ r' : Option CV, vhh (r.map (·, h)) = vh r' h := fun r => ⟨r, by cases r <;> rfl⟩
        cases b <;> simp at hc
        simp only [cbuiltin]
        split
        all_goals first
          | contradiction
          | exact key _
          | exact ⟨none, rfl⟩
      | value f => rw [hcal] at hc; simp at hc
      | invoke f n => rw [hcal] at hc; simp at hc
    all_goals first
      | exact ⟨_, rfl⟩
      | (cases hc; done)

theorem Blk.beq_eq : ∀ {a b : Blk}, Blk.beq a b = true → a = b
  | .dead, b, h => by cases b <;> simp_all [Blk.beq]
  | .row a, b, h => by
    cases b <;> simp [Blk.beq] at h
    rw [CV.beqL_eq _ _ h]
  | .map es c, b, h => by
    cases es <;> cases b <;> simp [Blk.beq] at h
    rename_i es' c'
    cases es' <;> simp [Blk.beq] at h
    rw [h]
  | .siter a c, b, h => by cases b <;> simp_all [Blk.beq]
  | .miter a b c d, e, h => by cases e <;> simp_all [Blk.beq]

theorem early_some {o : Oper} {i j : Nat} {b : Blk × CV} (h : early P o i = some b) : ∃ b', early P o j = some b' ∧ b'.1 = b.1 := by
  obtain ⟨dst, op, type, pos, after, guard⟩ := o
  cases op <;> simp only [early] at h ⊢ <;> first
    | (cases h; done)
    | skip
  case alloc t =>
    simp only [Option.map_eq_some_iff] at h
    obtain ⟨z, h1, rfl⟩ := h
    exact ⟨(.row z, .hp j 0), by rw [h1]; rfl, rfl⟩
  case makeMap t r =>
    cases r with
    | some x => cases h
    | none =>
      simp only at h ⊢
      split at h
      · cases h; exact ⟨(.map [] 0, .hm j), rfl, rfl⟩
      · cases h

theorem early_cls {o : Oper} {i : Nat} : cls P o = .a ↔ (early P o i).isSome = true := by
  have e0 : ∀ i j, (early P o i).isSome = true → (early P o j).isSome = true := fun i j h => by
    obtain ⟨b, hb⟩ := Option.isSome_iff_exists.1 h
    obtain ⟨b', h1, _⟩ := early_some (j := j) hb
    simp [h1]
  constructor
  · intro h
    apply e0 0
    obtain ⟨dst, op, type, pos, after, guard⟩ := o
    cases op <;> simp only [cls] at h <;> first
      | (cases h; done)
      | skip
    case alloc t => split at h <;> first | assumption | cases h
    case makeMap t r => split at h <;> first | assumption | cases h
    case convert src dst x => split at h <;> cases h
    case call c => split at h <;> cases h
  · intro h
    have h0 := e0 i 0 h
    obtain ⟨dst, op, type, pos, after, guard⟩ := o
    cases op <;> first
      | (simp [early] at h0; done)
      | (simp only [cls, h0, if_true])

variable {w0 w : World} {g : Gho} {h : Heap} {a : Act}

/-- What is known early, comes. -/
theorem early_fit (hw : WI w0 g h w) {o : Oper} {id : Nat} {b : Blk × CV} (hb : early P o id = some b) (hid : g.φ id = none) (hlt : h[id]? = some b.1) :
    ∃ (y : Value) (ob : Obj) (L : Nat), (execOp a.eval o).run P w = .ok (.value y) (w.alloc ob) ∧ WI w0 (g.new id w.heap.size L) h (w.alloc ob) ∧ VR (g.new id w.heap.size L) y b.2 := by
  have hil : id < h.length := by
    rcases Nat.lt_or_ge id h.length with h' | h'
    · exact h'
    · simp [List.getElem?_eq_none h'] at hlt
  obtain ⟨dst, op, type, pos, after, guard⟩ := o
  cases op <;> simp only [early] at hb <;> first
    | (cases hb; done)
    | skip
  case alloc t =>
    simp only [Option.map_eq_some_iff] at hb
    obtain ⟨z, hz, rfl⟩ := hb
    obtain ⟨v, h1, h2⟩ := zcells_spec hz
    refine ⟨.pointer (some ⟨w.heap.size, 0, none⟩), .cells v.cells t, v.cells.size, ?_, WI.new hw hid (Nat.le_refl _) hil hlt (fun _ _ _ => rfl) (row_new hw id ?_ hid), .hp _ 0 w.heap.size 0 v.cells.size (by simp [Gho.new])⟩
    · simp [execOp, Instr.alloc, h1, newVar, newRow]
    · have := h2 g
      rw [List.take_of_length_le (by rw [this.length]; exact Nat.le_refl _)]
      exact this
  case makeMap t r =>
    cases r with
    | some x => cases hb
    | none =>
      simp only at hb
      split at hb
      · cases hb
        refine ⟨.map (some w.heap.size), .map #[] 0, 0, by simp [execOp, Instr.makeMap], WI.new hw hid (Nat.le_refl _) hil hlt (fun _ _ _ => rfl) ⟨by simp [Gho.new], rfl, #[], alloc_get _ _, trivial⟩, .hm _ w.heap.size 0 0 (by simp [Gho.new])⟩
      · cases hb

end
end Go.CE

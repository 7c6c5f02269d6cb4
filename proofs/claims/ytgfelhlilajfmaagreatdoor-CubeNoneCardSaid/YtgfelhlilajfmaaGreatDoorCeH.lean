/-
  The canonical evaluator: regions that draw their order, what a run of one says.
-/
import Derived.Test.YtgfelhlilajfmaaGreatDoorCeG
namespace Go.CE
set_option linter.unusedVariables false
set_option linter.unusedSimpArgs false
set_option linter.unusedSectionVars false
set_option linter.unnecessarySimpa false
open Go.RowKit (Below)
variable [Glob]

theorem allFrom_spec {α : Type} {p : Nat → α → Bool} : ∀ {l : List α} {k : Nat}, allFrom p k l = true → ∀ (i : Nat) (x : α), l[i]? = some x → p (k + i) x = true
  | [], k, h, i, x, hx => by simp at hx
  | y :: l, k, h, i, x, hx => by
    simp only [allFrom, Bool.and_eq_true] at h
    cases i with
    | zero => simp at hx; subst hx; simpa using h.1
    | succ i =>
      have := allFrom_spec h.2 i x (by simpa using hx)
      rwa [show k + 1 + i = k + (i + 1) by omega] at this

theorem allFrom_arr {p : Nat → Oper → Bool} {ops : Array Oper} (h : allFrom p 0 ops.toList = true) {i : Nat} {o : Oper} (ho : ops[i]? = some o) : p i o = true := by
  have := allFrom_spec h i o (by simpa using ho)
  simpa using this

/-! Which stand ahead -/

def ancFold (l : List Edge) (acc : List Nat) (s : Nat) : Nat := l.foldl (fun s e => if Region.binds .any e then s ||| 2 ^ e.on ||| acc.getD e.on 0 else s) s

theorem ancFold_bit (acc : List Nat) (i : Nat) : ∀ (l : List Edge) (s : Nat), (ancFold l acc s).testBit i = true → s.testBit i = true ∨ ∃ e ∈ l, Region.binds .any e = true ∧ (e.on = i ∨ (acc.getD e.on 0).testBit i = true)
  | [], s, h => .inl h
  | e :: l, s, h => by
    simp only [ancFold, List.foldl_cons] at h
    rcases ancFold_bit acc i l _ h with h1 | ⟨e', h1, h2, h3⟩
    · split at h1
      · rename_i hb
        simp only [Nat.testBit_or, Bool.or_eq_true, Nat.testBit_two_pow, decide_eq_true_eq] at h1
        rcases h1 with (h1 | h1) | h1
        · exact .inl h1
        · exact .inr ⟨e, by simp, hb, .inl h1⟩
        · exact .inr ⟨e, by simp, hb, .inr h1⟩
      · exact .inl h1
    · exact .inr ⟨e', by simp [h1], h2, h3⟩

theorem ancsGo_pre : ∀ (rest : List Oper) (acc : List Nat), (ancsGo rest acc).length = acc.length + rest.length ∧ (ancsGo rest acc).take acc.length = acc
  | [], acc => by simp [ancsGo]
  | o :: rest, acc => by
    unfold ancsGo
    have := ancsGo_pre rest (acc ++ [o.after.toList.foldl (fun s e => if Region.binds .any e then s ||| 2 ^ e.on ||| acc.getD e.on 0 else s) 0])
    refine ⟨by rw [this.1]; simp; omega, ?_⟩
    have h2 := congrArg (List.take acc.length) this.2
    rw [List.take_take] at h2
    simpa using h2

theorem ancsGo_at : ∀ (rest : List Oper) (acc : List Nat) (j : Nat) (o : Oper), rest[j]? = some o → (ancsGo rest acc)[acc.length + j]? = some (ancFold o.after.toList ((ancsGo rest acc).take (acc.length + j)) 0)
  | [], acc, j, o, h => by simp at h
  | x :: rest, acc, j, o, h => by
    unfold ancsGo
    cases j with
    | zero =>
      simp at h; subst h
      change (ancsGo rest (acc ++ [ancFold x.after.toList acc 0]))[_]? = some (ancFold x.after.toList ((ancsGo rest (acc ++ [ancFold x.after.toList acc 0])).take _) 0)
      generalize hF : ancFold x.after.toList acc 0 = F
      have := ancsGo_pre rest (acc ++ [F])
      generalize ancsGo rest _ = l at this
      have h2 := congrArg (List.take acc.length) this.2
      rw [List.take_take] at h2
      simp at h2
      have h3 := congrArg (fun l => l[acc.length]?) this.2
      simp [List.getElem?_take] at h3
      simp only [Nat.add_zero, h2, h3, hF]
    | succ j =>
      have := ancsGo_at rest (acc ++ [x.after.toList.foldl (fun s e => if Region.binds .any e then s ||| 2 ^ e.on ||| acc.getD e.on 0 else s) 0]) j o (by simpa using h)
      simp only [List.length_append, List.length_cons, List.length_nil] at this
      rw [show acc.length + (0 + 1) + j = acc.length + (j + 1) by omega] at this
      exact this

theorem ahead_step {ops : Array Oper} {i j : Nat} (h : ahead (ancs ops) i j = true) : ∃ (o : Oper) (e : Edge), ops[j]? = some o ∧ e ∈ o.after ∧ Region.binds .any e = true ∧ (e.on = i ∨ (e.on < j ∧ ahead (ancs ops) i e.on = true)) := by
  unfold ahead at h
  have hl := (ancsGo_pre ops.toList []).1
  cases ho : ops[j]? with
  | none =>
    have : ops.size ≤ j := by simpa using ho
    have hn : (ancs ops)[j]? = none := by
      rw [List.getElem?_eq_none_iff]; unfold ancs; rw [hl]; simpa using this
    simp [List.getD, hn] at h
  | some o =>
    have h1 := ancsGo_at ops.toList [] j o (by simpa using ho)
    simp only [List.length_nil, Nat.zero_add] at h1
    change (ancs ops)[j]? = some (ancFold _ ((ancs ops).take j) 0) at h1
    simp only [List.getD, h1, Option.getD_some] at h
    rcases ancFold_bit _ _ _ _ h with h2 | ⟨e, h2, h3, h4⟩
    · simp at h2
    · refine ⟨o, e, rfl, by simpa using h2, h3, ?_⟩
      rcases h4 with h4 | h4
      · exact .inl h4
      · refine .inr ?_
        simp only [List.getD, List.getElem?_take] at h4
        split at h4
        · rename_i hlt; exact ⟨hlt, by simpa [ahead, List.getD] using h4⟩
        · simp at h4

/-- What is listed takes with it what stands ahead. -/
def Closed (ops : Array Oper) (L : Nat → Prop) : Prop := ∀ (j : Nat) (o : Oper), ops[j]? = some o → L j → ∀ e ∈ o.after, Region.binds .any e = true → L e.on

theorem Closed.ofAhead {ops : Array Oper} {L : Nat → Prop} (hc : Closed ops L) {i : Nat} : ∀ {j : Nat}, L j → ahead (ancs ops) i j = true → L i := by
  intro j
  induction j using Nat.strongRecOn with
  | _ j ih =>
    intro hj h
    obtain ⟨o, e, h1, h2, h3, h4⟩ := ahead_step h
    have he := hc j o h1 hj e h2 h3
    rcases h4 with rfl | ⟨h4, h5⟩
    · exact he
    · exact ih _ h4 he h5

theorem Closed.ofReady {ops : Array Oper} {L : Nat → Prop} (hc : Closed ops L) {i j : Nat} {o : Oper} (ho : ops[j]? = some o) (hr : ∀ e ∈ o.after, Region.binds .any e = true → L e.on) (h : ahead (ancs ops) i j = true) : L i := by
  obtain ⟨o', e, h1, h2, h3, h4⟩ := ahead_step h
  rw [ho] at h1
  cases h1
  rcases h4 with rfl | ⟨h4, h5⟩
  · exact hr e h2 h3
  · exact hc.ofAhead (hr e h2 h3) h5

/-! What a run did -/

def tmAt (rs : List Rec) (tm' : Env) (m : Nat) : Env := match rs[m]? with
  | some r => r.tm
  | none => tm'

section
variable {P : Program} {callf : CallF} {fl : Nat} {ops : Array Oper} {orc : Orc} {an : List Nat} {base : Nat}

/-- One operation of the run. -/
def StepOk (P : Program) (callf : CallF) (fl : Nat) (ops : Array Oper) (orc : Orc) (an : List Nat) (base : Nat) (pn : Pan) (m : Nat) (o : Oper) (r : Rec) (tm1 : Env) (h1 : Heap) : Prop :=
  (behind an pn m = true ∧ tm1 = r.tm ∧ h1 = r.h) ∨
  (behind an pn m = false ∧ (∀ p v hp, pn = some (p, v, hp) → p ≠ m) ∧ drawStep P callf fl ops orc an base m r.tm o r.h = some (.val r.v h1) ∧ tm1 = cput r.tm o.dst r.v) ∨
  (∃ v hp, pn = some (m, v, hp) ∧ cls P orc m o = .w ∧ drawStep P callf fl ops orc an base m r.tm o r.h = some (.pan v hp) ∧ tm1 = r.tm ∧ h1 = r.h)

theorem consRec_some {r : Rec} {y : Option (List Rec × Env × Heap × Pan)} {rs : List Rec} {tm' : Env} {h' : Heap} {pn : Pan} (h : consRec r y = some (rs, tm', h', pn)) : ∃ rs', rs = r :: rs' ∧ y = some (rs', tm', h', pn) := by
  cases y with
  | none => simp [consRec] at h
  | some z =>
    obtain ⟨z1, z2, z3, z4⟩ := z
    simp only [consRec, Option.some.injEq, Prod.mk.injEq] at h
    obtain ⟨rfl, rfl, rfl, rfl⟩ := h
    exact ⟨_, rfl, rfl⟩

structure Ran (P : Program) (callf : CallF) (fl : Nat) (ops : Array Oper) (orc : Orc) (an : List Nat) (base i : Nat) (rest : List Oper) (tm : Env) (h : Heap) (pn0 : Pan) (rs : List Rec) (tm' : Env) (h' : Heap) (pn : Pan) : Prop where
  len : rs.length = rest.length
  heap0 : heapAt rs h' 0 = h
  tm0 : tmAt rs tm' 0 = tm
  pan0 : ∀ x, pn0 = some x → pn = some x
  pan1 : ∀ p v hp, pn0 = none → pn = some (p, v, hp) → i ≤ p ∧ p < i + rest.length
  step : ∀ (j : Nat) (o : Oper) (r : Rec), rest[j]? = some o → rs[j]? = some r → StepOk P callf fl ops orc an base pn (i + j) o r (tmAt rs tm' (j + 1)) (heapAt rs h' (j + 1))

theorem Ran.cons {i : Nat} {o : Oper} {rest : List Oper} {tm tm1 tm' : Env} {h h1 h' : Heap} {pn0 pn1 pn : Pan} {r : Rec} {rs : List Rec} (hr : Ran P callf fl ops orc an base (i + 1) rest tm1 h1 pn1 rs tm' h' pn)
    (htm : r.tm = tm) (hh : r.h = h) (hp0 : ∀ x, pn0 = some x → pn1 = some x) (hp1 : ∀ p v hp, pn0 = none → pn1 = some (p, v, hp) → p = i)
    (hs : StepOk P callf fl ops orc an base pn i o r tm1 h1) : Ran P callf fl ops orc an base i (o :: rest) tm h pn0 (r :: rs) tm' h' pn where
  len := by simp [hr.len]
  heap0 := by simp [heapAt, hh]
  tm0 := by simp [tmAt, htm]
  pan0 := fun x hx => hr.pan0 x (hp0 x hx)
  pan1 := fun p v hp h0 hx => by
    cases h1 : pn1 with
    | none => have := hr.pan1 p v hp h1 hx; simp; omega
    | some y =>
      have := hr.pan0 y h1
      rw [hx] at this
      cases this
      have := hp1 p v hp h0 h1
      subst this
      simp
  step := fun j o' r' ho' hr' => by
    cases j with
    | zero =>
      simp at ho' hr'
      subst ho'; subst hr'
      have e1 : tmAt (r :: rs) tm' (0 + 1) = tm1 := by rw [← hr.tm0]; simp [tmAt]
      have e2 : heapAt (r :: rs) h' (0 + 1) = h1 := by rw [← hr.heap0]; simp [heapAt]
      rw [e1, e2]
      exact hs
    | succ j =>
      have := hr.step j o' r' (by simpa using ho') (by simpa using hr')
      rw [show i + 1 + j = i + (j + 1) by omega] at this
      simpa [tmAt, heapAt] using this

theorem drawRun_ran : ∀ (rest : List Oper) (i : Nat) (tm : Env) (h : Heap) (pn0 : Pan) (rs : List Rec) (tm' : Env) (h' : Heap) (pn : Pan), (∀ p v hp, pn0 = some (p, v, hp) → p < i) →
    drawRun P callf fl ops orc an base i rest tm h pn0 = some (rs, tm', h', pn) → Ran P callf fl ops orc an base i rest tm h pn0 rs tm' h' pn
  | [], i, tm, h, pn0, rs, tm', h', pn, _, hx => by
    simp only [drawRun, Option.some.injEq, Prod.mk.injEq] at hx
    obtain ⟨rfl, rfl, rfl, rfl⟩ := hx
    exact ⟨rfl, by simp [heapAt], by simp [tmAt], fun x hx => hx, fun p v hp h0 h1 => (by rw [h0] at h1; cases h1), fun j o r ho => by simp at ho⟩
  | o :: rest, i, tm, h, pn0, rs, tm', h', pn, hlt, hx => by
    unfold drawRun at hx
    simp only [putK_eq, forceV_eq, forceH_eq] at hx
    split at hx
    · rename_i hb
      obtain ⟨rs', rfl, hy⟩ := consRec_some hx
      have hr := drawRun_ran rest (i + 1) tm h pn0 rs' tm' h' pn (fun p v hp hh => Nat.lt_succ_of_lt (hlt p v hp hh)) hy
      refine hr.cons rfl rfl (fun _ h => h) (fun p v hp h0 h1 => by rw [h0] at h1; cases h1) (.inl ⟨?_, rfl, rfl⟩)
      cases h0 : pn0 with
      | none => rw [h0] at hb; simp [behind] at hb
      | some x => rw [hr.pan0 x h0, ← h0]; exact hb
    · rename_i hb
      have hb' : ∀ pn1 rs' tm1 h1, (∀ x, pn0 = some x → pn1 = some x) → Ran P callf fl ops orc an base (i + 1) rest tm1 h1 pn1 rs' tm' h' pn → (pn1 = pn0) → behind an pn i = false ∧ ∀ p v hp, pn = some (p, v, hp) → p ≠ i := by
        intro pn1 rs' tm1 h1 _ hr he
        subst he
        cases h0 : pn1 with
        | none =>
          have key : ∀ p v hp, pn = some (p, v, hp) → i + 1 ≤ p := fun p v hp hh => (hr.pan1 p v hp h0 hh).1
          refine ⟨?_, fun p v hp hh => by have := key p v hp hh; omega⟩
          cases hpn : pn with
          | none => rfl
          | some x =>
            obtain ⟨p, v, hp⟩ := x
            have := key p v hp hpn
            simp [behind]
            omega
        | some x =>
          rw [hr.pan0 x h0, ← h0]
          refine ⟨by simpa using hb, fun p v hp hh => ?_⟩
          have := hlt p v hp hh
          omega
      split at hx
      · cases hx
      · split at hx
        · rename_i v h1 hs
          obtain ⟨rs', rfl, hy⟩ := consRec_some hx
          have hr := drawRun_ran rest (i + 1) _ h1 pn0 rs' tm' h' pn (fun p v hp hh => Nat.lt_succ_of_lt (hlt p v hp hh)) hy
          obtain ⟨k1, k2⟩ := hb' pn0 rs' _ h1 (fun _ h => h) hr rfl
          exact hr.cons rfl rfl (fun _ h => h) (fun p v hp h0 h1 => by rw [h0] at h1; cases h1) (.inr (.inl ⟨k1, k2, hs, rfl⟩))
        · rename_i v h1 hs
          split at hx
          · rename_i hc
            simp only [Bool.and_eq_true, Option.isNone_iff_eq_none, beq_iff_eq] at hc
            obtain ⟨rs', rfl, hy⟩ := consRec_some hx
            have hr := drawRun_ran rest (i + 1) tm h (some (i, v, h1)) rs' tm' h' pn (fun p v hp hh => by cases hh; omega) hy
            exact hr.cons rfl rfl (fun x h0 => by rw [hc.1] at h0; cases h0) (fun p v hp h0 h1 => by cases h1; rfl) (.inr (.inr ⟨v, h1, hr.pan0 _ rfl, hc.2, hs, rfl, rfl⟩))
          · cases hx
        · cases hx

end
end Go.CE

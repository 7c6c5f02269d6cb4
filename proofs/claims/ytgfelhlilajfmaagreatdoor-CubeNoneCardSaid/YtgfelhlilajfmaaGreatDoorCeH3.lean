/-
  The canonical evaluator: regions that draw their order, the state between two operations.
-/
import Derived.Test.YtgfelhlilajfmaaGreatDoorCeH2
namespace Go.CE
set_option linter.unusedVariables false
set_option linter.unusedSimpArgs false
set_option linter.unusedSectionVars false
set_option linter.unnecessarySimpa false
open Go.RowKit (Below)
variable [Glob]

structure Pairs (P : Program) (ops : Array Oper) (orc : Orc) : Prop where
  back : ∀ (j : Nat) (y : Oper), ops[j]? = some y → ∀ e ∈ y.after, Region.binds .any e = true → e.on < j
  pair : ∀ (i j : Nat) (x y : Oper), i < j → ops[i]? = some x → ops[j]? = some y → ahead (ancs ops) i j = true ∨ ((∀ d, x.dst = some d → d ∉ y.looksAt ops) ∧ (∀ d, y.dst = some d → d ∉ x.looksAt ops) ∧ ¬ (cls P orc i x = .w ∧ cls P orc j y = .w))
  dst : ∀ (i j : Nat) (x y : Oper) (d : Tmp), i ≠ j → ops[i]? = some x → ops[j]? = some y → x.dst = some d → y.dst ≠ some d

theorem drawOk_pairs {P : Program} {ops : Array Oper} {orc : Orc} (h : drawOk P ops orc (ancs ops) = true) : Pairs P ops orc := by
  have h0 : ∀ (j : Nat) (y : Oper), ops[j]? = some y → (∀ e ∈ y.after, Region.binds .any e = true → e.on < j) ∧ ∀ (i : Nat) (x : Oper), i < j → ops[i]? = some x → pairOk P ops orc (ancs ops) i j x y = true ∧ ∀ d, x.dst = some d → y.dst ≠ some d := by
    intro j y hy
    have h1 := allFrom_arr h hy
    simp only [Bool.and_eq_true, List.all_eq_true] at h1
    refine ⟨fun e he hb => ?_, fun i x hi hx => ?_⟩
    · have := h1.1 e (by simpa using he)
      simpa [hb] using this
    · have h2 := allFrom_arr h1.2 hx
      simp only [Bool.or_eq_true, decide_eq_true_eq, Bool.and_eq_true, Bool.not_eq_true', Bool.and_eq_false_iff] at h2
      rcases h2 with h2 | h2
      · omega
      · refine ⟨h2.1, fun d hd he => ?_⟩
        rcases h2.2 with h3 | h3
        · simp [hd] at h3
        · simp [hd, he] at h3
  refine ⟨fun j y hy => (h0 j y hy).1, fun i j x y hij hx hy => ?_, fun i j x y d hij hx hy hd => ?_⟩
  · have h1 := ((h0 j y hy).2 i x hij hx).1
    simp only [pairOk, Bool.or_eq_true, Bool.and_eq_true] at h1
    rcases h1 with h1 | ⟨⟨h1, h2⟩, h3⟩
    · exact .inl h1
    · refine .inr ⟨fun d hd => ?_, fun d hd => ?_, fun hw => ?_⟩
      · rw [hd] at h1; simpa using h1
      · rw [hd] at h2; simpa using h2
      · simp [hw.1, hw.2] at h3
  · rcases Nat.lt_or_gt_of_ne hij with hlt | hlt
    · exact ((h0 j y hy).2 i x hlt hx).2 d hd
    · intro he
      exact ((h0 i x hx).2 j y hlt hy).2 d he hd

def Live (an : List Nat) (pn : Pan) (j : Nat) : Prop := behind an pn j = false ∧ ∀ v hp, pn ≠ some (j, v, hp)

def rv (rs : List Rec) (j : Nat) : CV := match rs[j]? with
  | some r => r.v
  | none => .any

theorem cput_len (tm : Env) (d : Option Tmp) (v : CV) : (cput tm d v).length = tm.length := by cases d <;> simp [cput]

theorem cput_getD (tm : Env) (dst : Option Tmp) (v : CV) (d : Nat) : (cput tm dst v).getD d .any = if dst = some d ∧ d < tm.length then v else tm.getD d .any := by
  cases dst with
  | none => simp [cput]
  | some e =>
    simp only [cput, List.getD, List.getElem?_set, Option.some.injEq]
    by_cases he : e = d
    · subst he
      by_cases hl : e < tm.length
      · simp [hl]
      · simp [hl]
    · simp [he]

theorem put_getD (a : Act) (dst : Option Tmp) (v : Value) (d : Nat) : (a.put dst v).tmps.toList.getD d undef = if dst = some d ∧ d < a.tmps.size then v else a.tmps.toList.getD d undef := by
  cases dst with
  | none => simp [Act.put]
  | some e =>
    simp only [Act.put, Array.toList_setIfInBounds, List.getD, List.getElem?_set, Option.some.injEq]
    by_cases he : e = d
    · subst he
      by_cases hl : e < a.tmps.size
      · simp [hl]
      · simp [hl]
    · simp [he]

theorem put_size (a : Act) (dst : Option Tmp) (v : Value) : (a.put dst v).tmps.toList.length = a.tmps.toList.length := by cases dst <;> simp [Act.put]

section
variable {P : Program} {w0 : World} {callf : CallF} {fl nb : Nat} {ops : Array Oper} {orc : Orc} {base : Nat} {tm tm' : Env} {h0 h' : Heap} {pn : Pan} {rs : List Rec}

theorem drawStep_quiet {an : List Nat} {i : Nat} {o : Oper} {h h1 : Heap} {v : CV} (hc : cls P orc i o ≠ .w) (hs : drawStep P callf fl ops orc an base i tm o h = some (.val v h1)) : h1 = h := by
  unfold drawStep at hs
  split at hs
  · cases hs
  · cases hs; rfl
  · split at hs
    · split at hs
      · split at hs
        · cases hs; rfl
        · cases hs
      · cases hs
    · split at hs
      · cases hs; rfl
      · cases hs
      · cases hs

theorem Ran.get (R : Ran P callf fl ops orc (ancs ops) base 0 ops.toList tm h0 none rs tm' h' pn) {i : Nat} {o : Oper} (ho : ops[i]? = some o) :
    ∃ r, rs[i]? = some r ∧ r.tm = tmAt rs tm' i ∧ r.h = heapAt rs h' i ∧ rv rs i = r.v ∧ StepOk P callf fl ops orc (ancs ops) base pn i o r (tmAt rs tm' (i + 1)) (heapAt rs h' (i + 1)) := by
  have hl : i < rs.length := by
    rw [R.len, Array.length_toList]
    rcases Nat.lt_or_ge i ops.size with h | h
    · exact h
    · simp [Array.getElem?_eq_none h] at ho
  refine ⟨rs[i], List.getElem?_eq_getElem hl, by simp [tmAt, hl], by simp [heapAt, hl], by simp [rv, hl], ?_⟩
  have := R.step i o rs[i] (by simpa using ho) (List.getElem?_eq_getElem hl)
  rwa [Nat.zero_add] at this

theorem Ran.quiet (R : Ran P callf fl ops orc (ancs ops) base 0 ops.toList tm h0 none rs tm' h' pn) {i : Nat} {o : Oper} (ho : ops[i]? = some o) (hc : cls P orc i o ≠ .w) : heapAt rs h' (i + 1) = heapAt rs h' i := by
  obtain ⟨r, h1, h2, h3, h4, h5⟩ := R.get ho
  rw [← h3]
  rcases h5 with ⟨_, _, h⟩ | ⟨_, _, h, _⟩ | ⟨v, hp, _, _, _, _, h⟩
  · exact h
  · exact drawStep_quiet hc h
  · exact h

theorem Ran.between (R : Ran P callf fl ops orc (ancs ops) base 0 ops.toList tm h0 none rs tm' h' pn) {k : Nat} : ∀ {m : Nat}, k ≤ m → m ≤ ops.size → (∀ (j : Nat) (o : Oper), k ≤ j → j < m → ops[j]? = some o → cls P orc j o ≠ .w) → heapAt rs h' m = heapAt rs h' k := by
  intro m
  induction m with
  | zero => intro h1 h2 h3; rw [Nat.le_zero.1 h1]
  | succ m ih =>
    intro h1 h2 h3
    rcases Nat.lt_or_ge m k with h | h
    · rw [show k = m + 1 by omega]
    · rw [← ih h (by omega) fun j o a b => h3 j o a (by omega)]
      exact R.quiet (o := ops[m]) (by simp [Nat.lt_of_succ_le h2]) (h3 m _ h (by omega) (by simp [Nat.lt_of_succ_le h2]))

theorem Ran.lens (hgrow : CallGrow callf) (hfl : fl ≤ h0.length) (R : Ran P callf fl ops orc (ancs ops) base 0 ops.toList tm h0 none rs tm' h' pn) : ∀ {m : Nat}, m ≤ ops.size → h0.length ≤ (heapAt rs h' m).length := by
  intro m
  induction m with
  | zero => intro _; rw [R.heap0]; exact Nat.le_refl _
  | succ m ih =>
    intro h
    have ih := ih (by omega)
    obtain ⟨r, h1, h2, h3, h4, h5⟩ := R.get (i := m) (o := ops[m]) (by simp [Nat.lt_of_succ_le h])
    rcases h5 with ⟨_, _, h⟩ | ⟨_, _, h, _⟩ | ⟨v, hp, _, _, _, _, h⟩
    · rw [h, h3]; exact ih
    · have := (drawStep_grow hgrow ops _ _ _ _ _ _ (by rw [h3]; omega) h).1
      rw [h3] at this
      exact Nat.le_trans ih this
    · rw [h, h3]; exact ih

theorem StepOk.live {m : Nat} {o : Oper} {r : Rec} {tm1 : Env} {h1 : Heap} {an : List Nat} (hs : StepOk P callf fl ops orc an base pn m o r tm1 h1) :
    (¬ Live an pn m ∧ tm1 = r.tm ∧ h1 = r.h) ∨ (Live an pn m ∧ drawStep P callf fl ops orc an base m r.tm o r.h = some (.val r.v h1) ∧ tm1 = cput r.tm o.dst r.v) := by
  rcases hs with ⟨a, b, c⟩ | ⟨a, b, c, d⟩ | ⟨v, hp, a, b, c, d, e⟩
  · exact .inl ⟨fun hl => (by rw [hl.1] at a; cases a), b, c⟩
  · exact .inr ⟨⟨a, fun v hp h => b m v hp h rfl⟩, c, d⟩
  · exact .inl ⟨fun hl => hl.2 v hp a, d, e⟩

theorem Ran.envs (R : Ran P callf fl ops orc (ancs ops) base 0 ops.toList tm h0 none rs tm' h' pn) (D : Pairs P ops orc) : ∀ {m : Nat}, m ≤ ops.size →
    (tmAt rs tm' m).length = tm.length ∧
    (∀ (j : Nat) (o : Oper) (d : Tmp), j < m → ops[j]? = some o → o.dst = some d → Live (ancs ops) pn j → d < tm.length → (tmAt rs tm' m).getD d .any = rv rs j) ∧
    (∀ d : Tmp, (∀ (j : Nat) (o : Oper), j < m → ops[j]? = some o → o.dst = some d → ¬ Live (ancs ops) pn j) → (tmAt rs tm' m).getD d .any = tm.getD d .any) := by
  intro m
  induction m with
  | zero => intro _; rw [R.tm0]; exact ⟨rfl, fun j o d h => by omega, fun d _ => rfl⟩
  | succ m ih =>
    intro h
    obtain ⟨i1, i2, i3⟩ := ih (by omega)
    have hm : ops[m]? = some ops[m] := by simp [Nat.lt_of_succ_le h]
    obtain ⟨r, h1, h2, h3, h4, h5⟩ := R.get hm
    rcases h5.live with ⟨hl, he, _⟩ | ⟨hl, _, he⟩
    · rw [he, h2]
      refine ⟨i1, fun j o d hj ho hd hlj hlt => ?_, fun d hd => i3 d fun j o hj => hd j o (by omega)⟩
      rcases Nat.lt_succ_iff_lt_or_eq.1 hj with hj | rfl
      · exact i2 j o d hj ho hd hlj hlt
      · exact (hl hlj).elim
    · rw [he, h2]
      refine ⟨by rw [cput_len, i1], fun j o d hj ho hd hlj hlt => ?_, fun d hd => ?_⟩
      · rw [cput_getD]
        rcases Nat.lt_succ_iff_lt_or_eq.1 hj with hj | rfl
        · rw [if_neg (fun hc => D.dst j m _ _ d (by omega) ho hm hd hc.1)]
          exact i2 j o d hj ho hd hlj hlt
        · rw [hm] at ho
          cases ho
          rw [if_pos ⟨hd, by rw [i1]; exact hlt⟩, h4]
      · rw [cput_getD, if_neg (fun hc => hd m _ (by omega) hm hc.1 hl)]
        exact i3 d fun j o hj => hd j o (by omega)

/-- An environment where all but these are forgotten. -/
def mask (L : List Tmp) (tm : Env) : Env := (List.range tm.length).map fun t => if L.contains t then tm.getD t .any else .any

theorem mask_len (L : List Tmp) (tm : Env) : (mask L tm).length = tm.length := by simp [mask]
theorem mask_get {L : List Tmp} {tm : Env} {t : Tmp} (h : t ∈ L) : (mask L tm)[t]? = tm[t]? := by
  simp only [mask, List.getElem?_map]
  by_cases hl : t < tm.length
  · simp [hl, h]
  · simp [hl]
theorem mask_getD_ne {L : List Tmp} {tm : Env} {t : Tmp} (h : t ∉ L) : (mask L tm).getD t .any = .any := by
  simp only [mask, List.getD, List.getElem?_map]
  by_cases hl : t < tm.length
  · simp [hl, h]
  · simp [hl]

theorem mask_ceval {o : Oper} {tm : Env} {x : Operand} (hx : x ∈ o.op.operands) : ceval (mask (o.looksAt ops) tm) x = ceval tm x := by
  cases x with
  | tmp t =>
    have : t ∈ o.looksAt ops := List.mem_append_left _ (List.mem_filterMap.2 ⟨.tmp t, by simpa using hx, rfl⟩)
    simp only [ceval, getK_eq, List.getD, mask_get this]
  | const v => rfl
  | global g => rfl
  | func f => rfl

theorem mask_cwanted {o : Oper} {tm : Env} : cwanted ops (mask (o.looksAt ops) tm) o = cwanted ops tm o := by
  unfold cwanted
  cases hg : o.guard with
  | none => rfl
  | some gw =>
    obtain ⟨j, want⟩ := gw
    simp only
    cases hd : (ops[j]?).bind (·.dst) with
    | none => rfl
    | some d =>
      have : d ∈ o.looksAt ops := List.mem_append_right _ (by simp only [hg, hd]; simp)
      simp only [getK_eq, List.getD, mask_get this]

/-- Between two operations. -/
structure Inv (P : Program) (w0 : World) (nb : Nat) (ops : Array Oper) (orc : Orc) (base : Nat) (tm : Env) (rs : List Rec) (h' : Heap) (pn : Pan) (g0 : Gho) (d0 : List Deferred) (listed : Array Bool) (a : Act) (w : World) (k : Nat) (g : Gho) : Prop where
  size : listed.size = ops.size
  closed : Closed ops fun j => listed.getD j false = true
  live : ∀ j, listed.getD j false = true → Live (ancs ops) pn j
  kle : k ≤ ops.size
  kw : k = 0 ∨ ∃ o, ops[k - 1]? = some o ∧ cls P orc (k - 1) o = .w
  ks : ∀ (j : Nat) (o : Oper), ops[j]? = some o → cls P orc j o = .w → (listed.getD j false = true ↔ j < k)
  le : Gle nb g0 g
  wi : WI w0 g (heapAt rs h' k) w
  slot : ∀ (j : Nat) (o : Oper) (b : Blk), ops[j]? = some o → orc.getD j none = some b → listed.getD j false ≠ true → g.φ (base + j) = none ∧ (heapAt rs h' k)[base + j]? = some b
  tmps : a.tmps.toList.length = tm.length
  env0 : ∀ d : Tmp, d < tm.length → (∀ (j : Nat) (o : Oper), ops[j]? = some o → listed.getD j false = true → o.dst ≠ some d) → VR g (a.tmps.toList.getD d undef) (tm.getD d .any)
  env1 : ∀ (j : Nat) (o : Oper) (d : Tmp), ops[j]? = some o → listed.getD j false = true → o.dst = some d → d < tm.length → VR g (a.tmps.toList.getD d undef) (rv rs j)
  defers : a.defers = d0

variable {g0 : Gho} {d0 : List Deferred} {listed : Array Bool} {a : Act} {w : World} {k : Nat} {g : Gho}

theorem listed_set {i j : Nat} (hi : i < listed.size) : (listed.setIfInBounds i true).getD j false = true ↔ j = i ∨ listed.getD j false = true := by
  by_cases hij : i = j
  · subst hij
    simp [hi]
  · rw [getD_set_ne false hij]
    constructor
    · exact .inr
    · rintro (rfl | h)
      · exact (hij rfl).elim
      · exact h

theorem Inv.step (I : Inv P w0 nb ops orc base tm rs h' pn g0 d0 listed a w k g) (D : Pairs P ops orc) {i : Nat} {o : Oper} (ho : ops[i]? = some o) (hni : listed.getD i false ≠ true)
    (hr : ∀ e ∈ o.after, Region.binds .any e = true → listed.getD e.on false = true) (hl : Live (ancs ops) pn i) {k' : Nat} {g' : Gho} {w' : World} {y : Value}
    (hk : k' ≤ ops.size) (hkw : (cls P orc i o = .w ∧ k' = i + 1) ∨ (cls P orc i o ≠ .w ∧ k' = k)) (hle : Gle nb g g') (hwi : WI w0 g' (heapAt rs h' k') w')
    (hslot : ∀ (j : Nat) (o' : Oper) (b : Blk), ops[j]? = some o' → orc.getD j none = some b → listed.getD j false ≠ true → j ≠ i → g'.φ (base + j) = none ∧ (heapAt rs h' k')[base + j]? = some b)
    (hy : VR g' y (rv rs i)) : Inv P w0 nb ops orc base tm rs h' pn g0 d0 (listed.setIfInBounds i true) (a.put o.dst y) w' k' g' := by
  have hin : i < listed.size := by
    rw [I.size]
    rcases Nat.lt_or_ge i ops.size with h | h
    · exact h
    · simp [Array.getElem?_eq_none h] at ho
  have hset : ∀ j, (listed.setIfInBounds i true).getD j false = true ↔ j = i ∨ listed.getD j false = true := fun j => listed_set hin
  have hsz : a.tmps.size = tm.length := by simpa using I.tmps
  refine ⟨by simpa using I.size, ?_, fun j hj => ?_, hk, ?_, ?_, I.le.trans hle, hwi, fun j o' b h1 h2 h3 => ?_, by rw [put_size]; exact I.tmps, fun d hd hno => ?_, fun j o' d h1 h2 h3 h4 => ?_, by rw [put_defers]; exact I.defers⟩
  · intro j o' h1 h2 e he hb
    rw [hset] at h2 ⊢
    rcases h2 with rfl | h2
    · rw [ho] at h1; cases h1
      exact .inr (hr e he hb)
    · exact .inr (I.closed j o' h1 h2 e he hb)
  · rcases (hset j).1 hj with rfl | hj
    · exact hl
    · exact I.live j hj
  · rcases hkw with ⟨h1, rfl⟩ | ⟨h1, rfl⟩
    · exact .inr ⟨o, by simpa using ho, by simpa using h1⟩
    · exact I.kw
  · intro j o' h1 h2
    rw [hset]
    rcases hkw with ⟨hw, rfl⟩ | ⟨hw, rfl⟩
    · constructor
      · rintro (rfl | h)
        · omega
        · rcases Nat.lt_or_ge j (i + 1) with h3 | h3
          · exact h3
          · rcases D.pair i j o o' (by omega) ho h1 with h4 | h4
            · exact (hni (I.closed.ofAhead h h4)).elim
            · exact (h4.2.2 ⟨hw, h2⟩).elim
      · intro h3
        rcases Nat.lt_succ_iff_lt_or_eq.1 h3 with h3 | rfl
        · rcases D.pair j i o' o h3 h1 ho with h4 | h4
          · exact .inr (I.closed.ofReady ho hr h4)
          · exact (h4.2.2 ⟨h2, hw⟩).elim
        · exact .inl rfl
    · have : j ≠ i := by rintro rfl; rw [ho] at h1; cases h1; exact hw h2
      simp only [this, false_or]
      exact I.ks j o' h1 h2
  · have h4 : j ≠ i ∧ listed.getD j false ≠ true := by
      constructor
      · intro e; exact h3 ((hset j).2 (.inl e))
      · intro e; exact h3 ((hset j).2 (.inr e))
    exact hslot j o' b h1 h2 h4.2 h4.1
  · rw [put_getD, if_neg (fun hc => hno i o ho ((hset i).2 (.inl rfl)) hc.1)]
    exact (I.env0 d hd fun j o' h1 h2 => hno j o' h1 ((hset j).2 (.inr h2))).le hle
  · rw [put_getD]
    rcases (hset j).1 h2 with rfl | h5
    · rw [ho] at h1; cases h1
      rw [if_pos ⟨h3, by rw [hsz]; exact h4⟩]
      exact hy
    · have : j ≠ i := fun e => hni (e ▸ h5)
      rw [if_neg (fun hc => D.dst j i o' o d this h1 ho h3 hc.1)]
      exact (I.env1 j o' d h1 h5 h3 h4).le hle

/-- What an operation looks at is as it was in the run. -/
theorem Inv.looks (I : Inv P w0 nb ops orc base tm rs h' pn g0 d0 listed a w k g) (D : Pairs P ops orc) (R : Ran P callf fl ops orc (ancs ops) base 0 ops.toList tm h0 none rs tm' h' pn) {i : Nat} {o : Oper} (ho : ops[i]? = some o) (hni : listed.getD i false ≠ true)
    (hr : ∀ e ∈ o.after, Region.binds .any e = true → listed.getD e.on false = true) : VRL g a.tmps.toList (mask (o.looksAt ops) (tmAt rs tm' i)) := by
  have hin : i < ops.size := by
    rcases Nat.lt_or_ge i ops.size with h | h
    · exact h
    · simp [Array.getElem?_eq_none h] at ho
  obtain ⟨e1, e2, e3⟩ := R.envs D (m := i) (by omega)
  refine VRL_iff.2 ⟨by rw [mask_len, e1]; exact I.tmps, fun t ht => ?_⟩
  rw [mask_len, e1] at ht
  by_cases htl : t ∈ o.looksAt ops
  · simp only [List.getD, mask_get htl]
    change VR g (a.tmps.toList.getD t undef) ((tmAt rs tm' i).getD t .any)
    by_cases hex : ∃ (j : Nat) (o' : Oper), ops[j]? = some o' ∧ listed.getD j false = true ∧ o'.dst = some t
    · obtain ⟨j, o', h1, h2, h3⟩ := hex
      have hji : j < i := by
        rcases Nat.lt_trichotomy j i with h | h | h
        · exact h
        · subst h; exact (hni h2).elim
        · rcases D.pair i j o o' h ho h1 with h4 | h4
          · exact (hni (I.closed.ofAhead h2 h4)).elim
          · exact (h4.2.1 t h3 htl).elim
      rw [e2 j o' t hji h1 h3 (I.live j h2) ht]
      exact I.env1 j o' t h1 h2 h3 ht
    · have hno : ∀ (j : Nat) (o' : Oper), ops[j]? = some o' → listed.getD j false = true → o'.dst ≠ some t := fun j o' h1 h2 h3 => hex ⟨j, o', h1, h2, h3⟩
      rw [e3 t fun j o' hj h1 h3 => ?_]
      · exact I.env0 t ht hno
      · rcases D.pair j i o' o hj h1 ho with h4 | h4
        · exact (hno j o' h1 (I.closed.ofReady ho hr h4) h3).elim
        · exact (h4.1 t h3 htl).elim
  · rw [mask_getD_ne htl]
    exact .any _

/-- The heap of an operation that writes is the one that is met. -/
theorem Inv.heapOf (I : Inv P w0 nb ops orc base tm rs h' pn g0 d0 listed a w k g) (D : Pairs P ops orc) (R : Ran P callf fl ops orc (ancs ops) base 0 ops.toList tm h0 none rs tm' h' pn) {i : Nat} {o : Oper} (ho : ops[i]? = some o) (hni : listed.getD i false ≠ true)
    (hr : ∀ e ∈ o.after, Region.binds .any e = true → listed.getD e.on false = true) (hc : cls P orc i o = .w) : heapAt rs h' i = heapAt rs h' k := by
  have hin : i < ops.size := by
    rcases Nat.lt_or_ge i ops.size with h | h
    · exact h
    · simp [Array.getElem?_eq_none h] at ho
  have hki : k ≤ i := by
    rcases Nat.lt_or_ge i k with h | h
    · exact (hni ((I.ks i o ho hc).2 h)).elim
    · exact h
  refine R.between hki (by omega) fun j o' h1 h2 h3 h4 => ?_
  rcases D.pair j i o' o h2 h3 ho with h5 | h5
  · have := (I.ks j o' h3 h4).1 (I.closed.ofReady ho hr h5)
    omega
  · exact h5.2.2 ⟨h4, hc⟩

end
end Go.CE

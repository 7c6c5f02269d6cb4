/-
  The canonical evaluator: regions that draw their order are sound.
-/
import Derived.Test.YtgfelhlilajfmaaGreatDoorCeH3
namespace Go.CE
set_option linter.unusedVariables false
set_option linter.unusedSimpArgs false
set_option linter.unusedSectionVars false
set_option linter.unnecessarySimpa false
open Go.RowKit (Below)
variable [Glob]

theorem allFrom_of {α : Type} {p : Nat → α → Bool} : ∀ {l : List α} {k : Nat}, (∀ (i : Nat) (x : α), l[i]? = some x → p (k + i) x = true) → allFrom p k l = true
  | [], k, _ => rfl
  | y :: l, k, h => by
    simp only [allFrom, Bool.and_eq_true]
    refine ⟨by simpa using h 0 y (by simp), allFrom_of fun i x hx => ?_⟩
    have := h (i + 1) x (by simpa using hx)
    rwa [show k + 1 + i = k + (i + 1) by omega]

theorem forget_spec : ∀ (l : List Oper) (tm : Env), (forget l tm).length = tm.length ∧ ∀ t : Tmp, (forget l tm).getD t .any = .any ∨ ((∀ o ∈ l, o.dst ≠ some t) ∧ (forget l tm).getD t .any = tm.getD t .any)
  | [], tm => ⟨rfl, fun t => .inr ⟨fun o ho => by simp at ho, rfl⟩⟩
  | o :: l, tm => by
    have h := forget_spec l (cput tm o.dst .any)
    simp only [forget, List.foldl_cons]
    refine ⟨by have := h.1; simp only [forget] at this; rw [this, cput_len], fun t => ?_⟩
    rcases h.2 t with h1 | ⟨h1, h2⟩
    · exact .inl h1
    · simp only [forget] at h2
      rw [h2, cput_getD]
      split
      · exact .inl rfl
      · rename_i hc
        by_cases ht : o.dst = some t
        · left
          have : ¬ t < tm.length := fun h => hc ⟨ht, h⟩
          simp [List.getD, List.getElem?_eq_none (Nat.le_of_not_lt this)]
        · refine .inr ⟨fun o' ho' => ?_, rfl⟩
          rcases List.mem_cons.1 ho' with rfl | ho'
          · exact ht
          · exact h1 o' ho'

theorem filter_le {p q : Nat → Bool} (h : ∀ x, q x = true → p x = true) : ∀ l : List Nat, (l.filter q).length ≤ (l.filter p).length
  | [] => Nat.le_refl _
  | x :: l => by
    have ih := filter_le h l
    cases hq : q x with
    | true => simp [hq, h x hq]; exact ih
    | false =>
      cases hp : p x with
      | true => simp [hq, hp]; omega
      | false => simp [hq, hp]; exact ih

theorem filter_lt {p q : Nat → Bool} (h : ∀ x, q x = true → p x = true) {i : Nat} (hp : p i = true) (hq : q i = false) : ∀ {l : List Nat}, i ∈ l → (l.filter q).length < (l.filter p).length
  | x :: l, hi => by
    rcases List.mem_cons.1 hi with rfl | hi
    · have := filter_le h l
      simp [hq, hp]; omega
    · have ih := filter_lt h hp hq hi
      cases hqx : q x with
      | true => simp [hqx, h x hqx]; exact ih
      | false =>
        cases hpx : p x with
        | true => simp [hqx, hpx]; omega
        | false => simp [hqx, hpx]; exact ih

theorem det_vh {r : Option CV} {h : Heap} {o : Out} (hd : Dem.det (vh r h) = some o) : ∃ v, r = some v ∧ o = .val v h := by
  cases r with
  | none => simp [vh, Dem.det] at hd
  | some v => simp only [vh, Dem.det, Option.some.injEq] at hd; exact ⟨v, rfl, hd.symm⟩

section
variable {P : Program} {w0 : World} {callf : CallF} {fl nb : Nat} {ops : Array Oper} {orc : Orc} {base : Nat} {tm tm' : Env} {h0 h' : Heap} {pn : Pan} {rs : List Rec}
variable {g0 : Gho} {d0 : List Deferred} {Φ : CX × Env × Heap → Prop}

/-- The operations that are not listed yet. -/
def left (ops : Array Oper) (listed : Array Bool) : Nat := ((List.range ops.size).filter fun i => !listed.getD i true).length

theorem getD_both {listed : Array Bool} {i : Nat} (hi : i < listed.size) : listed.getD i true = listed.getD i false := by simp [hi]

theorem Inv.all {listed : Array Bool} {a : Act} {w : World} {k : Nat} {g : Gho} (I : Inv P w0 nb ops orc base tm rs h' pn g0 d0 listed a w k g) (D : Pairs P ops orc) (hr : Region.ready .any ops listed = []) : ∀ j, j < ops.size → listed.getD j false = true := by
  intro j
  induction j using Nat.strongRecOn with
  | _ j ih =>
    intro hj
    cases hl : listed.getD j false with
    | true => rfl
    | false =>
      have ho : ops[j]? = some ops[j] := by simp [hj]
      have : j ∈ Region.ready .any ops listed := mem_ready.2 ⟨by rw [getD_both (by rw [I.size]; exact hj)]; exact hl, _, ho, fun e he hb => by
        have := D.back j _ ho e he hb
        exact ih _ this (by omega)⟩
      rw [hr] at this
      cases this

theorem Inv.done {listed : Array Bool} {a : Act} {w : World} {k : Nat} {g : Gho} (I : Inv P w0 nb ops orc base tm rs h' pn g0 d0 listed a w k g) (D : Pairs P ops orc) (R : Ran P callf fl ops orc (ancs ops) base 0 ops.toList tm h0 none rs tm' h' pn)
    (hΦ : pn = none → Φ (.normal, tm', h')) (hr : Region.ready .any ops listed = []) : XPost w0 nb g0 d0 Φ .normal a w := by
  have hall := I.all D hr
  have hpn : pn = none := by
    cases hp : pn with
    | none => rfl
    | some x =>
      obtain ⟨p, v, hp'⟩ := x
      have := (R.pan1 p v hp' rfl hp).2
      simp at this
      exact ((I.live p (hall p this)).2 v hp' hp).elim
  have hlen : rs.length = ops.size := by rw [R.len, Array.length_toList]
  have hh : heapAt rs h' k = h' := by
    have : heapAt rs h' ops.size = h' := by simp [heapAt, List.getElem?_eq_none (Nat.le_of_eq hlen)]
    refine Eq.trans (Eq.symm (R.between I.kle (Nat.le_refl _) fun j o h1 h2 h3 h4 => ?_)) this
    have := (I.ks j o h3 h4).1 (hall j h2)
    omega
  have ht : tmAt rs tm' ops.size = tm' := by simp [tmAt, List.getElem?_eq_none (Nat.le_of_eq hlen)]
  obtain ⟨e1, e2, e3⟩ := R.envs D (Nat.le_refl ops.size)
  rw [ht] at e1 e2 e3
  refine ⟨tm', h', g, hΦ hpn, I.le, hh ▸ I.wi, VRL_iff.2 ⟨by rw [e1]; exact I.tmps, fun t ht => ?_⟩, I.defers⟩
  rw [e1] at ht
  by_cases hex : ∃ (j : Nat) (o' : Oper), ops[j]? = some o' ∧ o'.dst = some t
  · obtain ⟨j, o', h1, h2⟩ := hex
    have hj : j < ops.size := by
      rcases Nat.lt_or_ge j ops.size with h | h
      · exact h
      · simp [Array.getElem?_eq_none h] at h1
    rw [e2 j o' t hj h1 h2 (I.live j (hall j hj)) ht]
    exact I.env1 j o' t h1 (hall j hj) h2 ht
  · rw [e3 t fun j o' _ h1 h2 => (hex ⟨j, o', h1, h2⟩).elim]
    exact I.env0 t ht fun j o' h1 _ h2 => hex ⟨j, o', h1, h2⟩

theorem Inv.may {listed : Array Bool} {a : Act} {w : World} {k : Nat} {g : Gho} (I : Inv P w0 nb ops orc base tm rs h' pn g0 d0 listed a w k g) {i : Nat} {o : Oper} (ho : ops[i]? = some o) (hni : listed.getD i false ≠ true)
    (hr : ∀ e ∈ o.after, Region.binds .any e = true → listed.getD e.on false = true) : mayAt P ops orc (ancs ops) i k = true := by
  unfold mayAt
  refine allFrom_of fun j q hq => ?_
  have hq' : ops[j]? = some q := by simpa using hq
  rw [Nat.zero_add]
  cases hc : cls P orc j q <;> simp
  by_cases hj : j < k
  · rw [if_pos hj]
    cases ha : ahead (ancs ops) i j with
    | false => rfl
    | true => exact (hni (I.closed.ofAhead ((I.ks j q hq' hc).2 hj) ha)).elim
  · rw [if_neg hj]
    cases ha : ahead (ancs ops) j i with
    | false => rfl
    | true => exact (hj ((I.ks j q hq' hc).1 (I.closed.ofReady ho hr ha))).elim

theorem reads_at {listed : Array Bool} {a : Act} {w : World} {k : Nat} {g : Gho} (I : Inv P w0 nb ops orc base tm rs h' pn g0 d0 listed a w k g) (hread : readsOk P callf fl ops orc (ancs ops) rs h' pn = true) {i : Nat} {o : Oper} {r : Rec} (ho : ops[i]? = some o) (hni : listed.getD i false ≠ true)
    (hr : ∀ e ∈ o.after, Region.binds .any e = true → listed.getD e.on false = true) (hrs : rs[i]? = some r) (hc : cls P orc i o = .l) (hb : behind (ancs ops) pn i = false) (hw : cwanted ops r.tm o = some true) :
    ∃ h'', Dem.det (opRun P callf fl none r.tm o (heapAt rs h' k)) = some (.val r.v h'') := by
  have h1 := allFrom_arr hread ho
  simp only [hrs, hc, hw, hb, bne_self_eq_false, Bool.false_or, List.all_eq_true, Bool.or_eq_true, Bool.not_eq_true'] at h1
  have h2 := h1 k (List.mem_range.2 (Nat.lt_succ_of_le I.kle))
  rcases h2 with (h2 | h2) | h2
  · exfalso
    rcases I.kw with hk | ⟨q, hq, hqc⟩
    · simp [hk] at h2
    · by_cases hk : k = 0
      · simp [hk] at h2
      · simp [hk, hq, hqc] at h2
  · rw [I.may ho hni hr] at h2; cases h2
  · split at h2
    · rename_i v h'' hd
      rw [CV.beq_eq _ _ h2]
      exact ⟨_, hd⟩
    · cases h2

theorem cls_p {i : Nat} {o : Oper} (h : cls P orc i o = .p) : cls0 P o = .p := by
  unfold cls at h
  split at h
  · cases h
  · exact h

theorem cls_l {i : Nat} {o : Oper} (h : cls P orc i o = .l) : cls0 P o = .l := by
  unfold cls at h
  split at h
  · cases h
  · exact h

theorem draw_go {ro : Option Nat} (hcall : CallOk P w0 callf) (hgrow : CallGrow callf) (D : Pairs P ops orc) (R : Ran P callf fl ops orc (ancs ops) base 0 ops.toList tm h0 none rs tm' h' pn) (hread : readsOk P callf fl ops orc (ancs ops) rs h' pn = true)
    (hfl : fl ≤ base) (hnb : nb ≤ base) (hb0 : base ≤ h0.length) (hΦ : pn = none → Φ (.normal, tm', h')) (hΦp : ∀ p v hp, pn = some (p, v, hp) → Φ (.pan v, forget ops.toList tm, hp)) :
    ∀ (fuel : Nat) (listed : Array Bool) (a : Act) (w : World) (k : Nat) (g : Gho), left ops listed ≤ fuel → Inv P w0 nb ops orc base tm rs h' pn g0 d0 listed a w k g → wpAnyIn (FR ro) 0 P .any ops (XPost w0 nb g0 d0 Φ) fuel listed a w := by
  intro fuel
  induction fuel with
  | zero =>
    intro listed a w k g hleft I
    have hr : Region.ready .any ops listed = [] := by
      cases hc : Region.ready .any ops listed with
      | nil => rfl
      | cons x xs =>
        have hx : x ∈ Region.ready .any ops listed := by rw [hc]; simp
        obtain ⟨h1, o, h2, _⟩ := mem_ready.1 hx
        have hlt : x < ops.size := by
          rcases Nat.lt_or_ge x ops.size with h | h
          · exact h
          · simp [Array.getElem?_eq_none h] at h2
        have : x ∈ (List.range ops.size).filter fun i => !listed.getD i true := List.mem_filter.2 ⟨List.mem_range.2 hlt, by rw [h1]; rfl⟩
        have := List.length_pos_of_mem this
        unfold left at hleft
        omega
    exact ⟨hr, I.done D R hΦ hr⟩
  | succ fuel ih =>
    intro listed a w k g hleft I
    refine ⟨fun hr => I.done D R hΦ hr, fun i hi => ?_⟩
    obtain ⟨hu, o, ho, hr⟩ := mem_ready.1 hi
    have hin : i < ops.size := by
      rcases Nat.lt_or_ge i ops.size with h | h
      · exact h
      · simp [Array.getElem?_eq_none h] at ho
    have hins : i < listed.size := by rw [I.size]; exact hin
    have hni : listed.getD i false ≠ true := by rw [← getD_both hins, hu]; simp
    have hbe : behind (ancs ops) pn i = false := by
      cases hb : behind (ancs ops) pn i with
      | false => rfl
      | true =>
        cases hp : pn with
        | none => rw [hp] at hb; cases hb
        | some x =>
          obtain ⟨p, v, hp'⟩ := x
          rw [hp] at hb
          simp only [behind, Bool.and_eq_true, decide_eq_true_eq] at hb
          exact ((I.live p (I.closed.ofReady ho hr hb.2)).2 v hp' hp).elim
    have hleft' : left ops (listed.setIfInBounds i true) ≤ fuel := by
      have : left ops (listed.setIfInBounds i true) < left ops listed := by
        refine filter_lt (fun x hx => ?_) (i := i) (by rw [hu]; rfl) (by simp [hins]) (List.mem_range.2 hin)
        by_cases hxi : i = x
        · subst hxi; rw [hu]; rfl
        · rwa [getD_set_ne true hxi] at hx
      omega
    have hle0 := R.lens hgrow (by omega) I.kle
    have hflS : fl ≤ (heapAt rs h' k).length := by omega
    have hbS : base ≤ (heapAt rs h' k).length := by omega
    obtain ⟨r, r1, r2, r3, r4, r5⟩ := R.get ho
    have hE := I.looks D R ho hni hr
    have hcg : ∀ S, opRun P callf fl none (mask (o.looksAt ops) (tmAt rs tm' i)) o S = opRun P callf fl none (tmAt rs tm' i) o S := fun S => opRun_congr o (fun x hx => mask_ceval hx) S
    have hcw := mask_cwanted (ops := ops) (o := o) (tm := tmAt rs tm' i)
    unfold wpOpIn
    simp only [ho]
    rcases r5 with ⟨h1, _⟩ | ⟨_, hne, hs, ht⟩ | ⟨v, hp, hpn, hc, hs, _, hhe⟩
    · rw [hbe] at h1; cases h1
    · have hl : Live (ancs ops) pn i := ⟨hbe, fun v hp h => hne i v hp h rfl⟩
      rw [r2, r3] at hs
      unfold drawStep at hs
      split at hs
      · cases hs
      · -- not wanted
        rename_i hwt
        simp only [Option.some.injEq, Out.val.injEq] at hs
        obtain ⟨hv, hh⟩ := hs
        rw [wanted_fit hE (hcw.trans hwt)]
        simp only [Bool.false_eq_true, if_false]
        refine ⟨fun _ _ => trivial, ?_⟩
        by_cases hc : cls P orc i o = .w
        · have hhS := I.heapOf D R ho hni hr hc
          refine ih _ _ _ (i + 1) g hleft' (I.step D ho hni hr hl (by omega) (.inl ⟨hc, rfl⟩) (Gle.refl _ _) (by rw [← hh, hhS]; exact I.wi) (fun j o' b h1 h2 h3 _ => by rw [← hh, hhS]; exact I.slot j o' b h1 h2 h3) ?_)
          rw [r4, ← hv]; exact .undef'
        · refine ih _ _ _ k g hleft' (I.step D ho hni hr hl I.kle (.inr ⟨hc, rfl⟩) (Gle.refl _ _) I.wi (fun j o' b h1 h2 h3 _ => I.slot j o' b h1 h2 h3) ?_)
          rw [r4, ← hv]; exact .undef'
      · rename_i hwt
        rw [wanted_fit hE (hcw.trans hwt)]
        simp only [if_true]
        split at hs
        · -- known early
          rename_i hca
          split at hs
          · rename_i b b' hb hb'
            split at hs
            · rename_i hbeq
              simp only [Option.some.injEq, Out.val.injEq] at hs
              obtain ⟨hv, hh⟩ := hs
              obtain ⟨s1, s2⟩ := I.slot i o b' ho hb' hni
              rw [← early_congr o (fun x hx => mask_ceval (ops := ops) hx)] at hb
              obtain ⟨y, ob, L, f1, f2, f3⟩ := early_fit hE I.wi hb s1 (by rw [s2, Blk.beq_eq hbeq])
              refine ⟨fun _ _ => trivial, ?_⟩
              rw [Oper.semAt_eq _ _ _ (fun c hc => by simp [early, hc] at hb), f1]
              refine ih _ _ _ k _ hleft' (I.step D ho hni hr hl I.kle (.inr ⟨by rw [hca]; simp, rfl⟩) (Gho.new_le I.wi s1 (by omega)) f2 (fun j o' b h1 h2 h3 h4 => ?_) ?_)
              · have := I.slot j o' b h1 h2 h3
                refine ⟨?_, this.2⟩
                simp only [Gho.new]
                rw [if_neg (by omega)]
                exact this.1
              · rw [r4, ← hv]; exact f3
            · cases hs
          · cases hs
        · rename_i hca
          have low : ∀ {g' : Gho}, Gle (heapAt rs h' k).length g g' → ∀ (j : Nat) (o' : Oper) (b : Blk), ops[j]? = some o' → orc.getD j none = some b → listed.getD j false ≠ true → g'.φ (base + j) = none := by
            intro g' hg j o' b h1 h2 h3
            have := I.slot j o' b h1 h2 h3
            have hlt : base + j < (heapAt rs h' k).length := by
              rcases Nat.lt_or_ge (base + j) (heapAt rs h' k).length with h | h
              · exact h
              · simp [List.getElem?_eq_none h] at this
            rw [hg.low _ hlt]
            exact this.1
          by_cases hc : cls P orc i o = .w
          · -- writes
            have hhS := I.heapOf D R ho hni hr hc
            simp only [if_pos hc] at hs
            split at hs
            · rename_i v h1 hd
              split at hs
              · rename_i hearly
                simp only [Option.some.injEq, Out.val.injEq] at hs
                obtain ⟨hv, hh⟩ := hs
                rw [hhS, ← hcg] at hd
                have hfit := opRun_fit hcall hE I.wi (slot := none) (nb := (heapAt rs h' k).length) (Nat.le_refl _) (Nat.le_refl _) hflS o (det_all hd)
                refine wpIn_of_fit (no_defer (det_all hd)) hfit ?_ ?_
                · rintro y v' h'' g' w' he h3 h4 h5
                  simp only [Out.val.injEq] at he
                  obtain ⟨rfl, rfl⟩ := he
                  refine ih _ _ _ (i + 1) g' hleft' (I.step D ho hni hr hl (by omega) (.inl ⟨hc, rfl⟩) (h3.mono (by omega)) (by rw [← hh]; exact h4) (fun j o' b k1 k2 k3 k4 => ?_) (by rw [r4, ← hv]; exact h5))
                  refine ⟨low h3 j o' b k1 k2 k3, ?_⟩
                  have := allFrom_arr hearly k1
                  simp only [k2, Bool.or_eq_true] at this
                  rcases this with this | this
                  · exact (k3 (I.closed.ofReady ho hr this)).elim
                  · rw [← hh]
                    split at this
                    · rename_i b' hb'
                      rw [hb', Blk.beq_eq this]
                    · cases this
                · rintro y v' h'' g' w' he
                  cases he
              · cases hs
            · cases hs
            · cases hs
          · -- reads, or does not
            simp only [if_neg hc] at hs
            have hpl : cls P orc i o = .p ∨ cls P orc i o = .l := by
              cases hcc : cls P orc i o with
              | w => exact (hc hcc).elim
              | a => exact (hca hcc).elim
              | l => exact .inr rfl
              | p => exact .inl rfl
            have hS : opRun P callf fl none (tmAt rs tm' i) o (heapAt rs h' k) = .ret (.val r.v (heapAt rs h' k)) := by
              split at hs
              · rename_i v h1 hd
                simp only [Option.some.injEq, Out.val.injEq] at hs
                rcases hpl with hp | hlc
                · obtain ⟨q, hq⟩ := opRun_pure (callf := callf) (fl := fl) (tm := tmAt rs tm' i) (cls_p hp)
                  rw [hq] at hd ⊢
                  obtain ⟨v', e1, e2⟩ := det_vh hd
                  cases e2
                  rw [e1, hs.1]
                  rfl
                · obtain ⟨q, hq⟩ := opRun_quiet (callf := callf) (fl := fl) (tm := tmAt rs tm' i) (.inr (cls_l hlc)) (heapAt rs h' k)
                  obtain ⟨h'', hd'⟩ := reads_at (callf := callf) (fl := fl) I hread ho hni hr r1 hlc hbe (by rw [r2]; exact hwt)
                  rw [r2, hq] at hd'
                  obtain ⟨v', e1, e2⟩ := det_vh hd'
                  cases e2
                  rw [hq, e1]
                  rfl
              · cases hs
              · cases hs
            have hfit := opRun_fit (Φ := fun x => x = .val r.v (heapAt rs h' k)) hcall hE I.wi (slot := none) (nb := (heapAt rs h' k).length) (Nat.le_refl _) (Nat.le_refl _) hflS o (by rw [hcg, hS]; rfl)
            refine wpIn_of_fit (no_defer (P := P) (callf := callf) (fl := fl) (slot := none) (tm := tmAt rs tm' i) (h := heapAt rs h' k) (Φ := fun x => x = .val r.v (heapAt rs h' k)) (by rw [hS]; rfl)) hfit ?_ ?_
            · rintro y v' h'' g' w' he h3 h4 h5
              simp only [Out.val.injEq] at he
              obtain ⟨rfl, rfl⟩ := he
              exact ih _ _ _ k g' hleft' (I.step D ho hni hr hl I.kle (.inr ⟨hc, rfl⟩) (h3.mono (by omega)) h4 (fun j o' b k1 k2 k3 k4 => ⟨low h3 j o' b k1 k2 k3, (I.slot j o' b k1 k2 k3).2⟩) (by rw [r4]; exact h5))
            · rintro y v' h'' g' w' he
              cases he
    · -- panics
      rw [r2, r3] at hs
      unfold drawStep at hs
      split at hs
      · cases hs
      · cases hs
      · rename_i hwt
        rw [wanted_fit hE (hcw.trans hwt)]
        simp only [if_true]
        have hhS := I.heapOf D R ho hni hr hc
        rw [if_neg (by rw [hc]; simp)] at hs
        simp only [if_pos hc] at hs
        split at hs
        · split at hs <;> cases hs
        · rename_i v1 h1 hd
          simp only [Option.some.injEq, Out.pan.injEq] at hs
          obtain ⟨rfl, rfl⟩ := hs
          rw [hhS, ← hcg] at hd
          have hfit := opRun_fit hcall hE I.wi (slot := none) (nb := (heapAt rs h' k).length) (Nat.le_refl _) (Nat.le_refl _) hflS o (det_all hd)
          refine wpIn_of_fit (no_defer (det_all hd)) hfit ?_ ?_
          · rintro y v' h'' g' w' he
            cases he
          · rintro y v' h'' g' w' he h3 h4 h5
            simp only [Out.pan.injEq] at he
            obtain ⟨rfl, rfl⟩ := he
            obtain ⟨f1, f2⟩ := forget_spec ops.toList tm
            refine ⟨y, v', forget ops.toList tm, h'', g', rfl, hΦp _ _ _ hpn, I.le.trans (h3.mono (by omega)), h4, h5, VRL_iff.2 ⟨by rw [f1]; exact I.tmps, fun t ht => ?_⟩, I.defers⟩
            rw [f1] at ht
            rcases f2 t with f3 | ⟨f3, f4⟩
            · rw [f3]; exact .any _
            · rw [f4]
              exact (I.env0 t ht fun j o' k1 _ => f3 o' (by have := Array.mem_of_getElem? k1; simpa using this)).le h3
        · cases hs

theorem WI.append {g : Gho} {h : Heap} {w : World} (hw : WI w0 g h w) (l : Heap) : WI w0 g (h ++ l) w :=
  ⟨hw.glob, hw.below, hw.immv, hw.old, fun id x k => by have := hw.dom id x k; simp; omega, fun id b o L x h1 h2 => by
    have := hw.dom id _ h1
    rw [List.getElem?_append_left this] at h2
    exact hw.blk id b o L x h1 h2⟩

theorem draw_ok (hm : P.follows .mixedOrders = true) (hcall : CallOk P w0 callf) (hgrow : CallGrow callf) : DrawOk P w0 callf := by
  intro ro fl nb id ops d0 Φ tm h a w g hfl hnb he hw hd hall
  refine wpIn_region_any hm ?_
  unfold cdraw at hall
  simp only at hall
  split at hall
  · rename_i hok
    have D := drawOk_pairs hok
    generalize horc : oracle P callf fl ops h.length 0 ops.toList tm = orc at hall D
    generalize hh0 : (if (orc.any (·.isSome)) = true then h ++ orc.map (·.getD .dead) else h) = h0 at hall
    have hext : ∃ l, h0 = h ++ l := by
      rw [← hh0]
      split
      · exact ⟨_, rfl⟩
      · exact ⟨[], by simp⟩
    split at hall
    · rename_i rs tm' h' pn hrun
      split at hall
      · rename_i hread
        have R := drawRun_ran _ _ _ _ _ _ _ _ _ (by simp) hrun
        have hlen : h.length ≤ h0.length := by obtain ⟨l, rfl⟩ := hext; simp
        have hlist : ∀ j, (Array.replicate ops.size false).getD j false ≠ true := fun j => by
          by_cases hj : j < ops.size
          · simp [hj]
          · simp [Array.getElem?_eq_none (Nat.le_of_not_lt hj), hj]
        refine draw_go (base := h.length) (k := 0) (g := g) hcall hgrow D R hread hfl hnb hlen (fun hp => by subst hp; exact hall) (fun p v hp hp' => by subst hp'; exact hall) ops.size _ a _ ?_ ?_
        · unfold left
          exact Nat.le_trans (List.length_filter_le _ _) (by simp)
        · refine ⟨by simp, fun j o _ h2 => (hlist j h2).elim, fun j h2 => (hlist j h2).elim, Nat.zero_le _, .inl rfl, fun j o _ _ => ⟨fun h => (hlist j h).elim, fun h => by omega⟩, Gle.refl _ _, ?_, fun j o b h1 h2 _ => ⟨?_, ?_⟩, he.length, fun d hd _ => he.getD d, fun j o d _ h2 => (hlist j h2).elim, hd⟩
          · rw [R.heap0]
            obtain ⟨l, rfl⟩ := hext
            exact hw.drew.append l
          · exact dom_none hw (by omega)
          · rw [R.heap0, ← hh0]
            have hoj : orc[j]? = some (some b) := by
              simp only [List.getD] at h2
              cases ho : orc[j]? with
              | none => simp [ho] at h2
              | some x => simp [ho] at h2; rw [h2]
            have hany : (orc.any (·.isSome)) = true := by
              rw [List.any_eq_true]
              exact ⟨some b, List.mem_of_getElem? hoj, rfl⟩
            rw [if_pos hany, List.getElem?_append_right (by omega), List.getElem?_map, show h.length + j - h.length = j by omega, hoj]
            rfl
      · exact hall.elim
    · exact hall.elim
  · exact hall.elim

end
end Go.CE

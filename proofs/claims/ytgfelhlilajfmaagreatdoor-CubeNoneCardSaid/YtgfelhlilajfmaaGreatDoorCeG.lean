/-
  The canonical evaluator: regions in their order, code (but regions that draw).
-/
import Derived.Test.YtgfelhlilajfmaaGreatDoorCeF
import Derived.OrdersIn
import Derived.RangeFuncLeaves
namespace Go.CE
set_option linter.unusedVariables false
set_option linter.unusedSimpArgs false
set_option linter.unusedSectionVars false
set_option linter.unnecessarySimpa false
open Go.RowKit (Below)
variable [Glob]

def XPost (w0 : World) (nb : Nat) (g : Gho) (d0 : List Deferred) (Φ : CX × Env × Heap → Prop) : Exit → Act → World → Prop
  | .normal, a, w => ∃ tm h g', Φ (.normal, tm, h) ∧ Gle nb g g' ∧ WI w0 g' h w ∧ VRL g' a.tmps.toList tm ∧ a.defers = d0
  | .exit id, a, w => ∃ tm h g', Φ (.exit id, tm, h) ∧ Gle nb g g' ∧ WI w0 g' h w ∧ VRL g' a.tmps.toList tm ∧ a.defers = d0
  | .ret, a, w => ∃ tm h g', Φ (.ret, tm, h) ∧ Gle nb g g' ∧ WI w0 g' h w ∧ VRL g' a.tmps.toList tm ∧ a.defers = d0
  | .panic chain, a, w => ∃ v v' tm h g', chain = [{ v, recovered := false }] ∧ Φ (.pan v', tm, h) ∧ Gle nb g g' ∧ WI w0 g' h w ∧ VR g' v v' ∧ VRL g' a.tmps.toList tm ∧ a.defers = d0
  | .goto _, _, _ => False
  | .outgrown, _, _ => False

theorem XPost.mono {w0 : World} {nb mb : Nat} {g0 g : Gho} {d0 : List Deferred} {Φ Ψ : CX × Env × Heap → Prop} (hg : Gle mb g0 g) (hn : mb ≤ nb) (hΦ : ∀ r, Φ r → Ψ r) : ∀ {e : Exit} {a : Act} {w : World}, XPost w0 nb g d0 Φ e a w → XPost w0 mb g0 d0 Ψ e a w
  | .normal, a, w, ⟨tm, h, g', h1, h2, h3⟩ => ⟨tm, h, g', hΦ _ h1, hg.trans (h2.mono hn), h3⟩
  | .exit id, a, w, ⟨tm, h, g', h1, h2, h3⟩ => ⟨tm, h, g', hΦ _ h1, hg.trans (h2.mono hn), h3⟩
  | .ret, a, w, ⟨tm, h, g', h1, h2, h3⟩ => ⟨tm, h, g', hΦ _ h1, hg.trans (h2.mono hn), h3⟩
  | .panic chain, a, w, ⟨v, v', tm, h, g', h0, h1, h2, h3⟩ => ⟨v, v', tm, h, g', h0, hΦ _ h1, hg.trans (h2.mono hn), h3⟩

section
variable {P : Program} {w0 : World} {callf : CallF} {fl nb : Nat}

theorem put_VRL {g : Gho} {a : Act} {tm : Env} (h : VRL g a.tmps.toList tm) (dst : Option Tmp) {v : Value} {c : CV} (hv : VR g v c) : VRL g (a.put dst v).tmps.toList (cput tm dst c) := by
  cases dst with
  | none => exact h
  | some d => simp only [Act.put, cput, Array.toList_setIfInBounds]; exact h.set d hv

theorem put_defers (a : Act) (dst : Option Tmp) (v : Value) : (a.put dst v).defers = a.defers := by cases dst <;> rfl

theorem wanted_fit {g : Gho} {ops : Array Oper} {a : Act} {tm : Env} {o : Oper} {b : Bool} (h : VRL g a.tmps.toList tm) (hc : cwanted ops tm o = some b) : Region.wanted o (yielded ops a.tmps) = b := by
  unfold cwanted at hc
  unfold Region.wanted
  split at hc
  · rename_i hg; rw [hg]; cases hc; rfl
  · rename_i j want hg
    rw [hg]
    simp only [yielded]
    split at hc
    · rename_i hd; rw [hd]; cases hc; rfl
    · rename_i d hd
      rw [hd]
      simp only [Option.bind_some]
      generalize hk : getK tm d = c at hc
      rw [getK_eq] at hk
      split at hc
      · obtain ⟨v, h1, h2⟩ := h.get (getD_some hk (by simp))
        have h1' : a.tmps[d]? = some v := by simpa using h1
        cases h2
        rw [h1']
        cases hc
        simp
      · cases hc
      · rename_i hnb hna
        obtain ⟨v, h1, h2⟩ := h.get (getD_some hk (fun e => hna e))
        have h1' : a.tmps[d]? = some v := by simpa using h1
        rw [h1']
        cases hc
        cases h2 <;> first | rfl | exact (hnb _ rfl).elim | exact (hna rfl).elim

/-- The fence that lets everything in: of functions' frames, or of a round's. -/
abbrev FR (ro : Option Nat) : Fence := { Fence.wide with round := ro }
theorem room_FR (ro : Option Nat) (n : Nat) : (FR ro).room n := fun _ h => by simp [FR, Fence.wide] at h
theorem callsIn_FR {ro : Option Nat} {n : Nat} {f : FuncId} {args : Array Value} {w : World} {R : Ending → World → Prop} (h : Calls P f args w R) : CallsIn (FR ro) n P f args w R := (callsIn_wide (n := n)).2 h

theorem uponIn_of_fit {ro : Option Nat} {g : Gho} {Ψ : Out → Prop} {o : Oper} {a : Act} {next : Act → World → Prop} {Q : Exit → Act → World → Prop} {r : Result Next} (hf : Fit P w0 nb g Ψ r)
    (hn : ∀ v v' h' g' w', Ψ (.val v' h') → Gle nb g g' → WI w0 g' h' w' → VR g' v v' → next (a.put o.dst v) w')
    (hp : ∀ v v' h' g' w', Ψ (.pan v' h') → Gle nb g g' → WI w0 g' h' w' → VR g' v v' → Q (.panic [{ v, recovered := false }]) a w') : o.uponIn (FR ro) 0 P a next Q r := by
  have post : ∀ (e : Ending) (w'' : World), CPost w0 nb g Ψ e w'' → (match e with
      | .returned v => next (a.put o.dst v) w''
      | .panicked chain => Q (.panic chain) a w''
      | .outgrown => LetsOut Q) := by
    intro e w'' he
    cases e with
    | returned v => obtain ⟨v', h', g', h1, h2, h3, h4⟩ := he; exact hn _ _ _ _ _ h1 h2 h3 h4
    | panicked chain => obtain ⟨v, v', h', g', rfl, h1, h2, h3, h4⟩ := he; exact hp _ _ _ _ _ h1 h2 h3 h4
    | outgrown => exact he.elim
  unfold Fit at hf
  split at hf
  · obtain ⟨v', h', g', h1, h2, h3, h4⟩ := hf; exact hn _ _ _ _ _ h1 h2 h3 h4
  · obtain ⟨v', h', g', h1, h2, h3, h4⟩ := hf; exact hn _ _ _ _ _ h1 h2 h3 h4
  · refine ⟨fun h => by simp [FR, Fence.wide] at h, callsIn_FR (Calls.mono hf fun e w'' he => ?_)⟩
    have := post e w'' he
    cases e <;> exact this
  · refine ⟨fun h => by simp [FR, Fence.wide] at h, (RoundIn.mono hf fun e w'' he => ?_ : RoundIn Fence.wide 0 P _ _ _ _ _ _ _)⟩
    have := post e w'' he
    cases e <;> exact this
  · obtain ⟨v', h', g', h1, h2, h3, h4⟩ := hf; exact hp _ _ _ _ _ h1 h2 h3 h4
  · exact hf.elim

/-- An operation that the evaluator carries out is no defer statement. -/
theorem no_defer {slot : Option Nat} {tm : Env} {o : Oper} {h : Heap} {Φ : Out → Prop} (hall : (opRun P callf fl slot tm o h).all Φ) : ∀ c, o.op ≠ .defer c := by
  intro c hc
  simp [opRun, hc, Dem.all] at hall

theorem wpIn_of_fit {ro : Option Nat} {g : Gho} {Ψ : Out → Prop} {o : Oper} {a : Act} {w : World} {next : Act → World → Prop} {Q : Exit → Act → World → Prop} (hd : ∀ c, o.op ≠ .defer c) (hf : Fit P w0 nb g Ψ ((execOp a.eval o).run P w))
    (hn : ∀ v v' h' g' w', Ψ (.val v' h') → Gle nb g g' → WI w0 g' h' w' → VR g' v v' → next (a.put o.dst v) w')
    (hp : ∀ v v' h' g' w', Ψ (.pan v' h') → Gle nb g g' → WI w0 g' h' w' → VR g' v v' → Q (.panic [{ v, recovered := false }]) a w') : o.wpIn (FR ro) 0 P a w next Q := by
  refine ⟨fun _ _ => trivial, ?_⟩
  rw [Oper.semAt_eq _ _ _ hd]
  exact uponIn_of_fit hf hn hp

theorem cops_sound {ro : Option Nat} (hcall : CallOk P w0 callf) (hgrow : CallGrow callf) (ops : Array Oper) (d0 : List Deferred) (Φ : CX × Env × Heap → Prop) (g0 : Gho) : ∀ (rest : List Oper) (k : Nat), (∀ i : Nat, rest[i]? = ops[k + i]?) → ∀ (tm : Env) (h : Heap) (a : Act) (w : World) (g : Gho), fl ≤ h.length → nb ≤ h.length →
    Gle nb g0 g → VRL g a.tmps.toList tm → WI w0 g h w → a.defers = d0 → (cops P callf fl ops rest tm h).all Φ → wpOpsIn (FR ro) 0 P ops (XPost w0 nb g0 d0 Φ) (List.range' k rest.length) a w
  | [], k, _, tm, h, a, w, g, _, _, hg, he, hw, hd, hall => ⟨tm, h, g, hall, hg, hw, he, hd⟩
  | o :: rest, k, hops, tm, h, a, w, g, hfl, hnb, hg, he, hw, hd, hall => by
    have ho : ops[k]? = some o := by have := hops 0; simpa using this.symm
    have hops' : ∀ i : Nat, rest[i]? = ops[k + 1 + i]? := fun i => by have := hops (i + 1); simp only [List.getElem?_cons_succ] at this; rw [this]; congr 1; omega
    unfold cops at hall
    simp only [putK_eq, forceV_eq, forceH_eq] at hall
    simp only [List.length_cons, List.range'_succ, wpOpsIn, ho]
    split at hall
    · exact hall.elim
    · rename_i hwt
      rw [wanted_fit he hwt]
      simp only [Bool.false_eq_true, if_false]
      exact ⟨fun _ _ => trivial, cops_sound hcall hgrow ops d0 Φ g0 rest (k + 1) hops' _ h _ w g hfl hnb hg (put_VRL he _ .undef') hw (by rw [put_defers]; exact hd) hall⟩
    · rename_i hwt
      rw [wanted_fit he hwt]
      simp only [if_true]
      rw [Dem.all_bind] at hall
      have hall' := Dem.all_each hall (opRun_grow (P := P) hgrow hfl (slot := none) (by simp) tm o)
      have hfit := opRun_fit hcall he hw (slot := none) (nb := nb) hnb hnb hfl o hall'
      refine wpIn_of_fit (no_defer hall') hfit ?_ ?_
      · rintro v v' h' g' w' ⟨h1, h2⟩ h3 h4 h5
        exact cops_sound hcall hgrow ops d0 Φ g0 rest (k + 1) hops' _ h' _ w' g' (Nat.le_trans hfl h2.1) (Nat.le_trans hnb h2.1) (hg.trans h3) (put_VRL (VRL.le h3 he) _ h5) h4 (by rw [put_defers]; exact hd) h1
      · rintro v v' h' g' w' ⟨h1, h2⟩ h3 h4 h5
        exact ⟨v, v', tm, h', g', rfl, h1, hg.trans h3, h4, h5, VRL.le h3 he, hd⟩

theorem wpIn_scope {F : Fence} {n : Nat} {c : Code} {Q : Exit → Act → World → Prop} {a : Act} {w : World} (hQ : ∀ l a w, ¬ Q (.goto l) a w) (h : c.wpIn F n P Q a w) : (Code.scope c).wpIn F n P Q a w := by
  intro b k cs hro hb hr
  obtain ⟨e, a₁, w₁, hq, harr⟩ := h b (.inScope c :: k) cs hro hb hr
  have h0 : (lone (b.atR a (.code (.scope c) :: k)) cs w).fenced P F := fenced_calm hb hr rfl
  have h1 : step P (lone (b.atR a (.code (.scope c) :: k)) cs w) = .next (lone (b.atR a (.code c :: .inScope c :: k)) cs w) := step_lone_go (by simp [stepG, stepG.exec, Frame.atR])
  cases e with
  | normal =>
    have h2 : step P (lone (b.atR a₁ (.inScope c :: k)) cs w₁) = .next (lone (b.atR a₁ k) cs w₁) := step_lone_go (by simp [stepG, stepG.exec, Frame.atR])
    exact ⟨.normal, a₁, w₁, hq, .head h0 h1 (StepsIn.trans harr (.one (fenced_calm hb hr rfl) h2))⟩
  | exit id =>
    have hx : exitTo id (.inScope c :: k) = exitTo id k := by simp [exitTo]
    exact ⟨.exit id, a₁, w₁, hq, fun k' hk => .head h0 h1 (harr.1 k' (by rw [hx]; exact hk)), fun hr' hk => let ⟨k₁, e1, e2⟩ := harr.2 hr' (by rw [hx]; exact hk); ⟨k₁, e1, .head h0 h1 e2⟩⟩
  | goto l => exact (hQ _ _ _ hq).elim
  | ret => exact ⟨_, a₁, w₁, hq, .of_steps (.one h0 h1) harr⟩
  | panic ch => exact ⟨_, a₁, w₁, hq, .of_steps (.one h0 h1) harr⟩
  | outgrown => exact ⟨_, a₁, w₁, hq, .of_steps (b := b) (k := k) (cs := cs) (e := .outgrown) (.one h0 h1) harr⟩

/-- Rounds, as many as the evaluator makes. -/
theorem citer_sound {ro : Option Nat} {body : Env → Heap → Dem (CX × Env × Heap)} {c : Code} {d0 : List Deferred} {Φ : CX × Env × Heap → Prop} {g0 : Gho}
    (hgb : ∀ tm h, fl ≤ h.length → (body tm h).each fun r => Grow fl h r.2.2)
    (hb : ∀ (tm : Env) (h : Heap) (a : Act) (w : World) (g : Gho) (Ψ : CX × Env × Heap → Prop), fl ≤ h.length → nb ≤ h.length → VRL g a.tmps.toList tm → WI w0 g h w → a.defers = d0 → (body tm h).all Ψ → c.wpIn (FR ro) 0 P (XPost w0 nb g d0 Ψ) a w)
    :
    ∀ (n : Nat) (tm : Env) (h : Heap) (a : Act) (w : World) (g : Gho), fl ≤ h.length → nb ≤ h.length → Gle nb g0 g → VRL g a.tmps.toList tm → WI w0 g h w → a.defers = d0 → (citer n body tm h).all Φ →
      ∀ (b : Frame) (k : List Item) (cs : List Frame), b.roundOf = (FR ro).round → ∃ e a' w', XPost w0 nb g0 d0 Φ e a' w' ∧ ArrivesIn (Machine.fenced P (FR ro)) P (lone (b.atR a (.code c :: .inLoop c :: k)) cs w) b k cs e a' w'
  | 0, _, _, _, _, _, _, _, _, _, _, _, hall => hall.elim
  | n + 1, tm, h, a, w, g, hfl, hnb, hg, he, hw, hd, hall => by
    intro b k cs hro
    have hfn : (FR ro).fn b.fn := trivial
    have hrm : (FR ro).room (cs.length + 1 + 0) := room_FR _ _
    unfold citer at hall
    rw [Dem.all_bind] at hall
    have hall' := Dem.all_each hall (hgb tm h hfl)
    obtain ⟨e, a₁, w₁, hq, harr⟩ := hb tm h a w g _ hfl hnb he hw hd hall' b (.inLoop c :: k) cs hro hfn hrm
    cases e with
    | normal =>
      obtain ⟨tm', h', g', ⟨h1, h2⟩, h3, h4, h5, h6⟩ := hq
      obtain ⟨e₂, a₂, w₂, hq₂, harr₂⟩ := citer_sound hgb hb n tm' h' a₁ w₁ g' (Nat.le_trans hfl h2.1) (Nat.le_trans hnb h2.1) (hg.trans h3) h5 h4 h6 h1 b k cs hro
      exact ⟨e₂, a₂, w₂, hq₂, .of_steps (StepsIn.trans harr (.one (fenced_calm hfn hrm rfl) stepR_inLoop)) harr₂⟩
    | exit id =>
      obtain ⟨tm', h', g', ⟨h1, _⟩, h3, h4⟩ := hq
      exact ⟨.exit id, a₁, w₁, ⟨tm', h', g', h1, hg.trans h3, h4⟩, .pass (x := .inLoop c) rfl (fun _ _ => .inl (by simp)) harr⟩
    | ret =>
      obtain ⟨tm', h', g', ⟨h1, _⟩, h3, h4⟩ := hq
      exact ⟨.ret, a₁, w₁, ⟨tm', h', g', h1, hg.trans h3, h4⟩, .pass (x := .inLoop c) rfl (fun _ _ => .inl (by simp)) harr⟩
    | panic ch =>
      obtain ⟨v, v', tm', h', g', h0, ⟨h1, _⟩, h3, h4⟩ := hq
      exact ⟨.panic ch, a₁, w₁, ⟨v, v', tm', h', g', h0, h1, hg.trans h3, h4⟩, .pass (x := .inLoop c) rfl (fun _ _ => .inl (by simp)) harr⟩
    | goto l => exact hq.elim
    | outgrown => exact hq.elim

/-- Regions that draw their order are sound (proved behind this text). -/
def DrawOk (P : Program) (w0 : World) (callf : CallF) : Prop :=
  ∀ (ro : Option Nat) (fl nb : Nat) (id : Nat) (ops : Array Oper) (d0 : List Deferred) (Φ : CX × Env × Heap → Prop) (tm : Env) (h : Heap) (a : Act) (w : World) (g : Gho), fl ≤ h.length → nb ≤ h.length → VRL g a.tmps.toList tm → WI w0 g h w → a.defers = d0 →
    (cdraw P callf fl ops tm h).all Φ → (Code.region id ops true).wpIn (FR ro) 0 P (XPost w0 nb g d0 Φ) a w

theorem ccode_sound {ro : Option Nat} (hcall : CallOk P w0 callf) (hgrow : CallGrow callf) (hdraw : DrawOk P w0 callf) (n : Nat) : ∀ (c : Code) (d0 : List Deferred) (Φ : CX × Env × Heap → Prop) (tm : Env) (h : Heap) (a : Act) (w : World) (g : Gho), fl ≤ h.length → nb ≤ h.length →
    VRL g a.tmps.toList tm → WI w0 g h w → a.defers = d0 → (ccode P callf n fl c tm h).all Φ → c.wpIn (FR ro) 0 P (XPost w0 nb g d0 Φ) a w := by
  intro c
  induction c with
  | skip => intro d0 Φ tm h a w g hfl hnb he hw hd hall; exact wpIn_skip ⟨tm, h, g, hall, Gle.refl _ _, hw, he, hd⟩
  | label l => intro d0 Φ tm h a w g hfl hnb he hw hd hall; exact wpIn_label ⟨tm, h, g, hall, Gle.refl _ _, hw, he, hd⟩
  | exit id => intro d0 Φ tm h a w g hfl hnb he hw hd hall; exact wpIn_exit ⟨tm, h, g, hall, Gle.refl _ _, hw, he, hd⟩
  | ret => intro d0 Φ tm h a w g hfl hnb he hw hd hall; exact wpIn_ret ⟨tm, h, g, hall, Gle.refl _ _, hw, he, hd⟩
  | region id ops draw =>
    intro d0 Φ tm h a w g hfl hnb he hw hd hall
    unfold ccode at hall
    cases draw with
    | true => exact hdraw ro fl nb id ops d0 Φ tm h a w g hfl hnb he hw hd (by simpa using hall)
    | false =>
      simp only [Bool.false_eq_true, if_false] at hall
      refine wpIn_region ?_
      have := cops_sound (ro := ro) hcall hgrow ops d0 Φ g ops.toList 0 (fun i => by simp) tm h a w g hfl hnb (Gle.refl _ _) he hw hd hall
      rwa [Array.length_toList, ← List.range_eq_range'] at this
  | seq x y ihx ihy =>
    intro d0 Φ tm h a w g hfl hnb he hw hd hall
    unfold ccode at hall
    rw [Dem.all_bind] at hall
    have hall' := Dem.all_each hall (ccode_grow hgrow n x tm h hfl)
    refine wpIn_seq (wpIn_mono (ihx d0 _ tm h a w g hfl hnb he hw hd hall') ?_)
    intro e a₁ w₁ hq
    cases e with
    | normal =>
      obtain ⟨tm', h', g', ⟨h1, h2⟩, h3, h4, h5, h6⟩ := hq
      exact wpIn_mono (ihy d0 Φ tm' h' a₁ w₁ g' (Nat.le_trans hfl h2.1) (Nat.le_trans hnb h2.1) h5 h4 h6 h1) fun e a w hx => XPost.mono h3 (Nat.le_refl _) (fun _ h => h) hx
    | exit id => obtain ⟨tm', h', g', ⟨h1, _⟩, h3⟩ := hq; exact ⟨tm', h', g', h1, h3⟩
    | ret => obtain ⟨tm', h', g', ⟨h1, _⟩, h3⟩ := hq; exact ⟨tm', h', g', h1, h3⟩
    | panic ch => obtain ⟨v, v', tm', h', g', h0, ⟨h1, _⟩, h3⟩ := hq; exact ⟨v, v', tm', h', g', h0, h1, h3⟩
    | goto l => exact hq.elim
    | outgrown => exact hq.elim
  | cond c x y ihx ihy =>
    intro d0 Φ tm h a w g hfl hnb he hw hd hall
    unfold ccode at hall
    have hc := ceval_VR he hw c
    split at hall
    · rename_i ht
      rw [ht] at hc
      refine wpIn_cond_true ?_ (ihx d0 Φ tm h a w g hfl hnb he hw hd hall)
      generalize a.eval c = u at hc
      cases hc; rfl
    · rename_i ht
      rw [ht] at hc
      refine wpIn_cond_false ?_ (ihy d0 Φ tm h a w g hfl hnb he hw hd hall)
      generalize a.eval c = u at hc
      cases hc; rfl
    · exact hall.elim
  | block id b ih =>
    intro d0 Φ tm h a w g hfl hnb he hw hd hall
    unfold ccode at hall
    rw [Dem.all_bind] at hall
    refine wpIn_block (wpIn_mono (ih d0 _ tm h a w g hfl hnb he hw hd hall) ?_)
    intro e a₁ w₁ hq
    cases e with
    | normal => exact hq
    | exit id' =>
      obtain ⟨tm', h', g', h1, h3⟩ := hq
      simp only [Exit.inBlock]
      simp only at h1
      split
      · rename_i he'; rw [if_pos he'] at h1; exact ⟨tm', h', g', h1, h3⟩
      · rename_i he'; rw [if_neg he'] at h1; exact ⟨tm', h', g', h1, h3⟩
    | ret => exact hq
    | panic ch => exact hq
    | goto l => exact hq.elim
    | outgrown => exact hq.elim
  | scope b ih =>
    intro d0 Φ tm h a w g hfl hnb he hw hd hall
    unfold ccode at hall
    exact wpIn_scope (fun _ _ _ h => h) (ih d0 Φ tm h a w g hfl hnb he hw hd hall)
  | loop b ih =>
    intro d0 Φ tm h a w g hfl hnb he hw hd hall
    unfold ccode at hall
    intro fr k cs hro _ _
    obtain ⟨e, a', w', hq, harr⟩ := citer_sound (fl := fl) (nb := nb) (c := b) (d0 := d0) (g0 := g) (ccode_grow hgrow n b) (fun tm h a w g Ψ => ih d0 Ψ tm h a w g) n tm h a w g hfl hnb (Gle.refl _ _) he hw hd hall fr k cs hro
    exact ⟨e, a', w', hq, .of_steps (.one (fenced_calm (F := FR ro) (n := 0) trivial (room_FR _ _) rfl) stepR_loop) harr⟩
  | rangeFunc f ps x y ihx ihy => intro d0 Φ tm h a w g hfl hnb he hw hd hall; exact hall.elim
  | goto l => intro d0 Φ tm h a w g hfl hnb he hw hd hall; exact hall.elim
  | refuse s => intro d0 Φ tm h a w g hfl hnb he hw hd hall; exact hall.elim

end
end Go.CE

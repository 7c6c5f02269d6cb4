/-
  The canonical evaluator: calls that are put off, and recover.
-/
import Derived.Test.YtpfljhdfinbdcaaGreatDoorCeI
import Derived.Recover
namespace Go.CE
set_option linter.unusedVariables false
set_option linter.unusedSimpArgs false
set_option linter.unusedSectionVars false
set_option linter.unnecessarySimpa false
open Go.RowKit (Below)
variable [Glob]

section
variable {P : Program} {w0 : World} {callf : CallF} {fl nb : Nat}

/-- Calls that are put off. -/
def DR (g : Gho) : List Deferred → List Dfr → Prop
  | [], [] => True
  | d :: ds, e :: es => (∃ as cs : Array Value, d = { target := .fn (.func e.1) cs, args := as } ∧ VRL g (as ++ cs).toList e.2) ∧ DR g ds es
  | _, _ => False

theorem DR.le {n : Nat} {g g' : Gho} (h : Gle n g g') : ∀ {ds : List Deferred} {es : List Dfr}, DR g ds es → DR g' ds es
  | [], [], _ => trivial
  | _ :: _, _ :: _, ⟨⟨as, cs, h1, h2⟩, h3⟩ => ⟨⟨as, cs, h1, h2.le h⟩, DR.le h h3⟩
  | [], _ :: _, h => h.elim
  | _ :: _, [], h => h.elim

def DPost (w0 : World) (nb : Nat) (g : Gho) (Φ : CX × Env × Heap × List Dfr → Prop) : Exit → Act → World → Prop
  | .normal, a, w => ∃ tm h ds g', Φ (.normal, tm, h, ds) ∧ Gle nb g g' ∧ WI w0 g' h w ∧ VRL g' a.tmps.toList tm ∧ DR g' a.defers ds
  | .exit id, a, w => ∃ tm h ds g', Φ (.exit id, tm, h, ds) ∧ Gle nb g g' ∧ WI w0 g' h w ∧ VRL g' a.tmps.toList tm ∧ DR g' a.defers ds
  | .ret, a, w => ∃ tm h ds g', Φ (.ret, tm, h, ds) ∧ Gle nb g g' ∧ WI w0 g' h w ∧ VRL g' a.tmps.toList tm ∧ DR g' a.defers ds
  | .panic chain, a, w => ∃ v v' tm h ds g', chain = [{ v, recovered := false }] ∧ Φ (.pan v', tm, h, ds) ∧ Gle nb g g' ∧ WI w0 g' h w ∧ VR g' v v' ∧ VRL g' a.tmps.toList tm ∧ DR g' a.defers ds
  | .goto _, _, _ => False
  | .outgrown, _, _ => False

theorem DPost.mono {nb mb : Nat} {g0 g : Gho} {Φ Ψ : CX × Env × Heap × List Dfr → Prop} (hg : Gle mb g0 g) (hn : mb ≤ nb) (hΦ : ∀ r, Φ r → Ψ r) : ∀ {e : Exit} {a : Act} {w : World}, DPost w0 nb g Φ e a w → DPost w0 mb g0 Ψ e a w
  | .normal, a, w, ⟨tm, h, ds, g', h1, h2, h3⟩ => ⟨tm, h, ds, g', hΦ _ h1, hg.trans (h2.mono hn), h3⟩
  | .exit id, a, w, ⟨tm, h, ds, g', h1, h2, h3⟩ => ⟨tm, h, ds, g', hΦ _ h1, hg.trans (h2.mono hn), h3⟩
  | .ret, a, w, ⟨tm, h, ds, g', h1, h2, h3⟩ => ⟨tm, h, ds, g', hΦ _ h1, hg.trans (h2.mono hn), h3⟩
  | .panic chain, a, w, ⟨v, v', tm, h, ds, g', h0, h1, h2, h3⟩ => ⟨v, v', tm, h, ds, g', h0, hΦ _ h1, hg.trans (h2.mono hn), h3⟩

theorem DPost.of_X {g : Gho} {Φ : CX × Env × Heap × List Dfr → Prop} {d0 : List Deferred} {ds : List Dfr} (hd : DR g d0 ds) : ∀ {e : Exit} {a : Act} {w : World},
    XPost w0 nb g d0 (fun r => Dem.all Φ (.ret (r.1, r.2.1, r.2.2, ds))) e a w → DPost w0 nb g Φ e a w
  | .normal, a, w, ⟨tm, h, g', h1, h2, h3, h4, h5⟩ => ⟨tm, h, ds, g', h1, h2, h3, h4, h5 ▸ hd.le h2⟩
  | .exit id, a, w, ⟨tm, h, g', h1, h2, h3, h4, h5⟩ => ⟨tm, h, ds, g', h1, h2, h3, h4, h5 ▸ hd.le h2⟩
  | .ret, a, w, ⟨tm, h, g', h1, h2, h3, h4, h5⟩ => ⟨tm, h, ds, g', h1, h2, h3, h4, h5 ▸ hd.le h2⟩
  | .panic chain, a, w, ⟨v, v', tm, h, g', h0, h1, h2, h3, h6, h4, h5⟩ => ⟨v, v', tm, h, ds, g', h0, h1, h2, h3, h6, h4, h5 ▸ hd.le h2⟩

theorem dops_sound (hcall : CallOk P w0 callf) (hgrow : CallGrow callf) (ops : Array Oper) (Φ : CX × Env × Heap × List Dfr → Prop) (g0 : Gho) : ∀ (rest : List Oper) (k : Nat), (∀ i : Nat, rest[i]? = ops[k + i]?) → ∀ (tm : Env) (h : Heap) (ds : List Dfr) (a : Act) (w : World) (g : Gho), fl ≤ h.length → nb ≤ h.length →
    Gle nb g0 g → VRL g a.tmps.toList tm → WI w0 g h w → DR g a.defers ds → (dops P callf fl ops rest tm h ds).all Φ → wpOps P ops (DPost w0 nb g0 Φ) (List.range' k rest.length) a w
  | [], k, _, tm, h, ds, a, w, g, _, _, hg, he, hw, hd, hall => ⟨tm, h, ds, g, hall, hg, hw, he, hd⟩
  | o :: rest, k, hops, tm, h, ds, a, w, g, hfl, hnb, hg, he, hw, hd, hall => by
    have ho : ops[k]? = some o := by have := hops 0; simpa using this.symm
    have hops' : ∀ i : Nat, rest[i]? = ops[k + 1 + i]? := fun i => by have := hops (i + 1); simp only [List.getElem?_cons_succ] at this; rw [this]; congr 1; omega
    unfold dops at hall
    simp only [putK_eq, forceV_eq, forceH_eq] at hall
    simp only [List.length_cons, List.range'_succ, wpOps, ho]
    split at hall
    · exact hall.elim
    · rename_i hwt
      rw [wanted_fit he hwt]
      simp only [Bool.false_eq_true, if_false]
      exact dops_sound hcall hgrow ops Φ g0 rest (k + 1) hops' _ h ds _ w g hfl hnb hg (put_VRL he _ .undef') hw (by rw [put_defers]; exact hd) hall
    · rename_i hwt
      rw [wanted_fit he hwt]
      simp only [if_true]
      left
      split at hall
      · rename_i c hop
        split at hall
        · rename_i f hcallee
          split at hall
          · rename_i f' first cap hcv
            have hf := ceval_VR he hw f
            rw [hcv] at hf
            generalize hu : a.eval f = u at hf
            cases hf with
            | fn _ fs cs _ _ h1 h2 h3 h4 =>
            have hfs := VRL_iff.2 ⟨h1, h3⟩
            have hcs := VRL_iff.2 ⟨h2, h4⟩
            have ha := args_rel he hw c.args
            have hx : (execOp a.eval o).run P w = .ok (.defer { target := .fn (.func f') cs, args := fs ++ c.args.map a.eval }) w := by
              simp [execOp, hop, resolve, hcallee, hu, Deferred.ofValue]
            unfold Oper.wp
            rw [hx, Oper.upon_defer]
            refine dops_sound hcall hgrow ops Φ g0 rest (k + 1) hops' _ h _ _ w g hfl hnb hg (put_VRL (a := { a with defers := { target := .fn (.func f') cs, args := fs ++ c.args.map a.eval } :: a.defers }) he _ .undef') hw (by
              rw [put_defers]
              exact ⟨⟨_, _, rfl, by simp only [Array.toList_append]; exact (hfs.append ha).append hcs⟩, hd⟩) hall
          · exact hall.elim
        · exact hall.elim
      · rename_i hnd
        rw [Dem.all_bind] at hall
        have hall' := Dem.all_each hall (opRun_grow (P := P) hgrow hfl (slot := none) (by simp) tm o)
        have hfit := opRun_fit hcall he hw (slot := none) (nb := nb) hnb hnb hfl o hall'
        refine upon_of_fit hfit ?_ ?_
        · rintro v v' h' g' w' ⟨h1, h2⟩ h3 h4 h5
          exact dops_sound hcall hgrow ops Φ g0 rest (k + 1) hops' _ h' ds _ w' g' (Nat.le_trans hfl h2.1) (Nat.le_trans hnb h2.1) (hg.trans h3) (put_VRL (VRL.le h3 he) _ h5) h4 (by rw [put_defers]; exact hd.le h3) h1
        · rintro v v' h' g' w' ⟨h1, h2⟩ h3 h4 h5
          exact ⟨v, v', tm, h', ds, g', rfl, h1, hg.trans h3, h4, h5, VRL.le h3 he, hd.le h3⟩

theorem dcode_sound (hcall : CallOk P w0 callf) (hgrow : CallGrow callf) (hdraw : DrawOk P w0 callf) (n : Nat) : ∀ (c : Code) (Φ : CX × Env × Heap × List Dfr → Prop) (tm : Env) (h : Heap) (ds : List Dfr) (a : Act) (w : World) (g : Gho), fl ≤ h.length → nb ≤ h.length →
    VRL g a.tmps.toList tm → WI w0 g h w → DR g a.defers ds → (dcode P callf n fl c tm h ds).all Φ → c.wp P (DPost w0 nb g Φ) a w := by
  have plain : ∀ (c : Code) (Φ : CX × Env × Heap × List Dfr → Prop) (tm : Env) (h : Heap) (ds : List Dfr) (a : Act) (w : World) (g : Gho), fl ≤ h.length → nb ≤ h.length →
    VRL g a.tmps.toList tm → WI w0 g h w → DR g a.defers ds → ((ccode P callf n fl c tm h).bind fun (x, tm', h') => .ret (x, tm', h', ds)).all Φ → c.wp P (DPost w0 nb g Φ) a w := by
    intro c Φ tm h ds a w g hfl hnb he hw hd hall
    rw [Dem.all_bind] at hall
    refine wp_mono (ccode_sound hcall hgrow hdraw n c a.defers _ tm h a w g hfl hnb he hw rfl hall) ?_
    intro e a₁ w₁ hq
    exact DPost.of_X hd hq
  intro c
  induction c with
  | seq x y ihx ihy =>
    intro Φ tm h ds a w g hfl hnb he hw hd hall
    unfold dcode at hall
    rw [Dem.all_bind] at hall
    have hall' := Dem.all_each hall (dcode_grow hgrow n x tm h ds hfl)
    refine wp_seq (wp_mono (ihx _ tm h ds a w g hfl hnb he hw hd hall') ?_)
    intro e a₁ w₁ hq
    cases e with
    | normal =>
      obtain ⟨tm', h', ds', g', ⟨h1, h2⟩, h3, h4, h5, h6⟩ := hq
      exact wp_mono (ihy Φ tm' h' ds' a₁ w₁ g' (Nat.le_trans hfl h2.1) (Nat.le_trans hnb h2.1) h5 h4 h6 h1) fun e a w => DPost.mono h3 (Nat.le_refl _) fun _ h => h
    | exit id => obtain ⟨tm', h', ds', g', ⟨h1, h2⟩, h3⟩ := hq; exact (⟨tm', h', ds', g', h1, h3⟩ : DPost w0 nb g Φ (.exit id) a₁ w₁)
    | ret => obtain ⟨tm', h', ds', g', ⟨h1, h2⟩, h3⟩ := hq; exact (⟨tm', h', ds', g', h1, h3⟩ : DPost w0 nb g Φ .ret a₁ w₁)
    | panic ch => obtain ⟨v, v', tm', h', ds', g', h0, ⟨h1, h2⟩, h3⟩ := hq; exact (⟨v, v', tm', h', ds', g', h0, h1, h3⟩ : DPost w0 nb g Φ (.panic ch) a₁ w₁)
    | goto l => exact hq.elim
    | outgrown => exact hq.elim
  | region id ops draw =>
    intro Φ tm h ds a w g hfl hnb he hw hd hall
    unfold dcode at hall
    split at hall
    · rename_i hc
      have hdr : draw = false := by simp at hc; exact hc.1
      subst hdr
      refine wp_region ?_
      have := dops_sound hcall hgrow ops Φ g ops.toList 0 (fun i => by simp) tm h ds a w g hfl hnb (Gle.refl _ _) he hw hd hall
      rwa [Array.length_toList, ← List.range_eq_range'] at this
    · exact plain _ Φ tm h ds a w g hfl hnb he hw hd hall
  | _ => intro Φ tm h ds a w g hfl hnb he hw hd hall; unfold dcode at hall; exact plain _ Φ tm h ds a w g hfl hnb he hw hd hall

/-- How the caller stands. -/
def MR (g : Gho) : Mode → FrameMode → Prop
  | .calm, u => u = .returning
  | .up c, u => ∃ v, u = .panicking [{ v, recovered := false }] ∧ VR g v c
  | .got c, u => ∃ v, u = .panicking [{ v, recovered := true }] ∧ VR g v c

theorem MR.le {n : Nat} {g g' : Gho} (h : Gle n g g') : ∀ {m : Mode} {u : FrameMode}, MR g m u → MR g' m u
  | .calm, _, h1 => h1
  | .up _, _, ⟨v, h1, h2⟩ => ⟨v, h1, h2.le h⟩
  | .got _, _, ⟨v, h1, h2⟩ => ⟨v, h1, h2.le h⟩

def SPost (w0 : World) (nb : Nat) (g : Gho) (c₀ : Frame) (cs : List Frame) (Φ : CX × Env × Heap × Mode → Prop) : Exit → Act → List Frame → World → Prop
  | .normal, a, cs', w => ∃ tm h m g' u, Φ (.normal, tm, h, m) ∧ Gle nb g g' ∧ WI w0 g' h w ∧ VRL g' a.tmps.toList tm ∧ a.defers = [] ∧ cs' = { c₀ with mode := u } :: cs ∧ MR g' m u
  | .exit id, a, cs', w => ∃ tm h m g' u, Φ (.exit id, tm, h, m) ∧ Gle nb g g' ∧ WI w0 g' h w ∧ VRL g' a.tmps.toList tm ∧ a.defers = [] ∧ cs' = { c₀ with mode := u } :: cs ∧ MR g' m u
  | .ret, a, cs', w => ∃ tm h m g' u, Φ (.ret, tm, h, m) ∧ Gle nb g g' ∧ WI w0 g' h w ∧ VRL g' a.tmps.toList tm ∧ a.defers = [] ∧ cs' = { c₀ with mode := u } :: cs ∧ MR g' m u
  | .panic chain, a, cs', w => ∃ v v' tm h m g' u, chain = [{ v, recovered := false }] ∧ Φ (.pan v', tm, h, m) ∧ Gle nb g g' ∧ WI w0 g' h w ∧ VR g' v v' ∧ VRL g' a.tmps.toList tm ∧ a.defers = [] ∧ cs' = { c₀ with mode := u } :: cs ∧ MR g' m u
  | .goto _, _, _, _ => False
  | .outgrown, _, _, _ => False

theorem SPost.mono {nb mb : Nat} {g0 g : Gho} {c₀ : Frame} {cs : List Frame} {Φ Ψ : CX × Env × Heap × Mode → Prop} (hg : Gle mb g0 g) (hn : mb ≤ nb) (hΦ : ∀ r, Φ r → Ψ r) : ∀ {e : Exit} {a : Act} {cs' : List Frame} {w : World}, SPost w0 nb g c₀ cs Φ e a cs' w → SPost w0 mb g0 c₀ cs Ψ e a cs' w
  | .normal, a, _, w, ⟨tm, h, m, g', u, h1, h2, h3⟩ => ⟨tm, h, m, g', u, hΦ _ h1, hg.trans (h2.mono hn), h3⟩
  | .exit id, a, _, w, ⟨tm, h, m, g', u, h1, h2, h3⟩ => ⟨tm, h, m, g', u, hΦ _ h1, hg.trans (h2.mono hn), h3⟩
  | .ret, a, _, w, ⟨tm, h, m, g', u, h1, h2, h3⟩ => ⟨tm, h, m, g', u, hΦ _ h1, hg.trans (h2.mono hn), h3⟩
  | .panic chain, a, _, w, ⟨v, v', tm, h, m, g', u, h0, h1, h2, h3⟩ => ⟨v, v', tm, h, m, g', u, h0, hΦ _ h1, hg.trans (h2.mono hn), h3⟩

theorem SPost.of_X {g : Gho} {c₀ : Frame} {cs : List Frame} {Φ : CX × Env × Heap × Mode → Prop} {m : Mode} {u : FrameMode} (hm : MR g m u) : ∀ {e : Exit} {a : Act} {w : World},
    XPost w0 nb g [] (fun r => Dem.all Φ (.ret (r.1, r.2.1, r.2.2, m))) e a w → SPost w0 nb g c₀ cs Φ e a ({ c₀ with mode := u } :: cs) w
  | .normal, a, w, ⟨tm, h, g', h1, h2, h3, h4, h5⟩ => ⟨tm, h, m, g', u, h1, h2, h3, h4, h5, rfl, hm.le h2⟩
  | .exit id, a, w, ⟨tm, h, g', h1, h2, h3, h4, h5⟩ => ⟨tm, h, m, g', u, h1, h2, h3, h4, h5, rfl, hm.le h2⟩
  | .ret, a, w, ⟨tm, h, g', h1, h2, h3, h4, h5⟩ => ⟨tm, h, m, g', u, h1, h2, h3, h4, h5, rfl, hm.le h2⟩
  | .panic chain, a, w, ⟨v, v', tm, h, g', h0, h1, h2, h3, h6, h4, h5⟩ => ⟨v, v', tm, h, m, g', u, h0, h1, h2, h3, h6, h4, h5, rfl, hm.le h2⟩

theorem recover_run {a : Act} {o : Oper} (h : hasRecover #[o] = true) (w : World) : (execOp a.eval o).run P w = .ok .recover w := by
  unfold hasRecover at h
  simp only [List.any_cons, List.any_nil, Bool.or_false] at h
  split at h
  · rename_i c hop
    split at h
    · rename_i hc
      simp [execOp, hop, resolve, hc, invoke, builtin]
    · cases h
  · cases h

theorem sops_sound (hcall : CallOk P w0 callf) (hgrow : CallGrow callf) (ops : Array Oper) (c₀ : Frame) (cs : List Frame) (Φ : CX × Env × Heap × Mode → Prop) (g0 : Gho) : ∀ (rest : List Oper) (k : Nat), (∀ i : Nat, rest[i]? = ops[k + i]?) → ∀ (tm : Env) (h : Heap) (m : Mode) (a : Act) (u : FrameMode) (w : World) (g : Gho), fl ≤ h.length → nb ≤ h.length →
    Gle nb g0 g → VRL g a.tmps.toList tm → WI w0 g h w → a.defers = [] → MR g m u → (sops P callf fl ops rest tm h m).all Φ → wpOpsS P ops (SPost w0 nb g0 c₀ cs Φ) (List.range' k rest.length) a ({ c₀ with mode := u } :: cs) w
  | [], k, _, tm, h, m, a, u, w, g, _, _, hg, he, hw, hd, hm, hall => ⟨tm, h, m, g, u, hall, hg, hw, he, hd, rfl, hm⟩
  | o :: rest, k, hops, tm, h, m, a, u, w, g, hfl, hnb, hg, he, hw, hd, hm, hall => by
    have ho : ops[k]? = some o := by have := hops 0; simpa using this.symm
    have hops' : ∀ i : Nat, rest[i]? = ops[k + 1 + i]? := fun i => by have := hops (i + 1); simp only [List.getElem?_cons_succ] at this; rw [this]; congr 1; omega
    unfold sops at hall
    simp only [putK_eq, forceV_eq, forceH_eq] at hall
    simp only [List.length_cons, List.range'_succ, wpOpsS, ho]
    split at hall
    · exact hall.elim
    · rename_i hwt
      rw [wanted_fit he hwt]
      simp only [Bool.false_eq_true, if_false]
      exact sops_sound hcall hgrow ops c₀ cs Φ g0 rest (k + 1) hops' _ h m _ u w g hfl hnb hg (put_VRL he _ .undef') hw (by rw [put_defers]; exact hd) hm hall
    · rename_i hwt
      rw [wanted_fit he hwt]
      simp only [if_true]
      split at hall
      · rename_i hrec
        rw [recover_run hrec]
        simp only
        split at hall
        · rename_i v'
          obtain ⟨v, rfl, hv⟩ := hm
          simp only [recoverD]
          exact sops_sound hcall hgrow ops c₀ cs Φ g0 rest (k + 1) hops' _ h (.got v') _ (.panicking [{ v, recovered := true }]) w g hfl hnb hg (put_VRL he _ hv) hw (by rw [put_defers]; exact hd) ⟨v, rfl, hv⟩ hall
        · rename_i hnu
          have hr : recoverD ({ c₀ with mode := u } :: cs) = none := by
            cases m with
            | calm => cases hm; rfl
            | up v => exact (hnu v rfl).elim
            | got v => obtain ⟨v, rfl, _⟩ := hm; rfl
          rw [hr]
          exact sops_sound hcall hgrow ops c₀ cs Φ g0 rest (k + 1) hops' _ h _ _ u w g hfl hnb hg (put_VRL he _ .nili) hw (by rw [put_defers]; exact hd) hm hall
      · rw [Dem.all_bind] at hall
        have hall' := Dem.all_each hall (opRun_grow (P := P) hgrow hfl (slot := none) (by simp) tm o)
        have hfit := opRun_fit hcall he hw (slot := none) (nb := nb) hnb hnb hfl o hall'
        have key : ∀ r, Fit P w0 nb g (fun a => Dem.all Φ (match a with | .val v h' => sops P callf fl ops rest (cput tm o.dst v) h' m | .pan v h' => Dem.ret (CX.pan v, tm, h', m)) ∧ Grow fl h a.heap) r → o.upon P a (fun a' w' => wpOpsS P ops (SPost w0 nb g0 c₀ cs Φ) (List.range' (k + 1) rest.length) a' ({ c₀ with mode := u } :: cs) w') (fun e a' w' => SPost w0 nb g0 c₀ cs Φ e a' ({ c₀ with mode := u } :: cs) w') r := by
          intro r hfit
          refine upon_of_fit hfit ?_ ?_
          · rintro v v' h' g' w' ⟨h1, h2⟩ h3 h4 h5
            exact sops_sound hcall hgrow ops c₀ cs Φ g0 rest (k + 1) hops' _ h' m _ u w' g' (Nat.le_trans hfl h2.1) (Nat.le_trans hnb h2.1) (hg.trans h3) (put_VRL (VRL.le h3 he) _ h5) h4 (by rw [put_defers]; exact hd) (hm.le h3) h1
          · rintro v v' h' g' w' ⟨h1, h2⟩ h3 h4 h5
            exact ⟨v, v', tm, h', m, g', u, rfl, h1, hg.trans h3, h4, h5, VRL.le h3 he, hd, rfl, hm.le h3⟩
        split
        · rename_i w' hx
          rw [hx] at hfit
          exact hfit.elim
        · exact key _ hfit

theorem scode_sound (hcall : CallOk P w0 callf) (hgrow : CallGrow callf) (hdraw : DrawOk P w0 callf) (n : Nat) (c₀ : Frame) (cs : List Frame) : ∀ (c : Code) (Φ : CX × Env × Heap × Mode → Prop) (tm : Env) (h : Heap) (m : Mode) (a : Act) (u : FrameMode) (w : World) (g : Gho), fl ≤ h.length → nb ≤ h.length →
    VRL g a.tmps.toList tm → WI w0 g h w → a.defers = [] → MR g m u → (scode P callf n fl c tm h m).all Φ → c.wpS P (SPost w0 nb g c₀ cs Φ) a ({ c₀ with mode := u } :: cs) w := by
  have plain : ∀ (c : Code) (Φ : CX × Env × Heap × Mode → Prop) (tm : Env) (h : Heap) (m : Mode) (a : Act) (u : FrameMode) (w : World) (g : Gho), fl ≤ h.length → nb ≤ h.length →
    VRL g a.tmps.toList tm → WI w0 g h w → a.defers = [] → MR g m u → ((ccode P callf n fl c tm h).bind fun (x, tm', h') => .ret (x, tm', h', m)).all Φ → c.wpS P (SPost w0 nb g c₀ cs Φ) a ({ c₀ with mode := u } :: cs) w := by
    intro c Φ tm h m a u w g hfl hnb he hw hd hm hall
    rw [Dem.all_bind] at hall
    refine wpS_of_wp (wp_mono (ccode_sound hcall hgrow hdraw n c [] _ tm h a w g hfl hnb he hw hd hall) ?_)
    intro e a₁ w₁ hq
    exact SPost.of_X hm hq
  intro c
  induction c with
  | seq x y ihx ihy =>
    intro Φ tm h m a u w g hfl hnb he hw hd hm hall
    unfold scode at hall
    rw [Dem.all_bind] at hall
    have hall' := Dem.all_each hall (scode_grow hgrow n x tm h m hfl)
    refine wpS_seq ?_
    intro b k hb hr
    obtain ⟨e, a₁, cs₁, w₁, hq, harr⟩ := ihx _ tm h m a u w g hfl hnb he hw hd hm hall' b k hb hr
    refine ⟨e, a₁, cs₁, w₁, ?_, harr⟩
    cases e with
    | normal =>
      obtain ⟨tm', h', m', g', u', ⟨h1, h2⟩, h3, h4, h5, h6, rfl, h7⟩ := hq
      intro b k hb hr
      obtain ⟨e, a₂, cs₂, w₂, hq, harr⟩ := ihy Φ tm' h' m' a₁ u' w₁ g' (Nat.le_trans hfl h2.1) (Nat.le_trans hnb h2.1) h5 h4 h6 h7 h1 b k hb hr
      exact ⟨e, a₂, cs₂, w₂, SPost.mono h3 (Nat.le_refl _) (fun _ h => h) hq, harr⟩
    | exit id => obtain ⟨tm', h', m', g', u', ⟨h1, h2⟩, h3⟩ := hq; exact (⟨tm', h', m', g', u', h1, h3⟩ : SPost w0 nb g c₀ cs Φ (.exit id) a₁ cs₁ w₁)
    | ret => obtain ⟨tm', h', m', g', u', ⟨h1, h2⟩, h3⟩ := hq; exact (⟨tm', h', m', g', u', h1, h3⟩ : SPost w0 nb g c₀ cs Φ .ret a₁ cs₁ w₁)
    | panic ch => obtain ⟨v, v', tm', h', m', g', u', h0, ⟨h1, h2⟩, h3⟩ := hq; exact (⟨v, v', tm', h', m', g', u', h0, h1, h3⟩ : SPost w0 nb g c₀ cs Φ (.panic ch) a₁ cs₁ w₁)
    | goto l => exact hq.elim
    | outgrown => exact hq.elim
  | region id ops draw =>
    intro Φ tm h m a u w g hfl hnb he hw hd hm hall
    unfold scode at hall
    split at hall
    · rename_i hc
      have hdr : draw = false := by simp at hc; exact hc.1
      subst hdr
      refine wpS_region ?_
      have := sops_sound hcall hgrow ops c₀ cs Φ g ops.toList 0 (fun i => by simp) tm h m a u w g hfl hnb (Gle.refl _ _) he hw hd hm hall
      rwa [Array.length_toList, ← List.range_eq_range'] at this
    · exact plain _ Φ tm h m a u w g hfl hnb he hw hd hm hall
  | _ => intro Φ tm h m a u w g hfl hnb he hw hd hm hall; unfold scode at hall; exact plain _ Φ tm h m a u w g hfl hnb he hw hd hm hall

end
end Go.CE

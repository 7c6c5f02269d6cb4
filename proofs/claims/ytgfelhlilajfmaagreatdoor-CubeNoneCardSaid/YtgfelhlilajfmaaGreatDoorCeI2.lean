/-
  The canonical evaluator: calls that are put off, and recover.
-/
import Derived.Test.YtgfelhlilajfmaaGreatDoorCeI
import Derived.RecoverIn
namespace Go.CE
set_option linter.unusedVariables false
set_option linter.unusedSimpArgs false
set_option linter.unusedSectionVars false
set_option linter.unnecessarySimpa false
open Go.RowKit (Below)
variable [Glob]

section
variable {P : Program} {w0 : World} {callf : CallF} {fl nb : Nat}

/-- No function with a body is one that the machine answers itself. -/
def NamesOk (P : Program) : Prop := ∀ (f : FuncId) (fn : Func), P.funcs[f]? = some fn → fn.body.isSome = true → fn.name ≠ "runtime.NumGoroutine"

theorem callFunc_enter (hn : NamesOk P) {f : FuncId} {fn : Func} {c : Code} (hf : P.funcs[f]? = some fn) (hb : fn.body = some c) (args : Array Value) (w : World) : (callFunc f args).run P w = .ok (.enter f args) w := by
  have h1 := hn f fn hf (by simp [hb])
  simp [callFunc, hf, h1, hb]

/-- A call that is put off; a mark. -/
def DR1 (g : Gho) (d : Deferred) : Dfr → Prop
  | .call f args => ∃ as cs : Array Value, d = { target := .fn (.func f) cs, args := as } ∧ VRL g (as ++ cs).toList args
  | .mark id => ∃ b L, d = { target := .collected b, args := #[] } ∧ g.φ id = some (b, 0, L)

/-- Calls that are put off. -/
def DR (g : Gho) : List Deferred → List Dfr → Prop
  | [], [] => True
  | d :: ds, e :: es => DR1 g d e ∧ DR g ds es
  | _, _ => False

theorem DR1.le {n : Nat} {g g' : Gho} (h : Gle n g g') {d : Deferred} : ∀ {e : Dfr}, DR1 g d e → DR1 g' d e
  | .call _ _, ⟨as, cs, h1, h2⟩ => ⟨as, cs, h1, h2.le h⟩
  | .mark _, ⟨b, L, h1, h2⟩ => ⟨b, L, h1, h.ext _ _ h2⟩

theorem DR.le {n : Nat} {g g' : Gho} (h : Gle n g g') : ∀ {ds : List Deferred} {es : List Dfr}, DR g ds es → DR g' ds es
  | [], [], _ => trivial
  | _ :: _, _ :: _, ⟨h1, h3⟩ => ⟨h1.le h, DR.le h h3⟩
  | [], _ :: _, h => h.elim
  | _ :: _, [], h => h.elim

def DPost (w0 : World) (nb : Nat) (g : Gho) (Φ : CX × Env × Heap × List Dfr → Prop) : Exit → Act → World → Prop
  | .normal, a, w => ∃ tm h ds g', Φ (.normal, tm, h, ds) ∧ Gle nb g g' ∧ WI w0 g' h w ∧ VRL g' a.tmps.toList tm ∧ DR g' a.defers ds
  | .exit id, a, w => ∃ tm h ds g', Φ (.exit id, tm, h, ds) ∧ Gle nb g g' ∧ WI w0 g' h w ∧ VRL g' a.tmps.toList tm ∧ DR g' a.defers ds
  | .ret, a, w => ∃ tm h ds g', Φ (.ret, tm, h, ds) ∧ Gle nb g g' ∧ WI w0 g' h w ∧ VRL g' a.tmps.toList tm ∧ DR g' a.defers ds
  | .panic chain, a, w => ∃ v v' tm h ds g', chain = [{ v, recovered := false }] ∧ Φ (.pan v', tm, h, ds) ∧ Gle nb g g' ∧ WI w0 g' h w ∧ VR g' v v' ∧ VRL g' a.tmps.toList tm ∧ DR g' a.defers ds
  | .goto _, _, _ => False
  | .outgrown, _, _ => False

theorem DPost.mono {nb mb : Nat} {g0 g : Gho} {Φ Ψ : CX × Env × Heap × List Dfr → Prop} (hg : Gle mb g0 g) (hn : mb ≤ nb) (hΦ : ∀ r, Φ r → Ψ r) : ∀ {e : Exit} {a : Act} {w : World}, DPost w0 nb g Φ e a w → DPost w0 mb g0 Ψ e a w
  | .normal, a, w, ⟨tm, h, ds, g', h1, h2, h3⟩ => ⟨tm, h, ds, g', hΦ _ h1, hg.trans (h2.mono hn), h3⟩
  | .exit id, a, w, ⟨tm, h, ds, g', h1, h2, h3⟩ => ⟨tm, h, ds, g', hΦ _ h1, hg.trans (h2.mono hn), h3⟩
  | .ret, a, w, ⟨tm, h, ds, g', h1, h2, h3⟩ => ⟨tm, h, ds, g', hΦ _ h1, hg.trans (h2.mono hn), h3⟩
  | .panic chain, a, w, ⟨v, v', tm, h, ds, g', h0, h1, h2, h3⟩ => ⟨v, v', tm, h, ds, g', h0, hΦ _ h1, hg.trans (h2.mono hn), h3⟩

theorem DPost.of_X {g : Gho} {Φ : CX × Env × Heap × List Dfr → Prop} {d0 : List Deferred} {ds : List Dfr} (hd : DR g d0 ds) : ∀ {e : Exit} {a : Act} {w : World},
    XPost w0 nb g d0 (fun r => Dem.all Φ (.ret (r.1, r.2.1, r.2.2, ds))) e a w → DPost w0 nb g Φ e a w
  | .normal, a, w, ⟨tm, h, g', h1, h2, h3, h4, h5⟩ => ⟨tm, h, ds, g', h1, h2, h3, h4, h5 ▸ hd.le h2⟩
  | .exit id, a, w, ⟨tm, h, g', h1, h2, h3, h4, h5⟩ => ⟨tm, h, ds, g', h1, h2, h3, h4, h5 ▸ hd.le h2⟩
  | .ret, a, w, ⟨tm, h, g', h1, h2, h3, h4, h5⟩ => ⟨tm, h, ds, g', h1, h2, h3, h4, h5 ▸ hd.le h2⟩
  | .panic chain, a, w, ⟨v, v', tm, h, g', h0, h1, h2, h3, h6, h4, h5⟩ => ⟨v, v', tm, h, ds, g', h0, h1, h2, h3, h6, h4, h5 ▸ hd.le h2⟩

theorem dops_sound (hcall : CallOk P w0 callf) (hgrow : CallGrow callf) (ops : Array Oper) (Φ : CX × Env × Heap × List Dfr → Prop) (g0 : Gho) : ∀ (rest : List Oper) (k : Nat), (∀ i : Nat, rest[i]? = ops[k + i]?) → ∀ (tm : Env) (h : Heap) (ds : List Dfr) (a : Act) (w : World) (g : Gho), fl ≤ h.length → nb ≤ h.length →
    Gle nb g0 g → VRL g a.tmps.toList tm → WI w0 g h w → DR g a.defers ds → (dops P callf fl ops rest tm h ds).all Φ → wpOpsIn (FR none) 0 P ops (DPost w0 nb g0 Φ) (List.range' k rest.length) a w
  | [], k, _, tm, h, ds, a, w, g, _, _, hg, he, hw, hd, hall => ⟨tm, h, ds, g, hall, hg, hw, he, hd⟩
  | o :: rest, k, hops, tm, h, ds, a, w, g, hfl, hnb, hg, he, hw, hd, hall => by
    have ho : ops[k]? = some o := by have := hops 0; simpa using this.symm
    have hops' : ∀ i : Nat, rest[i]? = ops[k + 1 + i]? := fun i => by have := hops (i + 1); simp only [List.getElem?_cons_succ] at this; rw [this]; congr 1; omega
    unfold dops at hall
    simp only [putK_eq, forceV_eq, forceH_eq] at hall
    simp only [List.length_cons, List.range'_succ, wpOpsIn, ho]
    split at hall
    · exact hall.elim
    · rename_i hwt
      rw [wanted_fit he hwt]
      simp only [Bool.false_eq_true, if_false]
      exact ⟨fun _ _ => trivial, dops_sound hcall hgrow ops Φ g0 rest (k + 1) hops' _ h ds _ w g hfl hnb hg (put_VRL he _ .undef') hw (by rw [put_defers]; exact hd) hall⟩
    · rename_i hwt
      rw [wanted_fit he hwt]
      simp only [if_true]
      split at hall
      · rename_i c hop
        split at hall
        · rename_i f hcallee
          split at hall
          · rename_i f' first cap hcv
            have hf := ceval_VR he hw f
            rw [hcv] at hf
            generalize hu : a.eval f = u at hf
            cases hf with
            | fn _ fs cs _ _ h1 h2 h3 h4 =>
            have hfs := VRL_iff.2 ⟨h1, h3⟩
            have hcs := VRL_iff.2 ⟨h2, h4⟩
            have ha := args_rel he hw c.args
            have hx : (execOp a.eval o).run P w = .ok (.defer { target := .fn (.func f') cs, args := fs ++ c.args.map a.eval }) w := by
              simp [execOp, hop, resolve, hcallee, hu, Deferred.ofValue]
            refine ⟨fun _ _ => trivial, ?_⟩
            rw [show (FR none).round = none from rfl, Oper.semAt_none, hx, Oper.uponIn_defer]
            refine dops_sound hcall hgrow ops Φ g0 rest (k + 1) hops' _ h _ _ w g hfl hnb hg (put_VRL (a := { a with defers := { target := .fn (.func f') cs, args := fs ++ c.args.map a.eval } :: a.defers }) he _ .undef') hw (by
              rw [put_defers]
              exact ⟨⟨_, _, rfl, by simp only [Array.toList_append]; exact (hfs.append ha).append hcs⟩, hd⟩) hall
          · exact hall.elim
        · exact hall.elim
      · rename_i hnd
        rw [Dem.all_bind] at hall
        have hall' := Dem.all_each hall (opRun_grow (P := P) hgrow hfl (slot := none) (by simp) tm o)
        have hfit := opRun_fit hcall he hw (slot := none) (nb := nb) hnb hnb hfl o hall'
        refine wpIn_of_fit (no_defer hall') hfit ?_ ?_
        · rintro v v' h' g' w' ⟨h1, h2⟩ h3 h4 h5
          exact dops_sound hcall hgrow ops Φ g0 rest (k + 1) hops' _ h' ds _ w' g' (Nat.le_trans hfl h2.1) (Nat.le_trans hnb h2.1) (hg.trans h3) (put_VRL (VRL.le h3 he) _ h5) h4 (by rw [put_defers]; exact hd.le h3) h1
        · rintro v v' h' g' w' ⟨h1, h2⟩ h3 h4 h5
          exact ⟨v, v', tm, h', ds, g', rfl, h1, hg.trans h3, h4, h5, VRL.le h3 he, hd.le h3⟩

theorem arr_toList {α : Type} (x : Array α) : x.toList.toArray = x := by simp

theorem stOf_busy {st : Nat} (h : st ≠ 1) : stOf st ≠ .busy := by
  match st, h with
  | 0, _ => simp [stOf]
  | 1, h => exact (h rfl).elim
  | 2, _ => simp [stOf]
  | st + 3, _ => simp [stOf]

/-- One block is turned in the real heap. -/
theorem WI.putObj {g : Gho} {h : Heap} {w : World} (hw : WI w0 g h w) {id b L : Nat} {x y : Blk} {ob : Obj} (hφ : g.φ id = some (b, 0, L)) (hy : h[id]? = some y) (hown : ∀ j, g.G b j = .own id) (hbr : BR g (w.putObj b ob) id b 0 L x) : WI w0 g (h.set id x) (w.putObj b ob) := by
  have hid : id < h.length := hw.dom id _ hφ
  have hold := hw.old b 0 id (hown 0)
  have hother : ∀ k, k ≠ b → (w.putObj b ob).heap[k]? = w.heap[k]? := fun k hk => World.putObj_heap_other hk
  refine hw.write hφ (by simp) (by simp [hid]) (fun i hi => by rw [List.getElem?_set_ne (Ne.symm hi)]) ?_ (by simp) (fun b' o' h1 h2 => ?_) (fun b' h1 h2 => ?_) hbr
  · exact hw.below.trans ⟨rfl, rfl, rfl, by simp, fun k hk => hother k (by omega)⟩
  · have hne : b' ≠ b := by rintro rfl; exact h1 (hown o')
    exact ⟨World.cell?_of_block (w := w) (hother b' hne), World.frozen?_of_block (w := w) (hother b' hne)⟩
  · have hne : b' ≠ b := by rintro rfl; exact h1 0 (hown 0)
    exact hother b' hne

theorem crangeF_sound (hn : NamesOk P) (hcall : CallOk P w0 callf) (hgrow : CallGrow callf) (f : Operand) (ps : Array Tmp) (x y : Code) (Φ : CX × Env × Heap × List Dfr → Prop) (tm : Env) (h : Heap) (ds : List Dfr) (a : Act) (w : World) (g : Gho) (hfl : fl ≤ h.length) (hnb : nb ≤ h.length)
    (he : VRL g a.tmps.toList tm) (hw : WI w0 g h w) (hd : DR g a.defers ds) (hall : (crangeF P callf fl f ps x y tm h ds).all Φ) : (Code.rangeFunc f ps x y).wpIn (FR none) 0 P (DPost w0 nb g Φ) a w := by
  unfold crangeF at hall
  split at hall
  · rename_i gf first cap hcv
    split at hall
    · rename_i hbody
      have hf := ceval_VR he hw f
      rw [hcv] at hf
      generalize hu : a.eval f = u at hf
      cases hf with
      | fn _ fs cs _ _ h1 h2 h3 h4 =>
      have hfs := VRL_iff.2 ⟨h1, h3⟩
      have hcs := VRL_iff.2 ⟨h2, h4⟩
      have henter : ∀ args w', (callFunc gf args).run P w' = .ok (.enter gf args) w' := by
        unfold hasBody at hbody
        split at hbody
        · rename_i fn hfn
          obtain ⟨c, hc⟩ := Option.isSome_iff_exists.1 hbody
          exact callFunc_enter hn hfn hc
        · cases hbody
      rw [Dem.all_bind] at hall
      have h0 : Grow fl h (h ++ [.dfd, .loop tm ps.toList x y 0 none]) := ⟨by simp, fun i hi => by rw [List.getElem?_append_left (by omega)]⟩
      have hall' := Dem.all_each hall (hgrow fl _ _ _ (Nat.le_trans hfl h0.1))
      refine wpIn_rangeFunc fun fn _ => ?_
      have hid1 := dom_none hw (Nat.le_refl h.length)
      have hle1 := Gho.new_le (n := h.length) (L := 1) hw hid1 (Nat.le_refl _)
      have hw1 : WI w0 (g.new h.length w.heap.size 1) (h ++ [.dfd]) (w.alloc (.deferred (some []))) := by
        refine WI.new hw hid1 (by simp) (by simp) (x := .dfd) (by rw [List.getElem?_append_right (Nat.le_refl _), Nat.sub_self]; rfl) (fun i hi hlt => by rw [List.getElem?_append_left hlt]) ?_
        exact ⟨fun j => by simp [Gho.new], rfl, World.alloc_heap_new w _⟩
      have hlen1 : (h ++ [Blk.dfd]).length = h.length + 1 := by simp
      have hid2 := dom_none hw1 (Nat.le_of_eq hlen1)
      have hle2 := Gho.new_le (n := h.length + 1) (L := 1) hw1 hid2 (Nat.le_refl _)
      have hsz : (w.alloc (.deferred (some []))).heap.size = w.heap.size + 1 := by simp
      generalize hg2 : (g.new h.length w.heap.size 1).new (h.length + 1) (w.alloc (.deferred (some []))).heap.size 1 = g2 at hle2
      have hle : Gle h.length g g2 := hle1.trans (hle2.mono (by omega))
      have hw2 : WI w0 g2 (h ++ [.dfd, .loop tm ps.toList x y 0 none]) ((w.alloc (.deferred (some []))).alloc (.loop { state := .ready, pending := none, fn, tmps := a.tmps, params := ps, assign := x, body := y, defers := w.heap.size })) := by
        have e : h ++ [Blk.dfd, .loop tm ps.toList x y 0 none] = (h ++ [.dfd]) ++ [.loop tm ps.toList x y 0 none] := by simp
        rw [e, ← hg2]
        refine WI.new hw1 hid2 (by simp) (by simp) (x := .loop tm ps.toList x y 0 none) (by rw [List.getElem?_append_right (by simp), hlen1, Nat.sub_self]; rfl) (fun i hi hlt => by rw [List.getElem?_append_left hlt]) ?_
        refine ⟨fun j => by simp [Gho.new], rfl, a.tmps, fn, w.heap.size, ?_, ?_⟩
        · rw [arr_toList]; exact World.alloc_heap_new _ _
        · rw [hg2]; exact he.le hle
      have hφ1 : g2.φ h.length = some (w.heap.size, 0, 1) := by rw [← hg2]; simp [Gho.new]
      have hφ2 : g2.φ (h.length + 1) = some (w.heap.size + 1, 0, 1) := by rw [← hg2, hsz]; simp [Gho.new]
      have hEnt := run_enterLoop_outer (P := P) (w := w) fn a.tmps ps x y
      generalize ((w.alloc (.deferred (some []))).alloc (.loop { state := .ready, pending := none, fn, tmps := a.tmps, params := ps, assign := x, body := y, defers := w.heap.size })) = W2 at hEnt hw2
      refine ⟨w.heap.size + 1, [{ target := .collected w.heap.size, args := #[] }], W2, { target := .fn (.func gf) cs, args := fs ++ #[.func (.yield (w.heap.size + 1)) #[] #[]] }, W2, gf, (fs ++ #[.func (.yield (w.heap.size + 1)) #[] #[]]) ++ cs, W2,
        hEnt, ?_, fun _ _ => trivial, ?_, fun h => by simp [FR, Fence.wide] at h, ?_⟩
      · simp only [resolve, rangeCall, hu, Deferred.ofValue]
        simp [go_sem]
      · simp only [invoke]; exact henter _ _
      · have hfit := hcall.fn fl gf _ _ _ hall' g2 W2 ((fs ++ #[Value.func (.yield (w.heap.size + 1)) #[] #[]]) ++ cs).toList hw2 (by
          simp only [Array.toList_append]
          exact ((hfs.le hle).append (show VRL g2 [Value.func (.yield (w.heap.size + 1)) #[] #[]] [.yld (h.length + 1)] from ⟨.yld _ _ _ _ hφ2, trivial⟩)).append (hcs.le hle)) (Nat.le_trans hfl h0.1)
        simp only [Array.toArray_toList] at hfit
        rw [henter] at hfit
        refine callsIn_FR (Calls.mono (show Calls P gf _ _ _ from hfit) fun e w3 hpost => ?_)
        cases e with
        | returned v =>
          obtain ⟨v', h', g', ⟨k1, k2⟩, k3, k4, k5⟩ := hpost
          simp only at k1
          split at k1
          · rename_i tm' ps' x' y' st pend hblk
            split at k1
            · exact k1.elim
            · rename_i hst
              have hφ' := k3.ext _ _ hφ2
              obtain ⟨b1, _, t, f1, D, b3, b4⟩ := k4.blk _ _ _ _ _ hφ' hblk
              have hrun := run_endLoop (P := P) b3 (stOf_busy hst)
              have hw4 := k4.putObj (x := .dead) (ob := .loop { state := .exhausted, pending := pendOf pend, fn := f1, tmps := t, params := ps'.toArray, assign := x', body := y', defers := D }) hφ' hblk b1 trivial
              have hDR : DR g' ({ target := .collected w.heap.size, args := #[] } :: a.defers) (.mark h.length :: ds) := ⟨⟨_, _, rfl, k3.ext _ _ hφ1⟩, (hd.le hle).le k3⟩
              have hG : Gle nb g g' := (hle.mono hnb).trans (k3.mono (by simp; omega))
              have hE : VRL g' a.tmps.toList tm := (he.le hle).le k3
              refine ⟨_, _, hrun, ?_⟩
              match pend, k1 with
              | none, k1 => exact ⟨tm, _, _, g', k1, hG, hw4, hE, hDR⟩
              | some none, k1 => exact wpIn_ret ⟨tm, _, _, g', k1, hG, hw4, hE, hDR⟩
              | some (some z), k1 => exact wpIn_exit ⟨tm, _, _, g', k1, hG, hw4, hE, hDR⟩
          · exact k1.elim
        | panicked chain =>
          obtain ⟨v, v', h', g', rfl, ⟨k1, k2⟩, k3, k4, k5⟩ := hpost
          exact ⟨v, v', tm, h', _, g', rfl, k1, (hle.mono hnb).trans (k3.mono (by simp; omega)), k4, k5, (he.le hle).le k3, ⟨⟨_, _, rfl, k3.ext _ _ hφ1⟩, (hd.le hle).le k3⟩⟩
        | outgrown => exact hpost.elim
    · exact hall.elim
  · exact hall.elim

theorem dcode_sound (hn : NamesOk P) (hcall : CallOk P w0 callf) (hgrow : CallGrow callf) (hdraw : DrawOk P w0 callf) (n : Nat) : ∀ (c : Code) (Φ : CX × Env × Heap × List Dfr → Prop) (tm : Env) (h : Heap) (ds : List Dfr) (a : Act) (w : World) (g : Gho), fl ≤ h.length → nb ≤ h.length →
    VRL g a.tmps.toList tm → WI w0 g h w → DR g a.defers ds → (dcode P callf n fl c tm h ds).all Φ → c.wpIn (FR none) 0 P (DPost w0 nb g Φ) a w := by
  have plain : ∀ (c : Code) (Φ : CX × Env × Heap × List Dfr → Prop) (tm : Env) (h : Heap) (ds : List Dfr) (a : Act) (w : World) (g : Gho), fl ≤ h.length → nb ≤ h.length →
    VRL g a.tmps.toList tm → WI w0 g h w → DR g a.defers ds → ((ccode P callf n fl c tm h).bind fun (x, tm', h') => .ret (x, tm', h', ds)).all Φ → c.wpIn (FR none) 0 P (DPost w0 nb g Φ) a w := by
    intro c Φ tm h ds a w g hfl hnb he hw hd hall
    rw [Dem.all_bind] at hall
    refine wpIn_mono (ccode_sound (ro := none) hcall hgrow hdraw n c a.defers _ tm h a w g hfl hnb he hw rfl hall) ?_
    intro e a₁ w₁ hq
    exact DPost.of_X hd hq
  intro c
  induction c with
  | seq x y ihx ihy =>
    intro Φ tm h ds a w g hfl hnb he hw hd hall
    unfold dcode at hall
    rw [Dem.all_bind] at hall
    have hall' := Dem.all_each hall (dcode_grow hgrow n x tm h ds hfl)
    refine wpIn_seq (wpIn_mono (ihx _ tm h ds a w g hfl hnb he hw hd hall') ?_)
    intro e a₁ w₁ hq
    cases e with
    | normal =>
      obtain ⟨tm', h', ds', g', ⟨h1, h2⟩, h3, h4, h5, h6⟩ := hq
      exact wpIn_mono (ihy Φ tm' h' ds' a₁ w₁ g' (Nat.le_trans hfl h2.1) (Nat.le_trans hnb h2.1) h5 h4 h6 h1) fun e a w => DPost.mono h3 (Nat.le_refl _) fun _ h => h
    | exit id => obtain ⟨tm', h', ds', g', ⟨h1, h2⟩, h3⟩ := hq; exact (⟨tm', h', ds', g', h1, h3⟩ : DPost w0 nb g Φ (.exit id) a₁ w₁)
    | ret => obtain ⟨tm', h', ds', g', ⟨h1, h2⟩, h3⟩ := hq; exact (⟨tm', h', ds', g', h1, h3⟩ : DPost w0 nb g Φ .ret a₁ w₁)
    | panic ch => obtain ⟨v, v', tm', h', ds', g', h0, ⟨h1, h2⟩, h3⟩ := hq; exact (⟨v, v', tm', h', ds', g', h0, h1, h3⟩ : DPost w0 nb g Φ (.panic ch) a₁ w₁)
    | goto l => exact hq.elim
    | outgrown => exact hq.elim
  | region id ops draw =>
    intro Φ tm h ds a w g hfl hnb he hw hd hall
    unfold dcode at hall
    split at hall
    · rename_i hc
      have hdr : draw = false := by simp at hc; exact hc.1
      subst hdr
      refine wpIn_region ?_
      have := dops_sound hcall hgrow ops Φ g ops.toList 0 (fun i => by simp) tm h ds a w g hfl hnb (Gle.refl _ _) he hw hd hall
      rwa [Array.length_toList, ← List.range_eq_range'] at this
    · exact plain _ Φ tm h ds a w g hfl hnb he hw hd hall
  | cond c x y ihx ihy =>
    intro Φ tm h ds a w g hfl hnb he hw hd hall
    unfold dcode at hall
    have hc := ceval_VR he hw c
    split at hall
    · rename_i ht
      rw [ht] at hc
      refine wpIn_cond_true ?_ (ihx Φ tm h ds a w g hfl hnb he hw hd hall)
      generalize a.eval c = u at hc
      cases hc; rfl
    · rename_i ht
      rw [ht] at hc
      refine wpIn_cond_false ?_ (ihy Φ tm h ds a w g hfl hnb he hw hd hall)
      generalize a.eval c = u at hc
      cases hc; rfl
    · exact hall.elim
  | block id b ih =>
    intro Φ tm h ds a w g hfl hnb he hw hd hall
    unfold dcode at hall
    rw [Dem.all_bind] at hall
    refine wpIn_block (wpIn_mono (ih _ tm h ds a w g hfl hnb he hw hd hall) ?_)
    intro e a₁ w₁ hq
    cases e with
    | normal => exact hq
    | exit id' =>
      obtain ⟨tm', h', ds', g', h1, h3⟩ := hq
      simp only [Exit.inBlock]
      simp only at h1
      split
      · rename_i he'; rw [if_pos he'] at h1; exact ⟨tm', h', ds', g', h1, h3⟩
      · rename_i he'; rw [if_neg he'] at h1; exact ⟨tm', h', ds', g', h1, h3⟩
    | ret => exact hq
    | panic ch => exact hq
    | goto l => exact hq.elim
    | outgrown => exact hq.elim
  | scope b ih =>
    intro Φ tm h ds a w g hfl hnb he hw hd hall
    unfold dcode at hall
    exact wpIn_scope (fun _ _ _ h => h) (ih Φ tm h ds a w g hfl hnb he hw hd hall)
  | rangeFunc f ps x y ihx ihy => intro Φ tm h ds a w g hfl hnb he hw hd hall; unfold dcode at hall; exact crangeF_sound hn hcall hgrow f ps x y Φ tm h ds a w g hfl hnb he hw hd hall
  | _ => intro Φ tm h ds a w g hfl hnb he hw hd hall; unfold dcode at hall; exact plain _ Φ tm h ds a w g hfl hnb he hw hd hall

/-- How the caller stands. -/
def MR (g : Gho) : Mode → FrameMode → Prop
  | .calm, u => u = .returning
  | .up c, u => ∃ v, u = .panicking [{ v, recovered := false }] ∧ VR g v c
  | .got c, u => ∃ v, u = .panicking [{ v, recovered := true }] ∧ VR g v c

theorem MR.le {n : Nat} {g g' : Gho} (h : Gle n g g') : ∀ {m : Mode} {u : FrameMode}, MR g m u → MR g' m u
  | .calm, _, h1 => h1
  | .up _, _, ⟨v, h1, h2⟩ => ⟨v, h1, h2.le h⟩
  | .got _, _, ⟨v, h1, h2⟩ => ⟨v, h1, h2.le h⟩

def SPost (w0 : World) (nb : Nat) (g : Gho) (c₀ : Frame) (cs : List Frame) (Φ : CX × Env × Heap × Mode → Prop) : Exit → Act → List Frame → World → Prop
  | .normal, a, cs', w => ∃ tm h m g' u, Φ (.normal, tm, h, m) ∧ Gle nb g g' ∧ WI w0 g' h w ∧ VRL g' a.tmps.toList tm ∧ a.defers = [] ∧ cs' = { c₀ with mode := u } :: cs ∧ MR g' m u
  | .exit id, a, cs', w => ∃ tm h m g' u, Φ (.exit id, tm, h, m) ∧ Gle nb g g' ∧ WI w0 g' h w ∧ VRL g' a.tmps.toList tm ∧ a.defers = [] ∧ cs' = { c₀ with mode := u } :: cs ∧ MR g' m u
  | .ret, a, cs', w => ∃ tm h m g' u, Φ (.ret, tm, h, m) ∧ Gle nb g g' ∧ WI w0 g' h w ∧ VRL g' a.tmps.toList tm ∧ a.defers = [] ∧ cs' = { c₀ with mode := u } :: cs ∧ MR g' m u
  | .panic chain, a, cs', w => ∃ v v' tm h m g' u, chain = [{ v, recovered := false }] ∧ Φ (.pan v', tm, h, m) ∧ Gle nb g g' ∧ WI w0 g' h w ∧ VR g' v v' ∧ VRL g' a.tmps.toList tm ∧ a.defers = [] ∧ cs' = { c₀ with mode := u } :: cs ∧ MR g' m u
  | .goto _, _, _, _ => False
  | .outgrown, _, _, _ => False

theorem SPost.mono {nb mb : Nat} {g0 g : Gho} {c₀ : Frame} {cs : List Frame} {Φ Ψ : CX × Env × Heap × Mode → Prop} (hg : Gle mb g0 g) (hn : mb ≤ nb) (hΦ : ∀ r, Φ r → Ψ r) : ∀ {e : Exit} {a : Act} {cs' : List Frame} {w : World}, SPost w0 nb g c₀ cs Φ e a cs' w → SPost w0 mb g0 c₀ cs Ψ e a cs' w
  | .normal, a, _, w, ⟨tm, h, m, g', u, h1, h2, h3⟩ => ⟨tm, h, m, g', u, hΦ _ h1, hg.trans (h2.mono hn), h3⟩
  | .exit id, a, _, w, ⟨tm, h, m, g', u, h1, h2, h3⟩ => ⟨tm, h, m, g', u, hΦ _ h1, hg.trans (h2.mono hn), h3⟩
  | .ret, a, _, w, ⟨tm, h, m, g', u, h1, h2, h3⟩ => ⟨tm, h, m, g', u, hΦ _ h1, hg.trans (h2.mono hn), h3⟩
  | .panic chain, a, _, w, ⟨v, v', tm, h, m, g', u, h0, h1, h2, h3⟩ => ⟨v, v', tm, h, m, g', u, h0, hΦ _ h1, hg.trans (h2.mono hn), h3⟩

theorem SPost.of_X {g : Gho} {c₀ : Frame} {cs : List Frame} {Φ : CX × Env × Heap × Mode → Prop} {m : Mode} {u : FrameMode} (hm : MR g m u) : ∀ {e : Exit} {a : Act} {w : World},
    XPost w0 nb g [] (fun r => Dem.all Φ (.ret (r.1, r.2.1, r.2.2, m))) e a w → SPost w0 nb g c₀ cs Φ e a ({ c₀ with mode := u } :: cs) w
  | .normal, a, w, ⟨tm, h, g', h1, h2, h3, h4, h5⟩ => ⟨tm, h, m, g', u, h1, h2, h3, h4, h5, rfl, hm.le h2⟩
  | .exit id, a, w, ⟨tm, h, g', h1, h2, h3, h4, h5⟩ => ⟨tm, h, m, g', u, h1, h2, h3, h4, h5, rfl, hm.le h2⟩
  | .ret, a, w, ⟨tm, h, g', h1, h2, h3, h4, h5⟩ => ⟨tm, h, m, g', u, h1, h2, h3, h4, h5, rfl, hm.le h2⟩
  | .panic chain, a, w, ⟨v, v', tm, h, g', h0, h1, h2, h3, h6, h4, h5⟩ => ⟨v, v', tm, h, m, g', u, h0, h1, h2, h3, h6, h4, h5, rfl, hm.le h2⟩

theorem recover_run {a : Act} {o : Oper} (h : hasRecover #[o] = true) (w : World) : (execOp a.eval o).run P w = .ok .recover w := by
  unfold hasRecover at h
  simp only [List.any_cons, List.any_nil, Bool.or_false] at h
  split at h
  · rename_i c hop
    split at h
    · rename_i hc
      simp [execOp, hop, resolve, hc, invoke, builtin]
    · cases h
  · cases h

theorem run_v_ne {α : Type} (s : Sem α) (k : α → Value) (w : World) : (∃ v w', ((do let x ← s; pure (Next.value (k x))) : Sem Next).run P w = .ok (.value v) w') ∨ (∃ w', ((do let x ← s; pure (Next.value (k x))) : Sem Next).run P w = .ok .skip w') ∨ ∃ v w', ((do let x ← s; pure (Next.value (k x))) : Sem Next).run P w = .halt v w' := by
  rw [Sem.run_bind]
  cases s.run P w with
  | ok x w' => exact .inl ⟨_, _, rfl⟩
  | halt x w' => exact .inr (.inr ⟨_, _, rfl⟩)

theorem run_u_ne (s : Sem Unit) (w : World) : (∃ v w', ((do s; pure Next.skip) : Sem Next).run P w = .ok (.value v) w') ∨ (∃ w', ((do s; pure Next.skip) : Sem Next).run P w = .ok .skip w') ∨ ∃ v w', ((do s; pure Next.skip) : Sem Next).run P w = .halt v w' := by
  rw [Sem.run_bind]
  cases s.run P w with
  | ok x w' => exact .inr (.inl ⟨_, rfl⟩)
  | halt x w' => exact .inr (.inr ⟨_, _, rfl⟩)

theorem still_shape {ρ : Operand → Value} {o : Oper} {w : World} (h : isStill o.op = true) : (∃ v w', (execOp ρ o).run P w = .ok (.value v) w') ∨ (∃ w', (execOp ρ o).run P w = .ok .skip w') ∨ ∃ v w', (execOp ρ o).run P w = .halt v w' := by
  cases hop : o.op <;> rw [hop] at h <;> simp only [isStill, Bool.false_eq_true] at h <;> simp only [execOp, hop]
  all_goals first
    | exact .inl ⟨_, _, rfl⟩
    | exact run_v_ne _ _ w
    | exact run_u_ne _ w

theorem sops_sound (hcall : CallOk P w0 callf) (hgrow : CallGrow callf) (ops : Array Oper) (c₀ : Frame) (cs : List Frame) (Φ : CX × Env × Heap × Mode → Prop) (g0 : Gho) : ∀ (rest : List Oper) (k : Nat), (∀ i : Nat, rest[i]? = ops[k + i]?) → ∀ (tm : Env) (h : Heap) (m : Mode) (a : Act) (u : FrameMode) (w : World) (g : Gho), fl ≤ h.length → nb ≤ h.length →
    Gle nb g0 g → VRL g a.tmps.toList tm → WI w0 g h w → a.defers = [] → MR g m u → (sops P callf fl ops rest tm h m).all Φ → wpOpsSIn (FR none) 0 P ops (SPost w0 nb g0 c₀ cs Φ) (List.range' k rest.length) a ({ c₀ with mode := u } :: cs) w
  | [], k, _, tm, h, m, a, u, w, g, _, _, hg, he, hw, hd, hm, hall => ⟨tm, h, m, g, u, hall, hg, hw, he, hd, rfl, hm⟩
  | o :: rest, k, hops, tm, h, m, a, u, w, g, hfl, hnb, hg, he, hw, hd, hm, hall => by
    have ho : ops[k]? = some o := by have := hops 0; simpa using this.symm
    have hops' : ∀ i : Nat, rest[i]? = ops[k + 1 + i]? := fun i => by have := hops (i + 1); simp only [List.getElem?_cons_succ] at this; rw [this]; congr 1; omega
    unfold sops at hall
    simp only [putK_eq, forceV_eq, forceH_eq] at hall
    simp only [List.length_cons, List.range'_succ, wpOpsSIn, ho]
    refine ⟨fun _ _ => trivial, ?_⟩
    split at hall
    · exact hall.elim
    · rename_i hwt
      rw [wanted_fit he hwt]
      simp only [Bool.false_eq_true, if_false]
      exact sops_sound hcall hgrow ops c₀ cs Φ g0 rest (k + 1) hops' _ h m _ u w g hfl hnb hg (put_VRL he _ .undef') hw (by rw [put_defers]; exact hd) hm hall
    · rename_i hwt
      rw [wanted_fit he hwt]
      simp only [if_true]
      split at hall
      · rename_i hrec
        rw [recover_run hrec]
        simp only
        split at hall
        · rename_i v'
          obtain ⟨v, rfl, hv⟩ := hm
          simp only [recoverD]
          exact sops_sound hcall hgrow ops c₀ cs Φ g0 rest (k + 1) hops' _ h (.got v') _ (.panicking [{ v, recovered := true }]) w g hfl hnb hg (put_VRL he _ hv) hw (by rw [put_defers]; exact hd) ⟨v, rfl, hv⟩ hall
        · rename_i hnu
          have hr : recoverD ({ c₀ with mode := u } :: cs) = none := by
            cases m with
            | calm => cases hm; rfl
            | up v => exact (hnu v rfl).elim
            | got v => obtain ⟨v, rfl, _⟩ := hm; rfl
          rw [hr]
          exact sops_sound hcall hgrow ops c₀ cs Φ g0 rest (k + 1) hops' _ h _ _ u w g hfl hnb hg (put_VRL he _ .nili) hw (by rw [put_defers]; exact hd) hm hall
      split at hall
      · exact hall.elim
      · rename_i hst
        rw [Dem.all_bind] at hall
        have hall' := Dem.all_each hall (opRun_grow (P := P) hgrow hfl (slot := none) (by simp) tm o)
        have hfit := opRun_fit hcall he hw (slot := none) (nb := nb) hnb hnb hfl o hall'
        have nx : ∀ v v' h' g' w', (Dem.all Φ (match Out.val v' h' with | .val v h' => sops P callf fl ops rest (cput tm o.dst v) h' m | .pan v h' => Dem.ret (CX.pan v, tm, h', m)) ∧ Grow fl h (Out.val v' h').heap) → Gle nb g g' → WI w0 g' h' w' → VR g' v v' →
            wpOpsSIn (FR none) 0 P ops (SPost w0 nb g0 c₀ cs Φ) (List.range' (k + 1) rest.length) (a.put o.dst v) ({ c₀ with mode := u } :: cs) w' := by
          rintro v v' h' g' w' ⟨h1, h2⟩ h3 h4 h5
          exact sops_sound hcall hgrow ops c₀ cs Φ g0 rest (k + 1) hops' _ h' m _ u w' g' (Nat.le_trans hfl h2.1) (Nat.le_trans hnb h2.1) (hg.trans h3) (put_VRL (VRL.le h3 he) _ h5) h4 (by rw [put_defers]; exact hd) (hm.le h3) h1
        rcases still_shape (P := P) (w := w) (ρ := a.eval) (o := o) (by simpa using hst) with ⟨v, w', hx⟩ | ⟨w', hx⟩ | ⟨v, w', hx⟩
        · rw [hx] at hfit ⊢
          obtain ⟨v', h', g', h1, h3, h4, h5⟩ := hfit
          exact nx _ _ _ _ _ h1 h3 h4 h5
        · rw [hx] at hfit ⊢
          obtain ⟨v', h', g', h1, h3, h4, h5⟩ := hfit
          exact nx _ _ _ _ _ h1 h3 h4 h5
        · rw [hx] at hfit ⊢
          cases v <;> first
            | exact hfit.elim
            | (obtain ⟨v', h', g', ⟨h1, h2⟩, h3, h4, h5⟩ := hfit
               exact ⟨_, v', tm, h', m, g', u, rfl, h1, hg.trans h3, h4, h5, VRL.le h3 he, hd, rfl, hm.le h3⟩)

theorem scode_sound (hcall : CallOk P w0 callf) (hgrow : CallGrow callf) (hdraw : DrawOk P w0 callf) (n : Nat) (c₀ : Frame) (cs : List Frame) : ∀ (c : Code) (Φ : CX × Env × Heap × Mode → Prop) (tm : Env) (h : Heap) (m : Mode) (a : Act) (u : FrameMode) (w : World) (g : Gho), fl ≤ h.length → nb ≤ h.length →
    VRL g a.tmps.toList tm → WI w0 g h w → a.defers = [] → MR g m u → (scode P callf n fl c tm h m).all Φ → c.wpSIn (FR none) 0 P (SPost w0 nb g c₀ cs Φ) a ({ c₀ with mode := u } :: cs) w := by
  have plain : ∀ (c : Code) (Φ : CX × Env × Heap × Mode → Prop) (tm : Env) (h : Heap) (m : Mode) (a : Act) (u : FrameMode) (w : World) (g : Gho), fl ≤ h.length → nb ≤ h.length →
    VRL g a.tmps.toList tm → WI w0 g h w → a.defers = [] → MR g m u → ((ccode P callf n fl c tm h).bind fun (x, tm', h') => .ret (x, tm', h', m)).all Φ → c.wpSIn (FR none) 0 P (SPost w0 nb g c₀ cs Φ) a ({ c₀ with mode := u } :: cs) w := by
    intro c Φ tm h m a u w g hfl hnb he hw hd hm hall
    rw [Dem.all_bind] at hall
    refine wpSIn_of_wpIn rfl (wpIn_mono (ccode_sound (ro := none) hcall hgrow hdraw n c [] _ tm h a w g hfl hnb he hw hd hall) ?_)
    intro e a₁ w₁ hq
    exact SPost.of_X hm hq
  intro c
  induction c with
  | seq x y ihx ihy =>
    intro Φ tm h m a u w g hfl hnb he hw hd hm hall
    unfold scode at hall
    rw [Dem.all_bind] at hall
    have hall' := Dem.all_each hall (scode_grow hgrow n x tm h m hfl)
    refine wpSIn_seq ?_
    intro b k hb hr hF hroom
    obtain ⟨e, a₁, cs₁, w₁, hl, hq, harr⟩ := ihx _ tm h m a u w g hfl hnb he hw hd hm hall' b k hb hr hF hroom
    refine ⟨e, a₁, cs₁, w₁, hl, ?_, harr⟩
    cases e with
    | normal =>
      obtain ⟨tm', h', m', g', u', ⟨h1, h2⟩, h3, h4, h5, h6, rfl, h7⟩ := hq
      intro b k hb hr hF hroom
      obtain ⟨e, a₂, cs₂, w₂, hl, hq, harr⟩ := ihy Φ tm' h' m' a₁ u' w₁ g' (Nat.le_trans hfl h2.1) (Nat.le_trans hnb h2.1) h5 h4 h6 h7 h1 b k hb hr hF hroom
      exact ⟨e, a₂, cs₂, w₂, hl, SPost.mono h3 (Nat.le_refl _) (fun _ h => h) hq, harr⟩
    | exit id => obtain ⟨tm', h', m', g', u', ⟨h1, h2⟩, h3⟩ := hq; exact (⟨tm', h', m', g', u', h1, h3⟩ : SPost w0 nb g c₀ cs Φ (.exit id) a₁ cs₁ w₁)
    | ret => obtain ⟨tm', h', m', g', u', ⟨h1, h2⟩, h3⟩ := hq; exact (⟨tm', h', m', g', u', h1, h3⟩ : SPost w0 nb g c₀ cs Φ .ret a₁ cs₁ w₁)
    | panic ch => obtain ⟨v, v', tm', h', m', g', u', h0, ⟨h1, h2⟩, h3⟩ := hq; exact (⟨v, v', tm', h', m', g', u', h0, h1, h3⟩ : SPost w0 nb g c₀ cs Φ (.panic ch) a₁ cs₁ w₁)
    | goto l => exact hq.elim
    | outgrown => exact hq.elim
  | region id ops draw =>
    intro Φ tm h m a u w g hfl hnb he hw hd hm hall
    unfold scode at hall
    split at hall
    · rename_i hc
      have hdr : draw = false := by simp at hc; exact hc.1
      subst hdr
      refine wpSIn_region ?_
      have := sops_sound hcall hgrow ops c₀ cs Φ g ops.toList 0 (fun i => by simp) tm h m a u w g hfl hnb (Gle.refl _ _) he hw hd hm hall
      rwa [Array.length_toList, ← List.range_eq_range'] at this
    · exact plain _ Φ tm h m a u w g hfl hnb he hw hd hm hall
  | _ => intro Φ tm h m a u w g hfl hnb he hw hd hm hall; unfold scode at hall; exact plain _ Φ tm h m a u w g hfl hnb he hw hd hm hall

end
end Go.CE

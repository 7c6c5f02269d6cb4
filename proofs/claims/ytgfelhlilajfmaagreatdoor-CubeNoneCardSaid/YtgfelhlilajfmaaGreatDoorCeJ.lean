/-
  The canonical evaluator: calls. What the evaluator says of a call is so.
-/
import Derived.Test.YtgfelhlilajfmaaGreatDoorCeI2
namespace Go.CE
set_option linter.unusedVariables false
set_option linter.unusedSimpArgs false
set_option linter.unusedSectionVars false
set_option linter.unnecessarySimpa false
open Go.RowKit (Below)
variable [Glob]

section
variable {P : Program} {w0 : World} {callf : CallF}

theorem cresult_fit {g : Gho} {h : Heap} {w : World} (hw : WI w0 g h w) {a : Act} {tm : Env} (he : VRL g a.tmps.toList tm) {r : ResultVar} {c : CV} (hc : cresult P tm h r = some c) :
    ∃ v, (match r with
      | .tmp t => pure (a.tmps.getD t undef)
      | .cell x t => do loadVar t (← asAddr (a.tmps.getD x undef)) : Sem Value).run P w = .ok v w ∧ VR g v c := by
  have hget : ∀ t : Tmp, VR g (a.tmps.getD t undef) (tm.getD t .any) := fun t => by
    have := he.getD t
    simpa [List.getD] using this
  cases r with
  | tmp t =>
    simp only [cresult, Option.some.injEq] at hc
    subst hc
    exact ⟨_, rfl, hget t⟩
  | cell x t =>
    simp only [cresult] at hc
    unfold cload at hc
    split at hc
    · rename_i cells hce
      obtain ⟨b, o, hp, hR⟩ := cellsAt_R hw (hget x) hce
      obtain ⟨v, h1, h2⟩ := loadVar_VR hc hR
      refine ⟨v, ?_, h2⟩
      simp only [Sem.run_bind, hp]
      exact h1
    · cases hc

theorem cresults_fit {g : Gho} {h : Heap} {w : World} (hw : WI w0 g h w) {a : Act} {tm : Env} (he : VRL g a.tmps.toList tm) {fn : Func} {c : CV} (hc : cresults P fn.results tm h = some c) :
    ∃ v, (results fn a.tmps).run P w = .ok v w ∧ VR g v c := by
  have key : ∀ (rs : List ResultVar) (cs : List CV), rs.mapM (cresult P tm h) = some cs → ∃ vs, (rs.mapM (fun r => match r with
      | .tmp t => pure (a.tmps.getD t undef)
      | .cell x t => do loadVar t (← asAddr (a.tmps.getD x undef)) : ResultVar → Sem Value)).run P w = .ok vs w ∧ VRL g vs cs := by
    intro rs
    induction rs with
    | nil => intro cs h; rw [mapM_nil'] at h; cases h; exact ⟨[], rfl, trivial⟩
    | cons r rs ih =>
      intro cs h
      obtain ⟨y, ys, h1, h2, rfl⟩ := mapM_cons' h
      obtain ⟨v, k1, k2⟩ := cresult_fit hw he h1
      obtain ⟨vs, k3, k4⟩ := ih ys h2
      refine ⟨v :: vs, ?_, k2, k4⟩
      rw [List.mapM_cons, Sem.run_bind, k1]
      simp only [Result.andThen, Sem.run_bind, k3]
      rfl
  unfold cresults at hc
  cases hm : fn.results.toList.mapM (cresult P tm h) with
  | none => rw [hm] at hc; cases hc
  | some cs =>
    rw [hm] at hc
    obtain ⟨vs, h1, h2⟩ := key _ _ hm
    have hrun : (results fn a.tmps).run P w = .ok (if h : vs.toArray.size = 1 then vs.toArray[0] else .tuple vs.toArray) w := by
      unfold results
      rw [Array.mapM_eq_mapM_toList]
      simp only [Sem.run_bind, Sem.run_map]
      exact Eq.trans (congrArg (fun r : Result (List Value) => (r.andThen fun a w' => Result.ok a.toArray w').andThen fun a w' => Sem.run P (pure (if h : a.size = 1 then a[0] else Value.tuple a)) w') h1) rfl
    refine ⟨_, hrun, ?_⟩
    split at hc
    · rename_i c' heq
      cases hc
      cases heq
      match vs, h2 with
      | [v], h2 => simpa using h2.1
    · rename_i cs' hne heq
      cases hc
      cases heq
      have : vs.length ≠ 1 := by
        rw [h2.length]
        intro hl
        match cs, hl with
        | [c], _ => exact hne c rfl
      rw [dif_neg (by simpa using this)]
      exact .tup' (by simpa using h2)
    · cases hc

/-- What the evaluator is told of functions that it does not run. -/
structure CfgOk (P : Program) (w0 : World) (cfg : Cfg) : Prop where
  ext : ∀ (f : FuncId) (fn : Func) (args : List CV) (v : CV), P.funcs[f]? = some fn → fn.body = none → cfg.ext f args = some v → ∀ (g : Gho) (h : Heap) (w : World) (rargs : List Value), WI w0 g h w → VRL g rargs args →
    Fit P w0 h.length g (· = .val v h) ((callFunc f rargs.toArray).run P w)
  spec : ∀ (f : FuncId) (k : List CV → Option CV) (args : List CV) (v : CV), cfg.spec f = some k → k args = some v → ∀ (g : Gho) (h : Heap) (w : World) (rargs : List Value), WI w0 g h w → VRL g rargs args →
    Fit P w0 h.length g (· = .val v h) ((callFunc f rargs.toArray).run P w)

theorem Fit.imp {g : Gho} {Φ Ψ : Out → Prop} {nb : Nat} (hΦ : ∀ o, Φ o → Ψ o) {r : Result Next} (hf : Fit P w0 nb g Φ r) : Fit P w0 nb g Ψ r := by
  unfold Fit at hf ⊢
  split at hf
  · obtain ⟨v', h', g', h1, h2⟩ := hf; exact ⟨v', h', g', hΦ _ h1, h2⟩
  · obtain ⟨v', h', g', h1, h2⟩ := hf; exact ⟨v', h', g', hΦ _ h1, h2⟩
  · exact Calls.mono hf fun e w' => CPost.mono (Nat.le_refl _) hΦ
  · exact RoundIn.mono hf fun e w' => CPost.mono (Nat.le_refl _) hΦ
  · obtain ⟨v', h', g', h1, h2⟩ := hf; exact ⟨v', h', g', hΦ _ h1, h2⟩
  · exact hf.elim

/-- The calls that were put off, one by one, the marks, and the end. -/
theorem cleave_sound {callf : CallF} {fl nb : Nat} (hcall : CallOk P w0 callf) (hgrow : CallGrow callf) (hdraw : DrawOk P w0 callf) (hn : NamesOk P) (n : Nat) {fn : Func} {tm : Env} {a : Act} (Φ : Out → Prop) (g0 : Gho) : ∀ (es : List Dfr) (m : Mode) (h : Heap) (ds : List Deferred) (u : FrameMode) (w : World) (g : Gho), fl ≤ h.length → nb ≤ h.length →
    Gle nb g0 g → VRL g a.tmps.toList tm → WI w0 g h w → DR g ds es → MR g m u → (cleave P callf n fl fn tm es m h).all Φ → LeavesInM (FR none) 0 P fn a.tmps (CPost w0 nb g0 Φ) ds u w
  | [], m, h, d :: ds, u, w, g, hfl, hnb, hg, he, hw, hd, hm, hall => hd.elim
  | e :: es, m, h, [], u, w, g, hfl, hnb, hg, he, hw, hd, hm, hall => hd.elim
  | [], m, h, [], u, w, g, hfl, hnb, hg, he, hw, hd, hm, hall => by
    cases m with
    | calm =>
      cases hm
      unfold cleave at hall
      split at hall
      · rename_i v hv
        obtain ⟨y, y1, y2⟩ := cresults_fit hw he hv
        exact ⟨y, y1, v, h, g, hall, hg, hw, y2⟩
      · exact hall.elim
    | up c =>
      obtain ⟨v, rfl, hv⟩ := hm
      exact ⟨v, c, h, g, rfl, hall, hg, hw, hv⟩
    | got c => exact hall.elim
  | .mark id :: es, m, h, d :: ds, u, w, g, hfl, hnb, hg, he, hw, hd, hm, hall => by
    obtain ⟨⟨b, L, rfl, hφ⟩, hds⟩ := hd
    unfold cleave at hall
    split at hall
    · rename_i hblk
      split at hall
      · obtain ⟨b1, _, b3⟩ := hw.blk _ _ _ _ _ hφ hblk
        have hu : u ≠ .run := by
          cases m with
          | calm => cases hm; simp
          | up v => obtain ⟨_, rfl, _⟩ := hm; simp
          | got v => obtain ⟨_, rfl, _⟩ := hm; simp
        refine ⟨hu, .inl ⟨b, _, rfl, run_takeDeferred b3, ?_⟩⟩
        exact cleave_sound hcall hgrow hdraw hn n Φ g0 es m (h.set id .dead) ds u _ g (by simpa using hfl) (by simpa using hnb) hg he (hw.putObj (x := .dead) hφ hblk b1 trivial) hds hm hall
      · exact hall.elim
    · exact hall.elim
  | .call f args :: es, m, h, d :: ds, u, w, g, hfl, hnb, hg, he, hw, hd, hm, hall => by
    obtain ⟨⟨as, cs, rfl, hargs⟩, hds⟩ := hd
    unfold cleave at hall
    simp only [forceL_eq] at hall
    split at hall
    · exact hall.elim
    · rename_i gn hf
      split at hall
      · exact hall.elim
      · rename_i c hb
        rw [Dem.all_bind] at hall
        have hall' := Dem.all_each hall (scode_grow (P := P) hgrow n c _ h m hfl)
        have hu : u ≠ .run := by
          cases m with
          | calm => cases hm; simp
          | up v => obtain ⟨_, rfl, _⟩ := hm; simp
          | got v => obtain ⟨_, rfl, _⟩ := hm; simp
        refine ⟨hu, .inr ⟨fun h => by simp [FR, Fence.wide] at h, .func f, cs, f, as ++ cs, rfl, ?_, fun _ _ => trivial, ?_⟩⟩
        · simp only [invoke]
          exact callFunc_enter hn hf hb _ _
        refine callsDIn_of_wpSIn hf hb trivial ?_
        intro c₀ cs' hc₀
        have hc₀' : c₀ = { c₀ with mode := u } := by subst hc₀; rfl
        have henv : VRL g ({ tmps := (as ++ cs) ++ Array.replicate (gn.ntmps - (as ++ cs).size) undef, defers := [] } : Act).tmps.toList (args ++ List.replicate (gn.ntmps - args.length) (.tup [])) := by
          have hl := hargs.length
          simp only [Array.length_toList] at hl
          rw [hl]
          simp only [Array.toList_append, Array.toList_replicate] at hargs ⊢
          exact hargs.append (VRL.replicate .undef' _)
        have hs := scode_sound (nb := nb) hcall hgrow hdraw n c₀ cs' c _ _ h m { tmps := (as ++ cs) ++ Array.replicate (gn.ntmps - (as ++ cs).size) undef, defers := [] } u w g hfl hnb henv hw rfl hm hall'
        rw [← hc₀'] at hs
        intro b k hbk hr hF hroom
        obtain ⟨e, a₁, cs₁, w₁, hl, hq, harr⟩ := hs b k hbk hr hF hroom
        refine ⟨e, a₁, cs₁, w₁, hl, ?_, harr⟩
        have ret : ∀ {tm' : Env} {h' : Heap} {m' : Mode} {g' : Gho} {u' : FrameMode}, (Dem.all Φ (match cresults P gn.results tm' h' with | none => Dem.fail | some _ => cleave P callf n fl fn tm es (match m' with | .got _ => .calm | m => m) h')) → Grow fl h h' → Gle nb g g' → WI w0 g' h' w₁ → VRL g' a₁.tmps.toList tm' → MR g' m' u' →
            ∃ v, (results gn a₁.tmps).run P w₁ = .ok v w₁ ∧ LeavesInM (FR none) 0 P fn a.tmps (CPost w0 nb g0 Φ) ds (settle u') w₁ := by
          intro tm' h' m' g' u' h1 h2 h3 h4 h5 h7
          split at h1
          · exact h1.elim
          · rename_i v hv
            obtain ⟨y, y1, y2⟩ := cresults_fit h4 h5 hv
            refine ⟨y, y1, cleave_sound hcall hgrow hdraw hn n Φ g0 es _ h' ds _ w₁ g' (Nat.le_trans hfl h2.1) (Nat.le_trans hnb h2.1) (hg.trans h3) (he.le h3) h4 (hds.le h3) ?_ h1⟩
            cases m' with
            | calm => cases h7; rfl
            | up c => obtain ⟨v, rfl, hv⟩ := h7; exact ⟨v, rfl, hv⟩
            | got c => obtain ⟨v, rfl, hv⟩ := h7; rfl
        cases e with
        | normal => obtain ⟨tm', h', m', g', u', ⟨h1, h2⟩, h3, h4, h5, h6, rfl, h7⟩ := hq; obtain ⟨y, y1, y2⟩ := ret h1 h2 h3 h4 h5 h7; exact ⟨h6, u', rfl, y, y1, y2⟩
        | ret => obtain ⟨tm', h', m', g', u', ⟨h1, h2⟩, h3, h4, h5, h6, rfl, h7⟩ := hq; obtain ⟨y, y1, y2⟩ := ret h1 h2 h3 h4 h5 h7; exact ⟨h6, u', rfl, y, y1, y2⟩
        | exit id => obtain ⟨tm', h', m', g', u', ⟨h1, h2⟩, _⟩ := hq; exact h1.elim
        | panic ch =>
          obtain ⟨v, v', tm', h', m', g', u', rfl, ⟨h1, h2⟩, h3, h4, h8, h5, h6, rfl, h7⟩ := hq
          cases m' with
          | calm =>
            cases h7
            exact ⟨h6, _, rfl, cleave_sound hcall hgrow hdraw hn n Φ g0 es (.up v') h' ds _ w₁ g' (Nat.le_trans hfl h2.1) (Nat.le_trans hnb h2.1) (hg.trans h3) (he.le h3) h4 (hds.le h3) ⟨v, rfl, h8⟩ h1⟩
          | up c => exact h1.elim
          | got c => exact h1.elim
        | goto l => exact hq.elim
        | outgrown => exact hq.elim

theorem setAll_VRL {g : Gho} : ∀ (ps : List Tmp) {rargs : List Value} {args : List CV} {t : Array Value} {tm : Env}, VRL g t.toList tm → VRL g rargs args →
    VRL g ((ps.zip rargs).foldl (fun tmps (x : Tmp × Value) => tmps.setIfInBounds x.1 x.2) t).toList (setAll tm (ps.zip args))
  | [], _, _, _, _, h, _ => h
  | _ :: _, [], [], _, _, h, _ => h
  | p :: ps, v :: rs, c :: cs, t, tm, h, h' => by
    simp only [List.zip_cons_cons, List.foldl_cons, setAll]
    exact setAll_VRL ps (by simp only [Array.toList_setIfInBounds]; exact h.set p h'.1) h'.2
  | _ :: _, [], _ :: _, _, _, _, h => h.elim
  | _ :: _, _ :: _, [], _, _, _, h => h.elim

/-- A round's end. -/
theorem cend_fit {g g' : Gho} {h : Heap} {w : World} {nb id b L : Nat} {j : Option (Option Nat)} {Φ : Out → Prop} (hall : (cend id j h).all Φ) (hw : WI w0 g' h w) (hg : Gle nb g g') (hφ : g'.φ id = some (b, 0, L)) :
    ∃ v w', (Instr.endRound b (pendOf j)).run P w = .ok v w' ∧ CPost w0 nb g Φ (.returned v) w' := by
  unfold cend at hall
  split at hall
  · rename_i tm ps x y e hblk
    obtain ⟨b1, _, t, f, D, b3, b4⟩ := hw.blk _ _ _ _ _ hφ hblk
    have hlt : b < w.heap.size := (Array.getElem?_eq_some_iff.1 b3).1
    have hj : (pendOf j).isNone = j.isNone := by cases j with
      | none => rfl
      | some j => cases j <;> rfl
    refine ⟨_, _, run_endRound (pendOf j) b3, .bool j.isNone, _, g', hall, hg, ?_, hj ▸ .bool _⟩
    refine hw.putObj hφ hblk b1 ⟨b1, rfl, t, f, D, ?_, b4⟩
    rw [World.putObj_heap_same hlt, hj]
    cases j <;> rfl
  · exact hall.elim

/-- A round. -/
theorem round_fit {callf : CallF} (hcall : CallOk P w0 callf) (hgrow : CallGrow callf) (hdraw : DrawOk P w0 callf) (n : Nat) {fl id : Nat} {args : List CV} {h : Heap} {Φ : Out → Prop} (hall : (cround P callf n fl id args h).all Φ) {g : Gho} {w : World} {rargs : List Value} {b o L : Nat}
    (hw : WI w0 g h w) (hargs : VRL g rargs args) (hfl : fl ≤ h.length) (hφ : g.φ id = some (b, o, L)) : Fit P w0 h.length g Φ ((Instr.yield b rargs.toArray).run P w) := by
  unfold cround at hall
  split at hall
  · rename_i tm ps x y e hblk
    split at hall
    · rename_i hc
      obtain ⟨b1, rfl, t, f1, D, b3, b4⟩ := hw.blk _ _ _ _ _ hφ hblk
      have hy := run_yield (P := P) (args := rargs.toArray) b3 (by simp; rw [hargs.length]; exact hc.2)
      rw [hy]
      have henv := setAll_VRL ps b4 hargs
      rw [Dem.all_bind] at hall
      have hall' := Dem.all_each hall (ccode_grow (P := P) hgrow n x _ h hfl)
      change RoundIn Fence.wide 0 P b f1 _ x y w (CPost w0 h.length g Φ)
      refine roundIn_of_wpIn trivial ?_
      refine wpIn_mono (ccode_sound (ro := some b) (nb := h.length) hcall hgrow hdraw n x [] _ _ h _ w g hfl (Nat.le_refl _) (by simpa using henv) hw rfl hall') ?_
      intro e1 a1 w1 hq
      cases e1 with
      | normal =>
        obtain ⟨tm1, h1, g1, ⟨k1, k2⟩, k3, k4, k5, k6⟩ := hq
        simp only at k1
        split at k1
        · rename_i tm' ps' x' y' e' hblk1
          have hφ1 := k3.ext _ _ hφ
          obtain ⟨c1, _, t2, f2, D2, c3, c4⟩ := k4.blk _ _ _ _ _ hφ1 hblk1
          have hlt : b < w1.heap.size := (Array.getElem?_eq_some_iff.1 c3).1
          refine ⟨_, run_beginRound c3 rfl, ?_⟩
          have hw2 := k4.putObj (x := .loop tm' ps' x' y' 1 e') (ob := .loop { state := .busy, pending := pendOf e', fn := f2, tmps := t2, params := ps'.toArray, assign := x', body := y', defers := D2 }) hφ1 hblk1 c1 ⟨c1, rfl, t2, f2, D2, World.putObj_heap_same hlt, c4⟩
          rw [Dem.all_bind] at k1
          have hl1 : fl ≤ (h1.set id (.loop tm' ps' x' y' 1 e')).length := by simp; exact Nat.le_trans hfl k2.1
          have hl2 : h.length ≤ (h1.set id (.loop tm' ps' x' y' 1 e')).length := by simp; exact k2.1
          refine wpIn_mono (ccode_sound (ro := some b) (nb := h.length) hcall hgrow hdraw n y [] _ tm1 _ a1 _ g1 hl1 hl2 k5 hw2 k6 k1) ?_
          intro e2 a2 w3 hq2
          cases e2 with
          | normal => obtain ⟨tm2, h2, g2, m1, m3, m4, m5, m6⟩ := hq2; exact cend_fit m1 m4 (k3.trans m3) (m3.ext _ _ hφ1)
          | ret => obtain ⟨tm2, h2, g2, m1, m3, m4, m5, m6⟩ := hq2; exact cend_fit (j := some none) m1 m4 (k3.trans m3) (m3.ext _ _ hφ1)
          | exit z => obtain ⟨tm2, h2, g2, m1, m3, m4, m5, m6⟩ := hq2; exact cend_fit (j := some (some z)) m1 m4 (k3.trans m3) (m3.ext _ _ hφ1)
          | panic ch => obtain ⟨v, v', tm2, h2, g2, _, m1, _⟩ := hq2; exact m1.elim
          | goto l => exact hq2.elim
          | outgrown => exact hq2.elim
        · exact k1.elim
      | ret => obtain ⟨tm2, h2, g2, ⟨m1, _⟩, _⟩ := hq; exact m1.elim
      | exit z => obtain ⟨tm2, h2, g2, ⟨m1, _⟩, _⟩ := hq; exact m1.elim
      | panic ch => obtain ⟨v, v', tm2, h2, g2, _, ⟨m1, _⟩, _⟩ := hq; exact m1.elim
      | goto l => exact hq.elim
      | outgrown => exact hq.elim
    · exact hall.elim
  · exact hall.elim

theorem ccall_ok (hm : P.follows .mixedOrders = true) (hn : NamesOk P) (cfg : Cfg) (hcfg : CfgOk P w0 cfg) : ∀ n, CallOk P w0 (ccall P cfg n)
  | 0 => ⟨fun fl f args h Φ hall => hall.elim, fun fl f args h Φ hall => hall.elim⟩
  | n + 1 => by
    have ih := ccall_ok hm hn cfg hcfg n
    have hgrow := ccall_grow (P := P) cfg n
    have hdraw := draw_ok (w0 := w0) hm ih hgrow
    refine ⟨?_, fun fl id args h Φ hall g w rargs b o L hw hargs hfl hφ => round_fit ih hgrow hdraw n hall hw hargs hfl hφ⟩
    intro fl f args h Φ hall g w rargs hw hargs hfl
    unfold ccall at hall
    simp only [forceL_eq] at hall
    split at hall
    · rename_i k hk
      split at hall
      · rename_i v hv
        exact (hcfg.spec f k args v hk hv g h w rargs hw hargs).imp fun o ho => ho ▸ hall
      · exact hall.elim
    · split at hall
      · exact hall.elim
      · rename_i fn hf
        split at hall
        · rename_i hb
          split at hall
          · rename_i v hv
            exact (hcfg.ext f fn args v hf hb hv g h w rargs hw hargs).imp fun o ho => ho ▸ hall
          · exact hall.elim
        · rename_i c hb
          rw [callFunc_enter hn hf hb]
          change Calls P f rargs.toArray w (CPost w0 h.length g Φ)
          have henv : VRL g ({ tmps := rargs.toArray ++ Array.replicate (fn.ntmps - rargs.toArray.size) undef, defers := [] } : Act).tmps.toList (args ++ List.replicate (fn.ntmps - args.length) (.tup [])) := by
            simp only [Array.toList_append, Array.toList_replicate, List.size_toArray]
            rw [hargs.length]
            exact hargs.append (VRL.replicate .undef' _)
          split at hall
          · -- defers
            rw [Dem.all_bind] at hall
            have hall' := Dem.all_each hall (dcode_grow (P := P) hgrow n c _ h [] hfl)
            refine (callsIn_wide (n := 0)).1 (callsIn_of_wp_marks hf hb trivial ?_)
            refine wpIn_mono (dcode_sound (nb := h.length) hn ih hgrow hdraw n c _ _ h [] _ w g hfl (Nat.le_refl _) henv hw trivial hall') ?_
            intro e a₁ w₁ hq
            cases e with
            | normal => obtain ⟨tm, h', ds, g', ⟨h1, h2⟩, h3, h4, h5, h6⟩ := hq; exact cleave_sound ih hgrow hdraw hn n Φ g ds .calm h' _ _ w₁ g' (Nat.le_trans hfl h2.1) h2.1 h3 h5 h4 h6 rfl h1
            | ret => obtain ⟨tm, h', ds, g', ⟨h1, h2⟩, h3, h4, h5, h6⟩ := hq; exact cleave_sound ih hgrow hdraw hn n Φ g ds .calm h' _ _ w₁ g' (Nat.le_trans hfl h2.1) h2.1 h3 h5 h4 h6 rfl h1
            | exit id => obtain ⟨tm, h', ds, g', ⟨h1, h2⟩, _⟩ := hq; exact h1.elim
            | panic chain =>
              obtain ⟨v, v', tm, h', ds, g', rfl, ⟨h1, h2⟩, h3, h4, h7, h5, h6⟩ := hq
              exact cleave_sound ih hgrow hdraw hn n Φ g ds (.up v') h' _ _ w₁ g' (Nat.le_trans hfl h2.1) h2.1 h3 h5 h4 h6 ⟨v, rfl, h7⟩ h1
            | goto l => exact hq.elim
            | outgrown => exact hq.elim
          refine calls_of_wp hf hb ?_
          split at hall
          · -- apart
            rw [Dem.all_bind] at hall
            have hall' := Dem.all_each hall (ccode_grow (P := P) hgrow n c _ h (Nat.le_refl _))
            refine (wpIn_wide (n := 0)).1 (wpIn_mono (ccode_sound (ro := none) (nb := h.length) ih hgrow hdraw n c [] _ _ h _ w g (Nat.le_refl _) (Nat.le_refl _) henv hw rfl hall') ?_)
            intro e a₁ w₁ hq
            have ret : ∀ {tm : Env} {h' : Heap} {g' : Gho}, (Dem.all Φ (match (cresults P fn.results tm h').bind (deepRead h' h.length 1000) with | some v => Dem.ret (Out.val v h) | none => Dem.fail)) → Grow h.length h h' → Gle h.length g g' → WI w0 g' h' w₁ → VRL g' a₁.tmps.toList tm → a₁.defers = [] →
                a₁.defers = [] ∧ ∃ v, (results fn a₁.tmps).run P w₁ = .ok v w₁ ∧ CPost w0 h.length g Φ (.returned v) w₁ := by
              intro tm h' g' h1 h2 h3 h4 h5 h6
              split at h1
              · rename_i v hv
                rw [Option.bind_eq_some_iff] at hv
                obtain ⟨c', k1, k2⟩ := hv
                obtain ⟨y, y1, y2⟩ := cresults_fit h4 h5 k1
                exact ⟨h6, y, y1, v, h, freeze g g' h.length w₁, h1, freeze_le h3, WI.freeze hw h4 h3 rfl h2.2, deepRead_VR h4 h3 _ _ _ _ y2 k2⟩
              · exact h1.elim
            cases e with
            | normal => obtain ⟨tm, h', g', ⟨h1, h2⟩, h3, h4, h5, h6⟩ := hq; exact ret h1 h2 h3 h4 h5 h6
            | ret => obtain ⟨tm, h', g', ⟨h1, h2⟩, h3, h4, h5, h6⟩ := hq; exact ret h1 h2 h3 h4 h5 h6
            | exit id => obtain ⟨tm, h', g', ⟨h1, h2⟩, _⟩ := hq; exact h1.elim
            | panic chain =>
              obtain ⟨v, v', tm, h', g', rfl, ⟨h1, h2⟩, h3, h4, h5, h6, h7⟩ := hq
              simp only at h1
              split at h1
              · rename_i c' k2
                exact ⟨h7, v, c', h, freeze g g' h.length w₁, rfl, h1, freeze_le h3, WI.freeze hw h4 h3 rfl h2.2, deepRead_VR h4 h3 _ _ _ _ h5 k2⟩
              · exact h1.elim
            | goto l => exact hq.elim
            | outgrown => exact hq.elim
          · rw [Dem.all_bind] at hall
            refine (wpIn_wide (n := 0)).1 (wpIn_mono (ccode_sound (ro := none) (nb := h.length) ih hgrow hdraw n c [] _ _ h _ w g hfl (Nat.le_refl _) henv hw rfl hall) ?_)
            intro e a₁ w₁ hq
            have ret : ∀ {tm : Env} {h' : Heap} {g' : Gho}, (Dem.all Φ (match cresults P fn.results tm h' with | some v => Dem.ret (Out.val v h') | none => Dem.fail)) → Gle h.length g g' → WI w0 g' h' w₁ → VRL g' a₁.tmps.toList tm → a₁.defers = [] →
                a₁.defers = [] ∧ ∃ v, (results fn a₁.tmps).run P w₁ = .ok v w₁ ∧ CPost w0 h.length g Φ (.returned v) w₁ := by
              intro tm h' g' h1 h3 h4 h5 h6
              split at h1
              · rename_i v hv
                obtain ⟨y, y1, y2⟩ := cresults_fit h4 h5 hv
                exact ⟨h6, y, y1, v, h', g', h1, h3, h4, y2⟩
              · exact h1.elim
            cases e with
            | normal => obtain ⟨tm, h', g', h1, h3, h4, h5, h6⟩ := hq; exact ret h1 h3 h4 h5 h6
            | ret => obtain ⟨tm, h', g', h1, h3, h4, h5, h6⟩ := hq; exact ret h1 h3 h4 h5 h6
            | exit id => obtain ⟨tm, h', g', h1, _⟩ := hq; exact h1.elim
            | panic chain =>
              obtain ⟨v, v', tm, h', g', rfl, h1, h3, h4, h5, h6, h7⟩ := hq
              exact ⟨h7, v, v', h', g', rfl, h1, h3, h4, h5⟩
            | goto l => exact hq.elim
            | outgrown => exact hq.elim

/-- Nothing is known of real memory but that what stands there stands. -/
def Gho.start (w : World) : Gho := ⟨fun _ => none, fun b o => match w.cell? ⟨b, o, none⟩ with
  | some v => .imm v
  | none => .free⟩

theorem WI.start {w : World} (hgl : ∀ x : Nat, VR (Gho.start w) (.pointer (some ⟨x, 0, none⟩)) (Glob.val x)) : WI w (Gho.start w) [] w := by
  refine ⟨hgl, Below.refl _ _, fun b o v h => ?_, fun b o id h => ?_, fun id x h => by simp [Gho.start] at h, fun id b o L x h => by simp [Gho.start] at h⟩
  · simp only [Gho.start] at h
    split at h
    · rename_i v' hv; cases h; exact hv
    · cases h
  · simp only [Gho.start] at h
    split at h <;> cases h

/-- The evaluator's word on a call. -/
theorem calls_of_ccall (hm : P.follows .mixedOrders = true) (hn : NamesOk P) (cfg : Cfg) {w : World} (hgl : ∀ x : Nat, VR (Gho.start w) (.pointer (some ⟨x, 0, none⟩)) (Glob.val x)) (hcfg : CfgOk P w cfg) {n : Nat} {f : FuncId} {fn : Func} {c : Code} (hf : P.funcs[f]? = some fn) (hb : fn.body = some c)
    {rargs : Array Value} {args : List CV} (hargs : VRL (Gho.start w) rargs.toList args) {Φ : Out → Prop} (hall : (ccall P cfg n 0 (.fn f) args []).all Φ) {R : Ending → World → Prop}
    (hR : ∀ v v' h' g' w', Φ (.val v' h') → WI w g' h' w' → VR g' v v' → R (.returned v) w') (hP : ∀ v v' h' g' w', Φ (.pan v' h') → WI w g' h' w' → VR g' v v' → R (.panicked [{ v, recovered := false }]) w') : Calls P f rargs w R := by
  have h1 := (ccall_ok hm hn cfg hcfg n).fn 0 f args [] Φ hall _ w rargs.toList (WI.start hgl) hargs (Nat.zero_le _)
  rw [Array.toArray_toList, callFunc_enter hn hf hb] at h1
  refine Calls.mono (show Calls P f rargs w (CPost w 0 _ Φ) from h1) fun e w' he => ?_
  cases e with
  | returned v => obtain ⟨v', h', g', k1, k2, k3, k4⟩ := he; exact hR _ _ _ _ _ k1 k3 k4
  | panicked ch => obtain ⟨v, v', h', g', rfl, k1, k2, k3, k4⟩ := he; exact hP _ _ _ _ _ k1 k3 k4
  | outgrown => exact he.elim

def isTrue : Out → Bool
  | .val (.bool true) _ => true
  | _ => false

/-- A law that the evaluator finds true is true. -/
theorem calls_true (hm : P.follows .mixedOrders = true) (hn : NamesOk P) (cfg : Cfg) {w : World} (hgl : ∀ x : Nat, VR (Gho.start w) (.pointer (some ⟨x, 0, none⟩)) (Glob.val x)) (hcfg : CfgOk P w cfg) {n : Nat} {f : FuncId} {fn : Func} {c : Code} (hf : P.funcs[f]? = some fn) (hb : fn.body = some c)
    {rargs : Array Value} {args : List CV} (hargs : VRL (Gho.start w) rargs.toList args) (hall : (ccall P cfg n 0 (.fn f) args []).allB isTrue = true) :
    Calls P f rargs w fun e w' => e = .returned (.bool true) ∧ Below w.heap.size w w' := by
  refine calls_of_ccall hm hn cfg hgl hcfg hf hb hargs (Dem.all_of_allB hall) (fun v v' h' g' w' h1 h2 h3 => ?_) fun v v' h' g' w' h1 _ _ => by simp [isTrue] at h1
  refine ⟨?_, h2.below⟩
  unfold isTrue at h1
  split at h1
  · rename_i heq
    cases heq
    cases h3
    rfl
  · cases h1

/-- Nothing is told of functions that are not run. -/
def Cfg.plain : Cfg := ⟨fun _ => false, fun _ _ => none, fun _ => none, fun _ => false⟩

theorem CfgOk.plain (w : World) : CfgOk P w Cfg.plain := ⟨fun _ _ _ _ _ _ h => (by cases h), fun _ _ _ _ h => (by cases h)⟩

theorem namesOk_of {P : Program} (h : (P.funcs.toList.all fun fn => fn.name != "runtime.NumGoroutine") = true) : NamesOk P := by
  intro f fn hf _ hn
  have := List.all_eq_true.1 h fn (by have := Array.mem_of_getElem? hf; simpa using this)
  simp [hn] at this

end
end Go.CE

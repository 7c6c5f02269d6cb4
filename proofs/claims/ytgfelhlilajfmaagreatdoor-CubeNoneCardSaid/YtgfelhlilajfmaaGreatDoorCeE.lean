/-
  The canonical evaluator: every operation, joined.
-/
import Derived.Test.YtgfelhlilajfmaaGreatDoorCeD3
import Derived.RangeFuncRecord
namespace Go.CE
set_option linter.unusedVariables false
set_option linter.unusedSimpArgs false
set_option linter.unusedSectionVars false
set_option linter.unnecessarySimpa false
open Go.RowKit (Below)
variable [Glob]

/-- How a call may end. -/
def CPost (w0 : World) (nb : Nat) (g : Gho) (Φ : Out → Prop) : Ending → World → Prop
  | .returned v, w' => ∃ v' h' g', Φ (.val v' h') ∧ Gle nb g g' ∧ WI w0 g' h' w' ∧ VR g' v v'
  | .panicked chain, w' => ∃ v v' h' g', chain = [{ v, recovered := false }] ∧ Φ (.pan v' h') ∧ Gle nb g g' ∧ WI w0 g' h' w' ∧ VR g' v v'
  | .outgrown, _ => False

/-- What an operation may come to. -/
def Fit (P : Program) (w0 : World) (nb : Nat) (g : Gho) (Φ : Out → Prop) : Result Next → Prop
  | .ok (.value v) w' => ∃ v' h' g', Φ (.val v' h') ∧ Gle nb g g' ∧ WI w0 g' h' w' ∧ VR g' v v'
  | .ok .skip w' => ∃ v' h' g', Φ (.val v' h') ∧ Gle nb g g' ∧ WI w0 g' h' w' ∧ VR g' undef v'
  | .ok (.enter f args) w' => Calls P f args w' (CPost w0 nb g Φ)
  | .ok (.round l f tmps assign body) w' => RoundIn Fence.wide 0 P l f tmps assign body w' (CPost w0 nb g Φ)
  | .halt (.panic v) w' => ∃ v' h' g', Φ (.pan v' h') ∧ Gle nb g g' ∧ WI w0 g' h' w' ∧ VR g' v v'
  | _ => False

theorem CPost.mono {w0 : World} {n m : Nat} {g : Gho} {Φ Ψ : Out → Prop} (hm : m ≤ n) (hΦ : ∀ o, Φ o → Ψ o) : ∀ {e : Ending} {w : World}, CPost w0 n g Φ e w → CPost w0 m g Ψ e w
  | .returned v, w, ⟨v', h', g', h1, h2, h3, h4⟩ => ⟨v', h', g', hΦ _ h1, h2.mono hm, h3, h4⟩
  | .panicked chain, w, ⟨v, v', h', g', h0, h1, h2, h3, h4⟩ => ⟨v, v', h', g', h0, hΦ _ h1, h2.mono hm, h3, h4⟩

theorem Fit.mono {P : Program} {w0 : World} {n m : Nat} {g : Gho} {Φ : Out → Prop} (hm : m ≤ n) {r : Result Next} (hf : Fit P w0 n g Φ r) : Fit P w0 m g Φ r := by
  unfold Fit at hf
  split at hf
  · obtain ⟨v', h', g', h1, h2, h3, h4⟩ := hf; exact ⟨v', h', g', h1, h2.mono hm, h3, h4⟩
  · obtain ⟨v', h', g', h1, h2, h3, h4⟩ := hf; exact ⟨v', h', g', h1, h2.mono hm, h3, h4⟩
  · exact Calls.mono hf fun e w' => CPost.mono hm (fun _ h => h)
  · exact RoundIn.mono hf fun e w' => CPost.mono hm (fun _ h => h)
  · obtain ⟨v', h', g', h1, h2, h3, h4⟩ := hf; exact ⟨v', h', g', h1, h2.mono hm, h3, h4⟩
  · exact hf.elim

/-- The evaluator of calls tells the truth: of functions, and of rounds. -/
structure CallOk (P : Program) (w0 : World) (callf : CallF) : Prop where
  fn : ∀ (fl : Nat) (f : FuncId) (args : List CV) (h : Heap) (Φ : Out → Prop), (callf fl (.fn f) args h).all Φ → ∀ (g : Gho) (w : World) (rargs : List Value), WI w0 g h w → VRL g rargs args → fl ≤ h.length →
    Fit P w0 h.length g Φ ((callFunc f rargs.toArray).run P w)
  rnd : ∀ (fl id : Nat) (args : List CV) (h : Heap) (Φ : Out → Prop), (callf fl (.rnd id) args h).all Φ → ∀ (g : Gho) (w : World) (rargs : List Value) (b o L : Nat), WI w0 g h w → VRL g rargs args → fl ≤ h.length → g.φ id = some (b, o, L) →
    Fit P w0 h.length g Φ ((Instr.yield b rargs.toArray).run P w)

section
variable {P : Program} {w0 w : World} {g : Gho} {h : Heap} {nb : Nat} {Φ : Out → Prop}

theorem fit_val {s : Sem Value} {y : Value} {w' : World} {v : CV} {h' : Heap} {g' : Gho} (hs : s.run P w = .ok y w') (hΦ : Φ (.val v h')) (hg : Gle nb g g') (hw : WI w0 g' h' w') (hv : VR g' y v) :
    Fit P w0 nb g Φ ((do pure (.value (← s)) : Sem Next).run P w) := by
  rw [Sem.run_bind, hs]
  exact ⟨v, h', g', hΦ, hg, hw, hv⟩

theorem fit_skip {s : Sem Unit} {w' : World} {h' : Heap} {g' : Gho} (hs : s.run P w = .ok () w') (hΦ : Φ (.val (.tup []) h')) (hg : Gle nb g g') (hw : WI w0 g' h' w') :
    Fit P w0 nb g Φ ((do s; pure .skip : Sem Next).run P w) := by
  rw [Sem.run_bind, hs]
  exact ⟨.tup [], h', g', hΦ, hg, hw, .undef'⟩

theorem vh_all {r : Option CV} (hh : (vh r h).all Φ) : ∃ v, r = some v ∧ Φ (.val v h) := by
  cases r with
  | none => exact hh.elim
  | some v => exact ⟨v, rfl, hh⟩
theorem vhh_all {r : Option (CV × Heap)} (hh : (vhh r).all Φ) : ∃ v h', r = some (v, h') ∧ Φ (.val v h') := by
  cases r with
  | none => exact hh.elim
  | some v => exact ⟨v.1, v.2, rfl, hh⟩
theorem sh_all {r : Option Heap} (hh : (sh r).all Φ) : ∃ h', r = some h' ∧ Φ (.val (.tup []) h') := by
  cases r with
  | none => exact hh.elim
  | some v => exact ⟨v, rfl, hh⟩

theorem parts_rel {a : Act} {tm : Env} (he : VRL g a.tmps.toList tm) (hw : WI w0 g h w) (parts : Array (Nat × Operand)) :
    ((parts.map fun p => (p.1, a.eval p.2)).toList.length = (parts.toList.map fun p => (p.1, ceval tm p.2)).length ∧
      ∀ (j : Nat) (p : Nat × Value) (p' : Nat × CV), (parts.map fun p => (p.1, a.eval p.2)).toList[j]? = some p → (parts.toList.map fun p => (p.1, ceval tm p.2))[j]? = some p' → p.1 = p'.1 ∧ VR g p.2 p'.2) := by
  refine ⟨by simp, fun j p p' h1 h2 => ?_⟩
  simp only [Array.toList_map, List.getElem?_map] at h1 h2
  cases hq : parts.toList[j]? with
  | none => simp [hq] at h1
  | some q =>
    simp only [hq, Option.map_some, Option.some.injEq] at h1 h2
    subst h1; subst h2
    exact ⟨rfl, ceval_VR he hw _⟩

theorem opt_rel {a : Act} {tm : Env} (he : VRL g a.tmps.toList tm) (hw : WI w0 g h w) (x : Option Operand) : VRO g (x.map a.eval) (x.map (ceval tm)) := by
  cases x with
  | none => trivial
  | some x => exact ceval_VR he hw x

theorem args_rel {a : Act} {tm : Env} (he : VRL g a.tmps.toList tm) (hw : WI w0 g h w) (xs : Array Operand) : VRL g (xs.map a.eval).toList (xs.toList.map (ceval tm)) := by
  rw [Array.toList_map]
  exact VRL.map fun x _ => ceval_VR he hw x

theorem zcells_spec {t : TypeId} {z : List CV} (hz : zcells P t = some z) : ∃ v, (∀ w, (zeroValue t).run P w = .ok v w) ∧ ∀ g, VRL g v.cells.toList z := by
  unfold zcells at hz
  split at hz
  · cases hz
  · rename_i cs hc
    cases hz
    obtain ⟨v, h1, h2⟩ := zeroOf_spec hc
    exact ⟨v, h1, fun g => cells_VR (g := g) (c := .agg z) (h2 ▸ ofConst_VR g v) (by simp)⟩
  · rename_i c hna hnagg hc
    cases hz
    obtain ⟨v, h1, h2⟩ := zeroOf_spec hc
    refine ⟨v, h1, fun g => ?_⟩
    have := cells_VR (g := g) (c := c) (h2 ▸ ofConst_VR g v) (fun e => hna (e ▸ rfl))
    have hcc : ccells c = [c] := by
      cases c <;> first | rfl | exact (hnagg _ rfl).elim
    rwa [hcc] at this
  · cases hz

theorem repCells_VRL {z : Array Value} {cz : List CV} (hz : VRL g z.toList cz) : ∀ n, VRL g (List.replicate n z.toList).flatten (repCells n cz)
  | 0 => trivial
  | n + 1 => by
    simp only [repCells, List.replicate_succ, List.flatten_cons]
    exact hz.append (repCells_VRL hz n)

theorem range_flatten (z : Array Value) (hz : 0 < z.size) : ∀ n, ((Array.range (n * z.size)).map fun j => z[j % z.size]!).toList = (List.replicate n z.toList).flatten
  | 0 => by simp
  | n + 1 => by
    have ih := range_flatten z hz n
    simp only [Array.toList_map, Array.toList_range] at ih ⊢
    rw [show (n + 1) * z.size = n * z.size + z.size by rw [Nat.add_mul, Nat.one_mul], List.range_add, List.map_append, ih, List.replicate_succ', List.flatten_append]
    congr 1
    simp only [List.map_map, List.flatten_cons, List.flatten_nil, List.append_nil]
    apply List.ext_getElem?
    intro j
    by_cases hj : j < z.size
    · simp only [List.getElem?_map, List.getElem?_range hj, Option.map_some, Function.comp]
      rw [Nat.mul_comm, Nat.mul_add_mod, Nat.mod_eq_of_lt hj]
      simp [hj]
    · simp [Nat.le_of_not_lt hj]

theorem places_run {fields : Array Field} {pl : List (Nat × Nat)} (h : fieldPlaces P fields = some pl) : (fields.mapM fun f => do pure (f.offset, ← sizeOf f.type) : Sem (Array (Nat × Nat))).run P w = .ok pl.toArray w := by
  unfold fieldPlaces at h
  rw [Array.mapM_eq_mapM_toList]
  generalize fields.toList = l at h
  have : ∀ (l : List Field) (pl : List (Nat × Nat)), (l.mapM fun f => (szOf P f.type).map fun n => (f.offset, n)) = some pl → (l.mapM fun f => do pure (f.offset, ← sizeOf f.type) : Sem (List (Nat × Nat))).run P w = .ok pl w := by
    intro l
    induction l with
    | nil => intro pl h; simp at h; subst h; rfl
    | cons f l ih =>
      intro pl h
      rw [List.mapM_cons] at h
      simp only [bind, Option.bind_eq_some_iff, pure, Option.some.injEq, Option.map_eq_some_iff] at h
      obtain ⟨x, ⟨n, hn, rfl⟩, pl', hpl', rfl⟩ := h
      rw [List.mapM_cons, Sem.run_bind, Sem.run_bind, run_sizeOf hn]
      simp only [Result.andThen_ok, Sem.run_pure, Sem.run_bind, ih pl' hpl']
  rw [Sem.run_map, this l pl h]
  rfl

theorem fill_size : ∀ {parts : List (Nat × Value)} {place : Nat → Option (Nat × Nat)} {cells out : Array Value}, Instr.fill place cells parts = some out → out.size = cells.size
  | [], place, cells, out, h => by simp [Instr.fill] at h; rw [h]
  | (i, v) :: rest, place, cells, out, h => by
    simp only [Instr.fill] at h
    split at h
    · cases h
    · split at h
      · cases h
      · rw [fill_size h]
        have : ∀ (l : List (Value × Nat)) (off : Nat) (cs : Array Value), (l.foldl (fun cs (p : Value × Nat) => cs.setIfInBounds (off + p.2) p.1) cs).size = cs.size := by
          intro l
          induction l with
          | nil => intro off cs; rfl
          | cons p l ih => intro off cs; simp [ih]
        rw [← Array.foldl_toList]
        exact this _ _ _

theorem wrap_id {n : Int} (h0 : 0 ≤ n) (h1 : n < 9223372036854775808) : IntKind.i64.wrap n = n := by
  have hm : n % (2 ^ IntKind.i64.bits : Int) = n := Int.emod_eq_of_lt h0 (by simp [IntKind.bits]; omega)
  unfold IntKind.wrap
  simp only [hm]
  rw [if_neg]
  simp [IntKind.bits, IntKind.signed]
  omega

theorem call_fit {callf : CallF} (hcall : CallOk P w0 callf) {fl : Nat} (hw : WI w0 g h w) {u : Value} {f : CV} {us : Array Value} {args : List CV} (hf : VR g u f) (ha : VRL g us.toList args) (hfl : fl ≤ h.length) (hnb : nb ≤ h.length)
    (hall : (callTo callf fl f args h).all Φ) : Fit P w0 nb g Φ ((do let d ← Deferred.ofValue u us; invoke d.target d.args : Sem Next).run P w) := by
  unfold callTo at hall
  split at hall
  · rename_i f' first cap
    cases hf with
    | fn _ fs cs _ _ h1 h2 h3 h4 =>
    have hfs := VRL_iff.2 ⟨h1, h3⟩
    have hcs := VRL_iff.2 ⟨h2, h4⟩
    have := hcall.fn fl f' _ h Φ hall g w ((fs ++ us) ++ cs).toList hw (by simp only [Array.toList_append]; exact (hfs.append ha).append hcs) hfl
    simp only [Array.toArray_toList] at this
    simp only [Deferred.ofValue, Sem.run_bind, Sem.run_pure, Result.andThen_ok, invoke]
    exact this.mono hnb
  · cases hf with
    | yld id b o L hφ =>
    have := hcall.rnd fl _ _ h Φ hall g w us.toList b o L hw ha hfl hφ
    simp only [Array.toArray_toList] at this
    simp only [Deferred.ofValue, Sem.run_bind, Sem.run_pure, Result.andThen_ok, invoke]
    have e : (#[] : Array Value) ++ us = us := by simp
    rw [e]
    exact this.mono hnb
  · exact hall.elim

theorem minmax_int (mx : Bool) (k : IntKind) : ∀ (us : List Value) (cs : List CV) (m n : Int), VRL g us cs →
    cs.foldl (fun acc x => match acc, x with
      | some m, .int _ b => some (if mx then (if b > m then b else m) else (if b < m then b else m))
      | _, _ => none) (some m) = some n →
    (us.foldlM (if mx then Builtin.max2 else Builtin.min2) (.int k m)).run P w = .ok (.int k n) w
  | [], [], m, n, _, h => by simp at h; subst h; rfl
  | u :: us, c :: cs, m, n, hv, h => by
    simp only [List.foldl_cons] at h
    have hnone : ∀ l : List CV, l.foldl (fun acc x => match acc, x with
      | some m, .int _ b => some (if mx then (if b > m then b else m) else (if b < m then b else m))
      | _, _ => none) (none : Option Int) = none := by
      intro l
      induction l with
      | nil => rfl
      | cons c l ih => simpa using ih
    cases c with
    | int k' b =>
      obtain ⟨hv1, hv2⟩ := hv
      cases hv1
      simp only at h
      have ih := minmax_int mx k us cs _ n hv2 h
      rw [List.foldlM_cons, Sem.run_bind]
      cases mx
      · simp only [Bool.false_eq_true, if_false] at ih ⊢
        simp only [Builtin.min2, Sem.run_pure, Result.andThen_ok]
        exact ih
      · simp only [if_true] at ih ⊢
        simp only [Builtin.max2, Sem.run_pure, Result.andThen_ok]
        exact ih
    | _ => simp only [hnone] at h; cases h

theorem mm_fit (mx : Bool) {us : Array Value} {args : List CV} {v : CV} (ha : VRL g us.toList args) (hc : cminmax mx args = some v) :
    ∃ y, (match us.toList with | [] => stuck "" | x :: rest => rest.foldlM (if mx then Builtin.max2 else Builtin.min2) x : Sem Value).run P w = .ok y w ∧ VR g y v ∧ us.toList ≠ [] := by
  unfold cminmax at hc
  split at hc
  · cases hc
  · rename_i k m rest
    cases hq : us.toList with
    | nil => rw [hq] at ha; exact ha.elim
    | cons u us' =>
      rw [hq] at ha
      obtain ⟨h1, h2⟩ := ha
      cases h1
      simp only [Option.map_eq_some_iff] at hc
      obtain ⟨n, hn, rfl⟩ := hc
      exact ⟨.int k n, minmax_int mx k us' rest m n h2 hn, .int _ _, by simp⟩
  · cases hc

theorem minmax_fit {ts : Array TypeId} {ty : TypeId} {us : Array Value} {args : List CV} {v : CV} (ha : VRL g us.toList args) (hc : cminmax false args = some v) :
    ∃ y, ((Builtin.min_ ts ty us).run P w = .ok y w ∧ True) ∧ VR g y v := by
  obtain ⟨y, h1, h2, h3⟩ := mm_fit (P := P) (w := w) false ha hc
  refine ⟨y, ⟨?_, trivial⟩, h2⟩
  unfold Builtin.min_
  cases hq : us.toList with
  | nil => exact (h3 hq).elim
  | cons x rest => rw [hq] at h1; simpa using h1

theorem maxmin_fit {ts : Array TypeId} {ty : TypeId} {us : Array Value} {args : List CV} {v : CV} (ha : VRL g us.toList args) (hc : cminmax true args = some v) :
    ∃ y, ((Builtin.max_ ts ty us).run P w = .ok y w ∧ True) ∧ VR g y v := by
  obtain ⟨y, h1, h2, h3⟩ := mm_fit (P := P) (w := w) true ha hc
  refine ⟨y, ⟨?_, trivial⟩, h2⟩
  unfold Builtin.max_
  cases hq : us.toList with
  | nil => exact (h3 hq).elim
  | cons x rest => rw [hq] at h1; simpa using h1

theorem builtin_fit {fl : Nat} (hw : WI w0 g h w) (hnb : nb ≤ h.length) {b : Builtin} {ts : Array TypeId} {ty : TypeId} {cs : Array Bool} {us : Array Value} {args : List CV} {v : CV} {h' : Heap} (ha : VRL g us.toList args)
    (hc : cbuiltin P fl b ts.toList h args = some (v, h')) (hΦ : Φ (.val v h')) : Fit P w0 nb g Φ ((builtin b ts ty cs us).run P w) := by
  unfold cbuiltin at hc
  split at hc
  · -- append
    rename_i t u s x hts
    split at hc
    · cases hc
    · rename_i du hnot hu
      cases us with
      | mk l =>
      cases ts with
      | mk lt =>
      match l, ha with
      | [vs, vx], ⟨h1, h2, _⟩ =>
        subst hts
        obtain ⟨y, w', g', k1, k2, k3, k4⟩ := append_fit (ty := ty) hw h1 h2 hu hnot hc
        exact fit_val k1 hΦ (k2.mono hnb) k3 k4
    · cases hc
  · rename_i t ts' x xs hts
    cases us with
    | mk l =>
    cases ts with
    | mk lt =>
    match l, ha with
    | u :: us', ⟨h1, _⟩ =>
      subst hts
      simp only [Option.map_eq_some_iff, Prod.mk.injEq] at hc
      obtain ⟨c, hc, rfl, rfl⟩ := hc
      obtain ⟨z, k1, k2⟩ := len_fit (P := P) (ts := ts') (ty := ty) (us := us') hw h1 hc
      exact fit_val k1 hΦ (Gle.refl _ _) hw k2
  · rename_i t ts' x xs hts
    cases us with
    | mk l =>
    cases ts with
    | mk lt =>
    match l, ha with
    | u :: us', ⟨h1, _⟩ =>
      subst hts
      simp only [Option.map_eq_some_iff, Prod.mk.injEq] at hc
      obtain ⟨c, hc, rfl, rfl⟩ := hc
      obtain ⟨z, k1, k2⟩ := cap_fit (P := P) (w := w) (ts := ts') (ty := ty) (us := us') h1 hc
      exact fit_val k1 hΦ (Gle.refl _ _) hw k2
  · rename_i t ts' d s hts
    cases us with
    | mk l =>
    cases ts with
    | mk lt =>
    match l, ha with
    | [vd, vs], ⟨h1, h2, _⟩ =>
      subst hts
      obtain ⟨y, w', k1, k2, k3⟩ := copy_fit (P := P) (ts := ts') (ty := ty) hw h1 h2 hc
      exact fit_val k1 hΦ (Gle.refl _ _) k2 k3
  · rename_i t ts' m k hts
    cases us with
    | mk l =>
    cases ts with
    | mk lt =>
    match l, ha with
    | [vm, vk], ⟨h1, h2, _⟩ =>
      subst hts
      simp only [Option.map_eq_some_iff, Prod.mk.injEq] at hc
      obtain ⟨c, hc, rfl, rfl⟩ := hc
      obtain ⟨w', k1, k2⟩ := delete_fit (P := P) (ts := ts') (ty := ty) hw h1 h2 hc
      exact fit_val k1 hΦ (Gle.refl _ _) k2 (.tup' trivial)
  · simp only [Option.map_eq_some_iff, Prod.mk.injEq] at hc
    obtain ⟨c, hc, rfl, rfl⟩ := hc
    obtain ⟨y, k1, k2⟩ := minmax_fit (P := P) (w := w) (g := g) (ts := ts) (ty := ty) ha hc
    exact fit_val k1.1 hΦ (Gle.refl _ _) hw k2
  · simp only [Option.map_eq_some_iff, Prod.mk.injEq] at hc
    obtain ⟨c, hc, rfl, rfl⟩ := hc
    obtain ⟨y, k1, k2⟩ := maxmin_fit (P := P) (w := w) (g := g) (ts := ts) (ty := ty) ha hc
    exact fit_val k1.1 hΦ (Gle.refl _ _) hw k2
  · cases hc

theorem op_move {callf : CallF} (hcall : CallOk P w0 callf) {fl : Nat} {slot : Option Nat} {tm : Env} {a : Act} (he : VRL g a.tmps.toList tm) (hw : WI w0 g h w) (hslot : SlotOk g h nb slot) (hnb : nb ≤ h.length) (hfl : fl ≤ h.length) (o : Oper)
    (x : _) (hop : o.op = .move x) (hall : (opRun P callf fl slot tm o h).all Φ) : Fit P w0 nb g Φ ((execOp a.eval o).run P w) := by
  obtain ⟨dst, op, type, pos, after, guard⟩ := o
  cases hop
  simp only [opRun] at hall
  simp only [execOp]
  exact ⟨_, _, g, hall, Gle.refl _ _, hw, ceval_VR he hw x⟩

theorem op_assign {callf : CallF} (hcall : CallOk P w0 callf) {fl : Nat} {slot : Option Nat} {tm : Env} {a : Act} (he : VRL g a.tmps.toList tm) (hw : WI w0 g h w) (hslot : SlotOk g h nb slot) (hnb : nb ≤ h.length) (hfl : fl ≤ h.length) (o : Oper)
    (x : _) (hop : o.op = .assign x) (hall : (opRun P callf fl slot tm o h).all Φ) : Fit P w0 nb g Φ ((execOp a.eval o).run P w) := by
  obtain ⟨dst, op, type, pos, after, guard⟩ := o
  cases hop
  simp only [opRun] at hall
  simp only [execOp]
  exact ⟨_, _, g, hall, Gle.refl _ _, hw, ceval_VR he hw x⟩

theorem op_pick {callf : CallF} (hcall : CallOk P w0 callf) {fl : Nat} {slot : Option Nat} {tm : Env} {a : Act} (he : VRL g a.tmps.toList tm) (hw : WI w0 g h w) (hslot : SlotOk g h nb slot) (hnb : nb ≤ h.length) (hfl : fl ≤ h.length) (o : Oper)
    (c : _) (x : _) (y : _) (hop : o.op = .pick c x y) (hall : (opRun P callf fl slot tm o h).all Φ) : Fit P w0 nb g Φ ((execOp a.eval o).run P w) := by
  obtain ⟨dst, op, type, pos, after, guard⟩ := o
  cases hop
  simp only [opRun] at hall
  simp only [execOp]
  have hc := ceval_VR he hw c
  split at hall
  · rename_i t ht
    rw [ht] at hc
    generalize a.eval c = ec at hc
    cases hc
    simp only [asBool, Sem.run_bind, Sem.run_pure, Result.andThen_ok]
    cases t
    · exact ⟨_, _, g, hall, Gle.refl _ _, hw, ceval_VR he hw y⟩
    · exact ⟨_, _, g, hall, Gle.refl _ _, hw, ceval_VR he hw x⟩
  · exact hall.elim

theorem op_alloc {callf : CallF} (hcall : CallOk P w0 callf) {fl : Nat} {slot : Option Nat} {tm : Env} {a : Act} (he : VRL g a.tmps.toList tm) (hw : WI w0 g h w) (hslot : SlotOk g h nb slot) (hnb : nb ≤ h.length) (hfl : fl ≤ h.length) (o : Oper)
    (t : _) (hop : o.op = .alloc t) (hall : (opRun P callf fl slot tm o h).all Φ) : Fit P w0 nb g Φ ((execOp a.eval o).run P w) := by
  obtain ⟨dst, op, type, pos, after, guard⟩ := o
  cases hop
  simp only [opRun] at hall
  simp only [execOp]
  split at hall
  · rename_i z hz
    obtain ⟨v, h1, h2⟩ := zcells_spec hz
    obtain ⟨g', k1, k2, k3⟩ := place_rowAll (T := t) hw hslot (h2 g)
    refine fit_val (s := Instr.alloc t true (.tuple #[])) (y := .pointer (some ⟨w.heap.size, 0, none⟩)) ?_ hall k1 k2 (.hp _ 0 w.heap.size 0 _ k3)
    simp [Instr.alloc, h1, newVar, newRow]
  · exact hall.elim

theorem op_box {callf : CallF} (hcall : CallOk P w0 callf) {fl : Nat} {slot : Option Nat} {tm : Env} {a : Act} (he : VRL g a.tmps.toList tm) (hw : WI w0 g h w) (hslot : SlotOk g h nb slot) (hnb : nb ≤ h.length) (hfl : fl ≤ h.length) (o : Oper)
    (t : _) (x : _) (hop : o.op = .box t x) (hall : (opRun P callf fl slot tm o h).all Φ) : Fit P w0 nb g Φ ((execOp a.eval o).run P w) := by
  obtain ⟨dst, op, type, pos, after, guard⟩ := o
  cases hop
  simp only [opRun] at hall
  simp only [execOp]
  split at hall
  · exact hall.elim
  · rename_i hne
    have hv := ceval_VR he hw x
    have hcv := cells_VR hv (fun e => hne e)
    obtain ⟨g', k1, k2, k3⟩ := place_rowAll (T := t) hw hslot hcv
    refine fit_val (s := Instr.box t (a.eval x)) (y := .pointer (some ⟨w.heap.size, 0, none⟩)) ?_ hall k1 k2 (.hp _ 0 w.heap.size 0 _ k3)
    simp [Instr.box, newVar, newRow]

theorem op_build {callf : CallF} (hcall : CallOk P w0 callf) {fl : Nat} {slot : Option Nat} {tm : Env} {a : Act} (he : VRL g a.tmps.toList tm) (hw : WI w0 g h w) (hslot : SlotOk g h nb slot) (hnb : nb ≤ h.length) (hfl : fl ≤ h.length) (o : Oper)
    (t : _) (parts : _) (hop : o.op = .build t parts) (hall : (opRun P callf fl slot tm o h).all Φ) : Fit P w0 nb g Φ ((execOp a.eval o).run P w) := by
  obtain ⟨dst, op, type, pos, after, guard⟩ := o
  cases hop
  simp only [opRun] at hall
  simp only [execOp]
  split at hall
  · rename_i fields z hu hz
    obtain ⟨v, h1, h2⟩ := zcells_spec hz
    split at hall
    · rename_i pl hpl
      obtain ⟨r, hr, hΦ⟩ := vh_all hall
      simp only [Option.map_eq_some_iff] at hr
      obtain ⟨out, ho, rfl⟩ := hr
      obtain ⟨o', k1, k2⟩ := fill_fit (parts_rel he hw parts) (h2 g) ho
      have hpl' : (fields.mapM fun f => do pure (f.offset, ← sizeOf f.type) : Sem (Array (Nat × Nat))).run P w = .ok pl.toArray w := places_run hpl
      have hpe : (fun (i : Nat) => pl.toArray[i]?) = fun (i : Nat) => pl[i]? := by funext i; simp
      have hs : (Instr.build t (parts.map fun p => (p.1, a.eval p.2))).run P w = .ok (.agg o') w := by
        simp only [Instr.build, Sem.run_bind, h1, Result.andThen_ok, run_underlying hu, hpl', hpe, k1]
        rfl
      exact fit_val hs hΦ (Gle.refl _ _) hw (.agg' k2)
    · exact hall.elim
  · rename_i n e z hu hz
    obtain ⟨v, h1, h2⟩ := zcells_spec hz
    split at hall
    · rename_i m hm
      obtain ⟨r, hr, hΦ⟩ := vh_all hall
      simp only [Option.map_eq_some_iff] at hr
      obtain ⟨out, ho, rfl⟩ := hr
      obtain ⟨o', k1, k2⟩ := fill_fit (parts_rel he hw parts) (h2 g) ho
      have hs : (Instr.build t (parts.map fun p => (p.1, a.eval p.2))).run P w = .ok (.agg o') w := by
        simp only [Instr.build, Sem.run_bind, h1, Result.andThen_ok, run_underlying hu, run_sizeOf hm, k1]
        rfl
      exact fit_val hs hΦ (Gle.refl _ _) hw (.agg' k2)
    · exact hall.elim
  · exact hall.elim

theorem op_buildSlice {callf : CallF} (hcall : CallOk P w0 callf) {fl : Nat} {slot : Option Nat} {tm : Env} {a : Act} (he : VRL g a.tmps.toList tm) (hw : WI w0 g h w) (hslot : SlotOk g h nb slot) (hnb : nb ≤ h.length) (hfl : fl ≤ h.length) (o : Oper)
    (t : _) (len : _) (parts : _) (hop : o.op = .buildSlice t len parts) (hall : (opRun P callf fl slot tm o h).all Φ) : Fit P w0 nb g Φ ((execOp a.eval o).run P w) := by
  obtain ⟨dst, op, type, pos, after, guard⟩ := o
  cases hop
  simp only [opRun] at hall
  simp only [execOp]
  split at hall
  · rename_i e hu
    split at hall
    · rename_i n z hn hz
      obtain ⟨v, h1, h2⟩ := zcells_spec hz
      split at hall
      · rename_i hcond
        obtain ⟨hlen, hzl, hn0⟩ := hcond
        split at hall
        · rename_i cells hcells
          have hzs : v.cells.size = n := by have := (h2 g).length; simp at this; omega
          have hrep := repCells_VRL (h2 g) len
          obtain ⟨o', k1, k2⟩ := fill_fit (cells := ((Array.range (len * n)).map fun j => v.cells[j % v.cells.size]!)) (parts_rel he hw parts) (by rw [← hzs, range_flatten _ (by omega)]; exact hrep) hcells
          obtain ⟨g', j1, j2, j3⟩ := place_rowAll (T := e) hw hslot k2
          have hol : o'.size = len * n := by
            have := fill_size k1
            rw [this]; simp
          have hlt : ¬ (len * n > 2 ^ 24) := by omega
          have hs : (Instr.buildSlice t len (parts.map fun p => (p.1, a.eval p.2))).run P w = .ok (.slice (some ⟨w.heap.size, 0, none⟩) len len) (w.alloc (.cells o' e)) := by
            simp only [Instr.buildSlice, Sem.run_bind, run_underlying hu, Result.andThen_ok, run_sizeOf hn, hlt, if_false]
            by_cases h0 : len * n = 0
            · simp only [h0, if_true, Sem.run_pure, Result.andThen_ok]
              have e1 : (Array.range 0).map (fun j => (#[] : Array Value)[j % (#[] : Array Value).size]!) = #[] := by simp [Array.range]
              have e2 : (Array.range (len * n)).map (fun j => v.cells[j % v.cells.size]!) = #[] := by rw [h0]; simp [Array.range]
              rw [e2] at k1
              rw [Sem.run_bind, Sem.run_pure]
              simp only [Result.andThen_ok]
              rw [e1, k1]
              simp only [Sem.run_bind, newRow, run_newObj, Sem.run_pure, Result.andThen_ok]
              rfl
            · simp only [h0, if_false, Sem.run_bind, h1, Result.andThen_ok, Sem.run_pure, k1, newRow, run_newObj]
              rfl
          have hv : VR g' (.slice (some ⟨w.heap.size, 0, none⟩) len len) (.hs (place slot h (.row cells)).1 0 len n (some len)) :=
            .hs _ _ _ _ _ _ _ w.heap.size 0 _ j3 (Nat.le_refl _) (fun k hk => by cases hk; rfl) (fun _ => ⟨rfl, by rw [hol]; omega⟩)
          exact fit_val hs hall j1 j2 hv
        · exact hall.elim
      · exact hall.elim
    · exact hall.elim
  · exact hall.elim

theorem op_load {callf : CallF} (hcall : CallOk P w0 callf) {fl : Nat} {slot : Option Nat} {tm : Env} {a : Act} (he : VRL g a.tmps.toList tm) (hw : WI w0 g h w) (hslot : SlotOk g h nb slot) (hnb : nb ≤ h.length) (hfl : fl ≤ h.length) (o : Oper)
    (t : _) (x : _) (hop : o.op = .load t x) (hall : (opRun P callf fl slot tm o h).all Φ) : Fit P w0 nb g Φ ((execOp a.eval o).run P w) := by
  obtain ⟨dst, op, type, pos, after, guard⟩ := o
  cases hop
  simp only [opRun] at hall
  simp only [execOp]
  obtain ⟨v, hv, hΦ⟩ := vh_all hall
  obtain ⟨y, k1, k2⟩ := load_fit hw (ceval_VR he hw x) hv
  exact fit_val k1 hΦ (Gle.refl _ _) hw k2

theorem op_store {callf : CallF} (hcall : CallOk P w0 callf) {fl : Nat} {slot : Option Nat} {tm : Env} {a : Act} (he : VRL g a.tmps.toList tm) (hw : WI w0 g h w) (hslot : SlotOk g h nb slot) (hnb : nb ≤ h.length) (hfl : fl ≤ h.length) (o : Oper)
    (t : _) (x : _) (y : _) (hop : o.op = .store t x y) (hall : (opRun P callf fl slot tm o h).all Φ) : Fit P w0 nb g Φ ((execOp a.eval o).run P w) := by
  obtain ⟨dst, op, type, pos, after, guard⟩ := o
  cases hop
  simp only [opRun] at hall
  simp only [execOp]
  obtain ⟨h', hh, hΦ⟩ := sh_all hall
  obtain ⟨w', k1, k2⟩ := store_fit hw (ceval_VR he hw x) (ceval_VR he hw y) hh
  exact fit_skip k1 hΦ (Gle.refl _ _) k2

theorem op_nilCheck {callf : CallF} (hcall : CallOk P w0 callf) {fl : Nat} {slot : Option Nat} {tm : Env} {a : Act} (he : VRL g a.tmps.toList tm) (hw : WI w0 g h w) (hslot : SlotOk g h nb slot) (hnb : nb ≤ h.length) (hfl : fl ≤ h.length) (o : Oper)
    (x : _) (hop : o.op = .nilCheck x) (hall : (opRun P callf fl slot tm o h).all Φ) : Fit P w0 nb g Φ ((execOp a.eval o).run P w) := by
  obtain ⟨dst, op, type, pos, after, guard⟩ := o
  cases hop
  simp only [opRun] at hall
  simp only [execOp]
  have hv := ceval_VR he hw x
  generalize a.eval x = u at hv ⊢
  generalize ceval tm x = c at hv hall
  cases hv
  case fn f fs cs fs' cs' h1 h2 h3 h4 =>
    cases f <;> first
      | exact hall.elim
      | exact ⟨_, _, g, hall, Gle.refl _ _, hw, .fn _ _ _ _ _ h1 h2 h3 h4⟩
  all_goals first
    | exact hall.elim
    | exact ⟨_, _, g, hall, Gle.refl _ _, hw, by constructor <;> assumption⟩
    | skip

theorem op_binOp {callf : CallF} (hcall : CallOk P w0 callf) {fl : Nat} {slot : Option Nat} {tm : Env} {a : Act} (he : VRL g a.tmps.toList tm) (hw : WI w0 g h w) (hslot : SlotOk g h nb slot) (hnb : nb ≤ h.length) (hfl : fl ≤ h.length) (o : Oper)
    (bop : _) (t : _) (x : _) (y : _) (yt : _) (hop : o.op = .binOp bop t x y yt) (hall : (opRun P callf fl slot tm o h).all Φ) : Fit P w0 nb g Φ ((execOp a.eval o).run P w) := by
  obtain ⟨dst, op, type, pos, after, guard⟩ := o
  cases hop
  simp only [opRun] at hall
  simp only [execOp]
  obtain ⟨v, hv, hΦ⟩ := vh_all hall
  obtain ⟨z, k1, k2⟩ := bin_fit (P := P) (w := w) (ceval_VR he hw x) (ceval_VR he hw y) hv
  exact fit_val k1 hΦ (Gle.refl _ _) hw k2

theorem op_unOp {callf : CallF} (hcall : CallOk P w0 callf) {fl : Nat} {slot : Option Nat} {tm : Env} {a : Act} (he : VRL g a.tmps.toList tm) (hw : WI w0 g h w) (hslot : SlotOk g h nb slot) (hnb : nb ≤ h.length) (hfl : fl ≤ h.length) (o : Oper)
    (uop : _) (t : _) (x : _) (hop : o.op = .unOp uop t x) (hall : (opRun P callf fl slot tm o h).all Φ) : Fit P w0 nb g Φ ((execOp a.eval o).run P w) := by
  obtain ⟨dst, op, type, pos, after, guard⟩ := o
  cases hop
  simp only [opRun] at hall
  simp only [execOp]
  split at hall
  · rename_i v hv
    obtain ⟨r, hr, hΦ⟩ := vh_all hall
    simp only [Option.map_eq_some_iff] at hr
    obtain ⟨z, hz, rfl⟩ := hr
    rw [scal_VR hv (ceval_VR he hw x)]
    exact fit_val (pureVal_run hz) hΦ (Gle.refl _ _) hw (ofScal_VR g z)
  · exact hall.elim

theorem op_convert {callf : CallF} (hcall : CallOk P w0 callf) {fl : Nat} {slot : Option Nat} {tm : Env} {a : Act} (he : VRL g a.tmps.toList tm) (hw : WI w0 g h w) (hslot : SlotOk g h nb slot) (hnb : nb ≤ h.length) (hfl : fl ≤ h.length) (o : Oper)
    (src : _) (dst : _) (x : _) (hop : o.op = .convert src dst x) (hall : (opRun P callf fl slot tm o h).all Φ) : Fit P w0 nb g Φ ((execOp a.eval o).run P w) := by
  obtain ⟨dst, op, type, pos, after, guard⟩ := o
  cases hop
  simp only [opRun] at hall
  simp only [execOp]
  obtain ⟨v, h', hv, hΦ⟩ := vhh_all hall
  obtain ⟨y, w', g', k1, k2, k3, k4⟩ := convert_fit hw (ceval_VR he hw x) hv
  exact fit_val k1 hΦ (k2.mono hnb) k3 k4

theorem op_makeInterface {callf : CallF} (hcall : CallOk P w0 callf) {fl : Nat} {slot : Option Nat} {tm : Env} {a : Act} (he : VRL g a.tmps.toList tm) (hw : WI w0 g h w) (hslot : SlotOk g h nb slot) (hnb : nb ≤ h.length) (hfl : fl ≤ h.length) (o : Oper)
    (t : _) (x : _) (hop : o.op = .makeInterface t x) (hall : (opRun P callf fl slot tm o h).all Φ) : Fit P w0 nb g Φ ((execOp a.eval o).run P w) := by
  obtain ⟨dst, op, type, pos, after, guard⟩ := o
  cases hop
  simp only [opRun] at hall
  simp only [execOp]
  split at hall
  · exact hall.elim
  · exact hall.elim
  · rename_i d v hnot hu hne
    have hv := ceval_VR he hw x
    refine fit_val (s := Instr.makeInterface t (a.eval x)) (y := .iface t (a.eval x)) ?_ hall (Gle.refl _ _) hw (.iface _ _ _ hv)
    cases d <;> first
      | exact (hnot _ hu).elim
      | simp [Instr.makeInterface, run_underlying hu]
  · exact hall.elim

theorem op_makeFunc {callf : CallF} (hcall : CallOk P w0 callf) {fl : Nat} {slot : Option Nat} {tm : Env} {a : Act} (he : VRL g a.tmps.toList tm) (hw : WI w0 g h w) (hslot : SlotOk g h nb slot) (hnb : nb ≤ h.length) (hfl : fl ≤ h.length) (o : Oper)
    (f : _) (first : _) (cap : _) (hop : o.op = .makeFunc f first cap) (hall : (opRun P callf fl slot tm o h).all Φ) : Fit P w0 nb g Φ ((execOp a.eval o).run P w) := by
  obtain ⟨dst, op, type, pos, after, guard⟩ := o
  cases hop
  simp only [opRun] at hall
  simp only [execOp]
  exact fit_val (s := Instr.makeFunc f (first.map a.eval) (cap.map a.eval)) rfl hall (Gle.refl _ _) hw (.fn' (args_rel he hw first) (args_rel he hw cap))

theorem op_makeMap {callf : CallF} (hcall : CallOk P w0 callf) {fl : Nat} {slot : Option Nat} {tm : Env} {a : Act} (he : VRL g a.tmps.toList tm) (hw : WI w0 g h w) (hslot : SlotOk g h nb slot) (hnb : nb ≤ h.length) (hfl : fl ≤ h.length) (o : Oper)
    (t : _) (r : _) (hop : o.op = .makeMap t r) (hall : (opRun P callf fl slot tm o h).all Φ) : Fit P w0 nb g Φ ((execOp a.eval o).run P w) := by
  obtain ⟨dst, op, type, pos, after, guard⟩ := o
  cases hop
  simp only [opRun] at hall
  simp only [execOp]
  obtain ⟨g', k1, k2, k3⟩ := place_obj hw hslot (x := .map [] 0) (ob := .map #[] 0) (fun id hid => ⟨by simp [Gho.new], rfl, #[], alloc_get _ _, trivial⟩)
  split at hall
  · rename_i kt et hu hr
    have hrn : r = none := by simpa using hr
    subst hrn
    exact fit_val (s := Instr.makeMap t none) (y := .map (some w.heap.size)) (by simp [Instr.makeMap]) hall k1 k2 (.hm _ w.heap.size 0 0 k3)
  · rename_i kt et kk n hu hr
    cases r with
    | none => simp at hr
    | some x =>
      simp only [Option.map_some, Option.some.injEq] at hr
      have hv := ceval_VR he hw x
      rw [hr] at hv
      refine fit_val (s := Instr.makeMap t (some (a.eval x))) (y := .map (some w.heap.size)) ?_ hall k1 k2 (.hm _ w.heap.size 0 0 k3)
      generalize a.eval x = u at hv
      cases hv
      simp [Instr.makeMap, run_underlying hu, asInt, asIntOf]
  · exact hall.elim

theorem op_makeSlice {callf : CallF} (hcall : CallOk P w0 callf) {fl : Nat} {slot : Option Nat} {tm : Env} {a : Act} (he : VRL g a.tmps.toList tm) (hw : WI w0 g h w) (hslot : SlotOk g h nb slot) (hnb : nb ≤ h.length) (hfl : fl ≤ h.length) (o : Oper)
    (t : _) (l : _) (c : _) (hop : o.op = .makeSlice t l c) (hall : (opRun P callf fl slot tm o h).all Φ) : Fit P w0 nb g Φ ((execOp a.eval o).run P w) := by
  obtain ⟨dst, op, type, pos, after, guard⟩ := o
  cases hop
  simp only [opRun] at hall
  simp only [execOp]
  have hl := ceval_VR he hw l
  have hc := ceval_VR he hw c
  split at hall
  · rename_i e ln cn hu hle hce
    rw [hle] at hl
    rw [hce] at hc
    generalize a.eval l = ul at hl ⊢
    generalize a.eval c = uc at hc ⊢
    cases hl; cases hc
    split at hall
    · rename_i i z hi hz
      split at hall
      · rename_i hcond
        obtain ⟨h0, hlc, hbytes, hc47, hzl, hs0⟩ := hcond
        obtain ⟨v, h1, h2⟩ := zcells_spec hz
        have hzs : v.cells.size = i.size := by have := (h2 g).length; simp at this; omega
        have hrep := repCells_VRL (h2 g) cn.toNat
        have hV : VRL g ((Array.range (cn.toNat * i.size)).map fun j => v.cells[j % v.cells.size]!).toList (repCells cn.toNat z) := by
          rw [← hzs, range_flatten _ (by omega)]; exact hrep
        obtain ⟨g', j1, j2, j3⟩ := place_rowAll (T := e) hw hslot hV
        have hsz : ((Array.range (cn.toNat * i.size)).map fun j => v.cells[j % v.cells.size]!).size = cn.toNat * i.size := by simp
        have hv : VR g' (.slice (some ⟨w.heap.size, 0, none⟩) ln.toNat cn.toNat) (.hs (place slot h (.row (repCells cn.toNat z))).1 0 ln.toNat i.size (some cn.toNat)) :=
          .hs _ _ _ _ _ _ _ w.heap.size 0 _ j3 (by omega) (fun k hk => by cases hk; rfl) (fun _ => ⟨rfl, by rw [hsz]; omega⟩)
        have hwl : IntKind.i64.wrap ln = ln := wrap_id (by omega) (by omega)
        have hwc : IntKind.i64.wrap cn = cn := wrap_id (by omega) (by omega)
        have hif : ((decide (cn < 0) || decide ((i.bytes : Int) * cn > 2 ^ 48)) || decide (ln < 0) || decide (ln > cn)) = false := by
          simp; omega
        have hs : (Instr.makeSlice t (.int .i64 ln) (.int .i64 cn)).run P w = .ok (.slice (some ⟨w.heap.size, 0, none⟩) ln.toNat cn.toNat) (w.alloc (.cells ((Array.range (cn.toNat * i.size)).map fun j => v.cells[j % v.cells.size]!) e)) := by
          unfold Instr.makeSlice
          simp only [Sem.run_bind, run_underlying hu, Result.andThen_ok, asInt, asIntOf, Sem.run_pure, run_typeInfo hi, hwl, hwc, hif, Bool.false_eq_true, if_false, run_askRoom, sizeOf]
          by_cases h0 : cn.toNat * i.size = 0
          · simp only [h0, if_true, Sem.run_pure, Result.andThen_ok]
            have e1 : (Array.range 0).map (fun j => (#[] : Array Value)[j % (#[] : Array Value).size]!) = #[] := by simp [Array.range]
            have e2 : (Array.range 0).map (fun j => v.cells[j % v.cells.size]!) = #[] := by simp [Array.range]
            rw [Sem.run_bind, Sem.run_pure]
            simp only [Result.andThen_ok]
            rw [e1, e2]
            simp only [Sem.run_bind, newRow, run_newObj, Sem.run_pure, Result.andThen_ok]
            rfl
          · simp only [h0, if_false, Sem.run_bind, h1, Result.andThen_ok, Sem.run_pure, newRow, run_newObj]
            rfl
        exact fit_val hs hall j1 j2 hv
      · exact hall.elim
    · exact hall.elim
  · exact hall.elim

theorem op_slice {callf : CallF} (hcall : CallOk P w0 callf) {fl : Nat} {slot : Option Nat} {tm : Env} {a : Act} (he : VRL g a.tmps.toList tm) (hw : WI w0 g h w) (hslot : SlotOk g h nb slot) (hnb : nb ≤ h.length) (hfl : fl ≤ h.length) (o : Oper)
    (t : _) (x : _) (lo : _) (hi : _) (mx : _) (hop : o.op = .slice t x lo hi mx) (hall : (opRun P callf fl slot tm o h).all Φ) : Fit P w0 nb g Φ ((execOp a.eval o).run P w) := by
  obtain ⟨dst, op, type, pos, after, guard⟩ := o
  cases hop
  simp only [opRun] at hall
  simp only [execOp]
  obtain ⟨v, hv, hΦ⟩ := vh_all hall
  obtain ⟨y, k1, k2⟩ := slice_fit hw (ceval_VR he hw x) (opt_rel he hw lo) (opt_rel he hw hi) (opt_rel he hw mx) hv
  exact fit_val k1 hΦ (Gle.refl _ _) hw k2

theorem op_fieldAddr {callf : CallF} (hcall : CallOk P w0 callf) {fl : Nat} {slot : Option Nat} {tm : Env} {a : Act} (he : VRL g a.tmps.toList tm) (hw : WI w0 g h w) (hslot : SlotOk g h nb slot) (hnb : nb ≤ h.length) (hfl : fl ≤ h.length) (o : Oper)
    (s : _) (x : _) (f : _) (hop : o.op = .fieldAddr s x f) (hall : (opRun P callf fl slot tm o h).all Φ) : Fit P w0 nb g Φ ((execOp a.eval o).run P w) := by
  obtain ⟨dst, op, type, pos, after, guard⟩ := o
  cases hop
  simp only [opRun] at hall
  simp only [execOp]
  obtain ⟨v, hv, hΦ⟩ := vh_all hall
  obtain ⟨y, k1, k2⟩ := fieldAddr_fit (P := P) (w := w) (ceval_VR he hw x) hv
  exact fit_val k1 hΦ (Gle.refl _ _) hw k2

theorem op_field {callf : CallF} (hcall : CallOk P w0 callf) {fl : Nat} {slot : Option Nat} {tm : Env} {a : Act} (he : VRL g a.tmps.toList tm) (hw : WI w0 g h w) (hslot : SlotOk g h nb slot) (hnb : nb ≤ h.length) (hfl : fl ≤ h.length) (o : Oper)
    (t : _) (x : _) (f : _) (hop : o.op = .field t x f) (hall : (opRun P callf fl slot tm o h).all Φ) : Fit P w0 nb g Φ ((execOp a.eval o).run P w) := by
  obtain ⟨dst, op, type, pos, after, guard⟩ := o
  cases hop
  simp only [opRun] at hall
  simp only [execOp]
  obtain ⟨v, hv, hΦ⟩ := vh_all hall
  obtain ⟨y, k1, k2⟩ := field_fit (P := P) (w := w) (ceval_VR he hw x) hv
  exact fit_val k1 hΦ (Gle.refl _ _) hw k2

theorem op_indexAddr {callf : CallF} (hcall : CallOk P w0 callf) {fl : Nat} {slot : Option Nat} {tm : Env} {a : Act} (he : VRL g a.tmps.toList tm) (hw : WI w0 g h w) (hslot : SlotOk g h nb slot) (hnb : nb ≤ h.length) (hfl : fl ≤ h.length) (o : Oper)
    (t : _) (x : _) (i : _) (hop : o.op = .indexAddr t x i) (hall : (opRun P callf fl slot tm o h).all Φ) : Fit P w0 nb g Φ ((execOp a.eval o).run P w) := by
  obtain ⟨dst, op, type, pos, after, guard⟩ := o
  cases hop
  simp only [opRun] at hall
  simp only [execOp]
  obtain ⟨v, hv, hΦ⟩ := vh_all hall
  obtain ⟨y, k1, k2⟩ := indexAddr_fit (P := P) (w := w) (ceval_VR he hw x) (ceval_VR he hw i) hv
  exact fit_val k1 hΦ (Gle.refl _ _) hw k2

theorem op_index {callf : CallF} (hcall : CallOk P w0 callf) {fl : Nat} {slot : Option Nat} {tm : Env} {a : Act} (he : VRL g a.tmps.toList tm) (hw : WI w0 g h w) (hslot : SlotOk g h nb slot) (hnb : nb ≤ h.length) (hfl : fl ≤ h.length) (o : Oper)
    (t : _) (x : _) (i : _) (hop : o.op = .index t x i) (hall : (opRun P callf fl slot tm o h).all Φ) : Fit P w0 nb g Φ ((execOp a.eval o).run P w) := by
  obtain ⟨dst, op, type, pos, after, guard⟩ := o
  cases hop
  simp only [opRun] at hall
  simp only [execOp]
  obtain ⟨v, hv, hΦ⟩ := vh_all hall
  obtain ⟨y, k1, k2⟩ := index_fit (P := P) (w := w) (ceval_VR he hw x) (ceval_VR he hw i) hv
  exact fit_val k1 hΦ (Gle.refl _ _) hw k2

theorem op_lookup {callf : CallF} (hcall : CallOk P w0 callf) {fl : Nat} {slot : Option Nat} {tm : Env} {a : Act} (he : VRL g a.tmps.toList tm) (hw : WI w0 g h w) (hslot : SlotOk g h nb slot) (hnb : nb ≤ h.length) (hfl : fl ≤ h.length) (o : Oper)
    (t : _) (x : _) (i : _) (ok : _) (hop : o.op = .lookup t x i ok) (hall : (opRun P callf fl slot tm o h).all Φ) : Fit P w0 nb g Φ ((execOp a.eval o).run P w) := by
  obtain ⟨dst, op, type, pos, after, guard⟩ := o
  cases hop
  simp only [opRun] at hall
  simp only [execOp]
  obtain ⟨v, hv, hΦ⟩ := vh_all hall
  obtain ⟨y, k1, k2⟩ := lookup_fit hw (ceval_VR he hw x) (ceval_VR he hw i) hv
  exact fit_val k1 hΦ (Gle.refl _ _) hw k2

theorem op_mapUpdate {callf : CallF} (hcall : CallOk P w0 callf) {fl : Nat} {slot : Option Nat} {tm : Env} {a : Act} (he : VRL g a.tmps.toList tm) (hw : WI w0 g h w) (hslot : SlotOk g h nb slot) (hnb : nb ≤ h.length) (hfl : fl ≤ h.length) (o : Oper)
    (t : _) (m : _) (k : _) (x : _) (hop : o.op = .mapUpdate t m k x) (hall : (opRun P callf fl slot tm o h).all Φ) : Fit P w0 nb g Φ ((execOp a.eval o).run P w) := by
  obtain ⟨dst, op, type, pos, after, guard⟩ := o
  cases hop
  simp only [opRun] at hall
  simp only [execOp]
  obtain ⟨h', hh, hΦ⟩ := sh_all hall
  obtain ⟨w', k1, k2⟩ := mapUpdate_fit hw (ceval_VR he hw m) (ceval_VR he hw k) (ceval_VR he hw x) hh
  exact fit_skip k1 hΦ (Gle.refl _ _) k2

theorem op_mapEntry {callf : CallF} (hcall : CallOk P w0 callf) {fl : Nat} {slot : Option Nat} {tm : Env} {a : Act} (he : VRL g a.tmps.toList tm) (hw : WI w0 g h w) (hslot : SlotOk g h nb slot) (hnb : nb ≤ h.length) (hfl : fl ≤ h.length) (o : Oper)
    (t : _) (m : _) (k : _) (hop : o.op = .mapEntry t m k) (hall : (opRun P callf fl slot tm o h).all Φ) : Fit P w0 nb g Φ ((execOp a.eval o).run P w) := by
  obtain ⟨dst, op, type, pos, after, guard⟩ := o
  cases hop
  simp only [opRun] at hall
  simp only [execOp]
  obtain ⟨v, h', hv, hΦ⟩ := vhh_all hall
  obtain ⟨y, w', k1, k2, k3⟩ := mapEntry_fit hw (ceval_VR he hw m) (ceval_VR he hw k) hv
  exact fit_val k1 hΦ (Gle.refl _ _) k2 k3

theorem op_entryStore {callf : CallF} (hcall : CallOk P w0 callf) {fl : Nat} {slot : Option Nat} {tm : Env} {a : Act} (he : VRL g a.tmps.toList tm) (hw : WI w0 g h w) (hslot : SlotOk g h nb slot) (hnb : nb ≤ h.length) (hfl : fl ≤ h.length) (o : Oper)
    (t : _) (m : _) (s : _) (x : _) (hop : o.op = .entryStore t m s x) (hall : (opRun P callf fl slot tm o h).all Φ) : Fit P w0 nb g Φ ((execOp a.eval o).run P w) := by
  obtain ⟨dst, op, type, pos, after, guard⟩ := o
  cases hop
  simp only [opRun] at hall
  simp only [execOp]
  obtain ⟨h', hh, hΦ⟩ := sh_all hall
  obtain ⟨w', k1, k2⟩ := entryStore_fit (t := t) hw (ceval_VR he hw m) (ceval_VR he hw s) (ceval_VR he hw x) hh
  exact fit_skip k1 hΦ (Gle.refl _ _) k2

theorem op_range {callf : CallF} (hcall : CallOk P w0 callf) {fl : Nat} {slot : Option Nat} {tm : Env} {a : Act} (he : VRL g a.tmps.toList tm) (hw : WI w0 g h w) (hslot : SlotOk g h nb slot) (hnb : nb ≤ h.length) (hfl : fl ≤ h.length) (o : Oper)
    (t : _) (x : _) (hop : o.op = .range t x) (hall : (opRun P callf fl slot tm o h).all Φ) : Fit P w0 nb g Φ ((execOp a.eval o).run P w) := by
  obtain ⟨dst, op, type, pos, after, guard⟩ := o
  cases hop
  simp only [opRun] at hall
  simp only [execOp]
  split at hall
  · rename_i b hb
    obtain ⟨y, w', g', k1, k2, k3, k4⟩ := range_fit hw hslot (ceval_VR he hw x) hb
    exact fit_val k1 hall k2 k3 k4
  · exact hall.elim

theorem op_next {callf : CallF} (hcall : CallOk P w0 callf) {fl : Nat} {slot : Option Nat} {tm : Env} {a : Act} (he : VRL g a.tmps.toList tm) (hw : WI w0 g h w) (hslot : SlotOk g h nb slot) (hnb : nb ≤ h.length) (hfl : fl ≤ h.length) (o : Oper)
    (it : _) (st : _) (hop : o.op = .next it st) (hall : (opRun P callf fl slot tm o h).all Φ) : Fit P w0 nb g Φ ((execOp a.eval o).run P w) := by
  obtain ⟨dst, op, type, pos, after, guard⟩ := o
  cases hop
  simp only [opRun] at hall
  simp only [execOp]
  obtain ⟨y, w', v, h', k1, k2, k3, k4⟩ := next_fit (ty := type) hw (ceval_VR he hw it) hall
  exact fit_val k1 k4 (Gle.refl _ _) k2 k3

theorem op_entry {callf : CallF} (hcall : CallOk P w0 callf) {fl : Nat} {slot : Option Nat} {tm : Env} {a : Act} (he : VRL g a.tmps.toList tm) (hw : WI w0 g h w) (hslot : SlotOk g h nb slot) (hnb : nb ≤ h.length) (hfl : fl ≤ h.length) (o : Oper)
    (it : _) (hop : o.op = .entry it) (hall : (opRun P callf fl slot tm o h).all Φ) : Fit P w0 nb g Φ ((execOp a.eval o).run P w) := by
  obtain ⟨dst, op, type, pos, after, guard⟩ := o
  cases hop
  simp only [opRun] at hall
  simp only [execOp]
  obtain ⟨v, hv, hΦ⟩ := vh_all hall
  obtain ⟨y, k1, k2⟩ := entry_fit (P := P) hw (ceval_VR he hw it) hv
  exact fit_val k1 hΦ (Gle.refl _ _) hw k2

theorem op_typeAssert {callf : CallF} (hcall : CallOk P w0 callf) {fl : Nat} {slot : Option Nat} {tm : Env} {a : Act} (he : VRL g a.tmps.toList tm) (hw : WI w0 g h w) (hslot : SlotOk g h nb slot) (hnb : nb ≤ h.length) (hfl : fl ≤ h.length) (o : Oper)
    (x : _) (xt : _) (t : _) (ok : _) (hop : o.op = .typeAssert x xt t ok) (hall : (opRun P callf fl slot tm o h).all Φ) : Fit P w0 nb g Φ ((execOp a.eval o).run P w) := by
  obtain ⟨dst, op, type, pos, after, guard⟩ := o
  cases hop
  simp only [opRun] at hall
  simp only [execOp]
  obtain ⟨v, hv, hΦ⟩ := vh_all hall
  obtain ⟨y, k1, k2⟩ := assert_fit (P := P) (w := w) (xt := xt) (ceval_VR he hw x) hv
  exact fit_val k1 hΦ (Gle.refl _ _) hw k2

theorem op_extract {callf : CallF} (hcall : CallOk P w0 callf) {fl : Nat} {slot : Option Nat} {tm : Env} {a : Act} (he : VRL g a.tmps.toList tm) (hw : WI w0 g h w) (hslot : SlotOk g h nb slot) (hnb : nb ≤ h.length) (hfl : fl ≤ h.length) (o : Oper)
    (t : _) (i : _) (hop : o.op = .extract t i) (hall : (opRun P callf fl slot tm o h).all Φ) : Fit P w0 nb g Φ ((execOp a.eval o).run P w) := by
  obtain ⟨dst, op, type, pos, after, guard⟩ := o
  cases hop
  simp only [opRun] at hall
  simp only [execOp]
  have hv := ceval_VR he hw t
  split at hall
  · rename_i vs ht
    rw [ht] at hv
    generalize a.eval t = u at hv ⊢
    cases hv with
    | tup cs _ h1 h2 =>
    obtain ⟨v, hv, hΦ⟩ := vh_all hall
    obtain ⟨y, k1, k2⟩ := (VRL_iff.2 ⟨h1, h2⟩).get hv
    have k1' : cs[i]? = some y := by simpa using k1
    exact fit_val (s := Instr.extract (.tuple cs) i) (by simp [Instr.extract, k1']) hΦ (Gle.refl _ _) hw k2
  · exact hall.elim

theorem op_call {callf : CallF} (hcall : CallOk P w0 callf) {fl : Nat} {slot : Option Nat} {tm : Env} {a : Act} (he : VRL g a.tmps.toList tm) (hw : WI w0 g h w) (hslot : SlotOk g h nb slot) (hnb : nb ≤ h.length) (hfl : fl ≤ h.length) (o : Oper)
    (c : _) (hop : o.op = .call c) (hall : (opRun P callf fl slot tm o h).all Φ) : Fit P w0 nb g Φ ((execOp a.eval o).run P w) := by
  obtain ⟨dst, op, type, pos, after, guard⟩ := o
  cases hop
  simp only [opRun] at hall
  simp only [execOp]
  obtain ⟨callee, args, argTypes⟩ := c
  have hargs := args_rel he hw args
  cases callee with
  | builtin b =>
    simp only at hall
    obtain ⟨v, h', hv, hΦ⟩ := vhh_all hall
    have := builtin_fit (P := P) (Φ := Φ) (ty := type) (cs := args.map fun | .const _ => true | _ => false) hw hnb hargs hv hΦ
    simp only [resolve, Sem.run_bind, Sem.run_pure, Result.andThen_ok, invoke]
    exact this
  | value f =>
    simp only at hall
    have := call_fit hcall hw (ceval_VR he hw f) hargs hfl hnb hall
    simpa [resolve] using this
  | invoke r name =>
    simp only at hall
    have hr := ceval_VR he hw r
    split at hall
    · rename_i t v hc
      rw [hc] at hr
      generalize hre : a.eval r = u at hr
      cases hr with
      | iface _ x _ hx =>
      split at hall
      · rename_i f hm
        have hmf := method_fit (P := P) (v := x) hm (P.types.size + Made.depth - 1) w
        have hfit := (hcall.fn fl f _ h Φ hall g w (x :: (args.map a.eval).toList) hw ⟨hx, hargs⟩ hfl).mono hnb
        have hd : P.types.size + Made.depth - 1 + 1 = P.types.size + Made.depth := by
          have : Made.depth = 100 := rfl
          omega
        rw [hd] at hmf
        have hlist : (x :: (args.map a.eval).toList).toArray = #[x] ++ args.map a.eval := by
          apply Array.ext'; simp
        rw [hlist] at hfit
        have h0 : (#[Value.iface t x] ++ args.map a.eval)[0]? = some (.iface t x) := by rw [Array.getElem?_append_left (by simp)]; rfl
        have h1 : (#[Value.iface t x] ++ args.map a.eval).extract 1 (#[Value.iface t x] ++ args.map a.eval).size = args.map a.eval := by
          apply Array.ext'; simp [List.take_of_length_le]
        simp only [resolve, Sem.run_bind, Sem.run_pure, Result.andThen_ok, hre, invoke, h0, h1, callMethod, run_program, hmf]
        exact hfit
      · exact hall.elim
    · exact hall.elim

theorem op_panic {callf : CallF} (hcall : CallOk P w0 callf) {fl : Nat} {slot : Option Nat} {tm : Env} {a : Act} (he : VRL g a.tmps.toList tm) (hw : WI w0 g h w) (hslot : SlotOk g h nb slot) (hnb : nb ≤ h.length) (hfl : fl ≤ h.length) (o : Oper)
    (x : _) (hop : o.op = .panic x) (hall : (opRun P callf fl slot tm o h).all Φ) : Fit P w0 nb g Φ ((execOp a.eval o).run P w) := by
  obtain ⟨dst, op, type, pos, after, guard⟩ := o
  cases hop
  simp only [opRun] at hall
  simp only [execOp]
  have hv := ceval_VR he hw x
  split at hall
  · rename_i t v hx
    rw [hx] at hv
    generalize a.eval x = u at hv ⊢
    cases hv with
    | iface _ y _ hy =>
    exact ⟨_, _, g, hall, Gle.refl _ _, hw, .iface _ _ _ hy⟩
  · exact hall.elim

/-- Every operation. -/
theorem opRun_fit {callf : CallF} (hcall : CallOk P w0 callf) {fl : Nat} {slot : Option Nat} {tm : Env} {a : Act} (he : VRL g a.tmps.toList tm) (hw : WI w0 g h w) (hslot : SlotOk g h nb slot) (hnb : nb ≤ h.length) (hfl : fl ≤ h.length) (o : Oper)
    (hall : (opRun P callf fl slot tm o h).all Φ) : Fit P w0 nb g Φ ((execOp a.eval o).run P w) := by
  cases hop : o.op
  case move x => exact op_move hcall he hw hslot hnb hfl o x hop hall
  case assign x => exact op_assign hcall he hw hslot hnb hfl o x hop hall
  case pick c x y => exact op_pick hcall he hw hslot hnb hfl o c x y hop hall
  case alloc t => exact op_alloc hcall he hw hslot hnb hfl o t hop hall
  case box t x => exact op_box hcall he hw hslot hnb hfl o t x hop hall
  case build t parts => exact op_build hcall he hw hslot hnb hfl o t parts hop hall
  case buildSlice t len parts => exact op_buildSlice hcall he hw hslot hnb hfl o t len parts hop hall
  case load t x => exact op_load hcall he hw hslot hnb hfl o t x hop hall
  case store t x y => exact op_store hcall he hw hslot hnb hfl o t x y hop hall
  case nilCheck x => exact op_nilCheck hcall he hw hslot hnb hfl o x hop hall
  case binOp bop t x y yt => exact op_binOp hcall he hw hslot hnb hfl o bop t x y yt hop hall
  case unOp uop t x => exact op_unOp hcall he hw hslot hnb hfl o uop t x hop hall
  case convert src dst x => exact op_convert hcall he hw hslot hnb hfl o src dst x hop hall
  case makeInterface t x => exact op_makeInterface hcall he hw hslot hnb hfl o t x hop hall
  case makeFunc f first cap => exact op_makeFunc hcall he hw hslot hnb hfl o f first cap hop hall
  case makeMap t r => exact op_makeMap hcall he hw hslot hnb hfl o t r hop hall
  case makeSlice t l c => exact op_makeSlice hcall he hw hslot hnb hfl o t l c hop hall
  case slice t x lo hi mx => exact op_slice hcall he hw hslot hnb hfl o t x lo hi mx hop hall
  case fieldAddr s x f => exact op_fieldAddr hcall he hw hslot hnb hfl o s x f hop hall
  case field t x f => exact op_field hcall he hw hslot hnb hfl o t x f hop hall
  case indexAddr t x i => exact op_indexAddr hcall he hw hslot hnb hfl o t x i hop hall
  case index t x i => exact op_index hcall he hw hslot hnb hfl o t x i hop hall
  case lookup t x i ok => exact op_lookup hcall he hw hslot hnb hfl o t x i ok hop hall
  case mapUpdate t m k x => exact op_mapUpdate hcall he hw hslot hnb hfl o t m k x hop hall
  case mapEntry t m k => exact op_mapEntry hcall he hw hslot hnb hfl o t m k hop hall
  case entryStore t m s x => exact op_entryStore hcall he hw hslot hnb hfl o t m s x hop hall
  case range t x => exact op_range hcall he hw hslot hnb hfl o t x hop hall
  case next it st => exact op_next hcall he hw hslot hnb hfl o it st hop hall
  case entry it => exact op_entry hcall he hw hslot hnb hfl o it hop hall
  case typeAssert x xt t ok => exact op_typeAssert hcall he hw hslot hnb hfl o x xt t ok hop hall
  case extract t i => exact op_extract hcall he hw hslot hnb hfl o t i hop hall
  case call c => exact op_call hcall he hw hslot hnb hfl o c hop hall
  case panic x => exact op_panic hcall he hw hslot hnb hfl o x hop hall
  all_goals (simp only [opRun, hop] at hall; exact hall.elim)

end
end Go.CE

/-
  The canonical evaluator: the heap only grows, and below the floor nothing is written.
-/
import Derived.Test.YtgfelhlilajfmaaGreatDoorCeE
namespace Go.CE
set_option linter.unusedVariables false
set_option linter.unusedSimpArgs false
set_option linter.unusedSectionVars false
set_option linter.unnecessarySimpa false
variable [Glob]

namespace Dem
/-- Of whatever comes, if it comes. -/
def each {α : Type} (p : α → Prop) : Dem α → Prop
  | .ret a => p a
  | .fail => True
  | .pick n k => ∀ i, i < n → (k i).each p
theorem each_bind {α β : Type} {p : β → Prop} {f : α → Dem β} : ∀ {d : Dem α}, (d.bind f).each p ↔ d.each fun a => (f a).each p
  | .ret a => Iff.rfl
  | .fail => Iff.rfl
  | .pick n k => by simp only [bind, each]; exact ⟨fun h i hi => each_bind.1 (h i hi), fun h i hi => each_bind.2 (h i hi)⟩
theorem each_mono {α : Type} {p q : α → Prop} (h : ∀ a, p a → q a) : ∀ {d : Dem α}, d.each p → d.each q
  | .ret a, ha => h a ha
  | .fail, _ => trivial
  | .pick n k, ha => fun i hi => each_mono h (ha i hi)
theorem all_each {α : Type} {p q : α → Prop} : ∀ {d : Dem α}, d.all p → d.each q → d.all fun a => p a ∧ q a
  | .ret a, h, k => ⟨h, k⟩
  | .fail, h, _ => h.elim
  | .pick n f, h, k => fun i hi => all_each (h i hi) (k i hi)
theorem each_true {α : Type} {p : α → Prop} (h : ∀ a, p a) : ∀ {d : Dem α}, d.each p
  | .ret a => h a
  | .fail => trivial
  | .pick _ _ => fun _ _ => each_true h
end Dem

def Grow (fl : Nat) (h h' : Heap) : Prop := h.length ≤ h'.length ∧ ∀ i, i < fl → h'[i]? = h[i]?

theorem Grow.refl (fl : Nat) (h : Heap) : Grow fl h h := ⟨Nat.le_refl _, fun _ _ => rfl⟩
theorem Grow.trans {fl : Nat} {a b c : Heap} (x : Grow fl a b) (y : Grow fl b c) : Grow fl a c := ⟨Nat.le_trans x.1 y.1, fun i hi => (y.2 i hi).trans (x.2 i hi)⟩
theorem Grow.push {fl : Nat} {h : Heap} (hf : fl ≤ h.length) (x : Blk) : Grow fl h (h ++ [x]) := ⟨by simp, fun i hi => by rw [List.getElem?_append_left (by omega)]⟩
theorem Grow.set {fl : Nat} {h : Heap} {id : Nat} (hf : fl ≤ id) (x : Blk) : Grow fl h (h.set id x) := ⟨by simp, fun i hi => by rw [List.getElem?_set]; rw [if_neg (by omega)]⟩
theorem Grow.place {fl : Nat} {h : Heap} {slot : Option Nat} (hf : fl ≤ h.length) (hs : ∀ s, slot = some s → fl ≤ s) (x : Blk) : Grow fl h (Go.CE.place slot h x).2 := by
  cases slot with
  | none => exact Grow.push hf x
  | some s => exact Grow.set (hs s rfl) x

def Out.heap : Out → Heap
  | .val _ h => h
  | .pan _ h => h

def CallGrow (callf : CallF) : Prop := ∀ fl f args h, fl ≤ h.length → (callf fl f args h).each fun o => Grow fl h o.heap

section
variable {P : Program} {callf : CallF} {fl : Nat} {h : Heap}

theorem vh_grow (r : Option CV) : (vh r h).each fun o => Grow fl h o.heap := by
  cases r with
  | none => trivial
  | some v => exact Grow.refl _ _
theorem vhh_grow {r : Option (CV × Heap)} (hr : ∀ v h', r = some (v, h') → Grow fl h h') : (vhh r).each fun o => Grow fl h o.heap := by
  cases r with
  | none => trivial
  | some v => exact hr _ _ rfl
theorem sh_grow {r : Option Heap} (hr : ∀ h', r = some h' → Grow fl h h') : (sh r).each fun o => Grow fl h o.heap := by
  cases r with
  | none => trivial
  | some v => exact hr _ rfl

theorem cstore_grow {t : TypeId} {p v : CV} {h' : Heap} (hc : cstore P fl t h p v = some h') : Grow fl h h' := by
  unfold cstore at hc
  split at hc
  · split at hc
    · split at hc
      · rename_i hcond; cases hc; exact Grow.set hcond.1 _
      · cases hc
    · cases hc
  · cases hc

theorem cconvert_grow {s d : TypeId} {x v : CV} {h' : Heap} (hf : fl ≤ h.length) (hc : cconvert P s d h x = some (v, h')) : Grow fl h h' := by
  unfold cconvert at hc
  split at hc
  · cases hc; exact Grow.refl _ _
  · split at hc
    · cases hc; exact Grow.refl _ _
    · cases hc
  · cases hc; exact Grow.refl _ _
  · cases hc; exact Grow.refl _ _
  · split at hc
    · cases hc; exact Grow.push hf _
    · cases hc
  · split at hc
    · split at hc
      · cases hc
      · split at hc
        · simp only [Option.map_eq_some_iff, Prod.mk.injEq] at hc
          obtain ⟨_, _, _, rfl⟩ := hc
          exact Grow.refl _ _
        · cases hc
    · cases hc
  · cases hc

theorem cmapUpdate_grow {t : TypeId} {m k v : CV} {h' : Heap} (hc : cmapUpdate P fl t h m k v = some h') : Grow fl h h' := by
  unfold cmapUpdate at hc
  split at hc
  · split at hc
    · split at hc
      · rename_i hcond
        split at hc
        · split at hc
          · split at hc
            · cases hc; exact Grow.set hcond.1 _
            · cases hc
          · cases hc
        · cases hc; exact Grow.set hcond.1 _
        · cases hc
      · cases hc
    · cases hc
  · cases hc

theorem cmapEntry_grow {t : TypeId} {m k v : CV} {h' : Heap} (hc : cmapEntry P fl t h m k = some (v, h')) : Grow fl h h' := by
  unfold cmapEntry at hc
  split at hc
  · split at hc
    · split at hc
      · rename_i hcond
        split at hc
        · split at hc
          · split at hc
            · cases hc; exact Grow.refl _ _
            · cases hc
          · cases hc
        · simp only [Option.map_eq_some_iff, Prod.mk.injEq] at hc
          obtain ⟨_, _, _, rfl⟩ := hc
          exact Grow.set hcond.1 _
        · cases hc
      · cases hc
    · cases hc
  · cases hc

theorem centryStore_grow {m s v : CV} {h' : Heap} (hc : centryStore fl h m s v = some h') : Grow fl h h' := by
  unfold centryStore at hc
  split at hc
  · split at hc
    · split at hc
      · split at hc
        · rename_i hcond; cases hc; exact Grow.set hcond _
        · cases hc
      · cases hc
    · cases hc
  · cases hc

theorem cdelete_grow {t : TypeId} {m k : CV} {h' : Heap} (hc : cdelete P fl t h m k = some h') : Grow fl h h' := by
  unfold cdelete at hc
  split at hc
  · split at hc
    · split at hc
      · rename_i hcond
        split at hc
        · cases hc; exact Grow.set hcond.1 _
        · cases hc; exact Grow.refl _ _
        · cases hc
      · cases hc
    · cases hc
  · cases hc

theorem cappend_grow {t : TypeId} {s x v : CV} {h' : Heap} (hf : fl ≤ h.length) (hc : cappend P fl t h s x = some (v, h')) : Grow fl h h' := by
  unfold cappend at hc
  split at hc
  · split at hc
    · split at hc
      · split at hc
        · cases hc; exact Grow.refl _ _
        · split at hc
          · split at hc
            · split at hc
              · cases hc; exact Grow.push hf _
              · cases hc
            · split at hc
              · rename_i hcond
                cases hc
                have h1 : Grow fl h (kill h _) := Grow.set hcond.1 .dead
                exact h1.trans (Grow.push (Nat.le_trans hf h1.1) _)
              · cases hc
            · split at hc
              · cases hc; exact Grow.push hf _
              · cases hc
            · cases hc
          · cases hc
      · cases hc
    · cases hc
  · cases hc

theorem ccopy_grow {t : TypeId} {s x v : CV} {h' : Heap} (hc : ccopy P fl t h s x = some (v, h')) : Grow fl h h' := by
  unfold ccopy at hc
  split at hc
  · split at hc
    · split at hc
      · rename_i hcond; cases hc; exact Grow.set hcond.1 _
      · cases hc
    · cases hc
  · cases hc

theorem cbuiltin_grow {b : Builtin} {ts : List TypeId} {args : List CV} {v : CV} {h' : Heap} (hf : fl ≤ h.length) (hc : cbuiltin P fl b ts h args = some (v, h')) : Grow fl h h' := by
  unfold cbuiltin at hc
  split at hc
  · split at hc
    · cases hc
    · exact cappend_grow hf hc
    · cases hc
  · simp only [Option.map_eq_some_iff, Prod.mk.injEq] at hc; obtain ⟨_, _, _, rfl⟩ := hc; exact Grow.refl _ _
  · simp only [Option.map_eq_some_iff, Prod.mk.injEq] at hc; obtain ⟨_, _, _, rfl⟩ := hc; exact Grow.refl _ _
  · exact ccopy_grow hc
  · simp only [Option.map_eq_some_iff, Prod.mk.injEq] at hc; obtain ⟨_, hd, _, rfl⟩ := hc; exact cdelete_grow hd
  · simp only [Option.map_eq_some_iff, Prod.mk.injEq] at hc; obtain ⟨_, _, _, rfl⟩ := hc; exact Grow.refl _ _
  · simp only [Option.map_eq_some_iff, Prod.mk.injEq] at hc; obtain ⟨_, _, _, rfl⟩ := hc; exact Grow.refl _ _
  · cases hc

theorem cnext_grow {x : CV} {s : Bool} : (cnext fl h x s).each fun o => Grow fl h o.heap := by
  unfold cnext
  split
  · split
    · rename_i hcond
      split
      · split
        · exact Grow.set hcond _
        · exact Grow.refl _ _
      · split
        · split
          · trivial
          · intro i hi
            simp only
            split
            · exact Grow.set hcond _
            · exact Grow.refl _ _
            · trivial
        · trivial
      · trivial
    · trivial
  · trivial

theorem opRun_grow (hcall : CallGrow callf) (hf : fl ≤ h.length) {slot : Option Nat} (hs : ∀ s, slot = some s → fl ≤ s) (tm : Env) (o : Oper) : (opRun P callf fl slot tm o h).each fun o => Grow fl h o.heap := by
  unfold opRun
  dsimp only
  split
  · exact Grow.refl _ _
  · exact Grow.refl _ _
  · split
    · exact Grow.refl _ _
    · trivial
  · split
    · exact Grow.place hf hs _
    · trivial
  · split
    · trivial
    · exact Grow.place hf hs _
  · split
    · split
      · exact vh_grow _
      · trivial
    · split
      · exact vh_grow _
      · trivial
    · trivial
  · split
    · split
      · split
        · split
          · exact Grow.place hf hs _
          · trivial
        · trivial
      · trivial
    · trivial
  · exact vh_grow _
  · exact sh_grow fun _ => cstore_grow
  · split
    · trivial
    · trivial
    · trivial
    · trivial
    · exact Grow.refl _ _
    · trivial
    · exact Grow.refl _ _
  · exact vh_grow _
  · split
    · exact vh_grow _
    · trivial
  · exact vhh_grow fun _ _ => cconvert_grow hf
  · split
    · trivial
    · trivial
    · exact Grow.refl _ _
    · trivial
  · exact Grow.refl _ _
  · split
    · exact Grow.place hf hs _
    · exact Grow.place hf hs _
    · trivial
  · split
    · split
      · split
        · exact Grow.place hf hs _
        · trivial
      · trivial
    · trivial
  · exact vh_grow _
  · exact vh_grow _
  · exact vh_grow _
  · exact vh_grow _
  · exact vh_grow _
  · exact vh_grow _
  · exact sh_grow fun _ => cmapUpdate_grow
  · exact vhh_grow fun _ _ => cmapEntry_grow
  · exact sh_grow fun _ => centryStore_grow
  · split
    · exact Grow.place hf hs _
    · trivial
  · exact cnext_grow
  · exact vh_grow _
  · exact vh_grow _
  · split
    · exact vh_grow _
    · trivial
  · split
    · exact vhh_grow fun _ _ => cbuiltin_grow hf
    · unfold callTo
      split
      · exact hcall _ _ _ _ hf
      · exact hcall _ _ _ _ hf
      · trivial
    · split
      · split
        · exact hcall _ _ _ _ hf
        · trivial
      · trivial
  · split
    · exact Grow.refl _ _
    · trivial
  · trivial

theorem cops_grow (hcall : CallGrow callf) (ops : Array Oper) : ∀ (rest : List Oper) (tm : Env) (h : Heap), fl ≤ h.length → (cops P callf fl ops rest tm h).each fun r => Grow fl h r.2.2
  | [], tm, h, hf => Grow.refl _ _
  | o :: rest, tm, h, hf => by
    unfold cops
    simp only [putK_eq, forceV_eq, forceH_eq]
    split
    · trivial
    · exact cops_grow hcall ops rest _ h hf
    · rw [Dem.each_bind]
      refine Dem.each_mono ?_ (opRun_grow hcall hf (by simp) tm o)
      intro out hg
      cases out with
      | val v h' => exact Dem.each_mono (fun r hr => hg.trans hr) (cops_grow hcall ops rest _ h' (Nat.le_trans hf hg.1))
      | pan v h' => exact hg

theorem det_each {p : Out → Prop} (hs : ∀ a b, Out.same a b = true → a = b) : ∀ {d : Dem Out} {o : Out}, Dem.det d = some o → d.each p → p o
  | .ret a, o, hd, he => by simp only [Dem.det, Option.some.injEq] at hd; exact hd ▸ he
  | .fail, o, hd, _ => by simp [Dem.det] at hd
  | .pick n k, o, hd, he => by
    unfold Dem.det at hd
    split at hd
    · rename_i o' ho
      split at hd
      · rename_i hc
        cases hd
        exact det_each hs ho (he 0 (Nat.pos_of_ne_zero hc.1))
      · cases hd
    · cases hd

theorem Blk.same_eq : ∀ {a b : Blk}, Blk.same a b = true → a = b
  | .dead, b, h => by cases b <;> simp_all [Blk.same]
  | .row a, b, h => by
    cases b <;> simp [Blk.same] at h
    rw [CV.beqL_eq _ _ h]
  | .map a c, b, h => by
    cases b <;> simp [Blk.same] at h
    rename_i es c'
    obtain ⟨⟨rfl, h1⟩, h2⟩ := h
    congr 1
    induction a generalizing es with
    | nil => cases es <;> simp_all
    | cons x a ih =>
      cases es with
      | nil => simp at h1
      | cons y es =>
        simp at h1
        have hx := h2 x.1 x.2.1 x.2.2 y.1 y.2.1 y.2.2 (by simp)
        obtain ⟨⟨k1, k2⟩, k3⟩ := hx
        have := ih es (fun a b c a' b' c' hm => h2 a b c a' b' c' (by simp [hm])) h1
        subst this
        congr 1
        exact Prod.ext (CV.beq_eq _ _ k1) (Prod.ext (CV.beq_eq _ _ k2) k3)
  | .siter a c, b, h => by cases b <;> simp_all [Blk.same]
  | .miter a b c d, e, h => by cases e <;> simp_all [Blk.same]

theorem sameHeap_eq : ∀ {a b : Heap}, sameHeap a b = true → a = b
  | [], b, h => by cases b <;> simp_all [sameHeap]
  | x :: a, b, h => by
    cases b with
    | nil => simp [sameHeap] at h
    | cons y b =>
      simp only [sameHeap, Bool.and_eq_true] at h
      rw [Blk.same_eq h.1, sameHeap_eq h.2]

theorem Out.same_eq : ∀ a b : Out, Out.same a b = true → a = b
  | .val v h, b, hs => by
    cases b <;> simp [Out.same] at hs
    rw [CV.beq_eq _ _ hs.1, sameHeap_eq hs.2]
  | .pan v h, b, hs => by
    cases b <;> simp [Out.same] at hs
    rw [CV.beq_eq _ _ hs.1, sameHeap_eq hs.2]

/-- If the same comes, whichever of many: just that comes. -/
theorem det_all : ∀ {d : Dem Out} {o : Out}, Dem.det d = some o → d.all (· = o)
  | .ret a, o, hd => by simp only [Dem.det, Option.some.injEq] at hd; exact hd
  | .fail, o, hd => by simp [Dem.det] at hd
  | .pick n k, o, hd => by
    unfold Dem.det at hd
    split at hd
    · rename_i o' ho
      split at hd
      · rename_i hc
        cases hd
        intro i hi
        have h1 := List.all_eq_true.1 hc.2 i (List.mem_range.2 hi)
        split at h1
        · rename_i o'' ho''
          rw [Out.same_eq _ _ h1]
          exact det_all ho''
        · cases h1
      · cases hd
    · cases hd

theorem drawStep_grow (hcall : CallGrow callf) (ops : Array Oper) (orc : Orc) (an : List Nat) (base i : Nat) (tm : Env) (o : Oper) (hf : fl ≤ h.length) {r : Out} (hr : drawStep P callf fl ops orc an base i tm o h = some r) : Grow fl h r.heap := by
  unfold drawStep at hr
  split at hr
  · cases hr
  · cases hr; exact Grow.refl _ _
  · split at hr
    · split at hr
      · split at hr
        · cases hr; exact Grow.refl _ _
        · cases hr
      · cases hr
    · split at hr
      · rename_i v h' hd
        have := det_each Out.same_eq hd (opRun_grow hcall hf (slot := none) (by simp) tm o)
        split at hr
        · split at hr
          · cases hr; exact this
          · cases hr
        · cases hr; exact Grow.refl _ _
      · rename_i v h' hd
        have := det_each Out.same_eq hd (opRun_grow hcall hf (slot := none) (by simp) tm o)
        split at hr
        · cases hr; exact this
        · cases hr
      · cases hr

def PanGrow (fl : Nat) (h : Heap) : Pan → Prop
  | none => True
  | some (_, _, hp) => Grow fl h hp

theorem drawRun_grow (hcall : CallGrow callf) (ops : Array Oper) (orc : Orc) (an : List Nat) (base : Nat) (k0 : Heap) : ∀ (rest : List Oper) (i : Nat) (tm : Env) (h : Heap) (pn : Pan) (x : List Rec × Env × Heap × Pan), fl ≤ h.length → Grow fl k0 h → PanGrow fl k0 pn →
    drawRun P callf fl ops orc an base i rest tm h pn = some x → Grow fl k0 x.2.2.1 ∧ PanGrow fl k0 x.2.2.2
  | [], i, tm, h, pn, x, hf, hk, hp, hx => by
    simp only [drawRun, Option.some.injEq] at hx
    subst hx
    exact ⟨hk, hp⟩
  | o :: rest, i, tm, h, pn, x, hf, hk, hp, hx => by
    have hcons : ∀ {r : Rec} {y : Option (List Rec × Env × Heap × Pan)}, consRec r y = some x → ∃ z, y = some z ∧ x.2.2 = z.2.2 := by
      intro r y hy
      cases y with
      | none => simp [consRec] at hy
      | some z => obtain ⟨z1, z2, z3, z4⟩ := z; simp only [consRec, Option.some.injEq] at hy; subst hy; exact ⟨_, rfl, rfl⟩
    unfold drawRun at hx
    simp only [putK_eq, forceV_eq, forceH_eq] at hx
    split at hx
    · obtain ⟨z, h1, h2⟩ := hcons hx
      rw [h2]
      exact drawRun_grow hcall ops orc an base k0 rest _ tm h pn z hf hk hp h1
    · split at hx
      · cases hx
      · split at hx
        · rename_i v h' hs
          have hg := drawStep_grow hcall ops orc an base i tm o hf hs
          obtain ⟨z, h1, h2⟩ := hcons hx
          rw [h2]
          exact drawRun_grow hcall ops orc an base k0 rest _ _ h' pn z (Nat.le_trans hf hg.1) (hk.trans hg) hp h1
        · rename_i v h' hs
          have hg := drawStep_grow hcall ops orc an base i tm o hf hs
          split at hx
          · obtain ⟨z, h1, h2⟩ := hcons hx
            rw [h2]
            exact drawRun_grow hcall ops orc an base k0 rest _ _ h (some (i, v, h')) z hf hk (hk.trans hg) h1
          · cases hx
        · cases hx

/-- The heap that a region that draws begins with. -/
theorem draw_heap (orc : Orc) (hf : fl ≤ h.length) : Grow fl h (if (orc.any (·.isSome)) = true then h ++ orc.map (·.getD .dead) else h) := by
  split
  · exact ⟨by simp, fun i hi => by rw [List.getElem?_append_left (by omega)]⟩
  · exact Grow.refl _ _

theorem cdraw_grow (hcall : CallGrow callf) (ops : Array Oper) (tm : Env) (hf : fl ≤ h.length) : (cdraw P callf fl ops tm h).each fun r => Grow fl h r.2.2 := by
  unfold cdraw
  simp only
  split
  · split
    · rename_i rs tm' h' pn hrun
      have h0 := draw_heap (h := h) (oracle P callf fl ops h.length 0 ops.toList tm) hf
      have := drawRun_grow hcall ops _ _ _ h _ _ _ _ none _ (Nat.le_trans hf h0.1) h0 trivial hrun
      split
      · split
        · exact this.1
        · exact this.2
      · trivial
    · trivial
  · trivial

theorem citer_grow {body : Env → Heap → Dem (CX × Env × Heap)} (hb : ∀ tm h, fl ≤ h.length → (body tm h).each fun r => Grow fl h r.2.2) : ∀ (n : Nat) (tm : Env) (h : Heap), fl ≤ h.length → (citer n body tm h).each fun r => Grow fl h r.2.2
  | 0, tm, h, hf => trivial
  | n + 1, tm, h, hf => by
    unfold citer
    rw [Dem.each_bind]
    refine Dem.each_mono ?_ (hb tm h hf)
    rintro ⟨x, tm', h'⟩ hg
    cases x with
    | normal => exact Dem.each_mono (fun r hr => hg.trans hr) (citer_grow hb n tm' h' (Nat.le_trans hf hg.1))
    | _ => exact hg

theorem ccode_grow (hcall : CallGrow callf) (n : Nat) : ∀ (c : Code) (tm : Env) (h : Heap), fl ≤ h.length → (ccode P callf n fl c tm h).each fun r => Grow fl h r.2.2 := by
  intro c
  induction c with
  | skip => intro tm h hf; exact Grow.refl _ _
  | label l => intro tm h hf; exact Grow.refl _ _
  | exit id => intro tm h hf; exact Grow.refl _ _
  | ret => intro tm h hf; exact Grow.refl _ _
  | region id ops draw =>
    intro tm h hf
    unfold ccode
    split
    · exact cdraw_grow hcall ops tm hf
    · exact cops_grow hcall ops ops.toList tm h hf
  | seq a b iha ihb =>
    intro tm h hf
    unfold ccode
    rw [Dem.each_bind]
    refine Dem.each_mono ?_ (iha tm h hf)
    rintro ⟨x, tm', h'⟩ hg
    cases x with
    | normal => exact Dem.each_mono (fun r hr => hg.trans hr) (ihb tm' h' (Nat.le_trans hf hg.1))
    | _ => exact hg
  | cond c a b iha ihb =>
    intro tm h hf
    unfold ccode
    split
    · exact iha tm h hf
    · exact ihb tm h hf
    · trivial
  | block id b ih =>
    intro tm h hf
    unfold ccode
    rw [Dem.each_bind]
    refine Dem.each_mono ?_ (ih tm h hf)
    rintro ⟨x, tm', h'⟩ hg
    cases x with
    | exit id' => simp only; split <;> exact hg
    | _ => exact hg
  | scope b ih => intro tm h hf; unfold ccode; exact ih tm h hf
  | loop b ih => intro tm h hf; unfold ccode; exact citer_grow ih n tm h hf
  | rangeFunc f ps a b iha ihb => intro tm h hf; trivial
  | goto l => intro tm h hf; trivial
  | refuse s => intro tm h hf; trivial

theorem dops_grow (hcall : CallGrow callf) (ops : Array Oper) : ∀ (rest : List Oper) (tm : Env) (h : Heap) (ds : List Dfr), fl ≤ h.length → (dops P callf fl ops rest tm h ds).each fun r => Grow fl h r.2.2.1
  | [], tm, h, ds, hf => Grow.refl _ _
  | o :: rest, tm, h, ds, hf => by
    unfold dops
    simp only [putK_eq, forceV_eq, forceH_eq]
    split
    · trivial
    · exact dops_grow hcall ops rest _ h _ hf
    · split
      · split
        · split
          · exact dops_grow hcall ops rest _ h _ hf
          · trivial
        · trivial
      · rw [Dem.each_bind]
        refine Dem.each_mono ?_ (opRun_grow hcall hf (by simp) tm o)
        intro out hg
        cases out with
        | val v h' => exact Dem.each_mono (fun r hr => hg.trans hr) (dops_grow hcall ops rest _ h' _ (Nat.le_trans hf hg.1))
        | pan v h' => exact hg

theorem crangeF_grow (hcall : CallGrow callf) (f : Operand) (ps : Array Tmp) (x y : Code) (tm : Env) (h : Heap) (ds : List Dfr) (hf : fl ≤ h.length) : (crangeF P callf fl f ps x y tm h ds).each fun r => Grow fl h r.2.2.1 := by
  unfold crangeF
  split
  · split
    · rw [Dem.each_bind]
      have h0 : Grow fl h (h ++ [.dfd, .loop tm ps.toList x y 0 none]) := ⟨by simp, fun i hi => by rw [List.getElem?_append_left (by omega)]⟩
      refine Dem.each_mono ?_ (hcall fl _ _ _ (Nat.le_trans hf h0.1))
      intro o hg
      cases o with
      | val v h' =>
        simp only
        split
        · split
          · trivial
          · exact (h0.trans hg).trans (Grow.set (by omega) _)
        · trivial
      | pan v h' => exact h0.trans hg
    · trivial
  · trivial

theorem dcode_grow (hcall : CallGrow callf) (n : Nat) : ∀ (c : Code) (tm : Env) (h : Heap) (ds : List Dfr), fl ≤ h.length → (dcode P callf n fl c tm h ds).each fun r => Grow fl h r.2.2.1 := by
  have plain : ∀ (c : Code) (tm : Env) (h : Heap) (ds : List Dfr), fl ≤ h.length → ((ccode P callf n fl c tm h).bind fun (x, tm', h') => .ret (x, tm', h', ds)).each fun (r : CX × Env × Heap × List Dfr) => Grow fl h r.2.2.1 := by
    intro c tm h ds hf
    rw [Dem.each_bind]
    exact Dem.each_mono (fun r hr => hr) (ccode_grow hcall n c tm h hf)
  intro c
  induction c with
  | seq a b iha ihb =>
    intro tm h ds hf
    unfold dcode
    rw [Dem.each_bind]
    refine Dem.each_mono ?_ (iha tm h ds hf)
    rintro ⟨x, tm', h', ds'⟩ hg
    cases x with
    | normal => exact Dem.each_mono (fun r hr => hg.trans hr) (ihb tm' h' ds' (Nat.le_trans hf hg.1))
    | _ => exact hg
  | region id ops draw =>
    intro tm h ds hf
    unfold dcode
    split
    · exact dops_grow hcall ops ops.toList tm h ds hf
    · exact plain _ tm h ds hf
  | cond c a b iha ihb =>
    intro tm h ds hf
    unfold dcode
    split
    · exact iha tm h ds hf
    · exact ihb tm h ds hf
    · trivial
  | block id b ih =>
    intro tm h ds hf
    unfold dcode
    rw [Dem.each_bind]
    refine Dem.each_mono ?_ (ih tm h ds hf)
    rintro ⟨x, tm', h', ds'⟩ hg
    cases x with
    | exit id' => simp only; split <;> exact hg
    | _ => exact hg
  | scope b ih => intro tm h ds hf; unfold dcode; exact ih tm h ds hf
  | rangeFunc f ps x y ihx ihy => intro tm h ds hf; unfold dcode; exact crangeF_grow hcall f ps x y tm h ds hf
  | _ => intro tm h ds hf; unfold dcode; exact plain _ tm h ds hf

theorem sops_grow (hcall : CallGrow callf) (ops : Array Oper) : ∀ (rest : List Oper) (tm : Env) (h : Heap) (m : Mode), fl ≤ h.length → (sops P callf fl ops rest tm h m).each fun r => Grow fl h r.2.2.1
  | [], tm, h, m, hf => Grow.refl _ _
  | o :: rest, tm, h, m, hf => by
    unfold sops
    simp only [putK_eq, forceV_eq, forceH_eq]
    split
    · trivial
    · exact sops_grow hcall ops rest _ h _ hf
    · split
      · split
        · exact sops_grow hcall ops rest _ h _ hf
        · exact sops_grow hcall ops rest _ h _ hf
      split
      · trivial
      · rw [Dem.each_bind]
        refine Dem.each_mono ?_ (opRun_grow hcall hf (by simp) tm o)
        intro out hg
        cases out with
        | val v h' => exact Dem.each_mono (fun r hr => hg.trans hr) (sops_grow hcall ops rest _ h' _ (Nat.le_trans hf hg.1))
        | pan v h' => exact hg

theorem scode_grow (hcall : CallGrow callf) (n : Nat) : ∀ (c : Code) (tm : Env) (h : Heap) (m : Mode), fl ≤ h.length → (scode P callf n fl c tm h m).each fun r => Grow fl h r.2.2.1 := by
  have plain : ∀ (c : Code) (tm : Env) (h : Heap) (m : Mode), fl ≤ h.length → ((ccode P callf n fl c tm h).bind fun (x, tm', h') => .ret (x, tm', h', m)).each fun (r : CX × Env × Heap × Mode) => Grow fl h r.2.2.1 := by
    intro c tm h m hf
    rw [Dem.each_bind]
    exact Dem.each_mono (fun r hr => hr) (ccode_grow hcall n c tm h hf)
  intro c
  induction c with
  | seq a b iha ihb =>
    intro tm h m hf
    unfold scode
    rw [Dem.each_bind]
    refine Dem.each_mono ?_ (iha tm h m hf)
    rintro ⟨x, tm', h', m'⟩ hg
    cases x with
    | normal => exact Dem.each_mono (fun r hr => hg.trans hr) (ihb tm' h' m' (Nat.le_trans hf hg.1))
    | _ => exact hg
  | region id ops draw =>
    intro tm h m hf
    unfold scode
    split
    · exact sops_grow hcall ops ops.toList tm h m hf
    · exact plain _ tm h m hf
  | _ => intro tm h m hf; unfold scode; exact plain _ tm h m hf

theorem cleave_grow (hcall : CallGrow callf) (n : Nat) (fn : Func) (tm : Env) : ∀ (ds : List Dfr) (m : Mode) (h : Heap), fl ≤ h.length → (cleave P callf n fl fn tm ds m h).each fun o => Grow fl h o.heap
  | [], m, h, hf => by
    cases m with
    | calm => unfold cleave; split <;> first | exact Grow.refl _ _ | trivial
    | up v => exact Grow.refl _ _
    | got v => trivial
  | .mark id :: ds, m, h, hf => by
    unfold cleave
    split
    · split
      · rename_i hlt
        exact Dem.each_mono (fun r hr => (Grow.set hlt _).trans hr) (cleave_grow hcall n fn tm ds m (h.set id .dead) (by simpa using hf))
      · trivial
    · trivial
  | .call g args :: ds, m, h, hf => by
    unfold cleave
    simp only [forceL_eq]
    split
    · trivial
    · split
      · trivial
      · rw [Dem.each_bind]
        refine Dem.each_mono ?_ (scode_grow hcall n _ _ h m hf)
        rintro ⟨x, tm', h', m'⟩ hg
        have next : ∀ m2, (cleave P callf n fl fn tm ds m2 h').each fun o => Grow fl h o.heap := fun m2 => Dem.each_mono (fun r hr => hg.trans hr) (cleave_grow hcall n fn tm ds m2 h' (Nat.le_trans hf hg.1))
        cases x with
        | normal => simp only; split <;> first | trivial | exact next _
        | ret => simp only; split <;> first | trivial | exact next _
        | pan v => cases m' <;> first | exact next _ | trivial
        | exit id => trivial

theorem cend_grow {id : Nat} (hid : fl ≤ id) (j : Option (Option Nat)) (h : Heap) : (cend id j h).each fun o => Grow fl h o.heap := by
  unfold cend
  split
  · exact Grow.set hid _
  · trivial

theorem cround_grow (hcall : CallGrow callf) (n id : Nat) (args : List CV) (h : Heap) (hf : fl ≤ h.length) : (cround P callf n fl id args h).each fun o => Grow fl h o.heap := by
  unfold cround
  split
  · split
    · rename_i hc
      rw [Dem.each_bind]
      refine Dem.each_mono ?_ (ccode_grow hcall n _ _ h hf)
      rintro ⟨x, tm1, h1⟩ hg
      cases x with
      | normal =>
        simp only
        split
        · rename_i a b c d e he
          rw [Dem.each_bind]
          have h2 : Grow fl h1 (h1.set id (.loop a b c d 1 e)) := Grow.set hc.1 _
          refine Dem.each_mono ?_ (ccode_grow hcall n _ tm1 _ (Nat.le_trans hf (Nat.le_trans hg.1 h2.1)))
          rintro ⟨y, tm2, h3⟩ hg3
          have h4 : Grow fl h h3 := (hg.trans h2).trans hg3
          cases y with
          | normal => exact Dem.each_mono (fun r hr => h4.trans hr) (cend_grow hc.1 _ _)
          | ret => exact Dem.each_mono (fun r hr => h4.trans hr) (cend_grow hc.1 _ _)
          | exit x => exact Dem.each_mono (fun r hr => h4.trans hr) (cend_grow hc.1 _ _)
          | pan v => trivial
        · trivial
      | _ => trivial
    · trivial
  · trivial

theorem ccall_grow (cfg : Cfg) : ∀ n, CallGrow (ccall P cfg n)
  | 0 => fun fl f args h hf => trivial
  | n + 1 => by
    intro fl f args h hf
    have ih := ccall_grow cfg n
    cases f with
    | rnd id => exact cround_grow ih n id args h hf
    | fn f =>
    unfold ccall
    simp only [forceL_eq]
    split
    · split
      · exact Grow.refl _ _
      · trivial
    · split
      · trivial
      · split
        · split
          · exact Grow.refl _ _
          · trivial
        split
        · rw [Dem.each_bind]
          refine Dem.each_mono ?_ (dcode_grow ih n _ _ h _ hf)
          rintro ⟨x, tm, h', ds⟩ hg
          cases x with
          | normal => exact Dem.each_mono (fun r hr => hg.trans hr) (cleave_grow ih n _ _ _ _ h' (Nat.le_trans hf hg.1))
          | ret => exact Dem.each_mono (fun r hr => hg.trans hr) (cleave_grow ih n _ _ _ _ h' (Nat.le_trans hf hg.1))
          | pan v => exact Dem.each_mono (fun r hr => hg.trans hr) (cleave_grow ih n _ _ _ _ h' (Nat.le_trans hf hg.1))
          | exit id => trivial
        · split
          · rw [Dem.each_bind]
            refine Dem.each_true ?_
            rintro ⟨x, tm, h'⟩
            cases x with
            | normal => simp only; split <;> first | exact Grow.refl _ _ | trivial
            | ret => simp only; split <;> first | exact Grow.refl _ _ | trivial
            | pan v => simp only; split <;> first | exact Grow.refl _ _ | trivial
            | exit id => trivial
          · rw [Dem.each_bind]
            refine Dem.each_mono ?_ (ccode_grow ih n _ _ h hf)
            rintro ⟨x, tm, h'⟩ hg
            cases x with
            | normal => simp only; split <;> first | exact hg | trivial
            | ret => simp only; split <;> first | exact hg | trivial
            | pan v => exact hg
            | exit id => trivial

end
end Go.CE

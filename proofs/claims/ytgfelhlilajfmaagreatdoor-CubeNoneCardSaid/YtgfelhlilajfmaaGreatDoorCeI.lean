/-
  The canonical evaluator: what a call leaves can be frozen, and read whole.
-/
import Derived.Test.YtgfelhlilajfmaaGreatDoorCeH4
namespace Go.CE
set_option linter.unusedVariables false
set_option linter.unusedSimpArgs false
set_option linter.unusedSectionVars false
set_option linter.unnecessarySimpa false
open Go.RowKit (Below)
variable [Glob]

section
variable {P : Program} {w0 : World} {g0 g : Gho} {h0 h : Heap} {w0' w : World} {n : Nat}

theorem mapM_nil' {α β : Type} (f : α → Option β) : List.mapM f [] = some [] := rfl
theorem mapM_cons' {α β : Type} {f : α → Option β} {x : α} {l : List α} {r : List β} (h : (x :: l).mapM f = some r) : ∃ y ys, f x = some y ∧ l.mapM f = some ys ∧ r = y :: ys := by
  rw [List.mapM_cons] at h
  cases hx : f x with
  | none => simp [hx] at h
  | some y =>
    cases hl : l.mapM f with
    | none => simp [hx, hl] at h
    | some ys => simp [hx, hl] at h; exact ⟨y, ys, rfl, rfl, h.symm⟩

/-- The knowledge behind a call whose own blocks are forgotten: what lies in them never changes again. -/
def freeze (g0 g : Gho) (n : Nat) (w : World) : Gho := ⟨g0.φ, fun b o => match g.G b o with
  | .own id => if id < n then .own id else match w.cell? ⟨b, o, none⟩ with
    | some v => .imm v
    | none => .free
  | x => x⟩

theorem freeze_imm {b o : Nat} {v : Value} (h : g.G b o = .imm v) : (freeze g0 g n w).G b o = .imm v := by simp [freeze, h]
theorem freeze_own {b o id : Nat} (h : g.G b o = .own id) (hi : id < n) : (freeze g0 g n w).G b o = .own id := by simp [freeze, h, hi]
theorem freeze_new {b o id : Nat} {v : Value} (h : g.G b o = .own id) (hi : n ≤ id) (hv : w.cell? ⟨b, o, none⟩ = some v) : (freeze g0 g n w).G b o = .imm v := by
  simp only [freeze, h]; rw [if_neg (by omega), hv]

/-- What said something before the call says it of the value that stands there now. -/
theorem VR.back (hφ : ∀ id x, g0.φ id = some x → g.φ id = some x) {v : Value} {c : CV} (hv : VR g v c) : ∀ {v0 : Value}, VR g0 v0 c → VR (freeze g0 g n w) v c := by
  induction hv with
  | any v => intro _ _; exact .any v
  | bool b => intro _ _; exact .bool b
  | int k m => intro _ _; exact .int k m
  | sym k i h => intro _ _; exact .sym k i h
  | symS i => intro _ _; exact .symS i
  | yld id b o L h =>
    intro v0 h0
    cases h0 with
    | yld _ b' o' L' h' =>
      have := hφ _ _ h'
      rw [h] at this
      cases this
      exact .yld id _ _ _ h'
  | flt k m => intro _ _; exact .flt k m
  | str s => intro _ _; exact .str s
  | nilp => intro _ _; exact .nilp
  | hp id off b o L h =>
    intro v0 h0
    cases h0 with
    | hp _ _ b' o' L' h' =>
      have := hφ _ _ h'
      rw [h] at this
      cases this
      exact .hp id off _ _ _ h'
  | rp b o cells f h1 _ ih =>
    intro v0 h0
    cases h0 with
    | rp b' o' _ f' k1 k2 => exact .rp b o cells f (fun j hj => freeze_imm (h1 j hj)) fun j hj => ih j hj (k2 j hj)
  | nils => intro _ _; exact .nils
  | hs a c id off len sz cap b o L h h1 h2 h3 =>
    intro v0 h0
    cases h0 with
    | hs a' c' _ _ _ _ _ b' o' L' h' =>
      have := hφ _ _ h'
      rw [h] at this
      cases this
      exact .hs a c id off len sz cap _ _ _ h' h1 h2 h3
  | rs a c cells len sz cap f h1 h2 h3 h4 h5 _ ih =>
    intro v0 h0
    cases h0 with
    | rs a' c' _ _ _ _ f' k1 k2 k3 k4 k5 k6 => exact .rs a c cells len sz cap f h1 h2 h3 h4 (fun j hj => freeze_imm (h5 j hj)) fun j hj => ih j hj (k6 j hj)
  | nilm => intro _ _; exact .nilm
  | hm id b o L h =>
    intro v0 h0
    cases h0 with
    | hm _ b' o' L' h' =>
      have := hφ _ _ h'
      rw [h] at this
      cases this
      exact .hm id _ _ _ h'
  | fn f fs cs fs' cs' h1 h2 _ _ i1 i2 =>
    intro v0 h0
    cases h0 with
    | fn _ _ _ _ _ k1 k2 k3 k4 => exact .fn f fs cs fs' cs' h1 h2 (fun j hj => i1 j hj (k3 j hj)) fun j hj => i2 j hj (k4 j hj)
  | nilf => intro _ _; exact .nilf
  | iface t v v' _ ih =>
    intro v0 h0
    cases h0 with
    | iface _ v2 _ k => exact .iface t v v' (ih k)
  | nili => intro _ _; exact .nili
  | agg cs cs' h _ ih =>
    intro v0 h0
    cases h0 with
    | agg cs2 _ k1 k2 => exact .agg cs cs' h fun j hj => ih j hj (k2 j hj)
  | tup cs cs' h _ ih =>
    intro v0 h0
    cases h0 with
    | tup cs2 _ k1 k2 => exact .tup cs cs' h fun j hj => ih j hj (k2 j hj)

theorem VRL.back (hφ : ∀ id x, g0.φ id = some x → g.φ id = some x) : ∀ {vs vs0 : List Value} {cs : List CV}, VRL g vs cs → VRL g0 vs0 cs → VRL (freeze g0 g n w) vs cs
  | [], _, [], _, _ => trivial
  | _ :: _, [], _ :: _, _, h => h.elim
  | _ :: _, _ :: _, _ :: _, h, h' => ⟨h.1.back hφ h'.1, VRL.back hφ h.2 h'.2⟩

theorem ER.back (hφ : ∀ id x, g0.φ id = some x → g.φ id = some x) : ∀ {es es0 : List MapEntry} {cs : List (CV × CV × Nat)}, ER g es cs → ER g0 es0 cs → ER (freeze g0 g n w) es cs
  | [], _, [], _, _ => trivial
  | _ :: _, [], _ :: _, _, h => h.elim
  | _ :: _, _ :: _, _ :: _, h, h' => ⟨⟨h.1.1.back hφ h'.1.1, h.1.2.1.back hφ h'.1.2.1, h.1.2.2⟩, ER.back hφ h.2 h'.2⟩

theorem freeze_le (hle : Gle n g0 g) : Gle n g0 (freeze g0 g n w) := ⟨fun _ _ h => h, fun _ _ => rfl, fun b o v h => freeze_imm (hle.imm b o v h)⟩

theorem WI.freeze (hw0 : WI w0 g0 h0 w0') (hw : WI w0 g h w) (hle : Gle n g0 g) (hn : n = h0.length) (hh : ∀ i, i < n → h[i]? = h0[i]?) : WI w0 (freeze g0 g n w) h0 w := by
  refine ⟨fun x => (hw0.glob x).le (freeze_le hle), hw.below, fun b o v k => ?_, fun b o id k => ?_, hw0.dom, fun id b o L x k1 k2 => ?_⟩
  · simp only [CE.freeze] at k
    split at k
    · rename_i id hg
      split at k
      · cases k
      · split at k
        · rename_i v' hv; cases k; exact hv
        · cases k
    · exact hw.immv b o v k
  · simp only [CE.freeze] at k
    split at k
    · rename_i id' hg
      split at k
      · cases k; exact hw.old b o _ hg
      · split at k <;> cases k
    · exact hw.old b o id k
  · have hid : id < n := by rw [hn]; exact hw0.dom id _ k1
    have h1 := hw0.blk id b o L x k1 k2
    have h2 := hw.blk id b o L x (hle.ext _ _ k1) (by rw [hh id hid]; exact k2)
    cases x with
    | dead => trivial
    | row cells =>
      obtain ⟨a1, a2, a3⟩ := h1
      obtain ⟨b1, b2, b3⟩ := h2
      refine ⟨b1, fun j hj => ⟨freeze_own (b2 j hj).1 hid, (b2 j hj).2⟩, fun j hj => ?_⟩
      obtain ⟨v, v1, v2⟩ := b3 j hj
      obtain ⟨u, u1, u2⟩ := a3 j hj
      exact ⟨v, v1, v2.back hle.ext u2⟩
    | map es c =>
      obtain ⟨a1, a2, es0, a3, a4⟩ := h1
      obtain ⟨b1, b2, es', b3, b4⟩ := h2
      exact ⟨fun j => freeze_own (b1 j) hid, b2, es', b3, ER.back hle.ext b4 a4⟩
    | siter s pos =>
      obtain ⟨b1, b2, b3⟩ := h2
      exact ⟨fun j => freeze_own (b1 j) hid, b2, b3⟩
    | dfd =>
      obtain ⟨b1, b2, b3⟩ := h2
      exact ⟨fun j => freeze_own (b1 j) hid, b2, b3⟩
    | loop tm ps x c st pend =>
      obtain ⟨a1, a2, t0, f0, D0, a3, a4⟩ := h1
      obtain ⟨b1, b2, t, f, D, b3, b4⟩ := h2
      exact ⟨fun j => freeze_own (b1 j) hid, b2, t, f, D, b3, b4.back hle.ext a4⟩
    | miter m a c d =>
      obtain ⟨a1, a2, bm, om, Lm, a3, a4⟩ := h1
      obtain ⟨b1, b2, bm', om', Lm', b3, b4⟩ := h2
      have := hle.ext _ _ a3
      rw [b3] at this
      cases this
      exact ⟨fun j => freeze_own (b1 j) hid, b2, _, _, _, a3, b4⟩

theorem mapM_VRL {g' : Gho} {f : CV → Option CV} (hf : ∀ v c c', VR g v c → f c = some c' → VR g' v c') : ∀ {cs cs' : List CV} {vs : List Value}, VRL g vs cs → cs.mapM f = some cs' → VRL g' vs cs'
  | [], cs', [], _, h => by rw [mapM_nil'] at h; cases h; trivial
  | c :: cs, cs', v :: vs, hv, h => by
    obtain ⟨y, ys, h1, h2, rfl⟩ := mapM_cons' h
    exact ⟨hf _ _ _ hv.1 h1, mapM_VRL hf hv.2 h2⟩

theorem mapM_length {α β : Type} {f : α → Option β} : ∀ {l : List α} {r : List β}, l.mapM f = some r → r.length = l.length
  | [], r, h => by rw [mapM_nil'] at h; cases h; rfl
  | x :: l, r, h => by
    obtain ⟨y, ys, h1, h2, rfl⟩ := mapM_cons' h
    simp [mapM_length h2]

theorem mapM_get {α β : Type} {f : α → Option β} : ∀ {l : List α} {r : List β}, l.mapM f = some r → ∀ (j : Nat) (y : β), r[j]? = some y → ∃ x, l[j]? = some x ∧ f x = some y
  | [], r, h, j, y, hy => by rw [mapM_nil'] at h; cases h; simp at hy
  | x :: l, r, h, j, y, hy => by
    obtain ⟨z, zs, h1, h2, rfl⟩ := mapM_cons' h
    cases j with
    | zero => simp at hy; subst hy; exact ⟨x, rfl, h1⟩
    | succ j => exact mapM_get h2 j y (by simpa using hy)

theorem mapM_getD {f : CV → Option CV} {l r : List CV} (h : l.mapM f = some r) {j : Nat} (hj : j < r.length) : f (l.getD j .any) = some (r.getD j .any) := by
  obtain ⟨x, h1, h2⟩ := mapM_get h j r[j] (by simp [hj])
  simp [List.getD, h1, hj, h2]

/-- What was read whole is so behind the call. -/
theorem deepRead_VR (hw : WI w0 g h w) (hle : Gle n g0 g) : ∀ (k : Nat) (v : Value) (c c' : CV), VR g v c → deepRead h n k c = some c' → VR (freeze g0 g n w) v c'
  | 0, v, c, c', hv, hd => by simp [deepRead] at hd
  | k + 1, v, c, c', hv, hd => by
    have ih := deepRead_VR hw hle k
    unfold deepRead at hd
    cases hv with
    | any v => cases hd; exact .any _
    | bool b => cases hd; exact .bool _
    | int a b => cases hd; exact .int _ _
    | sym a b h => cases hd; exact .sym _ _ h
    | symS a => cases hd; exact .symS _
    | yld id b o L hφ =>
      simp only at hd
      split at hd
      · rename_i hid
        cases hd
        exact .yld _ _ _ _ (show g0.φ id = _ by rw [← hle.low id hid]; exact hφ)
      · cases hd
    | flt a b => cases hd; exact .flt _ _
    | str s => cases hd; exact .str _
    | nilp => cases hd; exact .nilp
    | nils => cases hd; exact .nils
    | nilm => cases hd; exact .nilm
    | nilf => cases hd; exact .nilf
    | nili => cases hd; exact .nili
    | hp id off b o L hφ =>
      simp only at hd
      split at hd
      · rename_i hid
        cases hd
        exact .hp _ _ _ _ _ (show g0.φ id = _ by rw [← hle.low id hid]; exact hφ)
      · rename_i hid
        split at hd
        · rename_i cells hc
          split at hd
          · rename_i hoff
            simp only [Option.map_eq_some_iff] at hd
            obtain ⟨cs, hm, rfl⟩ := hd
            obtain ⟨b1, b2, b3⟩ := hw.blk id b o L _ hφ hc
            have hl := mapM_length hm
            simp at hl
            have key : ∀ j, j < cs.length → ∃ y, w.cell? ⟨b, o + off + j, none⟩ = some y ∧ g.G b (o + off + j) = .own id ∧ VR (freeze g0 g n w) y (cs.getD j .any) := by
              intro j hj
              obtain ⟨y, y1, y2⟩ := b3 (off + j) (by omega)
              refine ⟨y, by rw [Nat.add_assoc]; exact y1, by rw [Nat.add_assoc]; exact (b2 (off + j) (by omega)).1, ?_⟩
              have := mapM_getD hm hj
              refine ih _ _ _ ?_ this
              simpa [List.getD] using y2
            refine .rp b (o + off) cs (fun j => (w.cell? ⟨b, o + off + j, none⟩).getD undef) (fun j hj => ?_) fun j hj => ?_
            · obtain ⟨y, y1, y2, y3⟩ := key j hj
              simp only [y1, Option.getD_some]
              exact freeze_new y2 (by omega) y1
            · obtain ⟨y, y1, y2, y3⟩ := key j hj
              simpa only [y1, Option.getD_some] using y3
          · cases hd
        · cases hd
    | hs a c id off len sz cap b o L hφ h1 h2 h3 =>
      simp only at hd
      split at hd
      · rename_i hid
        cases hd
        exact .hs _ _ _ _ _ _ _ _ _ _ (show g0.φ id = _ by rw [← hle.low id hid]; exact hφ) h1 h2 h3
      · rename_i hid
        split at hd
        · rename_i cells hc
          split at hd
          · rename_i hoff
            simp only [Option.map_eq_some_iff] at hd
            obtain ⟨cs, hm, rfl⟩ := hd
            obtain ⟨b1, b2, b3⟩ := hw.blk id b o L _ hφ hc
            have hl := mapM_length hm
            simp at hl
            have hl' : cs.length = len * sz := by omega
            by_cases hc0 : c = 0
            · have : len = 0 := by omega
              subst this
              have : cs = [] := by cases cs <;> simp_all
              subst this
              exact .rs a c [] 0 sz none (fun _ => undef) (by omega) (by simp) (by simp) (by simp) (fun j hj => by simp at hj) (fun j hj => by simp at hj)
            · obtain ⟨rfl, k2⟩ := h3 hc0
              have key : ∀ j, j < cs.length → ∃ y, w.cell? ⟨b, o + off + j, none⟩ = some y ∧ g.G b (o + off + j) = .own id ∧ VR (freeze g0 g n w) y (cs.getD j .any) := by
                intro j hj
                obtain ⟨y, y1, y2⟩ := b3 (off + j) (by omega)
                refine ⟨y, by rw [Nat.add_assoc]; exact y1, by rw [Nat.add_assoc]; exact (b2 (off + j) (by omega)).1, ?_⟩
                have := mapM_getD hm hj
                refine ih _ _ _ ?_ this
                have hj' : j < len * sz := by omega
                simpa [List.getD, List.getElem?_take, hj'] using y2
              refine .rs _ c cs len sz none (fun j => (w.cell? ⟨b, o + off + j, none⟩).getD undef) h1 (by simp) hl' (fun _ => rfl) (fun j hj => ?_) fun j hj => ?_
              · obtain ⟨y, y1, y2, y3⟩ := key j hj
                simp only [y1, Option.getD_some]
                exact freeze_new y2 (by omega) y1
              · obtain ⟨y, y1, y2, y3⟩ := key j hj
                simpa only [y1, Option.getD_some] using y3
          · cases hd
        · cases hd
    | hm id b o L hφ =>
      simp only at hd
      split at hd
      · rename_i hid
        cases hd
        exact .hm _ _ _ _ (show g0.φ id = _ by rw [← hle.low id hid]; exact hφ)
      · cases hd
    | rp b o cells f h1 h2 =>
      simp only [Option.map_eq_some_iff] at hd
      obtain ⟨cs, hm, rfl⟩ := hd
      have hl := mapM_length hm
      exact .rp b o cs f (fun j hj => freeze_imm (h1 j (by omega))) fun j hj => ih _ _ _ (h2 j (by omega)) (mapM_getD hm hj)
    | rs a c cells len sz cap f h1 h2 h3 h4 h5 h6 =>
      simp only [Option.map_eq_some_iff] at hd
      obtain ⟨cs, hm, rfl⟩ := hd
      have hl := mapM_length hm
      refine .rs a c cs len sz cap f h1 h2 (by omega) (fun hne => h4 ?_) (fun j hj => freeze_imm (h5 j (by omega))) fun j hj => ih _ _ _ (h6 j (by omega)) (mapM_getD hm hj)
      intro he
      subst he
      simp at hl
      exact hne hl
    | fn f fs cs fs' cs' h1 h2 h3 h4 =>
      simp only at hd
      split at hd
      · rename_i a b ha hb
        cases hd
        exact .fn' (mapM_VRL ih (VRL_iff.2 ⟨h1, h3⟩) ha) (mapM_VRL ih (VRL_iff.2 ⟨h2, h4⟩) hb)
      · cases hd
    | iface t v v' hv =>
      simp only [Option.map_eq_some_iff] at hd
      obtain ⟨y, hm, rfl⟩ := hd
      exact .iface t v y (ih _ _ _ hv hm)
    | agg cs cs' h1 h2 =>
      simp only [Option.map_eq_some_iff] at hd
      obtain ⟨y, hm, rfl⟩ := hd
      exact .agg' (mapM_VRL ih (VRL_iff.2 ⟨h1, h2⟩) hm)
    | tup cs cs' h1 h2 =>
      simp only [Option.map_eq_some_iff] at hd
      obtain ⟨y, hm, rfl⟩ := hd
      exact .tup' (mapM_VRL ih (VRL_iff.2 ⟨h1, h2⟩) hm)

end
end Go.CE

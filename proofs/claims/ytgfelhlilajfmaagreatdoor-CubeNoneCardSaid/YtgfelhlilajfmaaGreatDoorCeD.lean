/-
  The canonical evaluator's operations: maps, and what steps over them and over strings.
-/
import Derived.Test.YtgfelhlilajfmaaGreatDoorCeC9
namespace Go.CE
set_option linter.unusedVariables false
set_option linter.unusedSimpArgs false
set_option linter.unusedSectionVars false
set_option linter.unnecessarySimpa false
open Go.RowKit (Below)
variable [Glob]
section
variable {P : Program} {w0 w : World} {g : Gho} {h : Heap} {nb : Nat}

theorem ER.length {g : Gho} : ∀ {es : List MapEntry} {cs : List (CV × CV × Nat)}, ER g es cs → es.length = cs.length
  | [], [], _ => rfl
  | _ :: _, _ :: _, h => by simp [ER.length h.2]
  | [], _ :: _, h => h.elim
  | _ :: _, [], h => h.elim

theorem ER.get {g : Gho} : ∀ {es : List MapEntry} {cs : List (CV × CV × Nat)} {i : Nat} {c : CV × CV × Nat}, ER g es cs → cs[i]? = some c → ∃ e, es[i]? = some e ∧ VR g e.key c.1 ∧ VR g e.val c.2.1 ∧ e.born = c.2.2
  | _ :: _, _ :: _, 0, c, h, hc => by simp at hc; subst hc; exact ⟨_, rfl, h.1⟩
  | _ :: _, _ :: _, i + 1, c, h, hc => by simp at hc; simpa using ER.get h.2 hc
  | [], [], i, c, _, hc => by simp at hc
  | [], _ :: _, _, _, h, _ => h.elim
  | _ :: _, [], _, _, h, _ => h.elim

theorem ER.snoc {g : Gho} {e : MapEntry} {c : CV × CV × Nat} (h' : VR g e.key c.1 ∧ VR g e.val c.2.1 ∧ e.born = c.2.2) : ∀ {es : List MapEntry} {cs : List (CV × CV × Nat)}, ER g es cs → ER g (es ++ [e]) (cs ++ [c])
  | [], [], _ => ⟨h', trivial⟩
  | _ :: _, _ :: _, h => ⟨h.1, ER.snoc h' h.2⟩

theorem setVal_ER {v : Value} {c : CV} (hv : VR g v c) : ∀ {es : List MapEntry} {cs : List (CV × CV × Nat)} (i : Nat), ER g es cs → ER g (es.modify i fun e => { e with val := v }) (setVal cs i c)
  | [], [], i, _ => by cases i <;> trivial
  | e :: es, c :: cs, 0, h => ⟨⟨h.1.1, hv, h.1.2.2⟩, h.2⟩
  | e :: es, c :: cs, i + 1, h => ⟨h.1, setVal_ER hv i h.2⟩

theorem erase_ER : ∀ {es : List MapEntry} {cs : List (CV × CV × Nat)} (i : Nat), ER g es cs → ER g (es.eraseIdx i) (cs.eraseIdx i)
  | [], [], i, _ => by simp [ER]
  | e :: es, c :: cs, 0, h => h.2
  | e :: es, c :: cs, i + 1, h => ⟨h.1, erase_ER i h.2⟩

theorem checkKey_fit {kt : TypeId} {u : Value} {k : CV} (hv : VR g u k) (hp : plainKey P kt k = true) (e : Bool) (n : Nat) (w : World) : (Instr.checkKey e (n + 2) kt u).run P w = .ok () w := by
  unfold plainKey at hp
  split at hp
  · rename_i hu; cases hv; unfold Instr.checkKey; simp [run_underlying hu]
  · rename_i hu; cases hv; unfold Instr.checkKey; simp [run_underlying hu]
  · rename_i hu; cases hv; unfold Instr.checkKey; simp [run_underlying hu]
  · rename_i fields cs hu
    cases hv with
    | agg cs' _ h1 h2 =>
    have hV := VRL_iff.2 ⟨h1, h2⟩
    unfold Instr.checkKey
    simp only [Sem.run_bind, run_underlying hu, Result.andThen_ok]
    rw [← Array.forIn_toList]
    rw [List.all_eq_true] at hp
    generalize fields.toList = fs at hp
    clear hu
    induction fs with
    | nil => rfl
    | cons f fs ih =>
      have hf := hp f (by simp)
      simp only [Bool.and_eq_true, bne_iff_ne, ne_eq] at hf
      obtain ⟨hn, hf⟩ := hf
      simp only [List.forIn_cons, hn, not_false_eq_true, if_true, Sem.run_bind, ne_eq]
      have hpart : ∃ c d, cpart P f.type cs f.offset = some c ∧ P.underlying f.type = some d ∧ ((∃ kk x, c = .int kk x ∧ d = .int kk) ∨ (∃ x, c = .str x ∧ d = .string) ∨ (∃ x, c = .bool x ∧ d = .bool)) := by
        split at hf
        · rename_i hc hd; exact ⟨_, _, hc, hd, .inl ⟨_, _, by have := beq_iff_eq.1 hf; subst this; exact ⟨rfl, rfl⟩⟩⟩
        · rename_i hc hd; exact ⟨_, _, hc, hd, .inr (.inl ⟨_, rfl, rfl⟩)⟩
        · rename_i hc hd; exact ⟨_, _, hc, hd, .inr (.inr ⟨_, rfl, rfl⟩)⟩
        · cases hf
      obtain ⟨c, d, hc, hd, hk⟩ := hpart
      obtain ⟨y, hy, hyv⟩ := part_VR hc hV w
      rw [hy]
      simp only [Result.andThen_ok]
      have hck : (Instr.checkKey e (n + 1) f.type y).run P w = .ok () w := by
        rcases hk with ⟨kk, x, rfl, rfl⟩ | ⟨x, rfl, rfl⟩ | ⟨x, rfl, rfl⟩ <;> cases hyv <;> (unfold Instr.checkKey; simp [run_underlying hd])
      rw [hck]
      simp only [Result.andThen_ok, Sem.run_pure]
      exact ih (fun f' hf' => hp f' (by simp [hf']))
  · cases hp

/-- Looking for a key. -/
theorem findAsking_fit {kt : TypeId} {u : Value} {k : CV} (hv : VR g u k) (w : World) : ∀ {es : List (CV × CV × Nat)} {es' : List MapEntry} (i0 : Nat) {r : Option Nat}, cfind P kt k es = some r → ER g es' es →
    (Instr.findAsking kt u es' i0).run P w = .ok (r.bind fun i => (es'[i]?).map fun e => (i0 + i, e.val)) w
  | [], [], i0, r, h, _ => by simp [cfind] at h; subst h; rfl
  | e :: es, e' :: es', i0, r, h, hE => by
    simp only [cfind] at h
    simp only [Instr.findAsking, Sem.run_bind]
    split at h
    · rename_i hq
      cases h
      have he : (Op.equal kt u e'.key).run P w = .ok true w := eq_fit Op.maxDepth w hq hv hE.1.1
      rw [he]
      simp
    · rename_i hq
      have he : (Op.equal kt u e'.key).run P w = .ok false w := eq_fit Op.maxDepth w hq hv hE.1.1
      rw [he]
      split at h
      · rename_i r' hr'
        cases h
        have ih := findAsking_fit hv w (i0 + 1) hr' hE.2
        simp only [Result.andThen_ok, Bool.false_eq_true, if_false]
        rw [ih]
        cases r' with
        | none => rfl
        | some i => simp [Nat.add_assoc, Nat.add_comm 1 i]
      · cases h
    · cases h
  | [], _ :: _, _, _, _, hE => hE.elim
  | _ :: _, [], _, _, _, hE => hE.elim

theorem sameNow_fit {kt : TypeId} {d : TypeDesc} {u x : Value} {k c : CV} {r : Bool} (hd : P.underlying kt = some d) (hs : (∃ kk, d = .int kk) ∨ d = .string ∨ d = .bool) (hv : VR g u k) (hx : VR g x c) (h : ceq P Op.maxDepth kt k c = some r) :
    Instr.sameNow d u x = some r := by
  obtain ⟨d0, hd0⟩ : ∃ d0, Op.maxDepth = d0 + 1 := ⟨9999, rfl⟩
  rw [hd0] at h
  simp only [ceq] at h
  split at h
  case h_1 hu =>
    rw [hd] at hu; cases hu
    cases hv; cases hx; cases h; rfl
  case h_2 hu =>
    rw [hd] at hu; cases hu
    cases hv; cases hx
    split at h
    · rename_i hk; subst hk; cases h; simp [Instr.sameNow]
    · cases h
  case h_3 hu =>
    rw [hd] at hu; cases hu
    cases hv with
    | str a => cases hx with
      | str b => cases h; simp only [Instr.sameNow]; rw [beq_toListBytes, str_eq]
  case h_25 => cases h
  all_goals (rename_i hu; rw [hd] at hu; cases hu; simp at hs)

theorem findNow_fit {kt : TypeId} {d : TypeDesc} {u : Value} {k : CV} (hd : P.underlying kt = some d) (hs : (∃ kk, d = .int kk) ∨ d = .string ∨ d = .bool) (hv : VR g u k) :
    ∀ {es : List (CV × CV × Nat)} {es' : List MapEntry} (i0 : Nat) {r : Option Nat}, cfind P kt k es = some r → ER g es' es → Instr.findNow d u es' i0 = some (r.bind fun i => (es'[i]?).map fun e => (i0 + i, e.val))
  | [], [], i0, r, h, _ => by simp [cfind] at h; subst h; rfl
  | e :: es, e' :: es', i0, r, h, hE => by
    simp only [cfind] at h
    simp only [Instr.findNow]
    split at h
    · rename_i hq
      cases h
      rw [sameNow_fit hd hs hv hE.1.1 hq]
      simp
    · rename_i hq
      rw [sameNow_fit hd hs hv hE.1.1 hq]
      split at h
      · rename_i r' hr'
        cases h
        simp only
        rw [findNow_fit hd hs hv (i0 + 1) hr' hE.2]
        cases r' with
        | none => rfl
        | some i => simp [Nat.add_assoc, Nat.add_comm 1 i]
      · cases h
    · cases h
  | [], _ :: _, _, _, _, hE => hE.elim
  | _ :: _, [], _, _, _, hE => hE.elim

theorem findKey_fit {kt : TypeId} {u : Value} {k : CV} (hv : VR g u k) (hp : plainKey P kt k = true) {es : List (CV × CV × Nat)} {es' : List MapEntry} {r : Option Nat} (h : cfind P kt k es = some r) (hE : ER g es' es) (w : World) :
    (Instr.findKey kt u es').run P w = .ok (r.bind fun i => (es'[i]?).map fun e => (i, e.val)) w := by
  have hA := findAsking_fit (P := P) hv w 0 h hE
  have key : ∀ d, P.underlying kt = some d → ((∃ kk, d = .int kk) ∨ d = .string ∨ d = .bool) → (Instr.findKey kt u es').run P w = .ok (r.bind fun i => (es'[i]?).map fun e => (i, e.val)) w := by
    intro d hd hs
    have := findNow_fit hd hs hv 0 h hE
    simp only [Nat.zero_add] at this
    simp [Instr.findKey, run_underlying hd, this]
  unfold plainKey at hp
  split at hp
  · rename_i hu; exact key _ hu (.inl ⟨_, rfl⟩)
  · rename_i hu; exact key _ hu (.inr (.inl rfl))
  · rename_i hu; exact key _ hu (.inr (.inr rfl))
  · rename_i fields cs hu
    simp only [Nat.zero_add] at hA
    cases es' with
    | nil =>
      simp only [Instr.findKey, Sem.run_bind, run_underlying hu, Result.andThen_ok, Instr.findNow, Sem.run_pure]
      cases r <;> simp
    | cons e' es' =>
      simp only [Instr.findKey, Sem.run_bind, run_underlying hu, Result.andThen_ok, Instr.findNow, Instr.sameNow]
      exact hA
  · cases hp

theorem cfind_lt {kt : TypeId} {k : CV} : ∀ {es : List (CV × CV × Nat)} {i : Nat}, cfind P kt k es = some (some i) → i < es.length ∧ ∀ e, es[i]? = some e → ceq P Op.maxDepth kt k e.1 = some true
  | [], i, h => by simp [cfind] at h
  | e :: es, i, h => by
    simp only [cfind] at h
    split at h
    · rename_i hq
      cases h
      exact ⟨by simp, fun e' he => by simp at he; subst he; exact hq⟩
    · split at h
      · rename_i r hr
        cases r with
        | none => simp at h
        | some j =>
          simp at h
          subst h
          obtain ⟨h1, h2⟩ := cfind_lt hr
          exact ⟨by simp; omega, fun e' he => h2 e' (by simpa using he)⟩
      · cases h
    · cases h

theorem mapEs_fit (hw : WI w0 g h w) {u : Value} {x : CV} {es : List (CV × CV × Nat)} (hv : VR g u x) (hm : mapEs h x = some es) :
    ∃ es' : Array MapEntry, ER g es'.toList es ∧ ((u = .map none ∧ es' = #[]) ∨ ∃ r c, u = .map (some r) ∧ w.heap[r]? = some (.map es' c)) := by
  unfold mapEs at hm
  split at hm
  · cases hm; cases hv; exact ⟨#[], trivial, .inl ⟨rfl, rfl⟩⟩
  · split at hm
    · rename_i es0 c hb
      cases hm
      cases hv with
      | hm _ b o L hφ =>
      obtain ⟨_, _, es', h3, h4⟩ := hw.blk _ b o L _ hφ hb
      exact ⟨es', h4, .inr ⟨b, c, rfl, h3⟩⟩
    · cases hm
  · cases hm

theorem lookup_fit (hw : WI w0 g h w) {t : TypeId} {u ui : Value} {x k v : CV} {ok : Bool} (hv : VR g u x) (hk : VR g ui k) (hc : clookup P t h x k ok = some v) :
    ∃ y, (Instr.lookup t u ui ok).run P w = .ok y w ∧ VR g y v := by
  unfold clookup at hc
  split at hc
  case h_2 => cases hc
  rename_i kt et es ht hm
  split at hc
  case isFalse => cases hc
  rename_i hp
  split at hc
  case h_2 => cases hc
  rename_i r hf
  split at hc
  case h_2 => cases hc
  rename_i val found hvf
  cases hc
  obtain ⟨es', hE, hcase⟩ := mapEs_fit hw hv hm
  have hck : (Instr.checkKey es'.isEmpty 10000 kt ui).run P w = .ok () w := checkKey_fit (P := P) hk hp es'.isEmpty 9998 w
  have hfk := findKey_fit (P := P) hk hp hf hE w
  have hval : ∃ z, VR g z val ∧ ((r = none ∧ found = false ∧ (zeroValue et).run P w = .ok z w) ∨ ∃ i e', r = some i ∧ found = true ∧ es'.toList[i]? = some e' ∧ e'.val = z) := by
    cases r with
    | none =>
      simp only [Option.map_eq_some_iff] at hvf
      obtain ⟨z, hz, he⟩ := hvf
      cases he
      obtain ⟨v, h1, h2⟩ := zeroOf_spec hz
      exact ⟨v, h2 ▸ ofConst_VR g v, .inl ⟨rfl, rfl, h1 w⟩⟩
    | some i =>
      simp only [Option.map_eq_some_iff] at hvf
      obtain ⟨e, he, hq⟩ := hvf
      cases hq
      obtain ⟨e', h1, h2, h3, h4⟩ := hE.get he
      exact ⟨e'.val, h3, .inr ⟨i, e', rfl, rfl, h1, rfl⟩⟩
  obtain ⟨z, hzv, hz⟩ := hval
  refine ⟨if ok then .tuple #[z, .bool found] else z, ?_, ?_⟩
  · unfold Instr.lookup
    rw [Sem.run_bind, run_underlying ht]
    simp only [Result.andThen_ok]
    rcases hcase with ⟨rfl, rfl⟩ | ⟨b, c, rfl, hb⟩
    · simp only [Sem.run_bind, Sem.run_pure, Result.andThen_ok, hck, hfk]
      rcases hz with ⟨rfl, rfl, hz⟩ | ⟨i, e', rfl, rfl, h1, rfl⟩
      · simp [hz]
      · simp at h1
    · have hg : (getObj b).run P w = .ok (.map es' c) w := by simp [getObj, Sem.run, hb]
      simp only [Sem.run_bind, Sem.run_pure, Result.andThen_ok, hg, hck, hfk]
      rcases hz with ⟨rfl, rfl, hz⟩ | ⟨i, e', rfl, rfl, h1, rfl⟩
      · simp [hz]
      · simp only [Option.bind_some, h1, Option.map_some]; rfl
  · cases ok with
    | false => exact hzv
    | true => exact .tup' ⟨hzv, .bool _, trivial⟩

/-- A map's block is written. -/
theorem WI.setMap (hw : WI w0 g h w) {id b o L : Nat} {es es1 : List (CV × CV × Nat)} {c c1 : Nat} {es' : Array MapEntry} (hφ : g.φ id = some (b, o, L)) (hb : h[id]? = some (.map es c)) (hE : ER g es'.toList es1) :
    WI w0 g (h.set id (.map es1 c1)) { w with heap := w.heap.setIfInBounds b (.map es' c1) } := by
  obtain ⟨hown, ho, es0, h3, h4⟩ := hw.blk id b o L _ hφ hb
  have hid : id < h.length := (List.getElem?_eq_some_iff.1 hb).1
  have hbo := hw.old b 0 id (hown 0)
  have hcell : ∀ b' o', b' ≠ b → ({ w with heap := w.heap.setIfInBounds b (.map es' c1) } : World).cell? ⟨b', o', none⟩ = w.cell? ⟨b', o', none⟩ ∧
      ({ w with heap := w.heap.setIfInBounds b (.map es' c1) } : World).frozen? ⟨b', o', none⟩ = w.frozen? ⟨b', o', none⟩ := by
    intro b' o' hne
    simp [World.cell?, World.frozen?, Array.getElem?_setIfInBounds, Ne.symm hne]
  refine hw.write (x := .map es1 c1) hφ (by simp) (by simp [hid]) (fun i hi => by simp [List.getElem?_set, Ne.symm hi]) ?_ (by simp) (fun b' o' hG hlt => ?_) (fun b' hG hlt => ?_) ?_
  · exact hw.below.trans ⟨rfl, rfl, rfl, by simp, fun k hk => by
      have : b ≠ k := by omega
      simp [Array.getElem?_setIfInBounds, this]⟩
  · refine hcell b' o' ?_
    rintro rfl
    exact hG (hown o')
  · have : b ≠ b' := by rintro rfl; exact hG 0 (hown 0)
    simp [Array.getElem?_setIfInBounds, this]
  · refine ⟨hown, ho, es', ?_, hE⟩
    simp [Array.getElem?_setIfInBounds, hbo.2]

theorem run_setObj' {r : Nat} {o o' : Obj} (hb : w.heap[r]? = some o) (hn : ∀ a b c, o ≠ .cells a b c) : (setObj r o').run P w = .ok () { w with heap := w.heap.setIfInBounds r o' } := by
  cases o <;> first | exact (hn _ _ _ rfl).elim | simp [setObj, Sem.run, hb]

/-- Equal keys hold the same bits. -/
theorem same_cells : ∀ {xs ys : List Value} {cs ds : List CV}, VRL g xs cs → VRL g ys ds → xs.length = ys.length → True := fun _ _ _ => trivial

end
end Go.CE

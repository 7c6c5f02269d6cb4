/-
  The canonical evaluator's operations: maps that are written; iterators.
-/
import Derived.Test.YtgfelhlilajfmaaGreatDoorCeD
namespace Go.CE
set_option linter.unusedVariables false
set_option linter.unusedSimpArgs false
set_option linter.unusedSectionVars false
set_option linter.unnecessarySimpa false
open Go.RowKit (Below)
variable [Glob]
section
variable {P : Program} {w0 w : World} {g : Gho} {h : Heap} {nb : Nat}

theorem keyStays_fit (old new : Value) (w : World) : ∃ kk w', (Instr.keyThatStays old new).run P w = .ok kk w' ∧ (w' = w ∨ w' = w.drew) ∧ (kk = old ∨ kk = new) := by
  unfold Instr.keyThatStays
  split
  · exact ⟨new, w, rfl, .inl rfl, .inr rfl⟩
  · refine ⟨if Question.cut (.extern "map.whichKeyStays" 2) (w.tape w.drawn (.extern "map.whichKeyStays" 2)) = 0 then new else old, w.drew, ?_, .inr rfl, ?_⟩
    · rw [Sem.run_bind, run_choose]
      rfl
    · split
      · exact .inr rfl
      · exact .inl rfl

theorem ER.modKey {v kk : Value} {c : CV} (hv : VR g v c) : ∀ {es : List MapEntry} {cs : List (CV × CV × Nat)} (i : Nat), ER g es cs → (∀ e, cs[i]? = some e → VR g kk e.1) →
    ER g (es.modify i fun e => { e with key := kk, val := v }) (setVal cs i c)
  | [], [], i, _, _ => by cases i <;> trivial
  | e :: es, x :: cs, 0, h, hk => ⟨⟨show VR g kk x.1 from hk x rfl, hv, h.1.2.2⟩, h.2⟩
  | e :: es, x :: cs, i + 1, h, hk => ⟨h.1, ER.modKey hv i h.2 (fun e he => hk e (by simpa using he))⟩

theorem ER.modKey' {kk : Value} : ∀ {es : List MapEntry} {cs : List (CV × CV × Nat)} (i : Nat), ER g es cs → (∀ e, cs[i]? = some e → VR g kk e.1) →
    ER g (es.modify i fun e => { e with key := kk }) cs
  | [], [], i, _, _ => by cases i <;> trivial
  | e :: es, x :: cs, 0, h, hk => ⟨⟨hk x rfl, h.1.2.1, h.1.2.2⟩, h.2⟩
  | e :: es, x :: cs, i + 1, h, hk => ⟨h.1, ER.modKey' i h.2 (fun e he => hk e (by simpa using he))⟩

theorem WI.drewIf (hw : WI w0 g h w) {w' : World} (h' : w' = w ∨ w' = w.drew) : WI w0 g h w' := by
  rcases h' with rfl | rfl
  · exact hw
  · exact hw.drew

theorem mapUpdate_fit (hw : WI w0 g h w) {fl : Nat} {t : TypeId} {um uk uv : Value} {m k v : CV} {h' : Heap} (hm : VR g um m) (hk : VR g uk k) (hv : VR g uv v) (hc : cmapUpdate P fl t h m k v = some h') :
    ∃ w', (Instr.mapUpdate t um uk uv).run P w = .ok () w' ∧ WI w0 g h' w' := by
  unfold cmapUpdate at hc
  split at hc
  case h_2 => cases hc
  rename_i kt et id ht
  split at hc
  case h_2 => cases hc
  rename_i es c hb
  split at hc
  case isFalse => cases hc
  rename_i hcond
  obtain ⟨hfl, hp⟩ := hcond
  cases hm with
  | hm _ b o L hφ =>
  obtain ⟨hown, ho, es', h3, hE⟩ := hw.blk id b o L _ hφ hb
  have hck : (Instr.checkKey false 10000 kt uk).run P w = .ok () w := checkKey_fit (P := P) hk hp false 9998 w
  have hg : (getObj b).run P w = .ok (.map es' c) w := by simp [getObj, Sem.run, h3]
  unfold Instr.mapUpdate
  simp only [Sem.run_bind, run_underlying ht, Result.andThen_ok, hg, hck]
  split at hc
  · rename_i i hf
    split at hc
    case h_2 => cases hc
    rename_i e he
    split at hc
    case isFalse => cases hc
    rename_i hbeq
    cases hc
    have hke := CV.beq_eq _ _ hbeq
    have hfk := findKey_fit (P := P) hk hp hf hE w
    obtain ⟨e', h1, h2, h4, h5⟩ := hE.get he
    simp only [Option.bind_some, h1, Option.map_some] at hfk
    obtain ⟨kk, w1, hks, hw1, hkk⟩ := keyStays_fit (P := P) (((es'[i]?).map (·.key)).getD uk) uk w
    have hei : es'[i]? = some e' := by simpa using h1
    have hw1h : w1.heap = w.heap := by rcases hw1 with rfl | rfl <;> rfl
    have hVk : VR g kk e.1 := by
      rcases hkk with rfl | rfl
      · simp only [hei, Option.map_some, Option.getD_some]; exact h2
      · rw [← hke]; exact hk
    refine ⟨{ w1 with heap := w1.heap.setIfInBounds b (.map (es'.modify i fun e => { e with key := kk, val := uv }) c) }, ?_, ?_⟩
    · rw [hfk]
      simp only [Result.andThen_ok, Sem.run_bind, hks]
      rw [run_setObj' (w := w1) (by rw [hw1h]; exact h3) (by simp)]
    · refine (hw.drewIf hw1).setMap (es' := es'.modify i fun e => { e with key := kk, val := uv }) hφ hb ?_
      rw [Array.toList_modify]
      exact ER.modKey hv i hE (fun x hx => by rw [he] at hx; cases hx; exact hVk)
  · rename_i hf
    cases hc
    have hfk := findKey_fit (P := P) hk hp hf hE w
    simp only [Option.bind_none] at hfk
    refine ⟨{ w with heap := w.heap.setIfInBounds b (.map (es'.push { key := uk, val := uv, born := c }) (c + 1)) }, ?_, ?_⟩
    · rw [hfk]
      simp only [Result.andThen_ok]
      exact run_setObj' h3 (by simp)
    · refine hw.setMap (es' := es'.push { key := uk, val := uv, born := c }) hφ hb ?_
      rw [Array.toList_push]
      exact ER.snoc ⟨hk, hv, rfl⟩ hE
  · cases hc

theorem mapEntry_fit (hw : WI w0 g h w) {fl : Nat} {t : TypeId} {um uk : Value} {m k v : CV} {h' : Heap} (hm : VR g um m) (hk : VR g uk k) (hc : cmapEntry P fl t h m k = some (v, h')) :
    ∃ y w', (Instr.mapEntry t um uk).run P w = .ok y w' ∧ WI w0 g h' w' ∧ VR g y v := by
  unfold cmapEntry at hc
  split at hc
  case h_2 => cases hc
  rename_i kt et id ht
  split at hc
  case h_2 => cases hc
  rename_i es c hb
  split at hc
  case isFalse => cases hc
  rename_i hcond
  obtain ⟨hfl, hp⟩ := hcond
  cases hm with
  | hm _ b o L hφ =>
  obtain ⟨hown, ho, es', h3, hE⟩ := hw.blk id b o L _ hφ hb
  have hck : (Instr.checkKey false 10000 kt uk).run P w = .ok () w := checkKey_fit (P := P) hk hp false 9998 w
  have hg : (getObj b).run P w = .ok (.map es' c) w := by simp [getObj, Sem.run, h3]
  have hlt : id < h.length := (List.getElem?_eq_some_iff.1 hb).1
  unfold Instr.mapEntry
  simp only [Sem.run_bind, run_underlying ht, Result.andThen_ok, hg, hck]
  split at hc
  · rename_i i hf
    split at hc
    case h_2 => cases hc
    rename_i e he
    split at hc
    case isFalse => cases hc
    rename_i hbeq
    cases hc
    have hke := CV.beq_eq _ _ hbeq
    have hfk := findKey_fit (P := P) hk hp hf hE w
    obtain ⟨e', h1, h2, h4, h5⟩ := hE.get he
    simp only [Option.bind_some, h1, Option.map_some] at hfk
    obtain ⟨kk, w1, hks, hw1, hkk⟩ := keyStays_fit (P := P) (((es'[i]?).map (·.key)).getD uk) uk w
    have hei : es'[i]? = some e' := by simpa using h1
    have hw1h : w1.heap = w.heap := by rcases hw1 with rfl | rfl <;> rfl
    have hVk : VR g kk e.1 := by
      rcases hkk with rfl | rfl
      · simp only [hei, Option.map_some, Option.getD_some]; exact h2
      · rw [← hke]; exact hk
    refine ⟨.tuple #[e'.val, goInt e'.born], { w1 with heap := w1.heap.setIfInBounds b (.map (es'.modify i fun e => { e with key := kk }) c) }, ?_, ?_, .tup' ⟨h4, by rw [h5]; exact .int _ _, trivial⟩⟩
    · rw [hfk]
      simp only [Result.andThen_ok, Sem.run_bind, hks]
      rw [run_setObj' (w := w1) (by rw [hw1h]; exact h3) (by simp)]
      simp [hei]
    · have := (hw.drewIf hw1).setMap (es1 := es) (c1 := c) (es' := es'.modify i fun e => { e with key := kk }) hφ hb (by
        rw [Array.toList_modify]
        exact ER.modKey' i hE (fun x hx => by rw [he] at hx; cases hx; exact hVk))
      have hsame : h.set id (.map es c) = h := by
        apply List.ext_getElem?
        intro j
        rw [List.getElem?_set]
        split
        · rename_i hj; subst hj; exact hb.symm
        · rfl
      rwa [hsame] at this
  · rename_i hf
    have hfk := findKey_fit (P := P) hk hp hf hE w
    simp only [Option.bind_none] at hfk
    cases hz : zeroOf P et with
    | none => simp [hz] at hc
    | some z =>
      simp [hz] at hc
      obtain ⟨rfl, rfl⟩ := hc
      obtain ⟨zv, h1, h2⟩ := zeroOf_spec hz
      refine ⟨.tuple #[zv, goInt c], { w with heap := w.heap.setIfInBounds b (.map (es'.push { key := uk, val := zv, born := c }) (c + 1)) }, ?_, ?_, .tup' ⟨h2 ▸ ofConst_VR g zv, .int _ _, trivial⟩⟩
      · rw [hfk]
        simp only [Result.andThen_ok, Sem.run_bind, h1]
        rw [run_setObj' h3 (by simp)]
        rfl
      · refine hw.setMap (es' := es'.push { key := uk, val := zv, born := c }) hφ hb ?_
        rw [Array.toList_push]
        exact ER.snoc ⟨hk, h2 ▸ ofConst_VR g zv, rfl⟩ hE
  · cases hc

theorem stampAt_fit {n : Int} : ∀ {es : List (CV × CV × Nat)} {es' : List MapEntry} {i : Nat}, stampAt n es = some i → ER g es' es → es'.findIdx? (fun e => (e.born : Int) == n) = some i
  | [], [], i, h, _ => by simp [stampAt] at h
  | e :: es, e' :: es', i, h, hE => by
    simp only [stampAt] at h
    rw [List.findIdx?_cons, hE.1.2.2]
    split at h
    · rename_i hq; cases h; simp [hq]
    · rename_i hq
      cases hr : stampAt n es with
      | none => simp [hr] at h
      | some j =>
        simp [hr] at h
        subst h
        simp [hq, stampAt_fit hr hE.2]
  | [], _ :: _, _, _, hE => hE.elim
  | _ :: _, [], _, _, hE => hE.elim

theorem entryStore_fit (hw : WI w0 g h w) {fl : Nat} {t : TypeId} {um us uv : Value} {m s v : CV} {h' : Heap} (hm : VR g um m) (hs : VR g us s) (hv : VR g uv v) (hc : centryStore fl h m s v = some h') :
    ∃ w', (Instr.entryStore t um us uv).run P w = .ok () w' ∧ WI w0 g h' w' := by
  unfold centryStore at hc
  split at hc
  case h_2 => cases hc
  rename_i id k n
  split at hc
  case h_2 => cases hc
  rename_i es c hb
  split at hc
  case h_2 => cases hc
  rename_i i hi
  split at hc
  case isFalse => cases hc
  cases hc
  cases hs
  cases hm with
  | hm _ b o L hφ =>
  obtain ⟨hown, ho, es', h3, hE⟩ := hw.blk id b o L _ hφ hb
  have hg : (getObj b).run P w = .ok (.map es' c) w := by simp [getObj, Sem.run, h3]
  have hfi := stampAt_fit hi hE
  refine ⟨{ w with heap := w.heap.setIfInBounds b (.map (es'.modify i fun e => { e with val := uv }) c) }, ?_, ?_⟩
  · unfold Instr.entryStore
    simp only [Sem.run_bind, Sem.run_pure, Result.andThen_ok, hg, asInt, asIntOf]
    have : es'.findIdx? (fun e => (e.born : Int) == n) = some i := by rw [show es' = es'.toList.toArray by simp, List.findIdx?_toArray]; exact hfi
    rw [this]
    exact run_setObj' h3 (by simp)
  · refine hw.setMap (es' := es'.modify i fun e => { e with val := uv }) hφ hb ?_
    rw [Array.toList_modify]
    exact setVal_ER hv i hE

theorem delete_fit (hw : WI w0 g h w) {fl : Nat} {t : TypeId} {ts : List TypeId} {ty : TypeId} {um uk : Value} {m k : CV} {h' : Heap} (hm : VR g um m) (hk : VR g uk k) (hc : cdelete P fl t h m k = some h') :
    ∃ w', (Builtin.delete_ (t :: ts).toArray ty #[um, uk]).run P w = .ok (.tuple #[]) w' ∧ WI w0 g h' w' := by
  unfold cdelete at hc
  split at hc
  case h_2 => cases hc
  rename_i kt et id ht
  split at hc
  case h_2 => cases hc
  rename_i es c hb
  split at hc
  case isFalse => cases hc
  rename_i hcond
  obtain ⟨hfl, hp⟩ := hcond
  cases hm with
  | hm _ b o L hφ =>
  obtain ⟨hown, ho, es', h3, hE⟩ := hw.blk id b o L _ hφ hb
  have hck : (Instr.checkKey es'.isEmpty 10000 kt uk).run P w = .ok () w := checkKey_fit (P := P) hk hp _ 9998 w
  have hg : (getObj b).run P w = .ok (.map es' c) w := by simp [getObj, Sem.run, h3]
  unfold Builtin.delete_
  simp only [List.getElem?_toArray, List.getElem?_cons_zero, List.getElem?_cons_succ, Sem.run_bind, run_underlying ht, Result.andThen_ok, hg, hck]
  split at hc
  · rename_i i hf
    cases hc
    have hfk := findKey_fit (P := P) hk hp hf hE w
    have hil := (cfind_lt hf).1
    obtain ⟨e', h1, _⟩ := hE.get (List.getElem?_eq_getElem hil)
    simp only [Option.bind_some, h1, Option.map_some] at hfk
    refine ⟨{ w with heap := w.heap.setIfInBounds b (.map (es'.eraseIdxIfInBounds i) c) }, ?_, ?_⟩
    · rw [hfk]
      simp only [Result.andThen_ok, Sem.run_bind]
      rw [run_setObj' h3 (by simp)]
      rfl
    · refine hw.setMap (es' := es'.eraseIdxIfInBounds i) hφ hb ?_
      have hls : i < es'.size := by have := hE.length; simp at this; omega
      rw [Array.eraseIdxIfInBounds, dif_pos hls, Array.toList_eraseIdx]
      exact erase_ER i hE
  · rename_i hf
    cases hc
    have hfk := findKey_fit (P := P) hk hp hf hE w
    simp only [Option.bind_none] at hfk
    refine ⟨{ w with heap := w.heap.setIfInBounds b (.map es' c) }, ?_, ?_⟩
    · rw [hfk]
      simp only [Result.andThen_ok, Sem.run_bind]
      rw [run_setObj' h3 (by simp)]
      rfl
    · have : w.heap.setIfInBounds b (.map es' c) = w.heap := by
        have hbl : b < w.heap.size := (hw.old b 0 id (hown 0)).2
        apply Array.ext_getElem?
        intro j
        rw [Array.getElem?_setIfInBounds]
        split
        · rename_i hj; subst hj; exact h3.symm
        · rfl
      rw [this]
      exact hw
  · cases hc

end
end Go.CE

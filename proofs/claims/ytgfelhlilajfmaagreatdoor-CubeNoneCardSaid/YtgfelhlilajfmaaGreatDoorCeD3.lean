/-
  The canonical evaluator's operations: iterators; methods of interface values.
-/
import Derived.Test.YtgfelhlilajfmaaGreatDoorCeD2
namespace Go.CE
set_option linter.unusedVariables false
set_option linter.unusedSimpArgs false
set_option linter.unusedSectionVars false
set_option linter.unnecessarySimpa false
open Go.RowKit (Below)
variable [Glob]
section
variable {P : Program} {w0 w : World} {g : Gho} {h : Heap} {nb : Nat}

theorem place_obj (hw : WI w0 g h w) {slot : Option Nat} (hs : SlotOk g h nb slot) {x : Blk} {ob : Obj} (hbr : ∀ id, g.φ id = none → BR (g.new id w.heap.size 0) (w.alloc ob) id w.heap.size 0 0 x) :
    ∃ g', Gle nb g g' ∧ WI w0 g' (place slot h x).2 (w.alloc ob) ∧ g'.φ (place slot h x).1 = some (w.heap.size, 0, 0) := by
  cases slot with
  | none =>
    have hid := dom_none hw (Nat.le_refl h.length)
    refine ⟨g.new h.length w.heap.size 0, Gho.new_le hw hid hs, ?_, by simp [Gho.new, place]⟩
    exact WI.new hw hid (by simp [place]) (by simp [place]) (by simp [place]) (fun i hi hlt => by simp [place, List.getElem?_append_left hlt]) (hbr _ hid)
  | some i =>
    obtain ⟨h1, h2, h3⟩ := hs
    refine ⟨g.new i w.heap.size 0, Gho.new_le hw h3 h1, ?_, by simp [Gho.new, place]⟩
    exact WI.new hw h3 (by simp [place]) (by simpa [place] using h2) (by simp [place, h2]) (fun j hj hlt => by simp [place, List.getElem?_set, Ne.symm hj]) (hbr _ h3)

theorem alloc_get (w : World) (ob : Obj) : (w.alloc ob).heap[w.heap.size]? = some ob := by
  show (w.heap.push ob)[w.heap.size]? = _
  simp

theorem range_fit (hw : WI w0 g h w) {slot : Option Nat} (hs : SlotOk g h nb slot) {t : TypeId} {u : Value} {x : CV} {b : Blk} (hv : VR g u x) (hc : crange P t h x = some b) :
    ∃ y w' g', (Instr.range t u).run P w = .ok y w' ∧ Gle nb g g' ∧ WI w0 g' (place slot h b).2 w' ∧ VR g' y (.hp (place slot h b).1 0) := by
  unfold crange at hc
  split at hc
  · rename_i s hu
    cases hc
    cases hv with
    | str s =>
    obtain ⟨g', h1, h2, h3⟩ := place_obj hw hs (x := .siter (s.data.toList.map UInt8.toNat) 0) (ob := .stringIter s 0) (fun id hid => ⟨by simp [Gho.new], rfl, s, alloc_get _ _, rfl⟩)
    exact ⟨.pointer (some ⟨w.heap.size, 0, none⟩), _, g', by simp [Instr.range, run_underlying hu], h1, h2, .hp _ 0 w.heap.size 0 0 h3⟩
  · rename_i kt et id hu
    split at hc
    · rename_i es c hb
      cases hc
      cases hv with
      | hm _ bm o L hφ =>
      obtain ⟨_, _, es', h3, h4⟩ := hw.blk _ bm o L _ hφ hb
      obtain ⟨g', k1, k2, k3⟩ := place_obj hw hs (x := .miter id c [] c) (ob := .mapIter (some bm) c #[] c) (fun i hi => ⟨by simp [Gho.new], rfl, bm, o, L, (Gho.new_le (n := 0) hw hi (Nat.zero_le _)).ext _ _ hφ, alloc_get _ _⟩)
      exact ⟨.pointer (some ⟨w.heap.size, 0, none⟩), _, g', by simp [Instr.range, run_underlying hu, getObj, Sem.run, h3], k1, k2, .hp _ 0 w.heap.size 0 0 k3⟩
    · cases hc
  · cases hc

theorem get_nat (s : ByteArray) (i : Nat) : (s.get! i).toNat = (s.data.toList.map UInt8.toNat).getD i 0 := by
  have : s.get! i = s.data[i]! := rfl
  rw [this]
  simp only [List.getD, List.getElem?_map, Array.getElem?_toList]
  rw [getElem!_def]
  cases s.data[i]? <;> rfl

theorem decode_eq (s : ByteArray) (i : Nat) : Utf8.decode s i = cdecode (s.data.toList.map UInt8.toNat) i := by
  unfold Utf8.decode cdecode
  simp only [get_nat, str_length]

/-- A block that is no row is written. -/
theorem WI.setObj' (hw : WI w0 g h w) {id b o L : Nat} {x x' : Blk} {ob : Obj} (hφ : g.φ id = some (b, o, L)) (hb : h[id]? = some x) (hown : ∀ j, g.G b j = .own id)
    (hbr : ∀ w' : World, w'.heap[b]? = some ob → BR g w' id b o L x') :
    WI w0 g (h.set id x') { w with heap := w.heap.setIfInBounds b ob } := by
  have hid : id < h.length := (List.getElem?_eq_some_iff.1 hb).1
  have hbo := hw.old b 0 id (hown 0)
  refine hw.write (x := x') hφ (by simp) (by simp [hid]) (fun i hi => by simp [List.getElem?_set, Ne.symm hi]) ?_ (by simp) (fun b' o' hG hlt => ?_) (fun b' hG hlt => ?_) ?_
  · exact hw.below.trans ⟨rfl, rfl, rfl, by simp, fun k hk => by
      have : b ≠ k := by omega
      simp [Array.getElem?_setIfInBounds, this]⟩
  · have hne : b ≠ b' := by rintro rfl; exact hG (hown o')
    simp [World.cell?, World.frozen?, Array.getElem?_setIfInBounds, hne]
  · have : b ≠ b' := by rintro rfl; exact hG 0 (hown 0)
    simp [Array.getElem?_setIfInBounds, this]
  · exact hbr _ (by simp [Array.getElem?_setIfInBounds, hbo.2])

theorem ER.filter {p : MapEntry → Bool} {q : CV × CV × Nat → Bool} (hpq : ∀ e c, e.born = c.2.2 → p e = q c) : ∀ {es : List MapEntry} {cs : List (CV × CV × Nat)}, ER g es cs → ER g (es.filter p) (cs.filter q)
  | [], [], _ => trivial
  | e :: es, c :: cs, h => by
    have := hpq e c h.1.2.2
    simp only [List.filter_cons, this]
    cases q c
    · exact ER.filter hpq h.2
    · exact ⟨h.1, ER.filter hpq h.2⟩

theorem ER.app : ∀ {es fs : List MapEntry} {cs ds : List (CV × CV × Nat)}, ER g es cs → ER g fs ds → ER g (es ++ fs) (cs ++ ds)
  | [], _, [], _, _, h => h
  | _ :: _, _, _ :: _, _, h, h' => ⟨h.1, ER.app h.2 h'⟩

theorem ER.allB {p : MapEntry → Bool} {q : CV × CV × Nat → Bool} (hpq : ∀ e c, e.born = c.2.2 → p e = q c) : ∀ {es : List MapEntry} {cs : List (CV × CV × Nat)}, ER g es cs → es.all p = cs.all q
  | [], [], _ => rfl
  | e :: es, c :: cs, h => by simp only [List.all_cons, hpq e c h.1.2.2, ER.allB hpq h.2]

theorem ER.find {p : MapEntry → Bool} {q : CV × CV × Nat → Bool} (hpq : ∀ e c, e.born = c.2.2 → p e = q c) : ∀ {es : List MapEntry} {cs : List (CV × CV × Nat)} {c : CV × CV × Nat}, ER g es cs → cs.find? q = some c →
    ∃ e, es.find? p = some e ∧ VR g e.key c.1 ∧ VR g e.val c.2.1
  | e :: es, c :: cs, x, h, hf => by
    simp only [List.find?_cons, hpq e c h.1.2.2] at hf ⊢
    cases hq : q c
    · simp only [hq] at hf ⊢; exact ER.find hpq h.2 hf
    · simp only [hq] at hf ⊢; cases hf; exact ⟨e, rfl, h.1.1, h.1.2.1⟩
  | [], [], _, _, hf => by simp at hf
  | [], _ :: _, _, h, _ => h.elim
  | _ :: _, [], _, h, _ => h.elim

theorem mapNext_lt (w : World) (n : Nat) (hn : 0 < n) : ∃ i w', i < n ∧ (w' = w ∨ w' = w.drew) ∧ (choose (.mapNext n)).run P w = .ok i w' := by
  rw [run_choose]
  by_cases h1 : n ≤ 1
  · exact ⟨0, w, hn, .inl rfl, by simp [Question.forced, h1]⟩
  · exact ⟨w.tape w.drawn (.mapNext n) % n, w.drew, Nat.mod_lt _ hn, .inr rfl, by simp [Question.forced, h1, Question.cut]⟩

def CandR (g : Gho) (R : List (Option MapEntry)) (C : List (Option (CV × CV × Nat))) : Prop :=
  R.length = C.length ∧ ∀ i : Nat, (C[i]? = some none → R[i]? = some none) ∧ ∀ c, C[i]? = some (some c) → ∃ e, R[i]? = some (some e) ∧ VR g e.key c.1 ∧ VR g e.val c.2.1 ∧ e.born = c.2.2

theorem CandR.of {es : List MapEntry} {cs : List (CV × CV × Nat)} (h : ER g es cs) : CandR g (es.map some) (cs.map some) := by
  refine ⟨by simp [h.length], fun i => ⟨fun hi => ?_, fun c hi => ?_⟩⟩
  · simp at hi
  · simp at hi
    obtain ⟨e, h1, h2⟩ := h.get hi
    exact ⟨e, by simp [h1], h2⟩

theorem CandR.cons {R : List (Option MapEntry)} {C : List (Option (CV × CV × Nat))} (h : CandR g R C) : CandR g (none :: R) (none :: C) := by
  refine ⟨by simp [h.1], fun i => ?_⟩
  cases i with
  | zero => exact ⟨fun _ => rfl, fun c hc => by simp at hc⟩
  | succ i => exact ⟨fun hi => (h.2 i).1 (by simpa using hi), fun c hc => by simpa using (h.2 i).2 c (by simpa using hc)⟩

theorem next_fit (hw : WI w0 g h w) {fl : Nat} {ty : TypeId} {u : Value} {x : CV} {st : Bool} {Φ : Out → Prop} (hv : VR g u x) (hc : (cnext fl h x st).all Φ) :
    ∃ y w' v h', (Instr.next u st ty).run P w = .ok y w' ∧ WI w0 g h' w' ∧ VR g y v ∧ Φ (.val v h') := by
  unfold cnext at hc
  split at hc
  case h_2 => exact hc.elim
  rename_i id
  split at hc
  case isFalse => exact hc.elim
  cases hv with
  | hp _ _ b o L hφ =>
  split at hc
  · rename_i s pos hb
    obtain ⟨hown, rfl, s', h3, h4⟩ := hw.blk _ b o L _ hφ hb
    have hg : (getObj b).run P w = .ok (.stringIter s' pos) w := by simp [getObj, Sem.run, h3]
    have hsl : s.length = s'.size := by rw [← h4, str_length]
    split at hc
    · rename_i hlt
      refine ⟨.tuple #[.bool true, goInt pos, .int .i32 (cdecode s pos).1], { w with heap := w.heap.setIfInBounds b (.stringIter s' (pos + (cdecode s pos).2)) }, _, _, ?_, ?_, ?_, hc⟩
      rotate_left
      · exact hw.setObj' (ob := .stringIter s' (pos + (cdecode s pos).2)) hφ hb hown (fun w' hw' => ⟨hown, rfl, s', hw', h4⟩)
      · exact .tup' ⟨.bool _, .int _ _, .int _ _, trivial⟩
      unfold Instr.next
      simp only [Nat.zero_add, Sem.run_bind, hg, Result.andThen_ok]
      rw [if_pos (by omega), decode_eq, h4, Sem.run_bind, run_setObj' h3 (by simp)]
      rfl
    · rename_i hlt
      refine ⟨.tuple #[.bool false], w, _, _, ?_, hw, ?_, hc⟩
      rotate_left
      · exact .tup' ⟨.bool _, trivial⟩
      unfold Instr.next
      simp only [Nat.zero_add, Sem.run_bind, hg, Result.andThen_ok]
      rw [if_neg (by omega)]
      rfl
  · rename_i m since seen last hb
    obtain ⟨hown, rfl, bm, om, Lm, hφm, h3⟩ := hw.blk _ b o L _ hφ hb
    split at hc
    case h_2 => exact hc.elim
    rename_i es c hbm
    obtain ⟨hown', _, es', h5, hE⟩ := hw.blk _ bm om Lm _ hφm hbm
    split at hc
    · exact hc.elim
    · rename_i hnot
      have hg : (getObj b).run P w = .ok (.mapIter (some bm) since seen.toArray last) w := by simp [getObj, Sem.run, h3]
      have hg' : (getObj bm).run P w = .ok (.map es' c) w := by simp [getObj, Sem.run, h5]
      -- the candidates
      have hL : ER g (es'.toList.filter fun e => !seen.contains e.born) (es.filter fun e => !seen.contains e.2.2) := ER.filter (fun e c h => by rw [h]) hE
      have hO : ER g ((es'.toList.filter fun e => !seen.contains e.born).filter fun e => decide (e.born < since)) ((es.filter fun e => !seen.contains e.2.2).filter fun e => decide (e.2.2 < since)) := ER.filter (fun e c h => by rw [h]) hL
      have hN : ER g ((es'.toList.filter fun e => !seen.contains e.born).filter fun e => decide (e.born ≥ since)) ((es.filter fun e => !seen.contains e.2.2).filter fun e => decide (e.2.2 ≥ since)) := ER.filter (fun e c h => by rw [h]) hL
      let left := es'.filter fun e => !seen.toArray.contains e.born
      let old := left.filter (·.born < since)
      let new := left.filter (·.born ≥ since)
      let A : Array (Option MapEntry) := (if old.isEmpty then #[none] else #[]) ++ (old ++ new).map some
      have hleft : left.toList = es'.toList.filter fun e => !seen.contains e.born := by simp [left]
      have hold : old.toList = (es'.toList.filter fun e => !seen.contains e.born).filter fun e => decide (e.born < since) := by simp only [old, Array.toList_filter, hleft]
      have hnew : new.toList = (es'.toList.filter fun e => !seen.contains e.born).filter fun e => decide (e.born ≥ since) := by simp only [new, Array.toList_filter, hleft]
      have hR : CandR g A.toList (cands es since seen) := by
        have hON := CandR.of (hO.app hN)
        have hlen := hO.length
        by_cases he : old.isEmpty = true
        · have h0 : old.toList = [] := by simpa using he
          have h0' : ((es.filter fun e => !seen.contains e.2.2).filter fun e => decide (e.2.2 < since)) = [] := by
            rw [← hold, h0] at hlen
            exact List.length_eq_zero_iff.1 (by simpa using hlen.symm)
          have hA : A.toList = none :: ((es'.toList.filter fun e => !seen.contains e.born).filter (fun e => decide (e.born < since)) ++ (es'.toList.filter fun e => !seen.contains e.born).filter (fun e => decide (e.born ≥ since))).map some := by
            simp only [A, he, if_true, Array.toList_append, Array.toList_map, hold, hnew]
            rfl
          rw [hA]
          unfold cands
          simp only [h0', List.isEmpty_nil, if_true]
          rw [h0'] at hON
          exact hON.cons
        · have h0 : old.toList ≠ [] := by simpa using he
          have h0' : ((es.filter fun e => !seen.contains e.2.2).filter fun e => decide (e.2.2 < since)).isEmpty = false := by
            rw [← hold] at hlen
            rw [List.isEmpty_eq_false_iff]
            intro e0
            rw [e0] at hlen
            exact h0 (List.length_eq_zero_iff.1 hlen)
          have hA : A.toList = ((es'.toList.filter fun e => !seen.contains e.born).filter (fun e => decide (e.born < since)) ++ (es'.toList.filter fun e => !seen.contains e.born).filter (fun e => decide (e.born ≥ since))).map some := by
            simp only [A, he, Array.toList_append, Array.toList_map, hold, hnew]
            rfl
          rw [hA]
          unfold cands
          simp only [h0', Bool.false_eq_true, if_false, List.nil_append]
          exact hON
      have hpos : 0 < A.size := by
        have h1 : A.size = A.toList.length := by simp
        have : 0 < A.toList.length := by
          by_cases he : old.isEmpty = true
          · simp [A, he]
          · have h0 : old.toList ≠ [] := by simpa using he
            have := List.length_pos_iff.2 h0
            simp only [A, he, Array.toList_append, Array.toList_map, List.length_append, List.length_map, Bool.false_eq_true, if_false]
            omega
        omega
      obtain ⟨i, w1, hi, hw1, hch⟩ := mapNext_lt (P := P) w A.size hpos
      have hw1h : w1.heap = w.heap := by rcases hw1 with rfl | rfl <;> rfl
      have hlenA : A.size = (cands es since seen).length := by rw [← hR.1]; simp
      have hcase := hc i (by omega)
      have hno : (!seen.toArray.isEmpty && !es'.isEmpty && es'.all fun e => decide (e.born ≥ last)) = false := by
        have h1 : es'.all (fun e => decide (e.born ≥ last)) = es.all (fun e => decide (e.2.2 ≥ last)) := by
          rw [← Array.all_toList]
          exact ER.allB (fun e c h => by rw [h]) hE
        have h2 : es'.isEmpty = es.isEmpty := by
          have := hE.length
          rw [Array.length_toList] at this
          cases es with
          | nil => simp only [List.length_nil] at this; simp [Array.isEmpty, this]
          | cons _ _ => simp only [List.length_cons] at this; simp [Array.isEmpty, this]
        rw [h1, h2]
        simpa using hnot
      have hunf : (Instr.next (.pointer (some ⟨b, 0 + 0, none⟩)) false ty).run P w =
          (match A[i]? with
            | some (some e) => do
              setObj b (.mapIter (some bm) since (seen.toArray.push e.born) c)
              pure (.tuple #[.bool true, e.key, e.val])
            | some none => pure (.tuple #[.bool false])
            | none => stuck "Next: no such candidate" : Sem Value).run P w1 := by
        unfold Instr.next
        simp only [Nat.zero_add, Sem.run_bind, hg, Result.andThen_ok, hg', hno, Bool.false_eq_true, if_false]
        show (Sem.run P (choose (Question.mapNext A.size)) w).andThen _ = _
        rw [hch]
        rfl
      simp only at hcase
      split at hcase
      · rename_i e he
        obtain ⟨e', k1, k2, k3, k4⟩ := (hR.2 i).2 e he
        have k1' : A[i]? = some (some e') := by simpa using k1
        refine ⟨.tuple #[.bool true, e'.key, e'.val], { w1 with heap := w1.heap.setIfInBounds b (.mapIter (some bm) since (seen.toArray.push e'.born) c) }, _, _, ?_, ?_, ?_, hcase⟩
        rotate_left
        · refine (hw.drewIf hw1).setObj' hφ hb hown (fun w' hw' => ⟨hown, rfl, bm, om, Lm, hφm, ?_⟩)
          rw [hw', k4]
          simp
        · exact .tup' ⟨.bool _, k2, k3, trivial⟩
        rw [hunf, k1']
        simp only [Sem.run_bind]
        rw [run_setObj' (by rw [hw1h]; exact h3) (by simp)]
        rfl
      · rename_i he
        have k1' : A[i]? = some none := by simpa using (hR.2 i).1 he
        refine ⟨.tuple #[.bool false], w1, _, _, ?_, hw.drewIf hw1, ?_, hcase⟩
        · rw [hunf, k1']; rfl
        · exact .tup' ⟨.bool _, trivial⟩
      · exact hcase.elim
  · exact hc.elim

theorem entry_fit (hw : WI w0 g h w) {u : Value} {x v : CV} (hv : VR g u x) (hc : centry h x = some v) : ∃ y, (Instr.entry u).run P w = .ok y w ∧ VR g y v := by
  unfold centry at hc
  split at hc
  case h_2 => cases hc
  rename_i id
  split at hc
  case h_2 => cases hc
  rename_i m since seen stepped hb
  split at hc
  case h_2 => cases hc
  rename_i stamp es c hlast hbm
  split at hc
  case isFalse => cases hc
  rename_i hcs
  cases hv with
  | hp _ _ b o L hφ =>
  obtain ⟨hown, rfl, bm, om, Lm, hφm, h3⟩ := hw.blk _ b o L _ hφ hb
  obtain ⟨hown', _, es', h5, hE⟩ := hw.blk _ bm om Lm _ hφm hbm
  cases hf : es.find? (fun e => e.2.2 == stamp) with
  | none => simp [hf] at hc
  | some e =>
    simp [hf] at hc
    subst hc
    obtain ⟨e', k1, k2, k3⟩ := hE.find (p := fun e => e.born == stamp) (fun e c h => by rw [h]) hf
    have hg : (getObj b).run P w = .ok (.mapIter (some bm) since seen.toArray stepped) w := by simp [getObj, Sem.run, h3]
    have hg' : (getObj bm).run P w = .ok (.map es' c) w := by simp [getObj, Sem.run, h5]
    refine ⟨.tuple #[e'.key, e'.val], ?_, .tup' ⟨k2, k3, trivial⟩⟩
    have hback : seen.toArray.back? = some stamp := by simpa using hlast
    have hfe : es'.find? (fun e => e.born == stamp) = some e' := by rw [← Array.find?_toList]; exact k1
    unfold Instr.entry
    simp only [Nat.zero_add, Sem.run_bind, hg, Result.andThen_ok, hback, hg', hcs, bne_self_eq_false, Bool.false_eq_true, if_false, hfe]
    rfl

theorem method_fit {t : TypeId} {name : String} {f : FuncId} {v : Value} (hc : cmethod P t name = some f) (n : Nat) (w : World) : (Go.method (n + 1) t v name).run P w = .ok (f, v) w := by
  unfold cmethod at hc
  split at hc
  case h_2 => cases hc
  rename_i i hi
  split at hc
  case h_2 => cases hc
  rename_i m hm
  have hti := run_typeInfo (P := P) (w := w) hi
  unfold Go.method
  simp only [Sem.run_bind, hti, Result.andThen_ok, hm]
  split at hc
  · rename_i f' e hp hf hu
    cases hc
    simp [hp, hf, follow, receiverAt, run_underlying hu, Place.get]
  · cases hc
  · rename_i f' d hnot hp hf hu
    cases hc
    simp only [hp, hf, follow, Sem.run_pure, Result.andThen_ok, Sem.run_bind, receiverAt, run_underlying hu]
    cases d <;> first
      | exact (hnot _ _ rfl rfl hu).elim
      | simp [Place.get]
  · cases hc

end
end Go.CE

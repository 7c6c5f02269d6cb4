/-
  The canonical evaluator's operations: append and copy, carried out.
-/
import Derived.Test.YtgfelhlilajfmaaGreatDoorCeC7
namespace Go.CE
set_option linter.unusedVariables false
set_option linter.unusedSimpArgs false
set_option linter.unusedSectionVars false
set_option linter.unnecessarySimpa false
open Go.RowKit (Below)
variable [Glob]
section
variable {P : Program} {w0 w : World} {g : Gho} {h : Heap} {nb : Nat}

theorem growBy_le (n : Nat) : ∀ (r c : Nat), 256 ≤ c → Builtin.growBy n r c ≤ max c (2 * n)
  | 0, c, _ => by simp [Builtin.growBy]; omega
  | r + 1, c, hc => by
    unfold Builtin.growBy
    split
    · omega
    · have := growBy_le n r (c + (c + 768) / 4) (by omega)
      omega

theorem nextslicecap_le {need old : Nat} (h : old < need) : Builtin.nextslicecap need old ≤ 2 * need := by
  unfold Builtin.nextslicecap
  split
  · omega
  · split
    · omega
    · have := growBy_le need 4 old (by omega)
      omega

theorem zeroCells_size (z : Array Value) (n : Nat) : (Builtin.zeroCells z n).size = n * z.size := by simp [Builtin.zeroCells]

theorem kill_get {h : Heap} {id : Nat} (i : Nat) (x : Blk) (hx : (kill h id)[i]? = some x) : x = .dead ∨ h[i]? = some x := by
  unfold kill at hx
  rw [List.getElem?_set] at hx
  split at hx
  · split at hx
    · left; cases hx; rfl
    · cases hx
  · exact .inr hx

/-- The ghost of an append within the capacity. -/
def Gho.cut (g : Gho) (id b o L : Nat) : Gho :=
  ⟨fun i => if i = id then some (b, o, L) else g.φ i, fun b' o' => if b' = b ∧ o ≤ o' ∧ o' < o + L then .own id else g.G b' o'⟩

/-- append, within the capacity: the old row's cells from 'off' on go over to a new canonical row. -/
theorem WI.appendIn (hw : WI w0 g h w) {id b o L off : Nat} {cells old new : List CV} {vs : List Value} (hφ : g.φ id = some (b, o, L)) (hrow : h[id]? = some (.row cells))
    (hold : old = (cells.drop off).take old.length) (hol : off + old.length ≤ cells.length) (hv : VRL g vs new) (hle : off + old.length + new.length ≤ L) (hne : 0 < new.length) :
    WI w0 (g.cut h.length b (o + off) (L - off)) (kill h id ++ [.row (old ++ new)]) (setCells w b (o + off + old.length) vs) ∧ Gle h.length g (g.cut h.length b (o + off) (L - off)) := by
  obtain ⟨hL, hown, hR⟩ := hw.blk id b o L _ hφ hrow
  have hlen := hv.length
  have hid : id < h.length := (List.getElem?_eq_some_iff.1 hrow).1
  have hfresh := dom_none hw (Nat.le_refl h.length)
  have hb0 : w0.heap.size ≤ b ∧ b < w.heap.size := hw.old b (o + off) id ((hown off (by omega)).1)
  have hgle : Gle h.length g (g.cut h.length b (o + off) (L - off)) := by
    refine ⟨fun i x k => ?_, fun i hi => ?_, fun b' o' v k => ?_⟩
    · have : i ≠ h.length := by rintro rfl; rw [hfresh] at k; cases k
      simp [Gho.cut, this, k]
    · have : i ≠ h.length := by omega
      simp [Gho.cut, this]
    · by_cases hin : b' = b ∧ o + off ≤ o' ∧ o' < o + off + (L - off)
      · obtain ⟨rfl, h1, h2⟩ := hin
        have := (hown (o' - o) (by omega)).1
        rw [show o + (o' - o) = o' by omega, k] at this
        cases this
      · simp [Gho.cut, hin, k]
  refine ⟨?_, hgle⟩
  have hat := setCells_at b vs w (o + off + old.length) (fun j hj => by
    obtain ⟨u, hu⟩ := (hown (off + old.length + j) (by omega)).2.1
    exact ⟨u, by rw [show o + off + old.length + j = o + (off + old.length + j) by omega]; exact hu⟩)
  refine ⟨fun x => (hw.glob x).le hgle, setCells_below b hb0.1 vs _ _ hw.below, fun b' o' v k => ?_, fun b' o' i k => ?_, fun i x k => ?_, fun i b' o' L' x k1 k2 => ?_⟩
  · by_cases hin : b' = b ∧ o + off ≤ o' ∧ o' < o + off + (L - off)
    · simp [Gho.cut, hin] at k
    · simp [Gho.cut, hin] at k
      rw [setCells_other b b' o' vs w _ (by omega)]
      exact hw.immv _ _ _ k
  · rw [setCells_size]
    by_cases hin : b' = b ∧ o + off ≤ o' ∧ o' < o + off + (L - off)
    · obtain ⟨rfl, _⟩ := hin; exact hb0
    · simp [Gho.cut, hin] at k
      exact hw.old _ _ _ k
  · by_cases hi : i = h.length
    · simp [hi, kill]
    · simp [Gho.cut, hi] at k
      have := hw.dom i x k
      simp [kill]; omega
  · by_cases hi : i = h.length
    · subst hi
      simp [Gho.cut] at k1
      obtain ⟨rfl, rfl, rfl⟩ := k1
      have : (kill h id ++ [Blk.row (old ++ new)])[h.length]? = some (.row (old ++ new)) := by
        rw [List.getElem?_append_right (by simp [kill])]; simp [kill]
      rw [this] at k2
      cases k2
      refine ⟨by simp; omega, fun j hj => ?_, fun j hj => ?_⟩
      · have hk := hown (off + j) (by omega)
        refine ⟨by simp [Gho.cut]; omega, ?_, by rw [setCells_frozen, Nat.add_assoc]; exact hk.2.2⟩
        by_cases hin : old.length ≤ j ∧ j < old.length + vs.length
        · refine ⟨vs[j - old.length]'(by omega), ?_⟩
          have := hat (j - old.length) (by omega)
          rw [show o + off + old.length + (j - old.length) = o + off + j by omega] at this
          rw [this, List.getElem?_eq_getElem (by omega)]
        · obtain ⟨u, hu⟩ := hk.2.1
          exact ⟨u, by rw [setCells_other b b _ vs w _ (by omega), Nat.add_assoc]; exact hu⟩
      · simp only [List.length_append] at hj
        by_cases hin : j < old.length
        · obtain ⟨u, u1, u2⟩ := hR (off + j) (by omega)
          refine ⟨u, by rw [setCells_other b b _ vs w _ (by omega), Nat.add_assoc]; exact u1, ?_⟩
          have h3 : (old ++ new).getD j .any = cells.getD (off + j) .any := by
            simp only [List.getD]
            rw [List.getElem?_append_left hin, hold, List.getElem?_take, List.getElem?_drop]
            simp only [hin, if_true]
          rw [h3]
          exact u2.le hgle
        · have h1 := hat (j - old.length) (by omega)
          rw [show o + off + old.length + (j - old.length) = o + off + j by omega] at h1
          have h2 := (VRL_iff.1 hv).2 (j - old.length) (by omega)
          refine ⟨vs.getD (j - old.length) undef, ?_, ?_⟩
          · rw [h1]; simp [List.getD, List.getElem?_eq_getElem (show j - old.length < vs.length by omega)]
          · have h3 : (old ++ new).getD j .any = new.getD (j - old.length) .any := by
              simp only [List.getD]
              rw [List.getElem?_append_right (by omega)]
            rw [h3]
            exact h2.le hgle
    · simp [Gho.cut, hi] at k1
      have hd := hw.dom i _ k1
      rw [List.getElem?_append_left (by simpa [kill] using hd)] at k2
      rcases kill_get i x k2 with rfl | k3
      · trivial
      · by_cases hii : i = id
        · subst hii
          simp [kill, hid] at k2
          subst k2
          trivial
        · have hnot : ∀ b' o', g.G b' o' = .own i → ¬ (b' = b ∧ o + off ≤ o' ∧ o' < o + off + (L - off)) := by
            rintro b' o' k ⟨rfl, h1, h2⟩
            have := (hown (o' - o) (by omega)).1
            rw [show o + (o' - o) = o' by omega, k] at this
            cases this
            exact hii rfl
          refine (hw.blk i b' o' L' x k1 k3).keep hgle (fun b' o' k => ?_) (fun b' o' k => ?_) (fun b' k => ?_)
          · simp [Gho.cut, hnot b' o' k, k]
          · have := hnot b' o' k
            exact ⟨setCells_other b b' o' vs w _ (by omega), setCells_frozen b _ vs w _⟩
          · refine setCells_block b b' ?_ vs w _
            rintro rfl
            exact hnot b' (o + off) (k _) ⟨rfl, by omega, by omega⟩

theorem append_run {t u ty : TypeId} {vs vx : Value} {e : TypeId} {i : TypeInfo} {z : Value} {du : TypeDesc} {base : Option Addr} {len c n : Nat} (ht : P.underlying t = some (.slice e)) (hi : P.info? e = some i) (hz : i.zero = some z)
    (hu : P.underlying u = some du) (hnot : ∀ k, du ≠ .int k) (hvs : vs = .slice base len c) (hlen : (Builtin.lenOf vx).run P w = .ok n w) (hbytes : i.bytes ≠ 0) (hroom : (len + n) * i.bytes ≤ 35184372088832)
    {new old : Array Value} (hnew : ∀ w', (∀ a, w'.cell? a = w.cell? a) → (Builtin.firstCells i.size n vx).run P w' = .ok new w') (hold : ∀ w', (∀ a, w'.cell? a = w.cell? a) → (Builtin.firstCells i.size len vs).run P w' = .ok old w') :
    (Builtin.append_ #[t, u] ty #[vs, vx]).run P w =
      if len + n ≤ c then
        ((match base with
          | some a => storeCells (a.add (len * i.size)) new.toList
          | none => pure () : Sem Unit).run P w).andThen fun _ w' => .ok (.slice base (len + n) c) w'
      else .ok (.slice (some ⟨w.heap.size, 0, none⟩) (len + n) (Question.cut (.appendCap (len + n) c e) (w.tape w.drawn (.appendCap (len + n) c e))))
        (w.drew.alloc (.cells (old ++ new ++ Builtin.zeroCells z.cells (Question.cut (.appendCap (len + n) c e) (w.tape w.drawn (.appendCap (len + n) c e)) - (len + n))) e)) := by
  subst hvs
  have hti : (typeInfo e).run P w = .ok i w := run_typeInfo hi
  have hsz : (sizeOf e).run P w = .ok i.size w := by simp [sizeOf, run_typeInfo hi]
  have hnz : (du matches .int _) = false := by cases du <;> first | rfl | exact (hnot _ rfl).elim
  have hd : ∀ a, w.drew.cell? a = w.cell? a := fun a => rfl
  have hw : ∀ a, w.cell? a = w.cell? a := fun a => rfl
  unfold Builtin.append_
  simp only [List.getElem?_toArray, List.getElem?_cons_zero, List.getElem?_cons_succ, Sem.run_bind, run_underlying ht, run_underlying hu, Result.andThen_ok, hsz, Sem.run_pure, hnz, Bool.false_eq_true, if_false, hlen, Bool.not_false, if_true]
  by_cases hle : len + n ≤ c
  · simp only [hle, if_true]
    rw [Sem.run_bind, hnew w hw]
    simp only [Result.andThen_ok]
    cases base <;> simp
  · simp only [hle, if_false]
    have h1 : ¬ (((len + n : Nat) : Int) > IntKind.i64.max ∧ (False ∨ i.bytes = 0)) := by rintro ⟨_, h | h⟩ <;> first | exact h | exact hbytes h
    have h2 : ¬ (Builtin.nextslicecap (len + n) c * i.bytes > 2 ^ 48) := by
      have := nextslicecap_le (need := len + n) (old := c) (by omega)
      have := Nat.mul_le_mul_right i.bytes this
      rw [Nat.mul_assoc] at this
      omega
    have hz' : ∀ w', (zeroValue e).run P w' = .ok z w' := fun w' => by simp [zeroValue, run_typeInfo hi, hz]
    have hch : (choose (.appendCap (len + n) c e)).run P w = .ok (Question.cut (.appendCap (len + n) c e) (w.tape w.drawn (.appendCap (len + n) c e))) w.drew := by rw [run_choose]; rfl
    rw [Sem.run_bind, hti]
    simp only [Result.andThen_ok]
    rw [if_neg h1, Sem.run_bind, hti]
    simp only [Result.andThen_ok]
    rw [if_neg h2, Sem.run_bind, hch]
    simp only [Result.andThen_ok, Sem.run_bind, run_typeInfo hi, run_askRoom, hold w.drew hd, hnew w.drew hd, hz', newRow, run_newObj, Sem.run_pure]
    rfl

theorem append_fit (hw : WI w0 g h w) {fl : Nat} {t u ty : TypeId} {s x v : CV} {vs vx : Value} {h' : Heap} {du : TypeDesc} (hs : VR g vs s) (hx : VR g vx x) (hu : P.underlying u = some du) (hnot : ∀ k, du ≠ .int k)
    (hc : cappend P fl t h s x = some (v, h')) : ∃ y w' g', (Builtin.append_ #[t, u] ty #[vs, vx]).run P w = .ok y w' ∧ Gle h.length g g' ∧ WI w0 g' h' w' ∧ VR g' y v := by
  unfold cappend at hc
  split at hc
  case h_2 => cases hc
  rename_i e ht
  split at hc
  case h_2 => cases hc
  rename_i i hi
  split at hc
  case h_2 => cases hc
  rename_i z old new n hz hold hnew
  have hnl : new.length = n * i.size := by
    unfold srcCells at hnew
    split at hnew
    · split at hnew
      · rename_i h1; cases hnew; simp [h1]
      · cases hnew
    · cases hnew; simp
    · rename_i a b n' zz k
      split at hnew
      · rename_i h1
        subst h1
        simp only [sliceCells] at hnew
        split at hnew
        · split at hnew
          · simp at hnew
            obtain ⟨rfl, rfl⟩ := hnew
            simp; omega
          · simp at hnew
        · simp at hnew
      · cases hnew
    · rename_i a n' zz k
      split at hnew
      · rename_i h1
        subst h1
        simp only [sliceCells] at hnew
        split at hnew
        · simp at hnew
          obtain ⟨rfl, rfl⟩ := hnew
          assumption
        · simp at hnew
      · cases hnew
    · cases hnew
  obtain ⟨hlenOf, hsrc⟩ := srcCells_fit (P := P) hw hx hnew hnl
  obtain ⟨nw, hnw, hnwV⟩ := hsrc n (Nat.le_refl _)
  rw [List.take_of_length_le (by omega)] at hnwV
  obtain ⟨base, len, c, rfl, hlc, hnils, hhs, hrs, hread⟩ := sliceCells_fit (P := P) hw hs hold
  split at hc
  · -- nothing is appended
    rename_i hn0
    subst hn0
    cases hc
    have hnw0 : nw = #[] := by
      have := hnwV.length
      simp [hnl] at this
      simpa using this
    subst hnw0
    have hti : (typeInfo e).run P w = .ok i w := run_typeInfo hi
    have hsz : (sizeOf e).run P w = .ok i.size w := by simp [sizeOf, run_typeInfo hi]
    have hnz : (du matches .int _) = false := by cases du <;> first | rfl | exact (hnot _ rfl).elim
    refine ⟨.slice base len c, w, g, ?_, Gle.refl _ _, hw, hs⟩
    unfold Builtin.append_
    simp only [List.getElem?_toArray, List.getElem?_cons_zero, List.getElem?_cons_succ, Sem.run_bind, run_underlying ht, run_underlying hu, Result.andThen_ok, hsz, Sem.run_pure, hnz, Bool.false_eq_true, if_false, hlenOf w, Bool.not_false, if_true,
      Nat.add_zero, hlc]
    rw [hnw w (fun _ => rfl)]
    cases base <;> simp [storeCells]
  · rename_i hn0
    split at hc
    case isFalse => cases hc
    rename_i hcond
    obtain ⟨hall, hbytes, hisz, hzs⟩ := hcond
    have hone := one_all hnwV hall
    split at hc
    · -- onto nil
      split at hc
      case isFalse => cases hc
      rename_i hroom
      cases hc
      obtain ⟨rfl, rfl, rfl⟩ := hnils rfl
      obtain ⟨od, hod, hodV⟩ := hread i.size (by simp [sliceCells] at hold; simp [← hold])
      have hrun := append_run (ty := ty) ht hi hz hu hnot rfl (hlenOf w) hbytes (by simpa using hroom) hnw hod
      rw [if_neg (by omega)] at hrun
      simp only [Nat.zero_add] at hrun
      generalize hcap : Question.cut (.appendCap n 0 e) (w.tape w.drawn (.appendCap n 0 e)) = C at hrun
      have hCn : n ≤ C := by rw [← hcap]; simp [Question.cut]
      have hod0 : od = #[] := by
        have ho : old = [] := by
          have := hold
          simp [sliceCells] at this
          first | exact this | exact this.symm
        have := hodV.length
        rw [ho] at this
        simpa using this
      subst hod0
      have hsize : (#[] ++ nw ++ Builtin.zeroCells z.cells (C - n)).size = C * i.size := by
        have h1 := hnwV.length
        simp at h1
        simp [zeroCells_size, hzs, h1, hnl]
        rw [← Nat.add_mul]; congr 1; omega
      obtain ⟨g', k1, k2, k3⟩ := place_row (T := e) (nb := h.length) hw.drew (slot := none) (Nat.le_refl _) (cs := #[] ++ nw ++ Builtin.zeroCells z.cells (C - n)) (cells := new)
        (by have h1 := hnwV.length
            simp only [Array.toList_append]
            rw [List.append_assoc, List.nil_append, List.take_append_of_le_length (by omega), List.take_of_length_le (by omega)]
            exact hnwV)
      refine ⟨_, _, g', hrun, k1, k2, ?_⟩
      refine .hs _ _ _ _ _ _ _ w.heap.size 0 (C * i.size) (by rw [← hsize]; exact k3) hCn (by simp) (fun _ => ⟨by simp, by simp⟩)
    · -- onto a row of the heap
      rename_i id off len' sz cap
      split at hc
      case isFalse => cases hc
      rename_i hcond
      obtain ⟨hfl, hsz, hroom⟩ := hcond
      cases hc
      obtain ⟨rfl, hbase⟩ := hhs _ _ _ _ _ rfl
      simp only [sliceCells] at hold
      split at hold
      case h_2 => cases hold
      rename_i cells hrow
      split at hold
      case isFalse => cases hold
      rename_i hle0
      cases hold
      have hol : ((cells.drop off).take (len * sz)).length = len * sz := by simp; omega
      obtain ⟨od, hod, hodV⟩ := hread i.size (by rw [hol, hsz])
      cases hs with
      | hs a _ _ _ _ _ _ b o L hφ h1 h2 haddr =>
      have hrun := append_run (ty := ty) ht hi hz hu hnot rfl (hlenOf w) hbytes hroom hnw hod
      have hnwl := hnwV.length
      by_cases hin : len + n ≤ c
      · rw [if_pos hin] at hrun
        obtain ⟨rfl, hcL⟩ := haddr (by omega)
        have hmul : (len + n) * sz ≤ c * sz := Nat.mul_le_mul_right _ hin
        rw [Nat.add_mul] at hmul
        have hnsz : new.length = n * sz := by rw [hnl, hsz]
        have hpos : 0 < new.length ∨ sz = 0 := by
          rcases Nat.eq_zero_or_pos sz with h0 | h0
          · exact .inr h0
          · left; rw [hnsz]; exact Nat.mul_pos (by omega) h0
        rcases hpos with hpos | hz0
        · obtain ⟨k1, k2⟩ := hw.appendIn (old := (cells.drop off).take (len * sz)) hφ hrow (by rw [hol]) (by rw [hol]; exact hle0) hnwV (by rw [hol, hnsz]; omega) hpos
          rw [hol] at k1
          obtain ⟨hL, hown, hR⟩ := hw.blk id b o L _ hφ hrow
          have hst := run_storeCells (P := P) ((⟨b, o + off, none⟩ : Addr).add (len * i.size)) b (o + off + len * sz)
            (fun j => by rw [add_none, add_none, ← hsz]) nw.toList w 0
            (fun j hj => by obtain ⟨u, hu⟩ := (hown (off + len * sz + j) (by omega)).2.1; exact ⟨u, by rw [show o + off + len * sz + 0 + j = o + (off + len * sz + j) by omega]; exact hu⟩)
            (fun j hj => by have := (hown (off + len * sz + j) (by omega)).2.2; rw [show o + off + len * sz + 0 + j = o + (off + len * sz + j) by omega]; exact this) hone
          simp only at hrun
          rw [hst] at hrun
          refine ⟨_, _, _, hrun, k2, k1, ?_⟩
          refine .hs _ _ _ _ _ _ _ b (o + off) (L - off) (by simp [Gho.cut]) hin (by simp) (fun _ => ⟨by simp, by omega⟩)
        · exact absurd (hsz ▸ hz0) hisz
      · rw [if_neg hin] at hrun
        generalize hcap : Question.cut (.appendCap (len + n) c e) (w.tape w.drawn (.appendCap (len + n) c e)) = C at hrun
        have hCn : len + n ≤ C := by rw [← hcap]; simp [Question.cut]
        have hodl := hodV.length
        have hsize : (od ++ nw ++ Builtin.zeroCells z.cells (C - (len + n))).size = C * i.size := by
          have e1 : od.size = len * i.size := by rw [hol, hsz] at hodl; simpa using hodl
          have e2 : nw.size = n * i.size := by rw [hnl] at hnwl; simpa using hnwl
          have e3 : (od ++ nw ++ Builtin.zeroCells z.cells (C - (len + n))).size = od.size + nw.size + (C - (len + n)) * z.cells.size := by simp only [Array.size_append, zeroCells_size]
          rw [e3, e1, e2, hzs, ← Nat.add_mul, ← Nat.add_mul]; congr 1; omega
        have hk := hw.drew.less (h' := kill h id) (by simp [kill]) (fun j y hy => kill_get j y hy)
        obtain ⟨g', k1, k2, k3⟩ := place_row (T := e) (nb := h.length) hk (slot := none) (by simp [SlotOk, kill]) (cs := od ++ nw ++ Builtin.zeroCells z.cells (C - (len + n))) (cells := (cells.drop off).take (len * sz) ++ new)
          (by have hv := hodV.append hnwV
              simp only [Array.toList_append]
              rw [List.take_append_of_le_length (by have := hv.length; omega), List.take_of_length_le (by have := hv.length; omega)]
              exact hv)
        have hkl : (kill h id).length = h.length := by simp [kill]
        simp only [place, hkl] at k2 k3
        refine ⟨_, _, g', hrun, k1, k2, ?_⟩
        refine .hs _ _ _ _ _ _ _ w.heap.size 0 (C * i.size) (by rw [← hsize]; exact k3) hCn (by simp) (fun _ => ⟨by simp, by rw [hsz]; simp⟩)
    · -- onto cells that never change, all of its room used
      rename_i cs0 len' sz c'
      split at hc
      case isFalse => cases hc
      rename_i hcond
      obtain ⟨hcl, hsz, hroom⟩ := hcond
      cases hc
      obtain ⟨rfl, hbase, hcq⟩ := hrs _ _ _ _ rfl
      have hcc := hcq _ rfl
      simp only [sliceCells] at hold
      split at hold
      case isFalse => cases hold
      rename_i hol
      cases hold
      obtain ⟨od, hod, hodV⟩ := hread i.size (by rw [hol, hsz])
      have hrun := append_run (ty := ty) ht hi hz hu hnot rfl (hlenOf w) hbytes hroom hnw hod
      have hnwl := hnwV.length
      rw [if_neg (by omega)] at hrun
      generalize hcap : Question.cut (.appendCap (len + n) c e) (w.tape w.drawn (.appendCap (len + n) c e)) = C at hrun
      have hCn : len + n ≤ C := by rw [← hcap]; simp [Question.cut]
      have hodl := hodV.length
      have hsize : (od ++ nw ++ Builtin.zeroCells z.cells (C - (len + n))).size = C * i.size := by
        have e1 : od.size = len * i.size := by rw [hol, hsz] at hodl; simpa using hodl
        have e2 : nw.size = n * i.size := by rw [hnl] at hnwl; simpa using hnwl
        have e3 : (od ++ nw ++ Builtin.zeroCells z.cells (C - (len + n))).size = od.size + nw.size + (C - (len + n)) * z.cells.size := by simp only [Array.size_append, zeroCells_size]
        rw [e3, e1, e2, hzs, ← Nat.add_mul, ← Nat.add_mul]; congr 1; omega
      obtain ⟨g', k1, k2, k3⟩ := place_row (T := e) (nb := h.length) hw.drew (slot := none) (Nat.le_refl _) (cs := od ++ nw ++ Builtin.zeroCells z.cells (C - (len + n))) (cells := old ++ new)
        (by have hv := hodV.append hnwV
            simp only [Array.toList_append]
            rw [List.take_append_of_le_length (by have := hv.length; omega), List.take_of_length_le (by have := hv.length; omega)]
            exact hv)
      simp only [place] at k2 k3
      refine ⟨_, _, g', hrun, k1, k2, ?_⟩
      refine .hs _ _ _ _ _ _ _ w.heap.size 0 (C * i.size) (by rw [← hsize]; exact k3) hCn (by simp) (fun _ => ⟨by simp, by rw [hsz]; simp⟩)
    · cases hc

end
end Go.CE

/-
  The canonical evaluator's operations: copy, conversions, maps.
-/
import Derived.Test.YtgfelhlilajfmaaGreatDoorCeC8
import Derived.MapKept
import Derived.Laws.BytesString
import Derived.Laws.BytesArg
namespace Go.CE
set_option linter.unusedVariables false
set_option linter.unusedSimpArgs false
set_option linter.unusedSectionVars false
set_option linter.unnecessarySimpa false
open Go.RowKit (Below)
variable [Glob]
section
variable {P : Program} {w0 w : World} {g : Gho} {h : Heap} {nb : Nat}

theorem srcCells_len {sz n : Nat} {x : CV} {new : List CV} (hnew : srcCells h sz x = some (new, n)) : new.length = n * sz := by
  unfold srcCells at hnew
  split at hnew
  · split at hnew
    · rename_i h1; cases hnew; simp [h1]
    · cases hnew
  · cases hnew; simp
  · rename_i a b n' zz k
    split at hnew
    · rename_i h1
      subst h1
      simp only [sliceCells] at hnew
      split at hnew
      · split at hnew
        · simp at hnew
          obtain ⟨rfl, rfl⟩ := hnew
          simp; omega
        · simp at hnew
      · simp at hnew
    · cases hnew
  · rename_i a n' zz k
    split at hnew
    · rename_i h1
      subst h1
      simp only [sliceCells] at hnew
      split at hnew
      · simp at hnew
        obtain ⟨rfl, rfl⟩ := hnew
        assumption
      · simp at hnew
    · cases hnew
  · cases hnew

theorem copy_fit (hw : WI w0 g h w) {fl : Nat} {t : TypeId} {ts : List TypeId} {ty : TypeId} {d s v : CV} {vd vs : Value} {h' : Heap} (hd : VR g vd d) (hs : VR g vs s) (hc : ccopy P fl t h d s = some (v, h')) :
    ∃ y w', (Builtin.copy_ (t :: ts).toArray ty #[vd, vs]).run P w = .ok y w' ∧ WI w0 g h' w' ∧ VR g y v := by
  unfold ccopy at hc
  split at hc
  case h_2 => cases hc
  rename_i e id off len sz cap ht
  split at hc
  case h_2 => cases hc
  rename_i n cells new m hsz hrow hnew
  split at hc
  case isFalse => cases hc
  rename_i hcond
  obtain ⟨hfl, rfl, hle, hall, hnl⟩ := hcond
  cases hc
  cases hd with
  | hs a c _ _ _ _ _ b o L hφ hlc hcap haddr =>
  obtain ⟨hlenOf, hsrc⟩ := srcCells_fit (P := P) hw hs hnew hnl
  obtain ⟨nw, hnw, hnwV⟩ := hsrc (min m len) (Nat.min_le_left _ _)
  have hone := one_all hnwV hall
  have hlen' := hnwV.length
  have hmn : min m len * n ≤ len * n := Nat.mul_le_mul_right _ (Nat.min_le_right _ _)
  have hmm : min m len * n ≤ m * n := Nat.mul_le_mul_right _ (Nat.min_le_left _ _)
  have htl : (new.take (min m len * n)).length = min m len * n := by simp; omega
  refine ⟨goInt (min m len : Nat), setCells w b (o + off) nw.toList, ?_, hw.cells hφ hrow ((List.getElem?_eq_some_iff.1 hrow).1) hnwV (by omega), .int _ _⟩
  obtain ⟨hL, hown, hR⟩ := hw.blk id b o L _ hφ hrow
  have hst : (storeCells a nw.toList).run P w = .ok () (setCells w b (o + off) nw.toList) := by
    by_cases h0 : nw.toList = []
    · rw [h0]; rfl
    · have hpos : 0 < nw.toList.length := List.length_pos_iff.2 h0
      have hl0 : len ≠ 0 := by intro e0; rw [e0, Nat.min_zero, Nat.zero_mul] at htl; rw [e0, Nat.min_zero, Nat.zero_mul] at hlen'; omega
      obtain ⟨rfl, _⟩ := haddr (by omega)
      exact run_storeCells (P := P) ⟨b, o + off, none⟩ b (o + off) (fun i => add_none b (o + off) i) nw.toList w 0
        (fun j hj => by obtain ⟨v, hv⟩ := (hown (off + j) (by omega)).2.1; exact ⟨v, by rw [show o + off + 0 + j = o + (off + j) by omega]; exact hv⟩)
        (fun j hj => by have := (hown (off + j) (by omega)).2.2; rw [show o + off + 0 + j = o + (off + j) by omega]; exact this) hone
  unfold Builtin.copy_
  simp only [List.getElem?_toArray, List.getElem?_cons_zero, List.getElem?_cons_succ, Sem.run_bind, run_underlying ht, Result.andThen_ok, hlenOf w, Nat.min_def, run_sizeOf hsz]
  have hnw' := hnw w (fun _ => rfl)
  simp only [Nat.min_def] at hnw'
  rw [hnw']
  simp only [Result.andThen_ok, Sem.run_bind, hst, Sem.run_pure]

theorem modify_last {α : Type} (f : α → α) : ∀ (l : List α) (a : α), (l ++ [a]).modify l.length f = l ++ [f a]
  | [], a => rfl
  | x :: l, a => by simp [List.modify_succ_cons, modify_last f l a]

theorem freeze_alloc (w : World) (cs : Array Value) (e : TypeId) : (w.alloc (.cells cs e)).freeze ⟨w.heap.size, cs.size, none⟩ 1 = w.alloc (.cells cs e (cs.size, cs.size + 1)) := by
  unfold World.freeze World.alloc
  simp only [Nat.one_ne_zero, if_false]
  congr 1
  apply Array.ext'
  rw [Array.toList_modify, Array.toList_push, Array.toList_push, ← Array.length_toList, modify_last]
  simp

theorem bytesOf_nums {cells : List CV} {s : List Nat} {vs : Array Value} (h : bytesOfCells cells = some s) (hv : VRL g vs.toList cells) :
    vs = (s.map fun (n : Nat) => Value.int .u8 (n : Int)).toArray ∧ (∀ n ∈ s, n < 256) := by
  obtain ⟨h1, h2⟩ := bytes_of h hv
  exact ⟨by rw [← h1], h2⟩

theorem push_str : ∀ (s : List Nat), (∀ n ∈ s, n < 256) → ((s.map fun (n : Nat) => (n : Int)).foldl (fun (r : ByteArray) n => r.push (UInt8.ofNat n.toNat)) ByteArray.empty).data.toList.map UInt8.toNat = s := by
  intro s hs
  rw [foldl_push_bytes]
  simp only [List.map_map]
  have : ByteArray.empty.data = #[] := rfl
  simp only [this, Array.toList_append, List.map_append, List.map_map]
  simp only [List.map_nil, List.nil_append]
  rw [List.map_congr_left (g := id) (fun n hn => ?_), List.map_id]
  have := hs n hn
  simp [Nat.mod_eq_of_lt this]

theorem convert_fit (hw : WI w0 g h w) {src dst : TypeId} {x v : CV} {u : Value} {h' : Heap} (hx : VR g u x) (hc : cconvert P src dst h x = some (v, h')) :
    ∃ y w' g', (convert src dst u).run P w = .ok y w' ∧ Gle h.length g g' ∧ WI w0 g' h' w' ∧ VR g' y v := by
  unfold cconvert at hc
  split at hc
  · rename_i d k kk n hs hd
    cases hc
    cases hx
    exact ⟨.int k (k.wrap n), w, g, by simp [convert, run_underlying hs, run_underlying hd, Conv.intToInt], Gle.refl _ _, hw, .int _ _⟩
  · rename_i d k l i hs hd
    split at hc
    · rename_i hkl
      subst hkl
      cases hc
      cases hx with
      | sym _ _ hwf => exact ⟨.int k (Glob.sval i), w, g, by simp [convert, run_underlying hs, run_underlying hd, Conv.intToInt, hwf], Gle.refl _ _, hw, .sym _ _ hwf⟩
    · cases hc
  · rename_i d s hs hd
    cases hc
    cases hx with
    | str s => exact ⟨.string s, w, g, by simp [convert, run_underlying hs, run_underlying hd], Gle.refl _ _, hw, .str _⟩
  · rename_i i hs hd
    cases hc
    cases hx with
    | symS i => exact ⟨.string (Glob.sstr i), w, g, by simp [convert, run_underlying hs, run_underlying hd], Gle.refl _ _, hw, .symS _⟩
  · rename_i e s hs hd
    split at hc
    · rename_i he
      cases hc
      cases hx with
      | str s =>
      generalize hcap : Question.cut (.appendCap s.size 0 e) (w.tape w.drawn (.appendCap s.size 0 e)) = C
      have hCn : s.size ≤ C := by rw [← hcap]; simp [Question.cut]
      have hV := bytes_VRL g s
      have hVl := hV.length
      let cs : Array Value := (s.data.map fun b => Value.int .u8 b.toNat) ++ Array.replicate (C - s.size) (Value.int .u8 0)
      have hds : s.data.size = s.size := rfl
      have hcs : cs.size = C := by simp [cs]; omega
      have hsl : ((s.data.toList.map UInt8.toNat).map fun (n : Nat) => CV.int .u8 n).length = s.size := by simp
      have hid := dom_none hw.drew (Nat.le_refl h.length)
      have hle := Gho.new_le (n := h.length) (L := C) hw.drew hid (Nat.le_refl _)
      refine ⟨.slice (some ⟨w.heap.size, 0, none⟩) s.size C, w.drew.alloc (.cells cs e (cs.size, cs.size + 1)), g.new h.length w.heap.size C, ?_, hle, ?_, ?_⟩
      · have hch : (choose (.appendCap s.size 0 e)).run P w = .ok C w.drew := by rw [run_choose]; rw [← hcap]; rfl
        have hsh : (w.drew.alloc (.cells cs e)).shape? w.heap.size = some (e, cs.size) := by
          have : (w.drew.alloc (.cells cs e)).heap[w.heap.size]? = some (.cells cs e) := by
            show (w.heap.push _)[w.heap.size]? = _
            simp
          unfold World.shape?; rw [this]
        have hfr := freeze_alloc w.drew cs e
        simp only [World.size_drew] at hfr
        have hmk : (markStringish ⟨w.heap.size, 0, none⟩).run P (w.drew.alloc (.cells cs e)) = .ok () (w.drew.alloc (.cells cs e (cs.size, cs.size + 1))) := by
          simp only [markStringish, Sem.run_bind, run_shape, hsh, Result.andThen_ok, run_freeze]
          rw [← hfr]
        simp only [convert, Sem.run_bind, run_underlying hs, run_underlying hd, run_underlying he, Result.andThen_ok, Conv.stringToBytes, hch, newRow, run_newObj, Sem.run_pure]
        have : (w.drew.heap.size) = w.heap.size := rfl
        rw [this]
        have h2 : (markStringish ⟨w.heap.size, 0, none⟩).run P { w.drew with heap := w.drew.heap.push (.cells cs e) } = .ok () (w.drew.alloc (.cells cs e (cs.size, cs.size + 1))) := hmk
        rw [h2]
        rfl
      · refine WI.new hw.drew hid (by simp) (by simp) (x := .row ((s.data.toList.map UInt8.toNat).map fun (n : Nat) => CV.int .u8 n)) (by rw [List.getElem?_append_right (Nat.le_refl _), Nat.sub_self]; rfl) (fun i hi hlt => by rw [List.getElem?_append_left hlt]) ?_
        refine ⟨by rw [hsl]; exact hCn, fun j hj => ⟨by simp [Gho.new], ?_, ?_⟩, fun j hj => ?_⟩
        · refine ⟨cs[j]'(by omega), ?_⟩
          simp only [World.alloc, World.cell?, World.size_drew, Array.getElem?_push]
          simp
        · simp only [World.alloc, World.frozen?, World.size_drew, Array.getElem?_push]
          simp
          omega
        · rw [hsl] at hj
          have h1 := (VRL_iff.1 hV).2 j (by rw [hsl]; exact hj)
          refine ⟨cs[j]'(by omega), ?_, ?_⟩
          · simp only [World.alloc, World.cell?, World.size_drew, Array.getElem?_push]
            simp
          · have : cs[j]'(by omega) = ((s.data.toList.map fun b => Value.int .u8 b.toNat)).getD j undef := by
              have hjs : j < s.data.size := by omega
              simp [cs, Array.getElem_append, hjs, hj, List.getD]
            rw [this]
            exact h1.le hle
      · have hφ : (g.new h.length w.heap.size C).φ h.length = some (w.heap.size, 0, C) := by simp [Gho.new]
        rw [str_length]
        refine .hs ⟨w.heap.size, 0, none⟩ C h.length 0 s.size 1 none w.heap.size 0 C hφ ?_ (fun k hk => by cases hk) (fun _ => ⟨rfl, by omega⟩)
        exact hCn
    · cases hc
  · rename_i x _ _ _ e hs hd hnot
    split at hc
    · rename_i he
      split at hc
      · cases hc
      · rename_i hns
        cases hsc : srcCells h 1 x with
        | none => simp [hsc] at hc
        | some r =>
          obtain ⟨cells, n⟩ := r
          simp [hsc] at hc
          obtain ⟨s, hb, rfl, rfl⟩ := hc
          have hl := srcCells_len hsc
          obtain ⟨hlenOf, hsrc⟩ := srcCells_fit (P := P) hw hx hsc hl
          obtain ⟨vs, hvs, hvsV⟩ := hsrc n (Nat.le_refl _)
          rw [List.take_of_length_le (by omega)] at hvsV
          obtain ⟨hnum, hlt⟩ := bytesOf_nums hb hvsV
          have hr := hvs w (fun _ => rfl)
          have hres : ∀ a c, u = .slice (some a) n c → (Conv.bytesToString u).run P w = .ok (.string ((s.map fun (n : Nat) => (n : Int)).foldl (fun (r : ByteArray) n => r.push (UInt8.ofNat n.toNat)) ByteArray.empty)) w := by
            rintro a c rfl
            refine run_bytesToString w a n c (s.map fun (n : Nat) => (n : Int)) ?_
            simp only [Builtin.firstCells, Nat.mul_one] at hr
            rw [hr, hnum, List.map_map]
            rfl
          have hstr : VR g (.string ((s.map fun (n : Nat) => (n : Int)).foldl (fun (r : ByteArray) n => r.push (UInt8.ofNat n.toNat)) ByteArray.empty)) (.str s) := by
            have := VR.str (g := g) ((s.map fun (n : Nat) => (n : Int)).foldl (fun (r : ByteArray) n => r.push (UInt8.ofNat n.toNat)) ByteArray.empty)
            rwa [push_str s hlt] at this
          unfold srcCells at hsc
          split at hsc
          · exact (hns _ rfl).elim
          · cases hsc
            cases hx
            simp [bytesOfCells] at hb
            subst hb
            refine ⟨.string .empty, w, g, ?_, Gle.refl _ _, hw, by simpa using VR.str (g := g) ByteArray.empty⟩
            rw [run_convert_bytes_string w src dst e _ _ _ hs he hd]
            rfl
          · split at hsc
            · rename_i hz
              cases hx with
              | hs a c _ _ _ _ _ b o L h1 h2 h3 h4 =>
              cases hq : sliceCells h (.hs _ _ _ _ _) with
              | none => rw [hq] at hsc; simp at hsc
              | some q =>
                rw [hq] at hsc
                simp at hsc
                obtain ⟨rfl, rfl⟩ := hsc
                refine ⟨_, w, g, ?_, Gle.refl _ _, hw, hstr⟩
                rw [run_convert_bytes_string w src dst e _ _ _ hs he hd]
                exact hres _ _ rfl
            · cases hsc
          · split at hsc
            · rename_i hz
              cases hx with
              | rs a c _ _ _ _ f h1 h2 h3 h4 h5 h6 =>
              cases hq : sliceCells h (.rs _ _ _ _) with
              | none => rw [hq] at hsc; simp at hsc
              | some q =>
                rw [hq] at hsc
                simp at hsc
                obtain ⟨rfl, rfl⟩ := hsc
                refine ⟨_, w, g, ?_, Gle.refl _ _, hw, hstr⟩
                rw [run_convert_bytes_string w src dst e _ _ _ hs he hd]
                exact hres _ _ rfl
            · cases hsc
          · cases hsc
    · cases hc
  · cases hc

end
end Go.CE

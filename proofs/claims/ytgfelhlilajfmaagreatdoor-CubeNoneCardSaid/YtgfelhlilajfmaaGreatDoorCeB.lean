/-
  The canonical evaluator: what a canonical value, a canonical heap say of real ones; how that lasts.
-/
import Derived.Test.YtgfelhlilajfmaaGreatDoorCeA2
import Derived.Laws.Cells
import Derived.Below
namespace Go.CE
set_option linter.unusedVariables false
set_option linter.unusedSimpArgs false
set_option linter.unusedSectionVars false
set_option linter.unnecessarySimpa false
open Go.RowKit (Below)
variable [Glob]

/-- What becomes of a real cell: nothing is known; it holds v for ever; it belongs to canonical block id. -/
inductive Gh where
  | free
  | imm (v : Value)
  | own (id : Nat)

/-- Where each canonical block lies (block, offset, how many cells are its own), and what becomes of each real cell. -/
structure Gho where
  φ : Nat → Option (Nat × Nat × Nat)
  G : Nat → Nat → Gh

inductive VR (g : Gho) : Value → CV → Prop where
  | any (v : Value) : VR g v .any
  | bool (b : Bool) : VR g (.bool b) (.bool b)
  | int (k : IntKind) (n : Int) : VR g (.int k n) (.int k n)
  | flt (k : FloatKind) (n : Nat) : VR g (.float k n) (.flt k n)
  | str (s : ByteArray) : VR g (.string s) (.str (s.data.toList.map UInt8.toNat))
  | nilp : VR g (.pointer none) .nilp
  | hp (id off b o L : Nat) : g.φ id = some (b, o, L) → VR g (.pointer (some ⟨b, o + off, none⟩)) (.hp id off)
  | rp (b o : Nat) (cells : List CV) (f : Nat → Value) : (∀ j, j < cells.length → g.G b (o + j) = .imm (f j)) → (∀ j, j < cells.length → VR g (f j) (cells.getD j .any)) →
      VR g (.pointer (some ⟨b, o, none⟩)) (.rp cells)
  | nils : VR g (.slice none 0 0) .nils
  | hs (a : Addr) (c id off len sz : Nat) (cap : Option Nat) (b o L : Nat) : g.φ id = some (b, o, L) → len ≤ c → (∀ k, cap = some k → c = k) → (c ≠ 0 → a = ⟨b, o + off, none⟩ ∧ off + c * sz ≤ L) →
      VR g (.slice (some a) len c) (.hs id off len sz cap)
  | rs (a : Addr) (c : Nat) (cells : List CV) (len sz : Nat) (cap : Option Nat) (f : Nat → Value) : len ≤ c → (∀ k, cap = some k → c = k) → cells.length = len * sz → (cells ≠ [] → a.spot = none) →
      (∀ j, j < cells.length → g.G a.block (a.off + j) = .imm (f j)) → (∀ j, j < cells.length → VR g (f j) (cells.getD j .any)) →
      VR g (.slice (some a) len c) (.rs cells len sz cap)
  | nilm : VR g (.map none) .nilm
  | hm (id b o L : Nat) : g.φ id = some (b, o, L) → VR g (.map (some b)) (.hm id)
  | fn (f : Fn) (fs cs : Array Value) (fs' cs' : List CV) : fs.toList.length = fs'.length → cs.toList.length = cs'.length →
      (∀ j, j < fs'.length → VR g (fs.toList.getD j undef) (fs'.getD j .any)) → (∀ j, j < cs'.length → VR g (cs.toList.getD j undef) (cs'.getD j .any)) → VR g (.func f fs cs) (.fn f fs' cs')
  | nilf : VR g .nilFunc .nilf
  | iface (t : TypeId) (v : Value) (v' : CV) : VR g v v' → VR g (.iface t v) (.iface t v')
  | nili : VR g .nilIface .nili
  | agg (cs : Array Value) (cs' : List CV) : cs.toList.length = cs'.length → (∀ j, j < cs'.length → VR g (cs.toList.getD j undef) (cs'.getD j .any)) → VR g (.agg cs) (.agg cs')
  | sym (k : IntKind) (i : Nat) : k.wrap (Glob.sval i) = Glob.sval i → VR g (.int k (Glob.sval i)) (.sym k i)
  | symS (i : Nat) : VR g (.string (Glob.sstr i)) (.symS i)
  | yld (id b o L : Nat) : g.φ id = some (b, o, L) → VR g (.func (.yield b) #[] #[]) (.yld id)
  | tup (cs : Array Value) (cs' : List CV) : cs.toList.length = cs'.length → (∀ j, j < cs'.length → VR g (cs.toList.getD j undef) (cs'.getD j .any)) → VR g (.tuple cs) (.tup cs')

/-- Lists of values. -/
def VRL (g : Gho) : List Value → List CV → Prop
  | [], [] => True
  | v :: vs, c :: cs => VR g v c ∧ VRL g vs cs
  | _, _ => False

theorem VRL.length {g : Gho} : ∀ {vs : List Value} {cs : List CV}, VRL g vs cs → vs.length = cs.length
  | [], [], _ => rfl
  | _ :: _, _ :: _, h => by simp [VRL.length h.2]
  | [], _ :: _, h => h.elim
  | _ :: _, [], h => h.elim

theorem VRL_iff {g : Gho} : ∀ {vs : List Value} {cs : List CV}, VRL g vs cs ↔ vs.length = cs.length ∧ ∀ j, j < cs.length → VR g (vs.getD j undef) (cs.getD j .any)
  | [], [] => by simp [VRL]
  | v :: vs, c :: cs => by
    rw [VRL, VRL_iff]
    constructor
    · rintro ⟨h0, h1, h2⟩
      refine ⟨by simp [h1], fun j hj => ?_⟩
      cases j with
      | zero => exact h0
      | succ j => exact h2 j (by simpa using hj)
    · rintro ⟨h1, h2⟩
      exact ⟨h2 0 (by simp), by simpa using h1, fun j hj => h2 (j + 1) (by simpa using hj)⟩
  | [], _ :: _ => by simp [VRL]
  | _ :: _, [] => by simp [VRL]

theorem VRL.get {g : Gho} {vs : List Value} {cs : List CV} (h : VRL g vs cs) {j : Nat} {c : CV} (hj : cs[j]? = some c) : ∃ v, vs[j]? = some v ∧ VR g v c := by
  obtain ⟨h1, h2⟩ := VRL_iff.1 h
  have hl : j < cs.length := by
    rcases Nat.lt_or_ge j cs.length with h' | h'
    · exact h'
    · simp [List.getElem?_eq_none h'] at hj
  have h3 := h2 j hl
  have hv : j < vs.length := by omega
  refine ⟨vs[j], List.getElem?_eq_getElem hv, ?_⟩
  simpa [List.getD, List.getElem?_eq_getElem hv, hj] using h3

theorem VRL.getD {g : Gho} {vs : List Value} {cs : List CV} (h : VRL g vs cs) (j : Nat) : VR g (vs.getD j undef) (cs.getD j .any) := by
  by_cases hj : j < cs.length
  · exact (VRL_iff.1 h).2 j hj
  · simp only [List.getD, List.getElem?_eq_none (Nat.le_of_not_lt hj), Option.getD_none]
    exact .any _

theorem VRL.append {g : Gho} : ∀ {vs us : List Value} {cs ds : List CV}, VRL g vs cs → VRL g us ds → VRL g (vs ++ us) (cs ++ ds)
  | [], _, [], _, _, h => h
  | _ :: _, _, _ :: _, _, h, h' => ⟨h.1, VRL.append h.2 h'⟩

theorem VRL.drop {g : Gho} : ∀ {vs : List Value} {cs : List CV} (n : Nat), VRL g vs cs → VRL g (vs.drop n) (cs.drop n)
  | [], [], n, _ => by simp [VRL]
  | _ :: _, _ :: _, 0, h => h
  | _ :: _, _ :: _, n + 1, h => VRL.drop n h.2

theorem VRL.take {g : Gho} : ∀ {vs : List Value} {cs : List CV} (n : Nat), VRL g vs cs → VRL g (vs.take n) (cs.take n)
  | [], [], n, _ => by simp [VRL]
  | _ :: _, _ :: _, 0, _ => trivial
  | _ :: _, _ :: _, n + 1, h => ⟨h.1, VRL.take n h.2⟩

theorem VRL.set {g : Gho} : ∀ {vs : List Value} {cs : List CV} (n : Nat) {v : Value} {c : CV}, VRL g vs cs → VR g v c → VRL g (vs.set n v) (cs.set n c)
  | [], [], n, _, _, _, _ => trivial
  | _ :: _, _ :: _, 0, _, _, h, h' => ⟨h', h.2⟩
  | _ :: _, _ :: _, n + 1, _, _, h, h' => ⟨h.1, VRL.set n h.2 h'⟩

theorem VRL.replicate {g : Gho} {v : Value} {c : CV} (h : VR g v c) : ∀ n, VRL g (List.replicate n v) (List.replicate n c)
  | 0 => trivial
  | n + 1 => ⟨h, VRL.replicate h n⟩

theorem VRL.map {g : Gho} {α : Type} {f : α → Value} {k : α → CV} : ∀ {l : List α}, (∀ x ∈ l, VR g (f x) (k x)) → VRL g (l.map f) (l.map k)
  | [], _ => trivial
  | x :: l, h => ⟨h x (by simp), VRL.map fun y hy => h y (by simp [hy])⟩

theorem VR.agg' {g : Gho} {cs : Array Value} {cs' : List CV} (h : VRL g cs.toList cs') : VR g (.agg cs) (.agg cs') := .agg cs cs' (VRL_iff.1 h).1 (VRL_iff.1 h).2
theorem VR.tup' {g : Gho} {cs : Array Value} {cs' : List CV} (h : VRL g cs.toList cs') : VR g (.tuple cs) (.tup cs') := .tup cs cs' (VRL_iff.1 h).1 (VRL_iff.1 h).2
theorem VR.fn' {g : Gho} {f : Fn} {fs cs : Array Value} {fs' cs' : List CV} (h : VRL g fs.toList fs') (h' : VRL g cs.toList cs') : VR g (.func f fs cs) (.fn f fs' cs') :=
  .fn f fs cs fs' cs' (VRL_iff.1 h).1 (VRL_iff.1 h').1 (VRL_iff.1 h).2 (VRL_iff.1 h').2

theorem VR.undef' {g : Gho} : VR g undef (.tup []) := .tup' (by simp [VRL])

/-- g' knows all that g knew; of canonical blocks below n it knows no more. -/
structure Gle (n : Nat) (g g' : Gho) : Prop where
  ext : ∀ id x, g.φ id = some x → g'.φ id = some x
  low : ∀ id, id < n → g'.φ id = g.φ id
  imm : ∀ b o v, g.G b o = .imm v → g'.G b o = .imm v

theorem Gle.refl (n : Nat) (g : Gho) : Gle n g g := ⟨fun _ _ h => h, fun _ _ => rfl, fun _ _ _ h => h⟩
theorem Gle.trans {n : Nat} {a b c : Gho} (h : Gle n a b) (h' : Gle n b c) : Gle n a c :=
  ⟨fun _ _ k => h'.ext _ _ (h.ext _ _ k), fun id hid => (h'.low id hid).trans (h.low id hid), fun _ _ _ k => h'.imm _ _ _ (h.imm _ _ _ k)⟩
theorem Gle.mono {n m : Nat} {a b : Gho} (h : Gle n a b) (hm : m ≤ n) : Gle m a b := ⟨h.ext, fun id hid => h.low id (by omega), h.imm⟩

theorem VR.mono {g g' : Gho} (hφ : ∀ id x, g.φ id = some x → g'.φ id = some x) (hG : ∀ b o v, g.G b o = .imm v → g'.G b o = .imm v) {v : Value} {c : CV} (h : VR g v c) : VR g' v c := by
  induction h with
  | any v => exact .any v
  | bool b => exact .bool b
  | int k n => exact .int k n
  | flt k n => exact .flt k n
  | str s => exact .str s
  | nilp => exact .nilp
  | hp id off b o L h => exact .hp id off b o L (hφ _ _ h)
  | rp b o cells f h _ ih => exact .rp b o cells f (fun j hj => hG _ _ _ (h j hj)) ih
  | nils => exact .nils
  | hs a c id off len sz cap b o L h h1 h2 h3 => exact .hs a c id off len sz cap b o L (hφ _ _ h) h1 h2 h3
  | rs a c cells len sz cap f h1 h2 h3 h4 h5 _ ih => exact .rs a c cells len sz cap f h1 h2 h3 h4 (fun j hj => hG _ _ _ (h5 j hj)) ih
  | nilm => exact .nilm
  | hm id b o L h => exact .hm id b o L (hφ _ _ h)
  | fn f fs cs fs' cs' h1 h2 _ _ i1 i2 => exact .fn f fs cs fs' cs' h1 h2 i1 i2
  | nilf => exact .nilf
  | iface t v v' _ ih => exact .iface t v v' ih
  | nili => exact .nili
  | agg cs cs' h _ ih => exact .agg cs cs' h ih
  | tup cs cs' h _ ih => exact .tup cs cs' h ih
  | sym k i h => exact .sym k i h
  | symS i => exact .symS i
  | yld id b o L h => exact .yld id b o L (hφ _ _ h)

theorem VR.le {n : Nat} {g g' : Gho} (h : Gle n g g') {v : Value} {c : CV} (hv : VR g v c) : VR g' v c := hv.mono h.ext h.imm
theorem VRL.le {n : Nat} {g g' : Gho} (h : Gle n g g') : ∀ {vs : List Value} {cs : List CV}, VRL g vs cs → VRL g' vs cs
  | [], [], _ => trivial
  | _ :: _, _ :: _, k => ⟨k.1.le h, VRL.le h k.2⟩

/-- A map's entries. -/
def ER (g : Gho) : List MapEntry → List (CV × CV × Nat) → Prop
  | [], [] => True
  | e :: es, c :: cs => (VR g e.key c.1 ∧ VR g e.val c.2.1 ∧ e.born = c.2.2) ∧ ER g es cs
  | _, _ => False

theorem ER.le {n : Nat} {g g' : Gho} (h : Gle n g g') : ∀ {es : List MapEntry} {cs : List (CV × CV × Nat)}, ER g es cs → ER g' es cs
  | [], [], _ => trivial
  | _ :: _, _ :: _, k => ⟨⟨k.1.1.le h, k.1.2.1.le h, k.1.2.2⟩, ER.le h k.2⟩

/-- Real cells from (b, o) on hold what these say. -/
def CellsR (g : Gho) (w : World) (b o : Nat) (cells : List CV) : Prop := ∀ j, j < cells.length → ∃ v, w.cell? ⟨b, o + j, none⟩ = some v ∧ VR g v (cells.getD j .any)

/-- How a loop's record says where it stands, and the jump that waits. -/
def stOf : Nat → LoopState
  | 0 => .ready
  | 1 => .busy
  | 2 => .done
  | _ => .exhausted
def pendOf : Option (Option Nat) → Option Code
  | none => none
  | some none => some .ret
  | some (some x) => some (.exit x)

def BR (g : Gho) (w : World) (id b o L : Nat) : Blk → Prop
  | .dead => True
  | .row cells => cells.length ≤ L ∧ (∀ j, j < L → g.G b (o + j) = .own id ∧ (∃ v, w.cell? ⟨b, o + j, none⟩ = some v) ∧ w.frozen? ⟨b, o + j, none⟩ = false) ∧ CellsR g w b o cells
  | .map es c => (∀ j, g.G b j = .own id) ∧ o = 0 ∧ ∃ es', w.heap[b]? = some (.map es' c) ∧ ER g es'.toList es
  | .siter s pos => (∀ j, g.G b j = .own id) ∧ o = 0 ∧ ∃ s', w.heap[b]? = some (.stringIter s' pos) ∧ s'.data.toList.map UInt8.toNat = s
  | .miter m since seen stepped => (∀ j, g.G b j = .own id) ∧ o = 0 ∧ ∃ bm om Lm, g.φ m = some (bm, om, Lm) ∧ w.heap[b]? = some (.mapIter (some bm) since seen.toArray stepped)
  | .dfd => (∀ j, g.G b j = .own id) ∧ o = 0 ∧ w.heap[b]? = some (.deferred (some []))
  | .loop tm ps a c st pend => (∀ j, g.G b j = .own id) ∧ o = 0 ∧ ∃ (tmps : Array Value) (fn D : Nat), w.heap[b]? = some (.loop { state := stOf st, pending := pendOf pend, fn := fn, tmps := tmps, params := ps.toArray, assign := a, body := c, defers := D }) ∧ VRL g tmps.toList tm

structure WI (w0 : World) (g : Gho) (h : Heap) (w : World) : Prop where
  glob : ∀ x : Nat, VR g (.pointer (some ⟨x, 0, none⟩)) (Glob.val x)
  below : Below w0.heap.size w0 w
  immv : ∀ b o v, g.G b o = .imm v → w.cell? ⟨b, o, none⟩ = some v
  old : ∀ b o id, g.G b o = .own id → w0.heap.size ≤ b ∧ b < w.heap.size
  dom : ∀ id x, g.φ id = some x → id < h.length
  blk : ∀ id b o L x, g.φ id = some (b, o, L) → h[id]? = some x → BR g w id b o L x

theorem CellsR.le {n : Nat} {g g' : Gho} {w w' : World} {b o : Nat} {cells : List CV} (h : Gle n g g') (hc : ∀ j, j < cells.length → w'.cell? ⟨b, o + j, none⟩ = w.cell? ⟨b, o + j, none⟩)
    (k : CellsR g w b o cells) : CellsR g' w' b o cells := fun j hj => let ⟨v, h1, h2⟩ := k j hj; ⟨v, (hc j hj).trans h1, h2.le h⟩

/-- A block that nobody touched. -/
theorem BR.keep {n : Nat} {g g' : Gho} {w w' : World} {id b o L : Nat} (hle : Gle n g g') (hG : ∀ b o, g.G b o = .own id → g'.G b o = .own id)
    (hc : ∀ b o, g.G b o = .own id → w'.cell? ⟨b, o, none⟩ = w.cell? ⟨b, o, none⟩ ∧ w'.frozen? ⟨b, o, none⟩ = w.frozen? ⟨b, o, none⟩)
    (hb : ∀ b, (∀ o, g.G b o = .own id) → w'.heap[b]? = w.heap[b]?) : ∀ {x : Blk}, BR g w id b o L x → BR g' w' id b o L x
  | .dead, _ => trivial
  | .row cells, ⟨h1, h2, h3⟩ =>
    ⟨h1, fun j hj => let ⟨k1, ⟨v, k2⟩, k3⟩ := h2 j hj; ⟨hG _ _ k1, ⟨v, (hc _ _ k1).1.trans k2⟩, (hc _ _ k1).2.trans k3⟩, h3.le hle fun j hj => (hc _ _ (h2 j (by omega)).1).1⟩
  | .map es c, ⟨h1, h2, es', h3, h4⟩ => ⟨fun j => hG _ _ (h1 j), h2, es', (hb b h1).trans h3, h4.le hle⟩
  | .siter s pos, ⟨h1, h2, s', h3, h4⟩ => ⟨fun j => hG _ _ (h1 j), h2, s', (hb b h1).trans h3, h4⟩
  | .miter m a c d, ⟨h1, h2, bm, om, Lm, h3, h4⟩ => ⟨fun j => hG _ _ (h1 j), h2, bm, om, Lm, hle.ext _ _ h3, (hb b h1).trans h4⟩
  | .dfd, ⟨h1, h2, h3⟩ => ⟨fun j => hG _ _ (h1 j), h2, (hb b h1).trans h3⟩
  | .loop tm ps x c st pend, ⟨h1, h2, t, f, D, h3, h4⟩ => ⟨fun j => hG _ _ (h1 j), h2, t, f, D, (hb b h1).trans h3, h4.le hle⟩

theorem WI.drew {w0 : World} {g : Gho} {h : Heap} {w : World} (hw : WI w0 g h w) : WI w0 g h w.drew :=
  ⟨hw.glob, hw.below.drew, hw.immv, hw.old, hw.dom, fun id b o L x h1 h2 => (hw.blk id b o L x h1 h2).keep (Gle.refl 0 g) (fun _ _ h => h) (fun _ _ _ => ⟨rfl, rfl⟩) (fun _ _ => rfl)⟩

/-- The heap's knowledge may shrink. -/
theorem WI.less {w0 : World} {g : Gho} {h h' : Heap} {w : World} (hw : WI w0 g h w) (hl : h'.length = h.length)
    (hh : ∀ (id : Nat) (x : Blk), h'[id]? = some x → x = .dead ∨ h[id]? = some x) : WI w0 g h' w :=
  ⟨hw.glob, hw.below, hw.immv, hw.old, fun id x k => hl ▸ hw.dom id x k, fun id b o L x h1 h2 => by
    rcases hh id x h2 with rfl | h3
    · trivial
    · exact hw.blk id b o L x h1 h3⟩

def Gho.new (g : Gho) (id : Nat) (B L : Nat) : Gho := ⟨fun i => if i = id then some (B, 0, L) else g.φ i, fun b o => if b = B then .own id else g.G b o⟩

theorem Gho.new_le {w0 : World} {g : Gho} {h : Heap} {w : World} (hw : WI w0 g h w) {id n L : Nat} (hid : g.φ id = none) (hn : n ≤ id) : Gle n g (g.new id w.heap.size L) := by
  refine ⟨fun i x k => ?_, fun i hi => ?_, fun b o v k => ?_⟩
  · have : i ≠ id := by rintro rfl; rw [hid] at k; cases k
    simp [Gho.new, this, k]
  · have : i ≠ id := by omega
    simp [Gho.new, this]
  · have h1 := World.block_lt_of_cell? _ _ (hw.immv b o v k)
    have : b ≠ w.heap.size := by simp at h1; omega
    simp [Gho.new, this, k]

/-- A new block of the canonical heap, and a new real one. -/
theorem WI.new {w0 : World} {g : Gho} {h h' : Heap} {w : World} (hw : WI w0 g h w) {id L : Nat} {x : Blk} {ob : Obj} (hid : g.φ id = none) (hl : h.length ≤ h'.length) (hlt : id < h'.length)
    (hx : h'[id]? = some x) (hh : ∀ i, i ≠ id → i < h.length → h'[i]? = h[i]?)
    (hbr : BR (g.new id w.heap.size L) (w.alloc ob) id w.heap.size 0 L x) : WI w0 (g.new id w.heap.size L) h' (w.alloc ob) := by
  have hle := Gho.new_le (n := 0) (L := L) hw hid (Nat.zero_le _)
  have hB : w0.heap.size ≤ w.heap.size := hw.below.size
  refine ⟨fun x => (hw.glob x).le hle, hw.below.alloc hB ob, fun b o v k => ?_, fun b o i k => ?_, fun i y k => ?_, fun i b o L' y k1 k2 => ?_⟩
  · by_cases hb : b = w.heap.size
    · simp [Gho.new, hb] at k
    · simp [Gho.new, hb] at k
      rw [World.cell?_alloc_old _ _ _ (by simpa using hb)]
      exact hw.immv b o v k
  · by_cases hb : b = w.heap.size
    · simp [hb, hB]
    · simp [Gho.new, hb] at k
      have := hw.old b o i k
      simp; omega
  · by_cases hi : i = id
    · omega
    · simp [Gho.new, hi] at k
      have := hw.dom i y k
      omega
  · by_cases hi : i = id
    · subst hi
      simp [Gho.new] at k1
      obtain ⟨rfl, rfl, rfl⟩ := k1
      rw [hx] at k2
      cases k2
      exact hbr
    · simp [Gho.new, hi] at k1
      have hd := hw.dom i _ k1
      rw [hh i hi hd] at k2
      refine (hw.blk i b o L' y k1 k2).keep hle (fun b o k => ?_) (fun b o k => ?_) (fun b k => ?_)
      · have := (hw.old b o i k).2
        have : b ≠ w.heap.size := by omega
        simp [Gho.new, this, k]
      · have := (hw.old b o i k).2
        exact ⟨World.cell?_alloc_lt _ _ _ (by simpa using this), World.frozen?_alloc_old _ _ _ (by simp; omega)⟩
      · have := (hw.old b 0 i (k 0)).2
        simp only [World.alloc, Array.getElem?_push]
        rw [if_neg (by omega)]

/-- A real block that nobody of the canonical heap knows. -/
theorem WI.allocFree {w0 : World} {g : Gho} {h : Heap} {w : World} (hw : WI w0 g h w) (ob : Obj) : WI w0 g h (w.alloc ob) := by
  have hB : w0.heap.size ≤ w.heap.size := hw.below.size
  refine ⟨hw.glob, hw.below.alloc hB ob, fun b o v k => ?_, fun b o i k => ?_, hw.dom, fun i b o L' y k1 k2 => ?_⟩
  · rw [World.cell?_alloc_lt _ _ _ (by simpa using World.block_lt_of_cell? _ _ (hw.immv b o v k))]
    exact hw.immv b o v k
  · have := hw.old b o i k
    simp; omega
  · refine (hw.blk i b o L' y k1 k2).keep (Gle.refl 0 g) (fun b o k => k) (fun b o k => ?_) (fun b k => ?_)
    · have := (hw.old b o i k).2
      exact ⟨World.cell?_alloc_lt _ _ _ (by simpa using this), World.frozen?_alloc_old _ _ _ (by simp; omega)⟩
    · have := (hw.old b 0 i (k 0)).2
      simp only [World.alloc, Array.getElem?_push]
      rw [if_neg (by omega)]

/-- One block of the canonical heap is written, and real cells of its own, or its real block. -/
theorem WI.write {w0 : World} {g : Gho} {h h' : Heap} {w w' : World} (hw : WI w0 g h w) {id b o L : Nat} {x : Blk} (hφ : g.φ id = some (b, o, L)) (hl : h'.length = h.length) (hx : h'[id]? = some x)
    (hh : ∀ i, i ≠ id → h'[i]? = h[i]?) (hb : Below w0.heap.size w0 w') (hsz : w.heap.size ≤ w'.heap.size)
    (hc : ∀ b o, g.G b o ≠ .own id → b < w.heap.size → w'.cell? ⟨b, o, none⟩ = w.cell? ⟨b, o, none⟩ ∧ w'.frozen? ⟨b, o, none⟩ = w.frozen? ⟨b, o, none⟩)
    (hbl : ∀ b, (∀ o, g.G b o ≠ .own id) → b < w.heap.size → w'.heap[b]? = w.heap[b]?)
    (hbr : BR g w' id b o L x) : WI w0 g h' w' := by
  refine ⟨hw.glob, hb, fun b o v k => ?_, fun b o i k => ?_, fun i y k => hl ▸ hw.dom i y k, fun i b' o' L' y k1 k2 => ?_⟩
  · have h1 := hw.immv b o v k
    rw [(hc b o (by rw [k]; simp) (by simpa using World.block_lt_of_cell? _ _ h1)).1]
    exact h1
  · have := hw.old b o i k; omega
  · by_cases hi : i = id
    · subst hi
      rw [hφ] at k1
      cases k1
      rw [hx] at k2
      cases k2
      exact hbr
    · rw [hh i hi] at k2
      refine (hw.blk i b' o' L' y k1 k2).keep (Gle.refl 0 g) (fun b o k => k) (fun b o k => ?_) (fun b k => ?_)
      · exact hc b o (by rw [k]; simpa using hi) (hw.old b o i k).2
      · exact hbl b (fun o => by rw [k o]; simpa using hi) (hw.old b 0 i (k 0)).2

end Go.CE

/-
  A canonical evaluator of the model's code: values that say nothing of real addresses, a small heap, and plain fuelled functions. Its soundness is proved in the texts behind this one; it needs no condition.
-/
import Derived.Calls
import Derived.Orders
namespace Go.CE
set_option linter.unusedVariables false
set_option linter.unusedSimpArgs false
set_option linter.unusedSectionVars false
set_option linter.unnecessarySimpa false
noncomputable section

/-- A canonical value. 'any': nothing is known. 'hp', 'hs', 'hm': into the canonical heap; 'rp', 'rs': into cells that never change again, written out. -/
inductive CV where
  | any
  | bool (b : Bool)
  | int (k : IntKind) (n : Int)
  | flt (k : FloatKind) (bits : Nat)
  | str (s : List Nat)
  | nilp
  | hp (id off : Nat)
  | rp (cells : List CV)
  | nils
  | hs (id off len sz : Nat) (cap : Option Nat)
  | rs (cells : List CV) (len sz : Nat) (cap : Option Nat)
  | nilm
  | hm (id : Nat)
  | fn (f : Fn) (first cap : List CV)
  | nilf
  | iface (t : TypeId) (v : CV)
  | nili
  | agg (cs : List CV)
  | tup (vs : List CV)
  | sym (k : IntKind) (i : Nat)
  | symS (i : Nat)
  | yld (id : Nat)

mutual
def CV.beq : CV → CV → Bool
  | .any, .any => true
  | .bool a, .bool b => a == b
  | .int k a, .int l b => k == l && a == b
  | .flt k a, .flt l b => k == l && a == b
  | .str a, .str b => a == b
  | .nilp, .nilp => true
  | .hp a b, .hp c d => a == c && b == d
  | .rp a, .rp b => CV.beqL a b
  | .nils, .nils => true
  | .hs a b c d e, .hs a' b' c' d' e' => a == a' && b == b' && c == c' && d == d' && e == e'
  | .rs a b c d, .rs a' b' c' d' => CV.beqL a a' && b == b' && c == c' && d == d'
  | .nilm, .nilm => true
  | .hm a, .hm b => a == b
  | .fn f a b, .fn g c d => f == g && CV.beqL a c && CV.beqL b d
  | .nilf, .nilf => true
  | .iface t a, .iface u b => t == u && CV.beq a b
  | .nili, .nili => true
  | .agg a, .agg b => CV.beqL a b
  | .tup a, .tup b => CV.beqL a b
  | .sym k a, .sym l b => k == l && a == b
  | .symS a, .symS b => a == b
  | .yld a, .yld b => a == b
  | _, _ => false
def CV.beqL : List CV → List CV → Bool
  | [], [] => true
  | a :: as, b :: bs => CV.beq a b && CV.beqL as bs
  | _, _ => false
end

mutual
theorem CV.beq_eq : ∀ a b : CV, CV.beq a b = true → a = b
  | .any, b, h => by cases b <;> simp_all [CV.beq]
  | .bool a, b, h => by cases b <;> simp_all [CV.beq]
  | .int k a, b, h => by cases b <;> simp_all [CV.beq]
  | .flt k a, b, h => by cases b <;> simp_all [CV.beq]
  | .str a, b, h => by cases b <;> simp_all [CV.beq]
  | .nilp, b, h => by cases b <;> simp_all [CV.beq]
  | .hp a c, b, h => by cases b <;> simp_all [CV.beq]
  | .rp a, b, h => by
    cases b <;> simp [CV.beq] at h
    rw [CV.beqL_eq _ _ h]
  | .nils, b, h => by cases b <;> simp_all [CV.beq]
  | .hs a1 a2 a3 a4 a5, b, h => by cases b <;> simp_all [CV.beq]
  | .rs a1 a2 a3 a4, b, h => by
    cases b <;> simp [CV.beq] at h
    obtain ⟨⟨⟨h1, rfl⟩, rfl⟩, rfl⟩ := h
    rw [CV.beqL_eq _ _ h1]
  | .nilm, b, h => by cases b <;> simp_all [CV.beq]
  | .hm a, b, h => by cases b <;> simp_all [CV.beq]
  | .fn f x y, b, h => by
    cases b <;> simp [CV.beq] at h
    obtain ⟨⟨rfl, h1⟩, h2⟩ := h
    rw [CV.beqL_eq _ _ h1, CV.beqL_eq _ _ h2]
  | .nilf, b, h => by cases b <;> simp_all [CV.beq]
  | .iface t a, b, h => by
    cases b <;> simp [CV.beq] at h
    rw [h.1, CV.beq_eq _ _ h.2]
  | .nili, b, h => by cases b <;> simp_all [CV.beq]
  | .agg a, b, h => by
    cases b <;> simp [CV.beq] at h
    rw [CV.beqL_eq _ _ h]
  | .tup a, b, h => by
    cases b <;> simp [CV.beq] at h
    rw [CV.beqL_eq _ _ h]
  | .sym k a, b, h => by cases b <;> simp_all [CV.beq]
  | .symS a, b, h => by cases b <;> simp_all [CV.beq]
  | .yld a, b, h => by cases b <;> simp_all [CV.beq]
theorem CV.beqL_eq : ∀ a b : List CV, CV.beqL a b = true → a = b
  | [], b, h => by cases b <;> simp_all [CV.beqL]
  | a :: as, b, h => by
    cases b <;> simp [CV.beqL] at h
    rw [CV.beq_eq _ _ h.1, CV.beqL_eq _ _ h.2]
end

mutual
theorem CV.beq_refl : ∀ a : CV, CV.beq a a = true
  | .any => rfl
  | .bool a => by simp [CV.beq]
  | .int k a => by simp [CV.beq]
  | .flt k a => by simp [CV.beq]
  | .str a => by simp [CV.beq]
  | .nilp => rfl
  | .hp a c => by simp [CV.beq]
  | .rp a => by simp [CV.beq, CV.beqL_refl a]
  | .nils => rfl
  | .hs a1 a2 a3 a4 a5 => by simp [CV.beq]
  | .rs a1 a2 a3 a4 => by simp [CV.beq, CV.beqL_refl a1]
  | .nilm => rfl
  | .hm a => by simp [CV.beq]
  | .fn f x y => by simp [CV.beq, CV.beqL_refl x, CV.beqL_refl y]
  | .nilf => rfl
  | .iface t a => by simp [CV.beq, CV.beq_refl a]
  | .nili => rfl
  | .agg a => by simp [CV.beq, CV.beqL_refl a]
  | .tup a => by simp [CV.beq, CV.beqL_refl a]
  | .sym k a => by simp [CV.beq]
  | .symS a => by simp [CV.beq]
  | .yld a => by simp [CV.beq]
theorem CV.beqL_refl : ∀ a : List CV, CV.beqL a a = true
  | [] => rfl
  | a :: as => by simp [CV.beqL, CV.beq_refl a, CV.beqL_refl as]
end

def strLess : List Nat → List Nat → Bool
  | _, [] => false
  | [], _ :: _ => true
  | a :: x, b :: y => decide (a < b) || (a == b && strLess x y)

def strCmp (a b : List Nat) : Ordering := if strLess a b then .lt else if a == b then .eq else .gt

def bytesL (s : ByteArray) : List Nat := s.data.toList.map UInt8.toNat

/-- What the addresses of package variables lead to, as far as it is known; whole numbers and strings that are not known (sym, symS), and what is known of how they compare. -/
class Glob where
  val : Nat → CV
  sval : Nat → Int
  know : Nat → Int → Option Ordering
  rel : Nat → Nat → Option Ordering
  know_ok : ∀ i c o, know i c = some o → compare (sval i) c = o
  rel_ok : ∀ i j o, rel i j = some o → compare (sval i) (sval j) = o
  sstr : Nat → ByteArray
  sknow : Nat → List Nat → Option Ordering
  srel : Nat → Nat → Option Ordering
  sknow_ok : ∀ i c o, sknow i c = some o → strCmp (bytesL (sstr i)) c = o
  srel_ok : ∀ i j o, srel i j = some o → strCmp (bytesL (sstr i)) (bytesL (sstr j)) = o

variable [Glob]

/-- A block of the canonical heap. -/
inductive Blk where
  | dead
  | row (cells : List CV)
  | map (es : List (CV × CV × Nat)) (clock : Nat)
  | siter (s : List Nat) (pos : Nat)
  | miter (id since : Nat) (seen : List Nat) (stepped : Nat)
  | dfd
  | loop (tm : List CV) (ps : List Tmp) (assign body : Code) (st : Nat) (pend : Option (Option Nat))

abbrev Heap := List Blk
abbrev Env := List CV

/-- What may come: one thing, or whichever of n. -/
inductive Dem (α : Type) where
  | ret (a : α)
  | fail
  | pick (n : Nat) (k : Nat → Dem α)

namespace Dem
def bind {α β : Type} : Dem α → (α → Dem β) → Dem β
  | .ret a, f => f a
  | .fail, _ => .fail
  | .pick n k, f => .pick n fun i => (k i).bind f
def all {α : Type} (p : α → Prop) : Dem α → Prop
  | .ret a => p a
  | .fail => False
  | .pick n k => ∀ i, i < n → (k i).all p
def allB {α : Type} (p : α → Bool) : Dem α → Bool
  | .ret a => p a
  | .fail => false
  | .pick n k => (List.range n).all fun i => (k i).allB p
def ofOpt {α : Type} : Option α → Dem α
  | some a => .ret a
  | none => .fail
theorem all_bind {α β : Type} {p : β → Prop} {f : α → Dem β} : ∀ {d : Dem α}, (d.bind f).all p ↔ d.all fun a => (f a).all p
  | .ret a => Iff.rfl
  | .fail => Iff.rfl
  | .pick n k => by simp only [bind, all]; exact ⟨fun h i hi => all_bind.1 (h i hi), fun h i hi => all_bind.2 (h i hi)⟩
theorem all_mono {α : Type} {p q : α → Prop} (h : ∀ a, p a → q a) : ∀ {d : Dem α}, d.all p → d.all q
  | .ret a, ha => h a ha
  | .fail, ha => ha.elim
  | .pick n k, ha => fun i hi => all_mono h (ha i hi)
theorem all_of_allB {α : Type} {p : α → Bool} : ∀ {d : Dem α}, d.allB p = true → d.all fun a => p a = true
  | .ret a, h => h
  | .fail, h => by simp [allB] at h
  | .pick n k, h => fun i hi => all_of_allB (by simp only [allB, List.all_eq_true] at h; exact h i (List.mem_range.2 hi))
end Dem

/-- How an operation or a call ends: with a value, or a panic of that value. -/
inductive Out where
  | val (v : CV) (h : Heap)
  | pan (v : CV) (h : Heap)

/-- How code ends. -/
inductive CX where
  | normal
  | exit (id : Nat)
  | ret
  | pan (v : CV)

def scal : CV → Option Value
  | .bool b => some (.bool b)
  | .int k n => some (.int k n)
  | .flt k n => some (.float k n)
  | _ => none

def ofScal : Value → CV
  | .bool b => .bool b
  | .int k n => .int k n
  | .float k n => .flt k n
  | _ => .any

def ofCell : Value → CV
  | .bool b => .bool b
  | .int k n => .int k n
  | .float k n => .flt k n
  | .string s => .str (s.data.toList.map UInt8.toNat)
  | .pointer none => .nilp
  | .slice none 0 0 => .nils
  | .map none => .nilm
  | .nilFunc => .nilf
  | .nilIface => .nili
  | _ => .any

def ofConst : Value → CV
  | .agg cs => .agg (cs.toList.map ofCell)
  | .tuple cs => .tup (cs.toList.map ofCell)
  | .func f a b => if a.size = 0 ∧ b.size = 0 then .fn f [] [] else .any
  | v => ofCell v

def ccells : CV → List CV
  | .agg cs => cs
  | v => [v]

def isCell : CV → Bool
  | .any | .agg _ | .tup _ => false
  | _ => true

/-! ### Lists, spelled so that the kernel is quick at them -/
def getK (l : List CV) : Nat → CV := List.rec (motive := fun _ => Nat → CV) (fun _ => .any) (fun x _ ih n => Nat.rec (motive := fun _ => CV) x (fun m _ => ih m) n) l
theorem getK_eq : ∀ (l : List CV) (n : Nat), getK l n = l.getD n .any
  | [], n => by simp [getK]
  | x :: l, 0 => rfl
  | x :: l, n + 1 => (getK_eq l n).trans (by simp)
def setK {α : Type} (l : List CV) : Nat → CV → (List CV → α) → α := List.rec (motive := fun _ => Nat → CV → (List CV → α) → α) (fun _ _ k => k []) (fun x xs ih n v k => Nat.rec (motive := fun _ => α) (k (v :: xs)) (fun m _ => ih m v fun ys => k (x :: ys)) n) l
theorem setK_eq {α : Type} : ∀ (l : List CV) (n : Nat) (v : CV) (k : List CV → α), setK l n v k = k (l.set n v)
  | [], n, v, k => rfl
  | x :: l, 0, v, k => rfl
  | x :: l, n + 1, v, k => setK_eq l n v fun ys => k (x :: ys)
def forceL {α β : Type} (l : List β) : (List β → α) → α := List.rec (motive := fun _ => (List β → α) → α) (fun k => k []) (fun x _ ih k => ih fun ys => k (x :: ys)) l
theorem forceL_eq {α β : Type} : ∀ (l : List β) (k : List β → α), forceL l k = k l
  | [], k => rfl
  | x :: l, k => forceL_eq l fun ys => k (x :: ys)
def forceN {α : Type} (n : Nat) (k : Nat → α) : α := match n with
  | 0 => k 0
  | n + 1 => k (n + 1)
theorem forceN_eq {α : Type} (n : Nat) (k : Nat → α) : forceN n k = k n := by cases n <;> rfl
def forceI {α : Type} (n : Int) (k : Int → α) : α := match n with
  | .ofNat m => forceN m fun m => k (.ofNat m)
  | .negSucc m => forceN m fun m => k (.negSucc m)
theorem forceI_eq {α : Type} (n : Int) (k : Int → α) : forceI n k = k n := by cases n <;> simp [forceI, forceN_eq]
def forceB {α : Type} (b : Bool) (k : Bool → α) : α := match b with
  | true => k true
  | false => k false
theorem forceB_eq {α : Type} (b : Bool) (k : Bool → α) : forceB b k = k b := by cases b <;> rfl
def forceO {α : Type} (b : Option Nat) (k : Option Nat → α) : α := match b with
  | none => k none
  | some n => forceN n fun n => k (some n)
theorem forceO_eq {α : Type} (b : Option Nat) (k : Option Nat → α) : forceO b k = k b := by cases b <;> simp [forceO, forceN_eq]
def forceV {α : Type} (v : CV) (k : CV → α) : α := match v with
  | .bool b => forceB b fun b => k (.bool b)
  | .int t n => forceI n fun n => k (.int t n)
  | .hp a b => forceN a fun a => forceN b fun b => k (.hp a b)
  | .hs a b c d e => forceN a fun a => forceN b fun b => forceN c fun c => forceN d fun d => forceO e fun e => k (.hs a b c d e)
  | .agg cs => forceL cs fun cs => k (.agg cs)
  | .tup cs => forceL cs fun cs => k (.tup cs)
  | .rp cs => forceL cs fun cs => k (.rp cs)
  | .str s => forceL s fun s => k (.str s)
  | v => k v
theorem forceV_eq {α : Type} (v : CV) (k : CV → α) : forceV v k = k v := by cases v <;> simp [forceV, forceN_eq, forceI_eq, forceB_eq, forceO_eq, forceL_eq]
theorem getD_some {l : List CV} {n : Nat} {c : CV} (h : l.getD n .any = c) (hc : c ≠ .any) : l[n]? = some c := by
  simp only [List.getD] at h
  cases hl : l[n]? with
  | none => rw [hl] at h; exact (hc h.symm).elim
  | some x => rw [hl] at h; simpa using h

def ceval (tm : Env) : Operand → CV
  | .tmp t => getK tm t
  | .const v => ofConst v
  | .global x => Glob.val x
  | .func f => .fn (.func f) [] []

/-- What a run that looks at nothing but the program comes to. -/
def pureVal {α : Type} (P : Program) : Sem α → Option α
  | .pure a => some a
  | .program k => pureVal P (k P)
  | .mark _ k => pureVal P k
  | _ => none

def szOf (P : Program) (t : TypeId) : Option Nat := (P.info? t).map (·.size)
def zeroOf (P : Program) (t : TypeId) : Option CV := ((P.info? t).bind (·.zero)).map ofConst
/-- The cells of a type's zero. -/
def zcells (P : Program) (t : TypeId) : Option (List CV) :=
  match zeroOf P t with
  | some .any => none
  | some (.agg cs) => some cs
  | some v => some [v]
  | none => none
def aggOf (P : Program) (t : TypeId) : Option Bool :=
  match P.underlying t with
  | some (.struct _) | some (.array _ _) => some true
  | some _ => some false
  | none => none

def isInt : CV → Option Int
  | .int _ n => some n
  | _ => none

/-- The cells that a pointer points to, from there on. -/
def cellsAt (h : Heap) : CV → Option (List CV)
  | .hp id off => match h[id]? with
    | some (.row cells) => some (cells.drop off)
    | _ => none
  | .rp cells => some cells
  | _ => none

/-- A part of cells as a value. -/
def cpart (P : Program) (t : TypeId) (cells : List CV) (off : Nat) : Option CV :=
  match aggOf P t, szOf P t with
  | some true, some n => if off + n ≤ cells.length then some (.agg ((cells.drop off).take n)) else none
  | some false, some _ => cells[off]?
  | _, _ => none

def cload (P : Program) (t : TypeId) (h : Heap) (p : CV) : Option CV :=
  match cellsAt h p with
  | some cells => cpart P t cells 0
  | none => none

def splice (cells : List CV) (off : Nat) (cs : List CV) : List CV := cells.take off ++ cs ++ cells.drop (off + cs.length)

def cstore (P : Program) (fl : Nat) (t : TypeId) (h : Heap) (p v : CV) : Option Heap :=
  match p, szOf P t, aggOf P t with
  | .hp id off, some n, some _ =>
    match h[id]? with
    | some (.row cells) =>
      if fl ≤ id ∧ (ccells v).length = n ∧ off + n ≤ cells.length ∧ (ccells v).all isCell = true then some (h.set id (.row (splice cells off (ccells v)))) else none
    | _ => none
  | _, _, _ => none

/-- Parts laid over zero cells. -/
def cfill (place : Nat → Option (Nat × Nat)) (cells : List CV) : List (Nat × CV) → Option (List CV)
  | [] => some cells
  | (i, v) :: rest =>
    match place i, v with
    | _, .any => none
    | some (off, size), v => if (ccells v).length = size ∧ off + size ≤ cells.length then cfill place (splice cells off (ccells v)) rest else none
    | none, _ => none

def fieldPlaces (P : Program) (fields : Array Field) : Option (List (Nat × Nat)) :=
  fields.toList.mapM fun f => (szOf P f.type).map fun n => (f.offset, n)

/-- n times the zero cells. -/
def repCells (n : Nat) (zero : List CV) : List CV := (List.replicate n zero).flatten

/-- Are two values of a type equal? none: not known here. -/
def ceq (P : Program) : Nat → TypeId → CV → CV → Option Bool
  | 0, _, _, _ => none
  | d + 1, t, x, y =>
    match P.underlying t, x, y with
    | some .bool, .bool a, .bool b => some (a == b)
    | some (.int _), .int k a, .int l b => if k = l then some (a == b) else none
    | some .string, .str a, .str b => some (a == b)
    | some (.pointer _), .nilp, .nilp => some true
    | some (.pointer _), .nilp, .hp _ _ | some (.pointer _), .nilp, .rp _ | some (.pointer _), .hp _ _, .nilp | some (.pointer _), .rp _, .nilp => some false
    | some (.interface _), .nili, .nili => some true
    | some (.interface _), .nili, .iface _ _ | some (.interface _), .iface _ _, .nili => some false
    | some (.interface _), .iface tx vx, .iface ty vy =>
      if tx ≠ ty then some false
      else match P.info? tx with
        | some i => if i.comparable then ceq P d tx vx vy else none
        | none => none
    | some (.struct fields), .agg xs, .agg ys =>
      if P.stoodInHeld t then none
      else fields.toList.foldr (fun f acc =>
        if f.name = "_" then acc
        else match cpart P f.type xs f.offset, cpart P f.type ys f.offset with
          | some a, some b => match ceq P d f.type a b with
            | some true => acc
            | some false => some false
            | none => none
          | _, _ => none) (some true)
    | some (.slice _), .nils, .nils => some true
    | some (.slice _), .nils, .hs _ _ _ _ _ | some (.slice _), .nils, .rs _ _ _ _ | some (.slice _), .hs _ _ _ _ _, .nils | some (.slice _), .rs _ _ _ _, .nils => some false
    | some (.map _ _), .nilm, .nilm => some true
    | some (.map _ _), .nilm, .hm _ | some (.map _ _), .hm _, .nilm => some false
    | some (.func _ _ _), .nilf, .nilf => some true
    | some (.func _ _ _), .nilf, .fn _ _ _ | some (.func _ _ _), .fn _ _ _, .nilf => some false
    | _, _, _ => none

def strBin (op : BinOp) (x y : List Nat) : Option CV :=
  match op with
  | .add => if x.length + y.length ≤ 4611686018427387904 then some (.str (x ++ y)) else none
  | .eql => some (.bool (x == y))
  | .neq => some (.bool !(x == y))
  | .lss => some (.bool (strLess x y))
  | .leq => some (.bool (strLess x y || x == y))
  | .gtr => some (.bool !(strLess x y || x == y))
  | .geq => some (.bool !(strLess x y))
  | _ => none

def isConstOp : Operand → Bool
  | .const _ => true
  | _ => false

/-- Does the guard of == let these through? -/
def eqLets (P : Program) (t : TypeId) (x y : Operand) : CV → CV → Bool
  | .nili, .nili => isConstOp x || isConstOp y
  | .agg _, .agg _ => !P.eqGuardType P.depth t
  | _, _ => true

def symCmp : CV → CV → Option Ordering
  | .sym j i, .int k n => if j = k then Glob.know i n else none
  | .int j n, .sym k i => if j = k then (Glob.know i n).map Ordering.swap else none
  | .sym j i, .sym k l => if j = k then (if i = l then some .eq else Glob.rel i l) else none
  | _, _ => none

def symCmpS : CV → CV → Option Ordering
  | .symS i, .str b => Glob.sknow i b
  | .str a, .symS i => (Glob.sknow i a).map Ordering.swap
  | .symS i, .symS j => if i = j then some .eq else Glob.srel i j
  | _, _ => none

def ordBin (op : BinOp) (o : Ordering) : Option CV :=
  match op with
  | .eql => some (.bool (o == .eq))
  | .neq => some (.bool (o != .eq))
  | .lss => some (.bool (o == .lt))
  | .leq => some (.bool (o != .gt))
  | .gtr => some (.bool (o == .gt))
  | .geq => some (.bool (o != .lt))
  | _ => none

def cbin (P : Program) (op : BinOp) (t : TypeId) (x y : Operand) (a b : CV) : Option CV :=
  match symCmp a b with
  | some o => ordBin op o
  | none =>
  match symCmpS a b with
  | some o => ordBin op o
  | none =>
  match a, b with
  | .str s, .str u => strBin op s u
  | .int j m, .int k n => (pureVal P (Go.binOp op t (.int j m) (.int k n))).map ofScal
  | a, b =>
    match op with
    | .eql => if eqLets P t x y a b then (ceq P Op.maxDepth t a b).map .bool else none
    | .neq => if eqLets P t x y a b then (ceq P Op.maxDepth t a b).map fun r => .bool !r else none
    | _ => none

/-- A rune out of bytes, and how many they are (as Utf8.decode has it). -/
def cdecode (s : List Nat) (i : Nat) : Nat × Nat :=
  let at' (k : Nat) : Nat := s.getD (i + k) 0
  let cont (k : Nat) : Bool := decide (i + k < s.length) && at' k / 64 == 2
  let b0 := at' 0
  if b0 < 0x80 then (b0, 1)
  else if b0 / 32 == 6 && cont 1 then
    let c := (b0 % 32) * 64 + at' 1 % 64
    if c ≥ 0x80 then (c, 2) else (Utf8.runeError, 1)
  else if b0 / 16 == 14 && cont 1 && cont 2 then
    let c := (b0 % 16) * 4096 + (at' 1 % 64) * 64 + at' 2 % 64
    if c ≥ 0x800 && Utf8.valid c then (c, 3) else (Utf8.runeError, 1)
  else if b0 / 8 == 30 && cont 1 && cont 2 && cont 3 then
    let c := (b0 % 8) * 262144 + (at' 1 % 64) * 4096 + (at' 2 % 64) * 64 + at' 3 % 64
    if c ≥ 0x10000 && Utf8.valid c then (c, 4) else (Utf8.runeError, 1)
  else (Utf8.runeError, 1)

/-- Bytes of cells. -/
def bytesOfCells : List CV → Option (List Nat)
  | [] => some []
  | .int .u8 n :: rest => if 0 ≤ n ∧ n < 256 then (bytesOfCells rest).map (n.toNat :: ·) else none
  | _ :: _ => none

/-- A slice's elements' cells: as many as its length says. -/
def sliceCells (h : Heap) : CV → Option (List CV)
  | .nils => some []
  | .hs id off len sz _ => match h[id]? with
    | some (.row cells) => if off + len * sz ≤ cells.length then some ((cells.drop off).take (len * sz)) else none
    | _ => none
  | .rs cells len sz _ => if cells.length = len * sz then some cells else none
  | _ => none

/-- What is appended or copied: its cells, and how many elements. -/
def srcCells (h : Heap) (sz : Nat) : CV → Option (List CV × Nat)
  | .str b => if sz = 1 then some (b.map fun (n : Nat) => CV.int .u8 n, b.length) else none
  | .nils => some ([], 0)
  | .hs a b n z c => if z = sz then (sliceCells h (.hs a b n z c)).map (·, n) else none
  | .rs a n z c => if z = sz then (sliceCells h (.rs a n z c)).map (·, n) else none
  | _ => none

def cconvert (P : Program) (src dst : TypeId) (h : Heap) (x : CV) : Option (CV × Heap) :=
  match P.underlying src, P.underlying dst, x with
  | some _, some (.int k), .int _ n => some (.int k (k.wrap n), h)
  | some _, some (.int k), .sym l i => if k = l then some (.sym l i, h) else none
  | some _, some .string, .str s => some (.str s, h)
  | some .string, some .string, .symS i => some (.symS i, h)
  | some .string, some (.slice e), .str s =>
    match P.underlying e with
    | some (.int .u8) => some (.hs h.length 0 s.length 1 none, h ++ [.row (s.map fun (b : Nat) => CV.int .u8 b)])
    | _ => none
  | some (.slice e), some .string, x =>
    match P.underlying e with
    | some (.int .u8) => match x with
      | .str _ => none
      | x => match srcCells h 1 x with
        | some (cells, _) => (bytesOfCells cells).map fun s => (.str s, h)
        | none => none
    | _ => none
  | _, _, _ => none

/-- May a slice be cut there? -/
def ctop (len : Nat) (cap : Option Nat) (n : Nat) : Bool := decide (n ≤ len) || (match cap with | some c => decide (n ≤ c) | none => false)

def cmax (len : Nat) (cap : Option Nat) : Option CV → Option (Option Nat)
  | none => some none
  | some (.int _ m) => if 0 ≤ m ∧ ctop len cap m.toNat = true then some (some m.toNat) else none
  | some _ => none

def chok (len : Nat) (cap : Option Nat) (j : Nat) : Option Nat → Bool
  | none => ctop len cap j
  | some m => decide (j ≤ m)

def chigh (len : Nat) (cap m : Option Nat) : Option CV → Option Nat
  | none => if m.isNone then some len else none
  | some (.int _ j) => if 0 ≤ j ∧ chok len cap j.toNat m = true then some j.toNat else none
  | some _ => none

def clow (hi : Nat) : Option CV → Option Nat
  | none => some 0
  | some (.int _ i) => if 0 ≤ i ∧ i.toNat ≤ hi then some i.toNat else none
  | some _ => none

def cbounds (len : Nat) (cap : Option Nat) (low high max : Option CV) : Option (Nat × Nat × Option Nat) :=
  match cmax len cap max with
  | none => none
  | some m => match chigh len cap m high with
    | none => none
    | some hi => match clow hi low with
      | none => none
      | some lo => some (lo, hi, match m with | some m => some m | none => cap)

def cslice (P : Program) (t : TypeId) (h : Heap) (x : CV) (low high max : Option CV) : Option CV :=
  match P.underlying t, x with
  | some .string, .str s =>
    if max.isSome then none
    else match cbounds s.length (some s.length) low high none with
      | some (l, hi, _) => some (.str ((s.take hi).drop l))
      | none => none
  | some (.slice e), .nils =>
    match szOf P e, cbounds 0 (some 0) low high max with
    | some _, some _ => some .nils
    | _, _ => none
  | some (.slice e), .hs id off len sz cap =>
    match szOf P e, cbounds len cap low high max with
    | some n, some (l, hi, m) => if n = sz then some (.hs id (off + l * sz) (hi - l) sz (m.map (· - l))) else none
    | _, _ => none
  | some (.slice e), .rs cells len sz cap =>
    match szOf P e, cbounds len cap low high max with
    | some n, some (l, hi, m) => if n = sz ∧ hi ≤ len ∧ cells.length = len * sz then some (.rs ((cells.drop (l * sz)).take ((hi - l) * sz)) (hi - l) sz (m.map (· - l))) else none
    | _, _ => none
  | some (.array n e), .hp id off =>
    match szOf P e, cbounds n (some n) low high max, h[id]? with
    | some sz, some (l, hi, m), some (.row cells) => if off + n * sz ≤ cells.length then some (.hs id (off + l * sz) (hi - l) sz (m.map (· - l))) else none
    | _, _, _ => none
  | _, _ => none

def cfieldAddr (P : Program) (s : TypeId) (x : CV) (i : Nat) : Option CV :=
  match P.underlying s with
  | some (.struct fields) => match fields[i]? with
    | some f => match szOf P f.type, x with
      | some (_ + 1), .hp id off => some (.hp id (off + f.offset))
      | some (_ + 1), .rp cells => if f.offset ≤ cells.length then some (.rp (cells.drop f.offset)) else none
      | _, _ => none
    | none => none
  | _ => none

def cfield (P : Program) (t : TypeId) (x : CV) (i : Nat) : Option CV :=
  match P.underlying t, x with
  | some (.struct fields), .agg cs => match fields[i]? with
    | some f => cpart P f.type cs f.offset
    | none => none
  | _, _ => none

def cindexAddr (P : Program) (t : TypeId) (x i : CV) : Option CV :=
  match P.underlying t, x, i with
  | some (.slice e), .hs id off len sz _, .int _ i =>
    match szOf P e with
    | some n => if n = sz ∧ 0 ≤ i ∧ i < len then some (.hp id (off + i.toNat * sz)) else none
    | none => none
  | some (.slice e), .rs cells len sz _, .int _ i =>
    match szOf P e with
    | some n => if n = sz ∧ sz ≠ 0 ∧ 0 ≤ i ∧ i < len ∧ cells.length = len * sz then some (.rp (cells.drop (i.toNat * sz))) else none
    | none => none
  | some (.array len e), .hp id off, .int _ i =>
    match szOf P e with
    | some n => if 0 ≤ i ∧ i < len then some (.hp id (off + i.toNat * n)) else none
    | none => none
  | some (.array len e), .rp cells, .int _ i =>
    match szOf P e with
    | some n => if 0 ≤ i ∧ i < len ∧ i.toNat * n ≤ cells.length then some (.rp (cells.drop (i.toNat * n))) else none
    | none => none
  | _, _, _ => none

def cindex (P : Program) (t : TypeId) (x i : CV) : Option CV :=
  match P.underlying t, x, i with
  | some .string, .str s, .int _ i => if 0 ≤ i then (s[i.toNat]?).map fun b => .int .u8 b else none
  | some (.array len e), .agg cs, .int _ i =>
    match szOf P e with
    | some n => if 0 ≤ i ∧ i < len then cpart P e cs (i.toNat * n) else none
    | none => none
  | _, _, _ => none

/-- Where a key stands among entries: none: not known; some none: nowhere. -/
def cfind (P : Program) (kt : TypeId) (k : CV) : List (CV × CV × Nat) → Option (Option Nat)
  | [] => some none
  | e :: es => match ceq P Op.maxDepth kt k e.1 with
    | some true => some (some 0)
    | some false => match cfind P kt k es with
      | some r => some (r.map (· + 1))
      | none => none
    | none => none

/-- A key that the model's look takes: of a plain type, or a struct of these. -/
def plainKey (P : Program) (kt : TypeId) (k : CV) : Bool :=
  match P.underlying kt, k with
    | some (.int kk), .int l _ => kk == l
    | some .string, .str _ => true
    | some .bool, .bool _ => true
    | some (.struct fields), .agg cs => fields.toList.all fun f => f.name != "_" && match cpart P f.type cs f.offset, P.underlying f.type with
      | some (.int l _), some (.int kk) => kk == l
      | some (.str _), some .string => true
      | some (.bool _), some .bool => true
      | _, _ => false
    | _, _ => false

def mapEs (h : Heap) : CV → Option (List (CV × CV × Nat))
  | .nilm => some []
  | .hm id => match h[id]? with
    | some (.map es _) => some es
    | _ => none
  | _ => none

def clookup (P : Program) (t : TypeId) (h : Heap) (x k : CV) (ok : Bool) : Option CV :=
  match P.underlying t, mapEs h x with
  | some (.map kt et), some es =>
    if plainKey P kt k then
      match cfind P kt k es with
      | some r => match (match r with | some i => (es[i]?).map fun e => (e.2.1, true) | none => (zeroOf P et).map fun z => (z, false) : Option (CV × Bool)) with
        | some (v, found) => some (if ok then .tup [v, .bool found] else v)
        | none => none
      | none => none
    else none
  | _, _ => none

def setVal : List (CV × CV × Nat) → Nat → CV → List (CV × CV × Nat)
  | [], _, _ => []
  | e :: es, 0, v => (e.1, v, e.2.2) :: es
  | e :: es, i + 1, v => e :: setVal es i v

def cmapUpdate (P : Program) (fl : Nat) (t : TypeId) (h : Heap) (m k v : CV) : Option Heap :=
  match P.underlying t, m with
  | some (.map kt _), .hm id =>
    match h[id]? with
    | some (.map es c) =>
      if fl ≤ id ∧ plainKey P kt k = true then
        match cfind P kt k es with
        | some (some i) => match es[i]? with
          | some e => if CV.beq k e.1 then some (h.set id (.map (setVal es i v) c)) else none
          | none => none
        | some none => some (h.set id (.map (es ++ [(k, v, c)]) (c + 1)))
        | none => none
      else none
    | _ => none
  | _, _ => none

/-- 'm[k] op= ..' begins so: an entry for k, and its stamp. -/
def cmapEntry (P : Program) (fl : Nat) (t : TypeId) (h : Heap) (m k : CV) : Option (CV × Heap) :=
  match P.underlying t, m with
  | some (.map kt et), .hm id =>
    match h[id]? with
    | some (.map es c) =>
      if fl ≤ id ∧ plainKey P kt k = true then
        match cfind P kt k es with
        | some (some i) => match es[i]? with
          | some e => if CV.beq k e.1 then some (.tup [e.2.1, .int .i64 e.2.2], h) else none
          | none => none
        | some none => (zeroOf P et).map fun z => (.tup [z, .int .i64 c], h.set id (.map (es ++ [(k, z, c)]) (c + 1)))
        | none => none
      else none
    | _ => none
  | _, _ => none

def stampAt (n : Int) : List (CV × CV × Nat) → Option Nat
  | [] => none
  | e :: es => if (e.2.2 : Int) == n then some 0 else (stampAt n es).map (· + 1)

def centryStore (fl : Nat) (h : Heap) (m stamp v : CV) : Option Heap :=
  match m, stamp with
  | .hm id, .int _ n =>
    match h[id]? with
    | some (.map es c) => match stampAt n es with
      | some i => if fl ≤ id then some (h.set id (.map (setVal es i v) c)) else none
      | none => none
    | _ => none
  | _, _ => none

def cdelete (P : Program) (fl : Nat) (t : TypeId) (h : Heap) (m k : CV) : Option Heap :=
  match P.underlying t, m with
  | some (.map kt _), .hm id =>
    match h[id]? with
    | some (.map es c) =>
      if fl ≤ id ∧ plainKey P kt k = true then
        match cfind P kt k es with
        | some (some i) => some (h.set id (.map (es.eraseIdx i) c))
        | some none => some h
        | none => none
      else none
    | _ => none
  | _, _ => none

def crange (P : Program) (t : TypeId) (h : Heap) (x : CV) : Option Blk :=
  match P.underlying t, x with
  | some .string, .str s => some (.siter s 0)
  | some (.map _ _), .hm id => match h[id]? with
    | some (.map _ c) => some (.miter id c [] c)
    | _ => none
  | _, _ => none

/-- What a step over a map may come to: an entry, or the end. -/
def cands (es : List (CV × CV × Nat)) (since : Nat) (seen : List Nat) : List (Option (CV × CV × Nat)) :=
  let left := es.filter fun e => !seen.contains e.2.2
  let old := left.filter fun e => decide (e.2.2 < since)
  let new := left.filter fun e => decide (e.2.2 ≥ since)
  (if old.isEmpty then [none] else []) ++ (old ++ new).map some

def cnext (fl : Nat) (h : Heap) (x : CV) (isString : Bool) : Dem Out :=
  match x with
  | .hp id 0 =>
    if fl ≤ id then
      match h[id]?, isString with
      | some (.siter s pos), true =>
        if pos < s.length then .ret (.val (.tup [.bool true, .int .i64 pos, .int .i32 (cdecode s pos).1]) (h.set id (.siter s (pos + (cdecode s pos).2))))
        else .ret (.val (.tup [.bool false]) h)
      | some (.miter m since seen last), false =>
        match h[m]? with
        | some (.map es c) =>
          if !seen.isEmpty && !es.isEmpty && es.all (fun e => decide (e.2.2 ≥ last)) then .fail
          else .pick (cands es since seen).length fun i =>
            match (cands es since seen)[i]? with
            | some (some e) => .ret (.val (.tup [.bool true, e.1, e.2.1]) (h.set id (.miter m since (seen ++ [e.2.2]) c)))
            | some none => .ret (.val (.tup [.bool false]) h)
            | none => .fail
        | _ => .fail
      | _, _ => .fail
    else .fail
  | _ => .fail

/-- The entry of an iterator's last step. -/
def centry (h : Heap) (x : CV) : Option CV :=
  match x with
  | .hp id 0 => match h[id]? with
    | some (.miter m _ seen stepped) => match seen.getLast?, h[m]? with
      | some stamp, some (.map es c) => if c = stepped then (es.find? fun e => e.2.2 == stamp).map fun e => .tup [e.1, e.2.1] else none
      | _, _ => none
    | _ => none
  | _ => none

def ctypeAssert (P : Program) (x : CV) (asserted : TypeId) (ok : Bool) : Option CV :=
  let holds (v : CV) : Option CV := some (if ok then .tup [v, .bool true] else v)
  let fails : Option CV := if ok then (zeroOf P asserted).map fun z => .tup [z, .bool false] else none
  match P.underlying asserted, x with
  | some (.interface _), .nili => fails
  | some (.interface want), .iface t v =>
    match P.info? t with
    | some i => match Instr.missingMethod want i.methods with
      | none => holds (.iface t v)
      | some _ => fails
    | none => none
  | some _, .nili => fails
  | some _, .iface t v => if t = asserted then holds v else fails
  | _, _ => none

def kill (h : Heap) (id : Nat) : Heap := h.set id .dead

/-- append: a new row; the old one, if it was in the heap, is not looked at any more. -/
def cappend (P : Program) (fl : Nat) (t : TypeId) (h : Heap) (s x : CV) : Option (CV × Heap) :=
  match P.underlying t with
  | some (.slice e) =>
    match P.info? e with
    | some i =>
      match i.zero, sliceCells h s, srcCells h i.size x with
      | some z, some old, some (new, n) =>
        if n = 0 then some (s, h)
        else if new.all isCell = true ∧ i.bytes ≠ 0 ∧ i.size ≠ 0 ∧ z.cells.size = i.size then
          match s with
          | .nils => if n * i.bytes ≤ 35184372088832 then some (.hs h.length 0 n i.size none, h ++ [.row new]) else none
          | .hs id _ len sz _ =>
            if fl ≤ id ∧ sz = i.size ∧ (len + n) * i.bytes ≤ 35184372088832 then some (.hs h.length 0 (len + n) sz none, kill h id ++ [.row (old ++ new)]) else none
          | .rs _ len sz (some c) =>
            if c = len ∧ sz = i.size ∧ (len + n) * i.bytes ≤ 35184372088832 then some (.hs h.length 0 (len + n) sz none, h ++ [.row (old ++ new)]) else none
          | _ => none
        else none
      | _, _, _ => none
    | none => none
  | _ => none

def ccopy (P : Program) (fl : Nat) (t : TypeId) (h : Heap) (d s : CV) : Option (CV × Heap) :=
  match P.underlying t, d with
  | some (.slice e), .hs id off len sz _ =>
    match szOf P e, h[id]?, srcCells h sz s with
    | some n, some (.row cells), some (new, m) =>
      if fl ≤ id ∧ n = sz ∧ off + len * sz ≤ cells.length ∧ (new.take (min m len * sz)).all isCell = true ∧ new.length = m * sz then
        some (.int .i64 (min m len : Nat), h.set id (.row (splice cells off (new.take (min m len * sz))))) else none
    | _, _, _ => none
  | _, _ => none

def clen (P : Program) (t : TypeId) (h : Heap) (x : CV) : Option CV :=
  match P.underlying t, x with
  | some .string, .str s => some (.int .i64 s.length)
  | some (.array n _), _ => some (.int .i64 n)
  | some (.slice _), .nils => some (.int .i64 0)
  | some (.slice _), .hs _ _ len _ _ => some (.int .i64 len)
  | some (.slice _), .rs _ len _ _ => some (.int .i64 len)
  | some (.map _ _), x => (mapEs h x).map fun es => .int .i64 es.length
  | _, _ => none

def ccap (P : Program) (t : TypeId) (x : CV) : Option CV :=
  match P.underlying t, x with
  | some (.slice _), .nils => some (.int .i64 0)
  | some (.slice _), .hs _ _ _ _ (some c) => some (.int .i64 c)
  | some (.slice _), .rs _ _ _ (some c) => some (.int .i64 c)
  | some (.array n _), _ => some (.int .i64 n)
  | _, _ => none

def cminmax (mx : Bool) : List CV → Option CV
  | [] => none
  | .int k a :: rest => (rest.foldl (fun acc x => match acc, x with
    | some m, .int _ b => some (if mx then (if b > m then b else m) else (if b < m then b else m))
    | _, _ => none) (some a)).map fun n => .int k n
  | _ => none

def cbuiltin (P : Program) (fl : Nat) (b : Builtin) (ts : List TypeId) (h : Heap) (args : List CV) : Option (CV × Heap) :=
  match b, ts, args with
  | .append, [t, u], [s, x] => match P.underlying u with
    | some (.int _) => none
    | some _ => cappend P fl t h s x
    | none => none
  | .len, t :: _, x :: _ => (clen P t h x).map (·, h)
  | .cap, t :: _, x :: _ => (ccap P t x).map (·, h)
  | .copy, t :: _, [d, s] => ccopy P fl t h d s
  | .delete, t :: _, [m, k] => (cdelete P fl t h m k).map (CV.tup [], ·)
  | .min, _, xs => (cminmax false xs).map (·, h)
  | .max, _, xs => (cminmax true xs).map (·, h)
  | _, _, _ => none

/-- The parts of an evaluator that a place gives: which functions are run apart (what they make is dropped behind them), what body-less functions answer, and functions that are not run but known. -/
structure Cfg where
  apart : FuncId → Bool
  ext : FuncId → List CV → Option CV
  spec : FuncId → Option (List CV → Option CV)
  dfr : FuncId → Bool

/-- What is called: a function, or a round of a range over a function. -/
inductive Callee where
  | fn (f : FuncId)
  | rnd (id : Nat)

abbrev CallF := Nat → Callee → List CV → Heap → Dem Out

def vh (r : Option CV) (h : Heap) : Dem Out :=
  match r with
  | some v => .ret (.val v h)
  | none => .fail
def vhh (r : Option (CV × Heap)) : Dem Out :=
  match r with
  | some (v, h) => .ret (.val v h)
  | none => .fail
def sh (r : Option Heap) : Dem Out :=
  match r with
  | some h => .ret (.val (.tup []) h)
  | none => .fail

/-- A new block: at the heap's end, or in the slot that is kept for it. -/
def place (slot : Option Nat) (h : Heap) (b : Blk) : Nat × Heap :=
  match slot with
  | none => (h.length, h ++ [b])
  | some i => (i, h.set i b)

def callTo (callf : CallF) (fl : Nat) (f : CV) (args : List CV) (h : Heap) : Dem Out :=
  match f with
  | .fn (.func g) first cap => callf fl (.fn g) (first ++ args ++ cap) h
  | .yld id => callf fl (.rnd id) args h
  | _ => .fail

/-- The method of an interface value's type, and its receiver, where no field lies between. -/
def cmethod (P : Program) (t : TypeId) (name : String) : Option FuncId :=
  match P.info? t with
  | some i => match i.methods.find? (·.name == name) with
    | some m => match m.path.toList, m.func, P.underlying t with
      | [], some (f, true), some (.pointer _) => some f
      | [], some (_, false), some (.pointer _) => none
      | [], some (f, false), some _ => some f
      | _, _, _ => none
    | none => none
  | none => none

def opRun (P : Program) (callf : CallF) (fl : Nat) (slot : Option Nat) (tm : Env) (o : Oper) (h : Heap) : Dem Out :=
  let ρ := ceval tm
  match o.op with
  | .move x | .assign x => .ret (.val (ρ x) h)
  | .pick c a b => match ρ c with
    | .bool t => .ret (.val (if t then ρ a else ρ b) h)
    | _ => .fail
  | .alloc t => match zcells P t with
    | some z => .ret (.val (.hp (place slot h (.row z)).1 0) (place slot h (.row z)).2)
    | none => .fail
  | .box _ x => match ρ x with
    | .any => .fail
    | v => .ret (.val (.hp (place slot h (.row (ccells v))).1 0) (place slot h (.row (ccells v))).2)
  | .build t parts => match P.underlying t, zcells P t with
    | some (.struct fields), some z => match fieldPlaces P fields with
      | some pl => vh ((cfill (fun i => pl[i]?) z (parts.toList.map fun (i, x) => (i, ρ x))).map .agg) h
      | none => .fail
    | some (.array _ e), some z => match szOf P e with
      | some n => vh ((cfill (fun i => some (i * n, n)) z (parts.toList.map fun (i, x) => (i, ρ x))).map .agg) h
      | none => .fail
    | _, _ => .fail
  | .buildSlice t len parts => match P.underlying t with
    | some (.slice e) => match szOf P e, zcells P e with
      | some n, some z =>
        if len * n ≤ 16777216 ∧ z.length = n ∧ n ≠ 0 then
          match cfill (fun i => some (i * n, n)) (repCells len z) (parts.toList.map fun (i, x) => (i, ρ x)) with
          | some cells => .ret (.val (.hs (place slot h (.row cells)).1 0 len n (some len)) (place slot h (.row cells)).2)
          | none => .fail
        else .fail
      | _, _ => .fail
    | _ => .fail
  | .load t a => vh (cload P t h (ρ a)) h
  | .store t a x => sh (cstore P fl t h (ρ a) (ρ x))
  | .nilCheck x => match ρ x with
    | .any | .nilp | .nili | .nilf => .fail
    | .fn (.func f) a b => .ret (.val (.fn (.func f) a b) h)
    | .fn _ _ _ => .fail
    | v => .ret (.val v h)
  | .binOp op t x y _ => vh (cbin P op t x y (ρ x) (ρ y)) h
  | .unOp op _ x => match scal (ρ x) with
    | some v => vh ((pureVal P (Op.unary op v)).map ofScal) h
    | none => .fail
  | .convert src dst x => vhh (cconvert P src dst h (ρ x))
  | .makeInterface t x => match P.underlying t, ρ x with
    | some (.interface _), _ => .fail
    | _, .any => .fail
    | some _, v => .ret (.val (.iface t v) h)
    | none, _ => .fail
  | .makeFunc f first cap => .ret (.val (.fn f (first.toList.map ρ) (cap.toList.map ρ)) h)
  | .makeMap t r => match P.underlying t, r.map ρ with
    | some (.map _ _), none => .ret (.val (.hm (place slot h (.map [] 0)).1) (place slot h (.map [] 0)).2)
    | some (.map _ _), some (.int _ _) => .ret (.val (.hm (place slot h (.map [] 0)).1) (place slot h (.map [] 0)).2)
    | _, _ => .fail
  | .makeSlice t l c => match P.underlying t, ρ l, ρ c with
    | some (.slice e), .int .i64 l, .int .i64 c => match P.info? e, zcells P e with
      | some i, some z =>
        if 0 ≤ l ∧ l ≤ c ∧ i.bytes * c ≤ 140737488355328 ∧ c ≤ 140737488355328 ∧ z.length = i.size ∧ i.size ≠ 0 then
          .ret (.val (.hs (place slot h (.row (repCells c.toNat z))).1 0 l.toNat i.size (some c.toNat)) (place slot h (.row (repCells c.toNat z))).2)
        else .fail
      | _, _ => .fail
    | _, _, _ => .fail
  | .slice t x lo hi mx => vh (cslice P t h (ρ x) (lo.map ρ) (hi.map ρ) (mx.map ρ)) h
  | .fieldAddr s x f => vh (cfieldAddr P s (ρ x) f) h
  | .field t x f => vh (cfield P t (ρ x) f) h
  | .indexAddr t x i => vh (cindexAddr P t (ρ x) (ρ i)) h
  | .index t x i => vh (cindex P t (ρ x) (ρ i)) h
  | .lookup t x i ok => vh (clookup P t h (ρ x) (ρ i) ok) h
  | .mapUpdate t m k x => sh (cmapUpdate P fl t h (ρ m) (ρ k) (ρ x))
  | .mapEntry t m k => vhh (cmapEntry P fl t h (ρ m) (ρ k))
  | .entryStore _ m s x => sh (centryStore fl h (ρ m) (ρ s) (ρ x))
  | .range t x => match crange P t h (ρ x) with
    | some b => .ret (.val (.hp (place slot h b).1 0) (place slot h b).2)
    | none => .fail
  | .next it s => cnext fl h (ρ it) s
  | .entry it => vh (centry h (ρ it)) h
  | .typeAssert x _ t ok => vh (ctypeAssert P (ρ x) t ok) h
  | .extract t i => match ρ t with
    | .tup vs => vh (vs[i]?) h
    | _ => .fail
  | .call c => match c.callee with
    | .builtin b => vhh (cbuiltin P fl b c.argTypes.toList h (c.args.toList.map ρ))
    | .value f => callTo callf fl (ρ f) (c.args.toList.map ρ) h
    | .invoke r name => match ρ r with
      | .iface t v => match cmethod P t name with
        | some f => callf fl (.fn f) (v :: c.args.toList.map ρ) h
        | none => .fail
      | _ => .fail
  | .panic x => match ρ x with
    | .iface t v => .ret (.pan (.iface t v) h)
    | _ => .fail
  | _ => .fail

def cput (tm : Env) (dst : Option Tmp) (v : CV) : Env :=
  match dst with
  | some d => tm.set d v
  | none => tm

def putK {α : Type} (tm : Env) (dst : Option Tmp) (v : CV) (k : Env → α) : α := match dst with
  | some d => setK tm d v k
  | none => k tm
theorem putK_eq {α : Type} (tm : Env) (dst : Option Tmp) (v : CV) (k : Env → α) : putK tm dst v k = k (cput tm dst v) := by
  cases dst with
  | none => rfl
  | some d => exact setK_eq tm d v k
/-- May an operation turn the heap? -/
def isWr : Op → Bool
  | .alloc _ | .box _ _ | .buildSlice _ _ _ | .store _ _ _ | .convert _ _ _ | .makeMap _ _ | .makeSlice _ _ _ | .mapUpdate _ _ _ _ | .mapEntry _ _ _ | .entryStore _ _ _ _ | .range _ _ | .next _ _ | .call _ => true
  | _ => false
def forceH {α : Type} (o : Op) (h : Heap) (k : Heap → α) : α := if isWr o then forceL h k else k h
theorem forceH_eq {α : Type} (o : Op) (h : Heap) (k : Heap → α) : forceH o h k = k h := by
  unfold forceH
  split
  · exact forceL_eq h k
  · rfl

/-- Is an operation wanted? none: not known. -/
def cwanted (ops : Array Oper) (tm : Env) (o : Oper) : Option Bool :=
  match o.guard with
  | none => some true
  | some (j, want) => match (ops[j]?).bind (·.dst) with
    | none => some false
    | some d => match getK tm d with
      | .bool b => some (b == want)
      | .any => none
      | _ => some false

/-- A region's operations in their order. -/
def cops (P : Program) (callf : CallF) (fl : Nat) (ops : Array Oper) : List Oper → Env → Heap → Dem (CX × Env × Heap)
  | [], tm, h => .ret (.normal, tm, h)
  | o :: rest, tm, h =>
    match cwanted ops tm o with
    | none => .fail
    | some false => putK tm o.dst (.tup []) fun tm' => cops P callf fl ops rest tm' h
    | some true => (opRun P callf fl none tm o h).bind fun
      | .val v h' => forceV v fun v => putK tm o.dst v fun tm' => forceH o.op h' fun h' => cops P callf fl ops rest tm' h'
      | .pan v h' => .ret (.pan v, tm, h')

end
end Go.CE

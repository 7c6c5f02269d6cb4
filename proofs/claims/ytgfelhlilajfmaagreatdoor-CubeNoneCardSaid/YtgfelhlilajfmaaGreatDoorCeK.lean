/-
  The canonical evaluator: functions without a body that it knows.
-/
import Derived.Test.YtgfelhlilajfmaaGreatDoorCeJ
import Derived.Laws.Externs
import Derived.Lib.IndexEntry
import Derived.Lib.Bytealg
namespace Go.CE
set_option linter.unusedVariables false
set_option linter.unusedSimpArgs false
set_option linter.unusedSectionVars false
set_option linter.unnecessarySimpa false
open Go.RowKit (Below)
variable [Glob]

/-- What a function without a body comes to: a value, and nothing else. -/
def ExtLaw (P : Program) (f : FuncId) (k : List CV → Option CV) : Prop :=
  ∀ (w0 : World) (g : Gho) (h : Heap) (w : World) (rargs : List Value) (args : List CV) (v : CV), WI w0 g h w → VRL g rargs args → k args = some v → ∃ y, (callFunc f rargs.toArray).run P w = .ok (.value y) w ∧ VR g y v

def Cfg.of (l : List (FuncId × (List CV → Option CV))) (d : List FuncId := []) : Cfg := ⟨fun _ => false, fun f args => match l.lookup f with
  | some k => k args
  | none => none, fun _ => none, fun f => d.contains f⟩

theorem lookup_mem {l : List (FuncId × (List CV → Option CV))} {f : FuncId} {k : List CV → Option CV} (h : l.lookup f = some k) : (f, k) ∈ l := by
  induction l with
  | nil => cases h
  | cons x l ih =>
    simp only [List.lookup] at h
    split at h
    · rename_i he
      cases h
      have : f = x.1 := by simpa using he
      subst this
      simp
    · simp [ih h]

theorem CfgOk.of {P : Program} {l : List (FuncId × (List CV → Option CV))} {d : List FuncId} (hl : ∀ p ∈ l, ExtLaw P p.1 p.2) (w0 : World) : CfgOk P w0 (Cfg.of l d) := by
  refine ⟨fun f fn args v _ _ h g hp w rargs hw hargs => ?_, fun _ _ _ _ h => (by cases h)⟩
  simp only [Cfg.of] at h
  split at h
  · rename_i k hk
    obtain ⟨y, h1, h2⟩ := hl _ (lookup_mem hk) w0 g hp w rargs args v hw hargs h
    rw [h1]
    exact ⟨v, hp, g, rfl, Gle.refl _ _, hw, h2⟩
  · cases h

/-- A function of the outer world's table. -/
theorem extLaw_of {P : Program} {f : FuncId} {fn : Func} {e : Array Value → Sem Value} {k : List CV → Option CV} (hf : P.funcs[f]? = some fn) (hname : (fn.name == "runtime.NumGoroutine") = false) (hb : fn.body.isNone = true)
    (hn : Extern.findNext fn = none) (he : Extern.find fn = some e) (hk : ∀ (g : Gho) (w : World) (rargs : List Value) (args : List CV) (v : CV), VRL g rargs args → k args = some v → ∃ y, (e rargs.toArray).run P w = .ok y w ∧ VR g y v) : ExtLaw P f k := by
  intro w0 g h w rargs args v _ h1 h2
  obtain ⟨y, h3, h4⟩ := hk g w rargs args v h1 h2
  exact ⟨y, by rw [run_callFunc_extern hf hname hb hn he, h3]; rfl, h4⟩

def add64C : List CV → Option CV
  | [.int _ x, .int _ y, .int _ c] => if c = 0 ∨ c = 1 then some (.tup [.int .u64 (Int.ofNat ((x.toNat + y.toNat + c.toNat) % 18446744073709551616)), .int .u64 (Int.ofNat ((x.toNat + y.toNat + c.toNat) / 18446744073709551616))]) else none
  | _ => none

def sub64C : List CV → Option CV
  | [.int _ x, .int _ y, .int _ b] => if b = 0 ∨ b = 1 then some (.tup [.int .u64 (Int.ofNat ((x.toNat + 18446744073709551616 - y.toNat - b.toNat) % 18446744073709551616)), .int .u64 (Int.ofNat (if x.toNat < y.toNat + b.toNat then 1 else 0))]) else none
  | _ => none

def sub64Entry : Array Value → Sem Value := fun args => do
  let (x, y, b) ← Extern.MathBitsCarry.three "Sub64" args
  pure (Extern.MathBitsCarry.pair ((x + Extern.MathBitsCarry.m64 - y - b) % Extern.MathBitsCarry.m64) (if x < y + b then 1 else 0))

theorem add64_fit {P : Program} (g : Gho) (w : World) (rargs : List Value) (args : List CV) (v : CV) (h : VRL g rargs args) (hk : add64C args = some v) : ∃ y, (add64Entry rargs.toArray).run P w = .ok y w ∧ VR g y v := by
  unfold add64C at hk
  split at hk
  · rename_i k1 x k2 y k3 c
    split at hk
    · rename_i hc
      cases hk
      match rargs, h with
      | [a, b, d], h =>
        obtain ⟨h1, h2, h3, _⟩ := h
        cases h1; cases h2; cases h3
        refine ⟨.tuple #[.int .u64 (Int.ofNat ((x.toNat + y.toNat + c.toNat) % 18446744073709551616)), .int .u64 (Int.ofNat ((x.toNat + y.toNat + c.toNat) / 18446744073709551616))], ?_, .tup' ⟨.int _ _, .int _ _, trivial⟩⟩
        rcases hc with rfl | rfl <;> rfl
    · cases hk
  · cases hk

theorem sub64_fit {P : Program} (g : Gho) (w : World) (rargs : List Value) (args : List CV) (v : CV) (h : VRL g rargs args) (hk : sub64C args = some v) : ∃ y, (sub64Entry rargs.toArray).run P w = .ok y w ∧ VR g y v := by
  unfold sub64C at hk
  split at hk
  · rename_i k1 x k2 y k3 c
    split at hk
    · rename_i hc
      cases hk
      match rargs, h with
      | [a, b, d], h =>
        obtain ⟨h1, h2, h3, _⟩ := h
        cases h1; cases h2; cases h3
        refine ⟨.tuple #[.int .u64 (Int.ofNat ((x.toNat + 18446744073709551616 - y.toNat - c.toNat) % 18446744073709551616)), .int .u64 (Int.ofNat (if x.toNat < y.toNat + c.toNat then 1 else 0))], ?_, .tup' ⟨.int _ _, .int _ _, trivial⟩⟩
        rcases hc with rfl | rfl <;> rfl
    · cases hk
  · cases hk

def fromBitsC : List CV → Option CV
  | [.int .u64 n] => some (.flt .f64 n.toNat)
  | _ => none

def toBitsC : List CV → Option CV
  | [.flt .f64 b] => some (.int .u64 b)
  | _ => none

theorem fromBits_fit {P : Program} (g : Gho) (w : World) (rargs : List Value) (args : List CV) (v : CV) (h : VRL g rargs args) (hk : fromBitsC args = some v) : ∃ y, (Extern.MathFloatBits.float64frombits rargs.toArray).run P w = .ok y w ∧ VR g y v := by
  unfold fromBitsC at hk
  split at hk
  · rename_i n
    cases hk
    match rargs, h with
    | [a], h =>
      obtain ⟨h1, _⟩ := h
      cases h1
      exact ⟨.float .f64 n.toNat, rfl, .flt _ _⟩
  · cases hk

theorem toBits_fit {P : Program} (g : Gho) (w : World) (rargs : List Value) (args : List CV) (v : CV) (h : VRL g rargs args) (hk : toBitsC args = some v) : ∃ y, (Extern.MathFloatBits.float64bits rargs.toArray).run P w = .ok y w ∧ VR g y v := by
  unfold toBitsC at hk
  split at hk
  · rename_i n
    cases hk
    match rargs, h with
    | [a], h =>
      obtain ⟨h1, _⟩ := h
      cases h1
      exact ⟨.int .u64 n, rfl, .int _ _⟩
  · cases hk

/-! ### Strings -/
theorem toNat_inj8 {a b : UInt8} : a.toNat = b.toNat ↔ a = b := ⟨UInt8.toNat_inj.1, fun h => by rw [h]⟩

theorem isPrefixOf_bytes : ∀ a b : List UInt8, (a.map UInt8.toNat).isPrefixOf (b.map UInt8.toNat) = a.isPrefixOf b
  | [], _ => by simp
  | _ :: _, [] => rfl
  | x :: a, y :: b => by
    simp only [List.map_cons, List.isPrefixOf, isPrefixOf_bytes a b]
    congr 1
    rw [Bool.eq_iff_iff]
    simp [toNat_inj8]

def indexN : List Nat → List Nat → Nat → Int
  | [], sub, i => if sub.isEmpty then i else -1
  | b :: l, sub, i => if sub.isPrefixOf (b :: l) then i else indexN l sub (i + 1)

theorem indexN_eq (sub : List UInt8) : ∀ (l : List UInt8) (i : Nat), indexN (l.map UInt8.toNat) (sub.map UInt8.toNat) i = if Lib.index l sub = -1 then -1 else Lib.index l sub + i
  | [], i => by
    cases sub with
    | nil => simp [indexN, Lib.index]
    | cons x s => simp [indexN, Lib.index]
  | b :: l, i => by
    have ih := indexN_eq sub l (i + 1)
    have hp := isPrefixOf_bytes sub (b :: l)
    simp only [List.map_cons] at hp
    simp only [List.map_cons, indexN, hp, Lib.index, ih]
    have := Lib.index_ge l sub
    by_cases h1 : sub.isPrefixOf (b :: l) = true
    · simp [h1]
    · simp only [h1, if_false, Bool.false_eq_true]
      by_cases h2 : Lib.index l sub = -1
      · simp [h2]
      · have h3 : (Lib.index l sub == -1) = false := by simpa using h2
        simp only [h2, h3, if_false, Bool.false_eq_true]
        rw [if_neg (by omega)]
        omega

def compareN : List Nat → List Nat → Int
  | [], [] => 0
  | [], _ :: _ => -1
  | _ :: _, [] => 1
  | a :: as, b :: bs => if a < b then -1 else if b < a then 1 else compareN as bs

theorem compareN_eq : ∀ a b : List UInt8, compareN (a.map UInt8.toNat) (b.map UInt8.toNat) = Lib.compareBytes a b
  | [], [] => rfl
  | [], _ :: _ => rfl
  | _ :: _, [] => rfl
  | x :: a, y :: b => by simp only [List.map_cons, compareN, Lib.compareBytes, compareN_eq a b, UInt8.lt_iff_toNat_lt]

def firstN : List Nat → Nat → Nat → Int
  | [], _, _ => -1
  | b :: l, c, i => if b = c then i else firstN l c (i + 1)

theorem firstN_eq (c : UInt8) : ∀ (l : List UInt8) (i : Nat), firstN (l.map UInt8.toNat) c.toNat i = if Lib.indexByte l c = -1 then -1 else Lib.indexByte l c + i
  | [], i => rfl
  | b :: l, i => by
    have ih := firstN_eq c l (i + 1)
    have := Lib.indexByte_ge l c
    simp only [List.map_cons, firstN, ih, Lib.indexByte]
    by_cases h1 : b = c
    · simp [h1]
    · have h1' : ¬ b.toNat = c.toNat := fun h => h1 (toNat_inj8.1 h)
      have h1'' : (b == c) = false := by simpa using h1
      simp only [h1', h1'', if_false, Bool.false_eq_true]
      by_cases h2 : Lib.indexByte l c = -1
      · simp [h2]
      · have h3 : (Lib.indexByte l c == -1) = false := by simpa using h2
        simp only [h2, h3, if_false, Bool.false_eq_true]
        rw [if_neg (by omega)]
        omega

theorem count_bytes (c : UInt8) : ∀ l : List UInt8, (l.map UInt8.toNat).count c.toNat = l.count c
  | [] => rfl
  | b :: l => by
    simp only [List.map_cons, List.count_cons, count_bytes c l]
    congr 2
    rw [Bool.eq_iff_iff]
    simp [toNat_inj8]

theorem toUInt8_toNat {c : Int} (h0 : 0 ≤ c) (h1 : c < 256) : c.toNat.toUInt8.toNat = c.toNat := by
  have : c.toNat < 256 := by omega
  simp [Nat.mod_eq_of_lt this]

/-- internal/bytealg.IndexString: i: what is known of MaxLen. -/
def indexStrC (i : Nat) : List CV → Option CV
  | [.str a, .str b] =>
    if 2 ≤ b.length ∧ a.length < 4294967281 ∧ (Glob.know i b.length = some .gt ∨ Glob.know i b.length = some .eq) then some (.int .i64 (indexN a b 0)) else none
  | _ => none

def indexByteC : List CV → Option CV
  | [.str a, .int .u8 c] => if 0 ≤ c ∧ c < 256 then some (.int .i64 (firstN a c.toNat 0)) else none
  | _ => none

def countC : List CV → Option CV
  | [.str a, .int .u8 c] => if 0 ≤ c ∧ c < 256 then some (.int .i64 (Int.ofNat (a.count c.toNat))) else none
  | _ => none

def ordI : Ordering → Int
  | .lt => -1
  | .eq => 0
  | .gt => 1

def cmpStrC : List CV → Option CV
  | [.str a, .str b] => some (.int .i64 (compareN a b))
  | [a, b] => match symCmpS a b with
    | some o => some (.int .i64 (ordI o))
    | none => none
  | _ => none

theorem compareN_ord : ∀ a b : List Nat, compareN a b = ordI (strCmp a b)
  | [], [] => rfl
  | [], _ :: _ => rfl
  | _ :: _, [] => rfl
  | x :: a, y :: b => by
    have ih := compareN_ord a b
    simp only [compareN, strCmp, strLess, ih]
    by_cases h1 : x < y
    · simp [h1, ordI]
    · by_cases h2 : y < x
      · have h3 : ¬ x = y := by omega
        simp [h1, h2, h3, ordI]
      · have h3 : x = y := by omega
        subst h3
        simp only [Nat.lt_irrefl, decide_false, BEq.rfl, Bool.true_and, Bool.false_or, if_false]
        by_cases h4 : a = b
        · subst h4; simp
        · have h5 : (a == b) = false := by simpa using h4
          have h6 : (x :: a == x :: b) = false := by simpa using h4
          rw [h5, h6]

theorem VR.rp_inv {g : Gho} {v : Value} {cells : List CV} (h : VR g v (.rp cells)) : ∃ (b o : Nat) (f : Nat → Value), v = .pointer (some ⟨b, o, none⟩) ∧ (∀ j, j < cells.length → g.G b (o + j) = .imm (f j)) ∧ ∀ j, j < cells.length → VR g (f j) (cells.getD j .any) := by
  cases h with
  | rp b o _ f h1 h2 => exact ⟨b, o, f, rfl, h1, h2⟩

theorem index_neg (a b : List UInt8) : (if Lib.index a b = -1 then -1 else Lib.index a b + ((0 : Nat) : Int)) = Lib.index a b := by
  by_cases h : Lib.index a b = -1
  · rw [if_pos h, h]
  · rw [if_neg h]; exact Int.add_zero _

theorem indexByte_neg (a : List UInt8) (c : UInt8) : (if Lib.indexByte a c = -1 then -1 else Lib.indexByte a c + ((0 : Nat) : Int)) = Lib.indexByte a c := by
  by_cases h : Lib.indexByte a c = -1
  · rw [if_pos h, h]
  · rw [if_neg h]; exact Int.add_zero _

theorem size_bytes (s : ByteArray) : (s.data.toList.map UInt8.toNat).length = s.size := by rw [List.length_map, Array.length_toList]; rfl

theorem indexStr_law {P : Program} {f : FuncId} {fn : Func} {x i : Nat} (hf : P.funcs[f]? = some fn) (hname : (fn.name == "runtime.NumGoroutine") = false) (hb : fn.body.isNone = true)
    (hn : Extern.findNext fn = none) (he : Extern.find fn = some Extern.BytealgIndex.index) (hg : P.globals.findIdx? (·.name == "internal/bytealg.MaxLen") = some x) (hv : Glob.val x = .rp [.sym .i64 i]) : ExtLaw P f (indexStrC i) := by
  intro w0 g h w rargs args v hw h1 h2
  unfold indexStrC at h2
  split at h2
  · rename_i a b
    split at h2
    · rename_i hc
      cases h2
      match rargs, h1 with
      | [u, v], ⟨hu, hv', _⟩ =>
        cases hu with
        | str s =>
        cases hv' with
        | str t =>
        have hx := hw.glob x
        rw [hv] at hx
        obtain ⟨b0, o0, F, hbo, k1, k2⟩ := hx.rp_inv
        cases hbo
        have hi := hw.immv _ _ _ (k1 0 (by simp))
        have hr := k2 0 (by simp)
        simp only [List.getD_cons_zero] at hr
        generalize hF : F 0 = u at hi hr
        cases hr with
        | sym _ _ hwf =>
        have hl : t.size = (t.data.toList.map UInt8.toNat).length := (size_bytes t).symm
        have hl' : s.size = (s.data.toList.map UInt8.toNat).length := (size_bytes s).symm
        have hm : (t.size : Int) ≤ Glob.sval i := by
          rw [hl]
          rcases hc.2.2 with hk | hk
          · have := Glob.know_ok _ _ _ hk
            rw [Int.compare_eq_gt] at this
            omega
          · have := Glob.know_ok _ _ _ hk
            rw [Int.compare_eq_eq] at this
            omega
        refine ⟨.int .i64 (Lib.index s.data.toList t.data.toList), ?_, ?_⟩
        · rw [run_callFunc_extern hf hname hb hn he]
          rw [show (([.string s, .string t] : List Value).toArray) = #[.string s, .string t] from rfl, Lib.run_indexString s t w x (Glob.sval i) hg (by simpa using hi) (by omega) hm (by omega)]
          rfl
        · have := indexN_eq t.data.toList s.data.toList 0
          rw [this]
          rw [index_neg]
          exact .int _ _
    · cases h2
  · cases h2

theorem indexByte_fit {P : Program} (g : Gho) (w : World) (rargs : List Value) (args : List CV) (v : CV) (h : VRL g rargs args) (hk : indexByteC args = some v) : ∃ y, (Extern.BytealgIndexByte.indexByte rargs.toArray).run P w = .ok y w ∧ VR g y v := by
  unfold indexByteC at hk
  split at hk
  · rename_i a c
    split at hk
    · rename_i hc
      cases hk
      match rargs, h with
      | [u, v], ⟨hu, hv', _⟩ =>
        cases hu with
        | str s =>
        cases hv'
        refine ⟨.int .i64 (firstIdx s c.toNat.toUInt8), ?_, ?_⟩
        · exact run_indexByte_string s c w
        · have := firstN_eq c.toNat.toUInt8 s.data.toList 0
          rw [toUInt8_toNat hc.1 hc.2] at this
          rw [this, Lib.firstIdx_eq]
          rw [indexByte_neg]
          exact .int _ _
    · cases hk
  · cases hk

theorem count_fit {P : Program} (g : Gho) (w : World) (rargs : List Value) (args : List CV) (v : CV) (h : VRL g rargs args) (hk : countC args = some v) : ∃ y, (Extern.BytealgCount.count rargs.toArray).run P w = .ok y w ∧ VR g y v := by
  unfold countC at hk
  split at hk
  · rename_i a c
    split at hk
    · rename_i hc
      cases hk
      match rargs, h with
      | [u, v], ⟨hu, hv', _⟩ =>
        cases hu with
        | str s =>
        cases hv'
        refine ⟨_, Lib.run_countString s c w, ?_⟩
        have := count_bytes c.toNat.toUInt8 s.data.toList
        rw [toUInt8_toNat hc.1 hc.2] at this
        rw [this]
        exact .int _ _
    · cases hk
  · cases hk

theorem cmpStr_fit {P : Program} (g : Gho) (w : World) (rargs : List Value) (args : List CV) (v : CV) (h : VRL g rargs args) (hk : cmpStrC args = some v) : ∃ y, (Extern.BytealgCompare.compare rargs.toArray).run P w = .ok y w ∧ VR g y v := by
  unfold cmpStrC at hk
  split at hk
  · cases hk
    match rargs, h with
    | [u, v], ⟨hu, hv', _⟩ =>
      cases hu with
      | str s =>
      cases hv' with
      | str t =>
      refine ⟨_, Lib.run_compareString s t w, ?_⟩
      rw [compareN_eq]
      exact .int _ _
  · split at hk
    · rename_i o ho
      cases hk
      match rargs, h with
      | [u, v], ⟨hu, hv', _⟩ =>
        obtain ⟨m, n, rfl, rfl, hc⟩ := symCmpS_fit hu hv' ho
        refine ⟨_, Lib.run_compareString m n w, ?_⟩
        rw [← compareN_eq, compareN_ord]
        have : strCmp (m.data.toList.map UInt8.toNat) (n.data.toList.map UInt8.toNat) = o := hc
        rw [this]
        exact .int _ _
    · cases hk
  · cases hk

end Go.CE

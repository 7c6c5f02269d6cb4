/-
  The canonical evaluator's operations: two operands, one operand, conversions that lay nothing, lengths, what an interface holds.
-/
import Derived.Test.YtgfelhlilajfmaaGreatDoorCeC3
namespace Go.CE
set_option linter.unusedVariables false
set_option linter.unusedSimpArgs false
set_option linter.unusedSectionVars false
set_option linter.unnecessarySimpa false
variable [Glob]
section
variable {P : Program} {w : World} {g : Gho}

theorem guard_fit {op : BinOp} {t : TypeId} {x y : Operand} {u v : Value} {a b : CV} (ha : VR g u a) (hb : VR g v b) (h : eqLets P t x y a b = true) (hna : a ≠ .any) (hnb : b ≠ .any) :
    (eqGuard op t x y u v).run P w = .ok () w := by
  cases ha <;> first
    | exact absurd rfl hna
    | (cases op <;> rfl)
    | (cases hb <;> first
        | exact absurd rfl hnb
        | (cases op <;> rfl)
        | skip)
  case nili.nili =>
    simp only [eqLets, Bool.or_eq_true] at h
    rcases h with h | h
    · cases x <;> first | (simp [isConstOp] at h; done) | (cases op <;> rfl)
    · cases y <;> first | (simp [isConstOp] at h; done) | (cases x <;> cases op <;> rfl)
  case agg.agg =>
    simp only [eqLets, Bool.not_eq_true'] at h
    exact run_eqGuard_agg w op t x y _ _ h

theorem ceq_any {d : Nat} {t : TypeId} {a b : CV} {r : Bool} (h : ceq P d t a b = some r) : a ≠ .any ∧ b ≠ .any := by
  cases d with
  | zero => simp [ceq] at h
  | succ d =>
    constructor
    · rintro rfl
      simp only [ceq] at h
      split at h <;> simp_all
    · rintro rfl
      simp only [ceq] at h
      split at h <;> simp_all

theorem guard_str {op : BinOp} {t : TypeId} {x y : Operand} {u v : ByteArray} : (eqGuard op t x y (.string u) (.string v)).run P w = .ok () w := by cases op <;> rfl
theorem guard_int {op : BinOp} {t : TypeId} {x y : Operand} {j k : IntKind} {u v : Int} : (eqGuard op t x y (.int j u) (.int k v)).run P w = .ok () w := by cases op <;> rfl

theorem ceq_symL {d : Nat} {t : TypeId} {k : IntKind} {i : Nat} {b : CV} {r : Bool} (h : ceq P d t (.sym k i) b = some r) : False := by
  cases d with
  | zero => simp [ceq] at h
  | succ d => simp only [ceq] at h; split at h <;> simp_all

theorem ceq_symR {d : Nat} {t : TypeId} {k : IntKind} {i : Nat} {a : CV} {r : Bool} (h : ceq P d t a (.sym k i) = some r) : False := by
  cases d with
  | zero => simp [ceq] at h
  | succ d => simp only [ceq] at h; split at h <;> simp_all

theorem ceq_symSL {d : Nat} {t : TypeId} {i : Nat} {b : CV} {r : Bool} (h : ceq P d t (.symS i) b = some r) : False := by
  cases d with
  | zero => simp [ceq] at h
  | succ d => simp only [ceq] at h; split at h <;> simp_all

theorem ceq_symSR {d : Nat} {t : TypeId} {i : Nat} {a : CV} {r : Bool} (h : ceq P d t a (.symS i) = some r) : False := by
  cases d with
  | zero => simp [ceq] at h
  | succ d => simp only [ceq] at h; split at h <;> simp_all

theorem binOp_eql {t : TypeId} {u v : Value} {a b : CV} {r : Bool} (ha : VR g u a) (hb : VR g v b) (h : ceq P Op.maxDepth t a b = some r) (h1 : ∀ x y, a = .str x → b = .str y → False)
    (h2 : ∀ j m k n, a = .int j m → b = .int k n → False) (hfl : ∀ j m k n, a = .flt j m → b = .flt k n → False) : (Go.binOp .eql t u v).run P w = .ok (.bool r) w ∧ (Go.binOp .neq t u v).run P w = .ok (.bool !r) w := by
  have he := eq_fit Op.maxDepth w h ha hb
  have hx : (Op.equal t u v).run P w = .ok r w := he
  obtain ⟨hna, hnb⟩ := ceq_any h
  cases ha <;> first
    | exact absurd rfl hna
    | exact (ceq_symL h).elim
    | exact (ceq_symSL h).elim
    | (constructor <;> simp only [Go.binOp, Sem.run_bind, hx, Result.andThen_ok] <;> rfl)
    | (cases hb <;> first
        | exact absurd rfl hnb
        | exact (ceq_symR h).elim
        | exact (ceq_symSR h).elim
        | exact (h1 _ _ rfl rfl).elim
        | exact (h2 _ _ _ _ rfl rfl).elim
        | exact (hfl _ _ _ _ rfl rfl).elim
        | (constructor <;> simp only [Go.binOp, Sem.run_bind, hx, Result.andThen_ok] <;> rfl))

theorem ceq_flt {d : Nat} {t : TypeId} {j k : FloatKind} {m n : Nat} {r : Bool} (h : ceq P d t (.flt j m) (.flt k n) = some r) : False := by
  cases d with
  | zero => simp [ceq] at h
  | succ d => simp only [ceq] at h; split at h <;> simp_all

theorem symCmp_fit {u v : Value} {a b : CV} {o : Ordering} (ha : VR g u a) (hb : VR g v b) (h : symCmp a b = some o) : ∃ k m n, u = .int k m ∧ v = .int k n ∧ compare m n = o := by
  unfold symCmp at h
  split at h
  · split at h
    · rename_i hk
      subst hk
      cases ha; cases hb
      exact ⟨_, _, _, rfl, rfl, Glob.know_ok _ _ _ h⟩
    · cases h
  · split at h
    · rename_i hk
      subst hk
      cases ha; cases hb
      simp only [Option.map_eq_some_iff] at h
      obtain ⟨o', h1, rfl⟩ := h
      refine ⟨_, _, _, rfl, rfl, ?_⟩
      rw [← Glob.know_ok _ _ _ h1]
      exact (Std.OrientedCmp.eq_swap (cmp := compare))
    · cases h
  · split at h
    · rename_i hk
      subst hk
      cases ha; cases hb
      split at h
      · rename_i hi
        subst hi
        cases h
        exact ⟨_, _, _, rfl, rfl, by simp⟩
      · exact ⟨_, _, _, rfl, rfl, Glob.rel_ok _ _ _ h⟩
    · cases h
  · cases h

theorem ordBin_fit {op : BinOp} {t : TypeId} {k : IntKind} {m n : Int} {c : CV} (h : ordBin op (compare m n) = some c) : ∃ z, (Go.binOp op t (.int k m) (.int k n)).run P w = .ok z w ∧ VR g z c := by
  have e1 : (m == n) = (compare m n == .eq) := by
    rcases Int.lt_trichotomy m n with h | h | h
    · rw [Int.compare_eq_lt.2 h]; simp; omega
    · subst h; simp
    · rw [Int.compare_eq_gt.2 h]; simp; omega
  have e2 : decide (m < n) = (compare m n == .lt) := by
    rcases Int.lt_trichotomy m n with h | h | h
    · rw [Int.compare_eq_lt.2 h]; simp; omega
    · subst h; simp
    · rw [Int.compare_eq_gt.2 h]; simp; omega
  have e3 : decide (m > n) = (compare m n == .gt) := by
    rcases Int.lt_trichotomy m n with h | h | h
    · rw [Int.compare_eq_lt.2 h]; simp; omega
    · subst h; simp
    · rw [Int.compare_eq_gt.2 h]; simp; omega
  have e4 : decide (m ≤ n) = (compare m n != .gt) := by
    rw [bne, ← e3]; by_cases h : n < m <;> simp [h] <;> omega
  have e5 : decide (m ≥ n) = (compare m n != .lt) := by
    rw [bne, ← e2]; by_cases h : m < n <;> simp [h] <;> omega
  have e6 : (m != n) = (compare m n != .eq) := by rw [bne, bne, e1]
  cases op <;> simp only [ordBin, Option.some.injEq, reduceCtorEq] at h <;> subst h
  case eql => exact ⟨.bool (m == n), by simp [Go.binOp, Op.intCmp], e1 ▸ .bool _⟩
  case neq => exact ⟨.bool (m != n), by simp [Go.binOp, Op.intCmp], e6 ▸ .bool _⟩
  case lss => exact ⟨.bool (decide (m < n)), by simp [Go.binOp, Op.intCmp], e2 ▸ .bool _⟩
  case leq => exact ⟨.bool (decide (m ≤ n)), by simp [Go.binOp, Op.intCmp], e4 ▸ .bool _⟩
  case gtr => exact ⟨.bool (decide (m > n)), by simp [Go.binOp, Op.intCmp], e3 ▸ .bool _⟩
  case geq => exact ⟨.bool (decide (m ≥ n)), by simp [Go.binOp, Op.intCmp], e5 ▸ .bool _⟩

theorem strLess_irrefl : ∀ a : List Nat, strLess a a = false
  | [] => rfl
  | a :: x => by simp [strLess, strLess_irrefl x]
theorem strLess_asymm : ∀ a b : List Nat, strLess a b = true → strLess b a = false
  | [], [], h => by simp [strLess] at h
  | [], _ :: _, _ => rfl
  | _ :: _, [], h => by simp [strLess] at h
  | a :: x, b :: y, h => by
    simp only [strLess, Bool.or_eq_true, decide_eq_true_eq, Bool.and_eq_true, beq_iff_eq] at h
    simp only [strLess, Bool.or_eq_false_iff, decide_eq_false_iff_not, Bool.and_eq_false_iff]
    rcases h with h | ⟨rfl, h⟩
    · exact ⟨by omega, .inl (by simp; omega)⟩
    · exact ⟨by omega, .inr (strLess_asymm x y h)⟩
theorem strLess_total : ∀ a b : List Nat, strLess a b = false → a ≠ b → strLess b a = true
  | [], [], _, h => (h rfl).elim
  | [], _ :: _, h, _ => by simp [strLess] at h
  | _ :: _, [], _, _ => rfl
  | a :: x, b :: y, h, hn => by
    simp only [strLess, Bool.or_eq_false_iff, decide_eq_false_iff_not, Bool.and_eq_false_iff, beq_eq_false_iff_ne] at h
    simp only [strLess, Bool.or_eq_true, decide_eq_true_eq, Bool.and_eq_true, beq_iff_eq]
    by_cases hab : a = b
    · subst hab
      rcases h.2 with h2 | h2
      · exact (h2 rfl).elim
      · exact .inr ⟨rfl, strLess_total x y h2 (fun e => hn (by rw [e]))⟩
    · exact .inl (by omega)
theorem strCmp_swap (a b : List Nat) : strCmp a b = (strCmp b a).swap := by
  unfold strCmp
  by_cases he : a = b
  · subst he; simp [strLess_irrefl]
  · have hb : (a == b) = false := by simpa using he
    have hb' : (b == a) = false := by simpa using fun h => he h.symm
    cases h : strLess a b with
    | true => simp [strLess_asymm _ _ h, hb']
    | false => simp [strLess_total _ _ h he, hb]

theorem symCmpS_fit {u v : Value} {a b : CV} {o : Ordering} (ha : VR g u a) (hb : VR g v b) (h : symCmpS a b = some o) : ∃ m n, u = .string m ∧ v = .string n ∧ strCmp (bytesL m) (bytesL n) = o := by
  unfold symCmpS at h
  split at h
  · cases ha; cases hb
    exact ⟨_, _, rfl, rfl, Glob.sknow_ok _ _ _ h⟩
  · cases ha; cases hb
    simp only [Option.map_eq_some_iff] at h
    obtain ⟨o', h1, rfl⟩ := h
    refine ⟨_, _, rfl, rfl, ?_⟩
    rw [← Glob.sknow_ok _ _ _ h1]
    exact strCmp_swap _ _
  · cases ha; cases hb
    split at h
    · rename_i hi
      subst hi
      cases h
      exact ⟨_, _, rfl, rfl, by simp [strCmp, strLess_irrefl]⟩
    · exact ⟨_, _, rfl, rfl, Glob.srel_ok _ _ _ h⟩
  · cases h

theorem ordBinS {op : BinOp} {x y : List Nat} {c : CV} (h : ordBin op (strCmp x y) = some c) : strBin op x y = some c := by
  unfold strCmp at h
  cases op <;> simp only [ordBin, Option.some.injEq, reduceCtorEq] at h <;> subst h <;> simp only [strBin, Option.some.injEq, CV.bool.injEq]
  all_goals
    by_cases he : x = y
    · subst he; simp [strLess_irrefl]
    · have hb : (x == y) = false := by simpa using he
      cases hl : strLess x y <;> simp [hb]

theorem bin_fit {op : BinOp} {t : TypeId} {x y : Operand} {u v : Value} {a b c : CV} (ha : VR g u a) (hb : VR g v b) (h : cbin P op t x y a b = some c) :
    ∃ z, (do eqGuard op t x y u v; Go.binOp op t u v : Sem Value).run P w = .ok z w ∧ VR g z c := by
  unfold cbin at h
  split at h
  · rename_i o ho
    obtain ⟨k, m, n, rfl, rfl, hc⟩ := symCmp_fit ha hb ho
    subst hc
    obtain ⟨z, h1, h2⟩ := ordBin_fit (P := P) (w := w) (g := g) (t := t) h
    exact ⟨z, by rw [Sem.run_bind, guard_int]; exact h1, h2⟩
  rename_i hsc
  clear hsc
  split at h
  · rename_i o ho
    obtain ⟨m, n, rfl, rfl, hc⟩ := symCmpS_fit ha hb ho
    subst hc
    obtain ⟨z, h1, h2⟩ := str_fit (P := P) (w := w) (g := g) (ordBinS h)
    refine ⟨z, ?_, h2⟩
    rw [Sem.run_bind, guard_str]
    simp only [Result.andThen_ok]
    rw [← h1]
    simp [Go.binOp]
  rename_i hsc
  clear hsc
  split at h
  · cases ha with
    | str s => cases hb with
      | str s' =>
        obtain ⟨z, h1, h2⟩ := str_fit (P := P) (w := w) (g := g) h
        refine ⟨z, ?_, h2⟩
        rw [Sem.run_bind, guard_str]
        simp only [Result.andThen_ok]
        rw [← h1]
        simp [Go.binOp]
  · rename_i j m k n
    cases ha; cases hb
    cases hp : pureVal P (Go.binOp op t (.int j m) (.int k n)) with
    | none => simp [hp] at h
    | some z =>
      simp [hp] at h
      subst h
      refine ⟨z, ?_, ofScal_VR g z⟩
      rw [Sem.run_bind, guard_int]
      exact pureVal_run hp
  · rename_i h1 h2
    split at h
    · split at h
      · rename_i hl
        cases hq : ceq P Op.maxDepth t a b with
        | none => simp [hq] at h
        | some r =>
          simp [hq] at h
          subst h
          refine ⟨.bool r, ?_, .bool r⟩
          rw [Sem.run_bind, guard_fit ha hb hl (ceq_any hq).1 (ceq_any hq).2]
          exact (binOp_eql ha hb hq (fun x y e e' => h1 x y e e') (fun j m k n e e' => h2 j m k n e e') (fun j m k n e e' => by subst e; subst e'; exact ceq_flt hq)).1
      · cases h
    · split at h
      · rename_i hl
        cases hq : ceq P Op.maxDepth t a b with
        | none => simp [hq] at h
        | some r =>
          simp [hq] at h
          subst h
          refine ⟨.bool !r, ?_, .bool _⟩
          rw [Sem.run_bind, guard_fit ha hb hl (ceq_any hq).1 (ceq_any hq).2]
          exact (binOp_eql ha hb hq (fun x y e e' => h1 x y e e') (fun j m k n e e' => h2 j m k n e e') (fun j m k n e e' => by subst e; subst e'; exact ceq_flt hq)).2
      · cases h
    · cases h

theorem bytes_of {cs : List CV} : ∀ {s : List Nat} {vs : List Value}, bytesOfCells cs = some s → VRL g vs cs →
    vs = s.map (fun (n : Nat) => Value.int .u8 (n : Int)) ∧ ∀ n ∈ s, n < 256 := by
  induction cs with
  | nil =>
    intro s vs h hv
    cases vs with
    | nil => simp [bytesOfCells] at h; subst h; simp
    | cons _ _ => exact hv.elim
  | cons c cs ih =>
    intro s vs h hv
    cases vs with
    | nil => exact hv.elim
    | cons v vs =>
      unfold bytesOfCells at h
      split at h
      · rename_i he; cases he
      · rename_i n rest he
        obtain ⟨rfl, rfl⟩ := List.cons.inj he
        split at h
        · rename_i hn
          cases hr : bytesOfCells cs with
          | none => simp [hr] at h
          | some r =>
            simp [hr] at h
            subst h
            obtain ⟨h1, h2⟩ := ih hr hv.2
            have hv1 := hv.1
            cases hv1
            refine ⟨by simp [← h1]; omega, ?_⟩
            intro m hm
            simp at hm
            rcases hm with rfl | hm
            · omega
            · exact h2 m hm
        · cases h
      · cases h

theorem len_fit {w0 : World} {h : Heap} (hw : WI w0 g h w) {t : TypeId} {ts : List TypeId} {ty : TypeId} {u : Value} {us : List Value} {x c : CV} (hv : VR g u x) (hc : clen P t h x = some c) :
    ∃ z, (Builtin.len_ (t :: ts).toArray ty (u :: us).toArray).run P w = .ok z w ∧ VR g z c := by
  unfold clen at hc
  split at hc
  · rename_i hu
    cases hv with
    | str s =>
    cases hc
    exact ⟨goInt s.size, by simp [Builtin.len_, run_underlying hu], by rw [str_length]; exact .int _ _⟩
  · rename_i hu
    cases hc
    exact ⟨goInt _, by simp [Builtin.len_, run_underlying hu], .int _ _⟩
  · rename_i hu; cases hv; cases hc; exact ⟨goInt _, by simp [Builtin.len_, run_underlying hu], .int _ _⟩
  · rename_i hu; cases hv; cases hc; exact ⟨goInt _, by simp [Builtin.len_, run_underlying hu], .int _ _⟩
  · rename_i hu; cases hv; cases hc; exact ⟨goInt _, by simp [Builtin.len_, run_underlying hu], .int _ _⟩
  · rename_i x _ _ _ _ hu
    cases hm : mapEs h x with
    | none => simp [hm] at hc
    | some es =>
      simp [hm] at hc
      subst hc
      unfold mapEs at hm
      split at hm
      · cases hm; cases hv
        exact ⟨goInt 0, by simp [Builtin.len_, run_underlying hu], .int _ _⟩
      · split at hm
        · rename_i id es' cl hb
          cases hm
          cases hv with
          | hm _ b o L hφ =>
          obtain ⟨_, _, es'', h3, h4⟩ := hw.blk _ b o L _ hφ hb
          have hlen : ∀ {a : List MapEntry} {b : List (CV × CV × Nat)}, ER g a b → a.length = b.length := by
            intro a
            induction a with
            | nil => intro b hh; cases b with
              | nil => rfl
              | cons _ _ => exact hh.elim
            | cons _ _ ih => intro b hh; cases b with
              | nil => exact hh.elim
              | cons _ _ => simp [ih hh.2]
          have hl := hlen h4
          refine ⟨goInt es''.size, ?_, ?_⟩
          · simp [Builtin.len_, run_underlying hu, getObj, Sem.run, h3]
          · have : es''.size = es.length := by simpa using hl
            rw [this]; exact .int _ _
        · cases hm
      · cases hm
  · cases hc

theorem cap_fit {t : TypeId} {ts : List TypeId} {ty : TypeId} {u : Value} {us : List Value} {x c : CV} (hv : VR g u x) (hc : ccap P t x = some c) :
    ∃ z, (Builtin.cap_ (t :: ts).toArray ty (u :: us).toArray).run P w = .ok z w ∧ VR g z c := by
  unfold ccap at hc
  split at hc
  · rename_i hu; cases hv; cases hc; exact ⟨goInt _, by simp [Builtin.cap_, run_underlying hu], .int _ _⟩
  · rename_i k hu
    cases hv with
    | hs a c _ _ _ _ _ b o L h1 h2 h3 h4 => cases hc; have := h3 _ rfl; subst this; exact ⟨goInt _, by simp [Builtin.cap_, run_underlying hu], .int _ _⟩
  · rename_i k hu
    cases hv with
    | rs a c _ _ _ _ f h1 h2 h3 h4 => cases hc; have := h2 _ rfl; subst this; exact ⟨goInt _, by simp [Builtin.cap_, run_underlying hu], .int _ _⟩
  · rename_i hu
    cases hc
    exact ⟨goInt _, by simp [Builtin.cap_, run_underlying hu], .int _ _⟩
  · cases hc

theorem assert_fit {t xt : TypeId} {u : Value} {x c : CV} {ok : Bool} (hv : VR g u x) (hc : ctypeAssert P x t ok = some c) :
    ∃ z, (Instr.typeAssert u xt t ok).run P w = .ok z w ∧ VR g z c := by
  have hfails : ∀ {c}, (if ok then (zeroOf P t).map fun z => CV.tup [z, .bool false] else none) = some c →
      ok = true ∧ ∃ z, (∀ w, (zeroValue t).run P w = .ok z w) ∧ VR g (.tuple #[z, .bool false]) c := by
    intro c h
    cases ok with
    | false => simp at h
    | true =>
      simp only [if_true] at h
      cases hz : zeroOf P t with
      | none => simp [hz] at h
      | some z =>
        simp [hz] at h
        obtain ⟨v, h1, h2⟩ := zeroOf_spec hz
        subst h
        exact ⟨rfl, v, h1, .tup' (by simp only [VRL]; exact ⟨h2 ▸ ofConst_VR g v, .bool _, trivial⟩)⟩
  have hholds : ∀ {v : Value} {c' c : CV}, VR g v c' → (some (if ok then CV.tup [c', .bool true] else c') : Option CV) = some c → VR g (if ok then .tuple #[v, .bool true] else v) c := by
    intro v c' c h1 h2
    cases h2
    cases ok with
    | false => exact h1
    | true => exact .tup' ⟨h1, .bool _, trivial⟩
  unfold ctypeAssert at hc
  simp only at hc
  split at hc
  · rename_i hu
    cases hv
    obtain ⟨rfl, z, h1, h2⟩ := hfails hc
    exact ⟨_, by simp [Instr.typeAssert, run_underlying hu, h1], h2⟩
  · rename_i want ti vi hu
    cases hv with
    | iface _ v _ hv' =>
    split at hc
    · rename_i i hi
      split at hc
      · rename_i hm
        refine ⟨_, ?_, hholds (.iface ti v _ hv') hc⟩
        simp [Instr.typeAssert, run_underlying hu, run_typeInfo hi, hm]
      · rename_i m hm
        obtain ⟨rfl, z, h1, h2⟩ := hfails hc
        exact ⟨_, by simp [Instr.typeAssert, run_underlying hu, run_typeInfo hi, hm, h1], h2⟩
    · cases hc
  · rename_i d hnot hu
    cases hv
    obtain ⟨rfl, z, h1, h2⟩ := hfails hc
    refine ⟨_, ?_, h2⟩
    cases d <;> first
      | exact (hnot _ hu).elim
      | (simp [Instr.typeAssert, run_underlying hu, h1]; done)
      | simp_all
  · rename_i d ti vi hnot hu
    cases hv with
    | iface _ v _ hv' =>
    split at hc
    · rename_i he
      subst he
      refine ⟨_, ?_, hholds hv' hc⟩
      cases d <;> first
        | (simp [Instr.typeAssert, run_underlying hu]; done)
        | simp_all
    · rename_i he
      obtain ⟨rfl, z, h1, h2⟩ := hfails hc
      refine ⟨_, ?_, h2⟩
      cases d <;> first
        | (simp [Instr.typeAssert, run_underlying hu, h1, he]; done)
        | simp_all
  · cases hc

end
end Go.CE

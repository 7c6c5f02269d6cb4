/-
  The canonical evaluator: values that say nothing of memory; a call that is known by a run of its own.
-/
import Derived.Test.YtgfelhlilajfmaaGreatDoorCeK
namespace Go.CE
set_option linter.unusedVariables false
set_option linter.unusedSimpArgs false
set_option linter.unusedSectionVars false
set_option linter.unnecessarySimpa false
open Go.RowKit (Below)

/-- Bytes as a string. -/
def strOfN (s : List Nat) : ByteArray := ⟨(s.map UInt8.ofNat).toArray⟩

mutual
/-- The value that is meant, where nothing of memory is said. -/
def real : CV → Option Value
  | .bool b => some (.bool b)
  | .int k n => some (.int k n)
  | .flt k n => some (.float k n)
  | .str s => if s.all (· < 256) then some (.string (strOfN s)) else none
  | .nilp => some (.pointer none)
  | .nils => some (.slice none 0 0)
  | .nilm => some (.map none)
  | .nilf => some .nilFunc
  | .nili => some .nilIface
  | .iface t v => match real v with
    | some v => some (.iface t v)
    | none => none
  | .agg cs => match reals cs with
    | some vs => some (.agg vs.toArray)
    | none => none
  | .tup cs => match reals cs with
    | some vs => some (.tuple vs.toArray)
    | none => none
  | _ => none
def reals : List CV → Option (List Value)
  | [] => some []
  | c :: cs => match real c, reals cs with
    | some v, some vs => some (v :: vs)
    | _, _ => none
end

theorem bytes_strOfN {s : List Nat} (h : s.all (· < 256) = true) : (strOfN s).data.toList.map UInt8.toNat = s := by
  simp only [strOfN, List.map_map]
  rw [List.map_congr_left (g := id) (fun n hn => ?_), List.map_id]
  have := List.all_eq_true.1 h n hn
  simp at this
  simp [Nat.mod_eq_of_lt this]

theorem strOfN_bytes (s : ByteArray) : strOfN (s.data.toList.map UInt8.toNat) = s := by
  obtain ⟨⟨l⟩⟩ := s
  simp only [strOfN, List.map_map]
  congr 2
  rw [List.map_congr_left (g := id) (fun n _ => by simp), List.map_id]

/-- Calls that are known: arguments, and what comes of them. -/
abbrev Tbl := List (List CV × CV)

def Tbl.find (t : Tbl) (args : List CV) : Option CV := match t with
  | [] => none
  | p :: t => if CV.beqL p.1 args then some p.2 else Tbl.find t args

def Cfg.with (cfg : Cfg) (f : FuncId) (t : Tbl) : Cfg := { cfg with spec := fun x => if x = f then some (Tbl.find t) else cfg.spec x }

/-- A function that is known as a Lean function of its arguments. -/
def Cfg.withF (cfg : Cfg) (f : FuncId) (k : List CV → Option CV) : Cfg := { cfg with spec := fun x => if x = f then some k else cfg.spec x }

def isVal (c : CV) : Out → Bool
  | .val d _ => CV.beq d c
  | _ => false

section
variable [Glob]

mutual
theorem real_VR (g : Gho) : ∀ (c : CV) (v : Value), real c = some v → VR g v c
  | .bool b, v, h => by cases h; exact .bool b
  | .int k n, v, h => by cases h; exact .int k n
  | .flt k n, v, h => by cases h; exact .flt k n
  | .str s, v, h => by
    simp only [real] at h
    split at h
    · rename_i hs
      cases h
      have := VR.str (g := g) (strOfN s)
      rwa [bytes_strOfN hs] at this
    · cases h
  | .nilp, v, h => by cases h; exact .nilp
  | .nils, v, h => by cases h; exact .nils
  | .nilm, v, h => by cases h; exact .nilm
  | .nilf, v, h => by cases h; exact .nilf
  | .nili, v, h => by cases h; exact .nili
  | .iface t c, v, h => by
    simp only [real] at h
    split at h
    · rename_i u hu; cases h; exact .iface _ _ _ (real_VR g c u hu)
    · cases h
  | .agg cs, v, h => by
    simp only [real] at h
    split at h
    · rename_i us hu; cases h; exact .agg' (by simpa using reals_VRL g cs us hu)
    · cases h
  | .tup cs, v, h => by
    simp only [real] at h
    split at h
    · rename_i us hu; cases h; exact .tup' (by simpa using reals_VRL g cs us hu)
    · cases h
  | .any, v, h => by simp [real] at h
  | .hp _ _, v, h => by simp [real] at h
  | .rp _, v, h => by simp [real] at h
  | .hs _ _ _ _ _, v, h => by simp [real] at h
  | .rs _ _ _ _, v, h => by simp [real] at h
  | .hm _, v, h => by simp [real] at h
  | .fn _ _ _, v, h => by simp [real] at h
  | .sym _ _, v, h => by simp [real] at h
  | .symS _, v, h => by simp [real] at h
theorem reals_VRL (g : Gho) : ∀ (cs : List CV) (vs : List Value), reals cs = some vs → VRL g vs cs
  | [], vs, h => by cases h; trivial
  | c :: cs, vs, h => by
    simp only [reals] at h
    split at h
    · rename_i v us h1 h2; cases h; exact ⟨real_VR g c v h1, reals_VRL g cs us h2⟩
    · cases h
end

mutual
theorem real_uniq (g : Gho) : ∀ (c : CV) (v u : Value), real c = some v → VR g u c → u = v
  | .bool b, v, u, h, hu => by cases h; cases hu; rfl
  | .int k n, v, u, h, hu => by cases h; cases hu; rfl
  | .flt k n, v, u, h, hu => by cases h; cases hu; rfl
  | .str s, v, u, h, hu => by
    simp only [real] at h
    split at h
    · cases h
      cases hu with
      | str s => rw [strOfN_bytes]
    · cases h
  | .nilp, v, u, h, hu => by cases h; cases hu; rfl
  | .nils, v, u, h, hu => by cases h; cases hu; rfl
  | .nilm, v, u, h, hu => by cases h; cases hu; rfl
  | .nilf, v, u, h, hu => by cases h; cases hu; rfl
  | .nili, v, u, h, hu => by cases h; cases hu; rfl
  | .iface t c, v, u, h, hu => by
    simp only [real] at h
    split at h
    · rename_i w hw
      cases h
      cases hu with
      | iface _ u' _ hu' => rw [real_uniq g c w u' hw hu']
    · cases h
  | .agg cs, v, u, h, hu => by
    simp only [real] at h
    split at h
    · rename_i us hus
      cases h
      cases hu with
      | agg xs _ h1 h2 => 
        have := reals_uniq g cs us xs.toList hus (VRL_iff.2 ⟨h1, h2⟩)
        rw [← this]
    · cases h
  | .tup cs, v, u, h, hu => by
    simp only [real] at h
    split at h
    · rename_i us hus
      cases h
      cases hu with
      | tup xs _ h1 h2 => 
        have := reals_uniq g cs us xs.toList hus (VRL_iff.2 ⟨h1, h2⟩)
        rw [← this]
    · cases h
  | .any, v, u, h, hu => by simp [real] at h
  | .hp _ _, v, u, h, hu => by simp [real] at h
  | .rp _, v, u, h, hu => by simp [real] at h
  | .hs _ _ _ _ _, v, u, h, hu => by simp [real] at h
  | .rs _ _ _ _, v, u, h, hu => by simp [real] at h
  | .hm _, v, u, h, hu => by simp [real] at h
  | .fn _ _ _, v, u, h, hu => by simp [real] at h
  | .sym _ _, v, u, h, hu => by simp [real] at h
  | .symS _, v, u, h, hu => by simp [real] at h
theorem reals_uniq (g : Gho) : ∀ (cs : List CV) (vs us : List Value), reals cs = some vs → VRL g us cs → us = vs
  | [], vs, us, h, hu => by
    cases h
    cases us with
    | nil => rfl
    | cons _ _ => exact hu.elim
  | c :: cs, vs, us, h, hu => by
    simp only [reals] at h
    split at h
    · rename_i v ws h1 h2
      cases h
      match us, hu with
      | u :: us, hu => rw [real_uniq g c v u h1 hu.1, reals_uniq g cs ws us h2 hu.2]
    · cases h
end

/-- Behind a call that leaves alone what was there. -/
theorem WI.keepBelow {w0 : World} {g : Gho} {h : Heap} {w w' : World} (hw : WI w0 g h w) (hb : Below w.heap.size w w') : WI w0 g h w' := by
  have hsz : w0.heap.size ≤ w.heap.size := hw.below.size
  have hcell : ∀ b o, b < w.heap.size → w'.cell? ⟨b, o, none⟩ = w.cell? ⟨b, o, none⟩ ∧ w'.frozen? ⟨b, o, none⟩ = w.frozen? ⟨b, o, none⟩ := fun b o hlt => ⟨hb.cell hlt, hb.frozen hlt⟩
  refine ⟨hw.glob, hw.below.trans (hb.mono hsz), fun b o v k => ?_, fun b o id k => ?_, hw.dom, fun id b o L x h1 h2 => ?_⟩
  · have h1 := hw.immv b o v k
    have h2 := World.block_lt_of_cell? _ _ h1
    exact (hcell b o (by simpa using h2)).1.trans h1
  · exact ⟨(hw.old b o id k).1, Nat.lt_of_lt_of_le (hw.old b o id k).2 hb.size⟩
  · exact (hw.blk id b o L x h1 h2).keep (Gle.refl 0 g) (fun _ _ h => h) (fun b o k => hcell b o (hw.old b o id k).2) (fun b k => hb.block b (hw.old b 0 id (k 0)).2)

/-- What package variables lead to, at the start. -/
def GlOk (w : World) : Prop := ∀ x : Nat, VR (Gho.start w) (.pointer (some ⟨x, 0, none⟩)) (Glob.val x)

theorem VR.start_below {w w' : World} (hb : Below w.heap.size w w') {v : Value} {c : CV} (h : VR (Gho.start w) v c) : VR (Gho.start w') v c := by
  refine h.mono (fun id x h => by simp [Gho.start] at h) (fun b o v h => ?_)
  simp only [Gho.start] at h ⊢
  split at h
  · rename_i u hu
    have := World.block_lt_of_cell? _ _ hu
    rw [hb.cell (by simpa using this), hu]
    exact h
  · cases h

theorem GlOk.below {w w' : World} (h : GlOk w) (hb : Below w.heap.size w w') : GlOk w' := fun x => (h x).start_below hb

/-- A run of the evaluator, told without it. -/
theorem calls_of_run {P : Program} (hm : P.follows .mixedOrders = true) (hn : NamesOk P) (cfg : Cfg) {w : World} (hgl : GlOk w) (hcfg : CfgOk P w cfg) {n : Nat} {f : FuncId} {fn : Func} {c : Code} (hf : P.funcs[f]? = some fn) (hb : fn.body = some c)
    {args : List CV} {res : CV} {rargs : Array Value} {r : Value} (ha : VRL (Gho.start w) rargs.toList args) (hr : real res = some r) (hall : (ccall P cfg n 0 (.fn f) args []).allB (isVal res) = true) :
    Calls P f rargs w fun e w' => e = .returned r ∧ Below w.heap.size w w' := by
  refine calls_of_ccall hm hn cfg hgl hcfg hf hb ha (Dem.all_of_allB hall) (fun v v' h' g' w' h1 h2 h3 => ?_) fun v v' h' g' w' h1 _ _ => by simp [isVal] at h1
  simp only [isVal] at h1
  rw [CV.beq_eq _ _ h1] at h3
  rw [real_uniq _ _ _ _ hr h3]
  exact ⟨rfl, h2.below⟩

theorem tells_of_run {P : Program} (hm : P.follows .mixedOrders = true) (hn : NamesOk P) (cfg : Cfg) {w : World} (hgl : GlOk w) (hcfg : CfgOk P w cfg) {n : Nat} {f : FuncId} {fn : Func} {c : Code} (hf : P.funcs[f]? = some fn) (hb : fn.body = some c)
    {args : List CV} {res : CV} {rargs : List Value} {r : Value} (ha : reals args = some rargs) (hr : real res = some r) (hall : (ccall P cfg n 0 (.fn f) args []).allB (isVal res) = true) :
    Calls P f rargs.toArray w fun e w' => e = .returned r ∧ Below w.heap.size w w' :=
  calls_of_run hm hn cfg hgl hcfg hf hb (rargs := rargs.toArray) (by simpa using reals_VRL _ _ _ ha) hr hall

/-- What is known of a function is so, wherever it is called. -/
def Tells (P : Program) (f : FuncId) (t : Tbl) (w : World) : Prop :=
  ∀ p ∈ t, ∃ rargs r, reals p.1 = some rargs ∧ real p.2 = some r ∧ Calls P f rargs.toArray w fun e w' => e = .returned r ∧ Below w.heap.size w w'

theorem Tbl.find_mem : ∀ {t : Tbl} {args : List CV} {v : CV}, Tbl.find t args = some v → (args, v) ∈ t
  | p :: t, args, v, h => by
    simp only [Tbl.find] at h
    split at h
    · rename_i hb
      cases h
      have := CV.beqL_eq _ _ hb
      subst this
      simp
    · simp [Tbl.find_mem h]

/-- What is known of a function at arguments that may not be known. -/
def TellsV (P : Program) (f : FuncId) (t : Tbl) (w : World) : Prop :=
  ∀ p ∈ t, ∀ (g : Gho) (rargs : List Value), VRL g rargs p.1 → ∃ r, (∀ g', VR g' r p.2) ∧ Calls P f rargs.toArray w fun e w' => e = .returned r ∧ Below w.heap.size w w'

theorem Tells.toV {P : Program} {f : FuncId} {t : Tbl} {w : World} (h : Tells P f t w) : TellsV P f t w := by
  intro p hp g rargs hargs
  obtain ⟨ra, r, h1, h2, h3⟩ := h p hp
  have := reals_uniq g _ _ _ h1 hargs
  subst this
  exact ⟨r, fun g' => real_VR g' _ _ h2, h3⟩

theorem CfgOk.withV {P : Program} (hn : NamesOk P) {cfg : Cfg} {w0 : World} (hcfg : CfgOk P w0 cfg) {f : FuncId} {fn : Func} {c : Code} (hf : P.funcs[f]? = some fn) (hb : fn.body = some c) {t : Tbl} (ht : ∀ w, Below w0.heap.size w0 w → TellsV P f t w) : CfgOk P w0 (cfg.with f t) := by
  refine ⟨hcfg.ext, fun f' k args v hk hv g h w rargs hw hargs => ?_⟩
  simp only [Cfg.with] at hk
  split at hk
  · rename_i he
    cases hk
    subst he
    obtain ⟨r, h2, h3⟩ := ht w hw.below _ (Tbl.find_mem hv) g rargs hargs
    rw [callFunc_enter hn hf hb]
    refine Calls.mono h3 ?_
    rintro e w' ⟨rfl, hbl⟩
    exact ⟨v, h, g, rfl, Gle.refl _ _, hw.keepBelow hbl, h2 g⟩
  · exact hcfg.spec f' k args v hk hv g h w rargs hw hargs

theorem CfgOk.with {P : Program} (hn : NamesOk P) {cfg : Cfg} {w0 : World} (hcfg : CfgOk P w0 cfg) {f : FuncId} {fn : Func} {c : Code} (hf : P.funcs[f]? = some fn) (hb : fn.body = some c) {t : Tbl} (ht : ∀ w, Below w0.heap.size w0 w → Tells P f t w) : CfgOk P w0 (cfg.with f t) :=
  hcfg.withV hn hf hb fun w hw => (ht w hw).toV

theorem CfgOk.withF {P : Program} {cfg : Cfg} {w0 : World} (hcfg : CfgOk P w0 cfg) {f : FuncId} {k : List CV → Option CV}
    (hk : ∀ (args : List CV) (v : CV), k args = some v → ∀ (g : Gho) (h : Heap) (w : World) (rargs : List Value), WI w0 g h w → VRL g rargs args → Fit P w0 h.length g (· = .val v h) ((callFunc f rargs.toArray).run P w)) : CfgOk P w0 (cfg.withF f k) := by
  refine ⟨hcfg.ext, fun f' k' args v hk' hv g h w rargs hw hargs => ?_⟩
  simp only [Cfg.withF] at hk'
  split at hk'
  · rename_i he
    cases hk'
    subst he
    exact hk args v hv g h w rargs hw hargs
  · exact hcfg.spec f' k' args v hk' hv g h w rargs hw hargs

/-- strings.Index and its like: two strings. -/
def indexC : List CV → Option CV
  | [.str a, .str b] => if a.length < 4294967281 then some (.int .i64 (indexN a b 0)) else none
  | _ => none

theorem indexC_fit {P : Program} (hn : NamesOk P) {w0 : World} {f : FuncId} {fn : Func} {c : Code} (hf : P.funcs[f]? = some fn) (hb : fn.body = some c)
    (hlaw : ∀ w, Below w0.heap.size w0 w → ∀ s sub : ByteArray, s.size < 4294967281 → Calls P f #[.string s, .string sub] w fun e w' => e = .returned (.int .i64 (Lib.index s.data.toList sub.data.toList)) ∧ w' = w)
    (args : List CV) (v : CV) (hk : indexC args = some v) (g : Gho) (h : Heap) (w : World) (rargs : List Value) (hw : WI w0 g h w) (hargs : VRL g rargs args) : Fit P w0 h.length g (· = .val v h) ((callFunc f rargs.toArray).run P w) := by
  unfold indexC at hk
  split at hk
  · split at hk
    · rename_i hl
      cases hk
      match rargs, hargs with
      | [u, v], ⟨hu, hv', _⟩ =>
        cases hu with
        | str s =>
        cases hv' with
        | str t =>
        rw [callFunc_enter hn hf hb]
        refine Calls.mono (hlaw w hw.below s t (by rw [← size_bytes]; exact hl)) ?_
        rintro e w' ⟨rfl, rfl⟩
        refine ⟨_, h, g, rfl, Gle.refl _ _, hw, ?_⟩
        have := indexN_eq t.data.toList s.data.toList 0
        rw [this, index_neg]
        exact .int _ _
    · cases hk
  · cases hk

/-- Runs of the evaluator, for each entry of a table. -/
theorem tells_of_runs {P : Program} (hm : P.follows .mixedOrders = true) (hn : NamesOk P) (cfg : Cfg) {w : World} (hgl : GlOk w) (hcfg : CfgOk P w cfg) {n : Nat} {f : FuncId} {fn : Func} (hf : P.funcs[f]? = some fn) (hb : fn.body.isSome = true)
    {t : Tbl} (hall : (t.all fun p => (reals p.1).isSome && (real p.2).isSome && (ccall P cfg n 0 (.fn f) p.1 []).allB (isVal p.2)) = true) : Tells P f t w := by
  intro p hp
  have h := List.all_eq_true.1 hall p hp
  simp only [Bool.and_eq_true] at h
  obtain ⟨ra, h1⟩ := Option.isSome_iff_exists.1 h.1.1
  obtain ⟨r, h2⟩ := Option.isSome_iff_exists.1 h.1.2
  obtain ⟨c, hc⟩ := Option.isSome_iff_exists.1 hb
  exact ⟨ra, r, h1, h2, tells_of_run hm hn cfg hgl hcfg hf hc h1 h2 h.2⟩

/-- A struct of two numbers and a string that are not known. -/
theorem value_inv {g : Gho} {rargs : List Value} {i j l : Nat} (h : VRL g rargs [.agg [.sym .i64 i, .sym .i64 j, .symS l]]) :
    rargs = [.agg #[.int .i64 (Glob.sval i), .int .i64 (Glob.sval j), .string (Glob.sstr l)]] := by
  match rargs, h with
  | [v], ⟨hv, _⟩ =>
    cases hv with
    | agg cs _ h1 h2 =>
    obtain ⟨l⟩ := cs
    have h3 := VRL_iff.2 ⟨h1, h2⟩
    match l, h3 with
    | [x, y, z], ⟨hx, hy, hz, _⟩ => cases hx; cases hy; cases hz; rfl

end
end Go.CE

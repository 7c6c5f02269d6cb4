/-
  The canonical evaluator: regions that draw their order, code, calls.
-/
import Derived.Test.YtgfelhlilajfmaaGreatDoorCeA
namespace Go.CE
set_option linter.unusedVariables false
set_option linter.unusedSimpArgs false
set_option linter.unusedSectionVars false
set_option linter.unnecessarySimpa false
variable [Glob]
noncomputable section

inductive Cls where
  | w | a | l | p
  deriving DecidableEq

/-- A block that an operation lays, and what it comes to, if the block is number id: where nothing of the heap is looked at. -/
def early (P : Program) (tm : Env) (o : Oper) (id : Nat) : Option (Blk × CV) :=
  match o.op with
  | .alloc t => (zcells P t).map fun z => (.row z, .hp id 0)
  | .makeMap t none => match P.underlying t with
    | some (.map _ _) => some (.map [] 0, .hm id)
    | _ => none
  | .box _ x => match ceval tm x with
    | .any => none
    | v => some (.row (ccells v), .hp id 0)
  | .buildSlice t len parts => match P.underlying t with
    | some (.slice e) => match szOf P e, zcells P e with
      | some n, some z =>
        if len * n ≤ 16777216 ∧ z.length = n ∧ n ≠ 0 then
          (cfill (fun i => some (i * n, n)) (repCells len z) (parts.toList.map fun (i, x) => (i, ceval tm x))).map fun cells => (.row cells, .hs id 0 len n (some len))
        else none
      | _, _ => none
    | _ => none
  | _ => none

/-- What an operation is to the heap: it may write it or lay blocks (w), lays one block that is known (a), reads it (l), or none of these (p). -/
def cls0 (P : Program) (o : Oper) : Cls :=
  match o.op with
  | .move _ | .assign _ | .pick _ _ _ | .build _ _ | .nilCheck _ | .binOp _ _ _ _ _ | .unOp _ _ _ | .makeInterface _ _ | .makeFunc _ _ _ | .fieldAddr _ _ _ | .field _ _ _
  | .indexAddr _ _ _ | .index _ _ _ | .typeAssert _ _ _ _ | .extract _ _ => .p
  | .convert _ dst _ => match P.underlying dst with
    | some (.int _) => .p
    | some .string => .l
    | _ => .w
  | .load _ _ | .lookup _ _ _ _ | .entry _ | .slice _ _ _ _ _ => .l
  | .call c => match c.callee with
    | .builtin .len => .l
    | .builtin .cap | .builtin .min | .builtin .max => .p
    | _ => .w
  | _ => .w

/-- The blocks that are known ahead of a region, an entry for each of its operations. -/
abbrev Orc := List (Option Blk)

def cls (P : Program) (orc : Orc) (i : Nat) (o : Oper) : Cls := match orc.getD i none with
  | some _ => .a
  | none => cls0 P o

def Blk.beq : Blk → Blk → Bool
  | .row a, .row b => CV.beqL a b
  | .map [] a, .map [] b => a == b
  | _, _ => false

/-- Which operations stand ahead of each, by its edges: as bits. -/
def ancsGo : List Oper → List Nat → List Nat
  | [], acc => acc
  | o :: rest, acc => ancsGo rest (acc ++ [o.after.toList.foldl (fun s e => if Region.binds .any e then s ||| 2 ^ e.on ||| acc.getD e.on 0 else s) 0])

def ancs (ops : Array Oper) : List Nat := ancsGo ops.toList []

def ahead (an : List Nat) (i j : Nat) : Bool := (an.getD j 0).testBit i

/-- The order of a pair of operations i < j matters to nobody, or is given. -/
def pairOk (P : Program) (ops : Array Oper) (orc : Orc) (an : List Nat) (i j : Nat) (x y : Oper) : Bool :=
  ahead an i j ||
  ((match x.dst with
    | some d => !(y.looksAt ops).contains d
    | none => true) &&
   (match y.dst with
    | some d => !(x.looksAt ops).contains d
    | none => true) &&
   !(cls P orc i x == .w && cls P orc j y == .w))

def allFrom {α : Type} (p : Nat → α → Bool) : Nat → List α → Bool
  | _, [] => true
  | i, x :: rest => p i x && allFrom p (i + 1) rest

def drawOk (P : Program) (ops : Array Oper) (orc : Orc) (an : List Nat) : Bool :=
  allFrom (fun j y =>
    y.after.toList.all (fun e => !Region.binds .any e || decide (e.on < j)) &&
    allFrom (fun i x => decide (j ≤ i) || (pairOk P ops orc an i j x y && !(x.dst.isSome && x.dst == y.dst))) 0 ops.toList) 0 ops.toList

/-- Behind a writing operation i: blocks that may be laid by then, or not, are as they were laid. -/
def earlyOk (ops : Array Oper) (orc : Orc) (an : List Nat) (base i : Nat) (h : Heap) : Bool :=
  allFrom (fun j _ => match orc.getD j none with
    | some b => ahead an j i || match h[base + j]? with
      | some b' => Blk.beq b b'
      | none => false
    | none => true) 0 ops.toList

def Blk.same : Blk → Blk → Bool
  | .dead, .dead => true
  | .row a, .row b => CV.beqL a b
  | .map a c, .map b d => c == d && a.length == b.length && (a.zip b).all fun (x, y) => CV.beq x.1 y.1 && CV.beq x.2.1 y.2.1 && x.2.2 == y.2.2
  | .siter a c, .siter b d => a == b && c == d
  | .miter a b c d, .miter a' b' c' d' => a == a' && b == b' && c == c' && d == d'
  | _, _ => false

def sameHeap : Heap → Heap → Bool
  | [], [] => true
  | a :: as, b :: bs => Blk.same a b && sameHeap as bs
  | _, _ => false

def Out.same : Out → Out → Bool
  | .val v h, .val u k => CV.beq v u && sameHeap h k
  | .pan v h, .pan u k => CV.beq v u && sameHeap h k
  | _, _ => false

/-- What comes, if the same comes whichever of many is picked. -/
def Dem.det : Dem Out → Option Out
  | .ret o => some o
  | .fail => none
  | .pick n k => match Dem.det (k 0) with
    | some o => if n ≠ 0 ∧ ((List.range n).all fun i => match Dem.det (k i) with
        | some o' => Out.same o o'
        | none => false) = true then some o else none
    | none => none

/-- One operation of a region that draws. -/
def drawStep (P : Program) (callf : CallF) (fl : Nat) (ops : Array Oper) (orc : Orc) (an : List Nat) (base i : Nat) (tm : Env) (o : Oper) (h : Heap) : Option Out :=
  match cwanted ops tm o with
  | none => none
  | some false => some (.val (.tup []) h)
  | some true =>
    if cls P orc i o = .a then
      match early P tm o (base + i), orc.getD i none with
      | some b, some b' => if Blk.beq b.1 b' then some (.val b.2 h) else none
      | _, _ => none
    else match Dem.det (opRun P callf fl none tm o h) with
      | some (.val v h') => if cls P orc i o = .w then (if earlyOk ops orc an base i h' then some (.val v h') else none) else some (.val v h)
      | some (.pan v h') => if cls P orc i o = .w then some (.pan v h') else none
      | none => none

/-- What an operation met, and what it came to. -/
structure Rec where
  tm : Env
  h : Heap
  v : CV

/-- Where a region ended in a panic: which operation, of what, and the heap. -/
abbrev Pan := Option (Nat × CV × Heap)

def behind (an : List Nat) (pn : Pan) (i : Nat) : Bool :=
  match pn with
  | some (p, _, _) => decide (p < i) && ahead an p i
  | none => false

def consRec (r : Rec) : Option (List Rec × Env × Heap × Pan) → Option (List Rec × Env × Heap × Pan)
  | some (rs, tm, h, pn) => some (r :: rs, tm, h, pn)
  | none => none

def drawRun (P : Program) (callf : CallF) (fl : Nat) (ops : Array Oper) (orc : Orc) (an : List Nat) (base : Nat) : Nat → List Oper → Env → Heap → Pan → Option (List Rec × Env × Heap × Pan)
  | _, [], tm, h, pn => some ([], tm, h, pn)
  | i, o :: rest, tm, h, pn =>
    if behind an pn i then consRec ⟨tm, h, .any⟩ (drawRun P callf fl ops orc an base (i + 1) rest tm h pn)
    else if pn.isSome && cls P orc i o == .w then none
    else match drawStep P callf fl ops orc an base i tm o h with
      | some (.val v h') => forceV v fun v => putK tm o.dst v fun tm' => forceH o.op h' fun h' => consRec ⟨tm, h, v⟩ (drawRun P callf fl ops orc an base (i + 1) rest tm' h' pn)
      | some (.pan v h') => if pn.isNone && cls P orc i o == .w then consRec ⟨tm, h, .any⟩ (drawRun P callf fl ops orc an base (i + 1) rest tm h (some (i, v, h'))) else none
      | none => none

/-- The heap ahead of operation m, m = n: behind all. -/
def heapAt (rs : List Rec) (h' : Heap) (m : Nat) : Heap := match rs[m]? with
  | some r => r.h
  | none => h'

/-- May operation i stand where just the writing operations below m have been carried out? -/
def mayAt (P : Program) (ops : Array Oper) (orc : Orc) (an : List Nat) (i m : Nat) : Bool :=
  allFrom (fun j o => cls P orc j o != .w || (if j < m then !ahead an i j else !ahead an j i)) 0 ops.toList

/-- The readings come to the same wherever they may stand. -/
def readsOk (P : Program) (callf : CallF) (fl : Nat) (ops : Array Oper) (orc : Orc) (an : List Nat) (rs : List Rec) (h' : Heap) (pn : Pan) : Bool :=
  allFrom (fun i o =>
    match rs[i]? with
    | some r => cls P orc i o != .l || cwanted ops r.tm o != some true || behind an pn i ||
      (List.range (ops.size + 1)).all fun m =>
        (match (if m = 0 then none else ops[m - 1]?) with | some q => cls P orc (m - 1) q != .w | none => m != 0) ||
        !mayAt P ops orc an i m ||
        match Dem.det (opRun P callf fl none r.tm o (heapAt rs h' m)) with
        | some (.val v _) => CV.beq r.v v
        | _ => false
    | none => true) 0 ops.toList

/-- All that a region writes, forgotten. -/
def forget (ops : List Oper) (tm : Env) : Env := ops.foldl (fun tm o => cput tm o.dst .any) tm

/-- What can be known ahead of a region: values of operations that look at no heap, and the blocks that are laid. -/
def oracle (P : Program) (callf : CallF) (fl : Nat) (ops : Array Oper) (base : Nat) : Nat → List Oper → Env → Orc
  | _, [], _ => []
  | i, o :: rest, tm =>
    match cwanted ops tm o with
    | none => none :: oracle P callf fl ops base (i + 1) rest (cput tm o.dst .any)
    | some false => none :: oracle P callf fl ops base (i + 1) rest (cput tm o.dst (.tup []))
    | some true => match early P tm o (base + i) with
      | some b => some b.1 :: oracle P callf fl ops base (i + 1) rest (cput tm o.dst b.2)
      | none => none :: oracle P callf fl ops base (i + 1) rest (cput tm o.dst (if cls0 P o = .p then (match opRun P callf fl none tm o [] with
        | .ret (.val v _) => v
        | _ => .any) else .any))

def cdraw (P : Program) (callf : CallF) (fl : Nat) (ops : Array Oper) (tm : Env) (h : Heap) : Dem (CX × Env × Heap) :=
  let an := ancs ops
  let orc := oracle P callf fl ops h.length 0 ops.toList tm
  if drawOk P ops orc an then
    let h0 := if orc.any (·.isSome) then h ++ orc.map (·.getD .dead) else h
    match drawRun P callf fl ops orc an h.length 0 ops.toList tm h0 none with
    | some (rs, tm', h', pn) =>
      if readsOk P callf fl ops orc an rs h' pn then
        match pn with
        | none => .ret (.normal, tm', h')
        | some (_, v, hp) => .ret (.pan v, forget ops.toList tm, hp)
      else .fail
    | none => .fail
  else .fail

def citer : Nat → (Env → Heap → Dem (CX × Env × Heap)) → Env → Heap → Dem (CX × Env × Heap)
  | 0, _, _, _ => .fail
  | n + 1, body, tm, h => (body tm h).bind fun
    | (.normal, tm', h') => citer n body tm' h'
    | r => .ret r

def ccode (P : Program) (callf : CallF) (n fl : Nat) : Code → Env → Heap → Dem (CX × Env × Heap)
  | .skip, tm, h => .ret (.normal, tm, h)
  | .label _, tm, h => .ret (.normal, tm, h)
  | .region _ ops draw, tm, h => if draw then cdraw P callf fl ops tm h else cops P callf fl ops ops.toList tm h
  | .seq a b, tm, h => (ccode P callf n fl a tm h).bind fun
    | (.normal, tm', h') => ccode P callf n fl b tm' h'
    | r => .ret r
  | .cond c a b, tm, h => match ceval tm c with
    | .bool true => ccode P callf n fl a tm h
    | .bool false => ccode P callf n fl b tm h
    | _ => .fail
  | .block id b, tm, h => (ccode P callf n fl b tm h).bind fun
    | (.exit id', tm', h') => if id' = id then .ret (.normal, tm', h') else .ret (.exit id', tm', h')
    | r => .ret r
  | .scope b, tm, h => ccode P callf n fl b tm h
  | .loop b, tm, h => citer n (ccode P callf n fl b) tm h
  | .exit id, tm, h => .ret (.exit id, tm, h)
  | .ret, tm, h => .ret (.ret, tm, h)
  | _, _, _ => .fail

/-- A call that is put off: a function and its arguments; or the mark of a range over a function. -/
inductive Dfr where
  | call (g : FuncId) (args : List CV)
  | mark (id : Nat)

def dops (P : Program) (callf : CallF) (fl : Nat) (ops : Array Oper) : List Oper → Env → Heap → List Dfr → Dem (CX × Env × Heap × List Dfr)
  | [], tm, h, ds => .ret (.normal, tm, h, ds)
  | o :: rest, tm, h, ds =>
    match cwanted ops tm o with
    | none => .fail
    | some false => putK tm o.dst (.tup []) fun tm' => dops P callf fl ops rest tm' h ds
    | some true => match o.op with
      | .defer c => match c.callee with
        | .value f => match ceval tm f with
          | .fn (.func g) first cap => dops P callf fl ops rest (cput tm o.dst (.tup [])) h (.call g (first ++ c.args.toList.map (ceval tm) ++ cap) :: ds)
          | _ => .fail
        | _ => .fail
      | _ => (opRun P callf fl none tm o h).bind fun
        | .val v h' => forceV v fun v => putK tm o.dst v fun tm' => forceH o.op h' fun h' => dops P callf fl ops rest tm' h' ds
        | .pan v h' => .ret (.pan v, tm, h', ds)

def hasDefer (ops : Array Oper) : Bool := ops.toList.any fun o => match o.op with
  | .defer _ => true
  | _ => false

def hasBody (P : Program) (g : FuncId) : Bool := match P.funcs[g]? with
  | some fn => fn.body.isSome
  | none => false

/-- A range over a function: the record is laid, the function called. -/
def crangeF (P : Program) (callf : CallF) (fl : Nat) (f : Operand) (ps : Array Tmp) (assign body : Code) (tm : Env) (h : Heap) (ds : List Dfr) : Dem (CX × Env × Heap × List Dfr) :=
  match ceval tm f with
  | .fn (.func g) first cap =>
    if hasBody P g then
      (callf fl (.fn g) (first ++ [.yld (h.length + 1)] ++ cap) (h ++ [.dfd, .loop tm ps.toList assign body 0 none])).bind fun
        | .val _ h' => match h'[h.length + 1]? with
          | some (.loop _ _ _ _ st pend) =>
            if st = 1 then .fail else .ret (match pend with
              | none => .normal
              | some none => .ret
              | some (some x) => .exit x, tm, h'.set (h.length + 1) .dead, .mark h.length :: ds)
          | _ => .fail
        | .pan v h' => .ret (.pan v, tm, h', .mark h.length :: ds)
    else .fail
  | _ => .fail

/-- Code whose defers stand at its top level. -/
def dcode (P : Program) (callf : CallF) (n fl : Nat) : Code → Env → Heap → List Dfr → Dem (CX × Env × Heap × List Dfr)
  | .seq a b, tm, h, ds => (dcode P callf n fl a tm h ds).bind fun
    | (.normal, tm', h', ds') => dcode P callf n fl b tm' h' ds'
    | r => .ret r
  | .cond c a b, tm, h, ds => match ceval tm c with
    | .bool true => dcode P callf n fl a tm h ds
    | .bool false => dcode P callf n fl b tm h ds
    | _ => .fail
  | .block id b, tm, h, ds => (dcode P callf n fl b tm h ds).bind fun
    | (.exit id', tm', h', ds') => if id' = id then .ret (.normal, tm', h', ds') else .ret (.exit id', tm', h', ds')
    | r => .ret r
  | .scope b, tm, h, ds => dcode P callf n fl b tm h ds
  | .rangeFunc f ps assign body, tm, h, ds => crangeF P callf fl f ps assign body tm h ds
  | .region id ops draw, tm, h, ds => if !draw && hasDefer ops then dops P callf fl ops ops.toList tm h ds else (ccode P callf n fl (.region id ops draw) tm h).bind fun (x, tm', h') => .ret (x, tm', h', ds)
  | c, tm, h, ds => (ccode P callf n fl c tm h).bind fun (x, tm', h') => .ret (x, tm', h', ds)

/-- How the caller of a deferred call stands: no panic is under way; one is, of this value; it was, and has been recovered. -/
inductive Mode where
  | calm
  | up (v : CV)
  | got (v : CV)

def hasRecover (ops : Array Oper) : Bool := ops.toList.any fun o => match o.op with
  | .call c => match c.callee with
    | .builtin .recover => true
    | _ => false
  | _ => false

/-- Operations that call nothing. -/
def isStill : Op → Bool
  | .move _ | .assign _ | .pick _ _ _ | .load _ _ | .store _ _ _ | .binOp _ _ _ _ _ | .unOp _ _ _ | .makeInterface _ _ | .field _ _ _ | .fieldAddr _ _ _ | .typeAssert _ _ _ _ | .extract _ _ => true
  | _ => false

def sops (P : Program) (callf : CallF) (fl : Nat) (ops : Array Oper) : List Oper → Env → Heap → Mode → Dem (CX × Env × Heap × Mode)
  | [], tm, h, m => .ret (.normal, tm, h, m)
  | o :: rest, tm, h, m =>
    match cwanted ops tm o with
    | none => .fail
    | some false => putK tm o.dst (.tup []) fun tm' => sops P callf fl ops rest tm' h m
    | some true => if hasRecover #[o] then (match m with
        | .up v => sops P callf fl ops rest (cput tm o.dst v) h (.got v)
        | m => sops P callf fl ops rest (cput tm o.dst .nili) h m)
      else if !isStill o.op then .fail else (opRun P callf fl none tm o h).bind fun
        | .val v h' => forceV v fun v => putK tm o.dst v fun tm' => forceH o.op h' fun h' => sops P callf fl ops rest tm' h' m
        | .pan v h' => .ret (.pan v, tm, h', m)

/-- A deferred call's code whose recovers stand at its top level. -/
def scode (P : Program) (callf : CallF) (n fl : Nat) : Code → Env → Heap → Mode → Dem (CX × Env × Heap × Mode)
  | .seq a b, tm, h, m => (scode P callf n fl a tm h m).bind fun
    | (.normal, tm', h', m') => scode P callf n fl b tm' h' m'
    | r => .ret r
  | .region id ops draw, tm, h, m => if !draw && hasRecover ops then sops P callf fl ops ops.toList tm h m else (ccode P callf n fl (.region id ops draw) tm h).bind fun (x, tm', h') => .ret (x, tm', h', m)
  | c, tm, h, m => (ccode P callf n fl c tm h).bind fun (x, tm', h') => .ret (x, tm', h', m)

/-- A value with what it points to in the heap from block n on written out. -/
def deepRead (h : Heap) (n : Nat) : Nat → CV → Option CV
  | 0, _ => none
  | k + 1, v => match v with
    | .hp id off => if id < n then some v else match h[id]? with
      | some (.row cells) => if off ≤ cells.length then ((cells.drop off).mapM (deepRead h n k)).map .rp else none
      | _ => none
    | .hs id off len sz _ => if id < n then some v else match h[id]? with
      | some (.row cells) => if off + len * sz ≤ cells.length then (((cells.drop off).take (len * sz)).mapM (deepRead h n k)).map fun cs => .rs cs len sz none else none
      | _ => none
    | .hm id => if id < n then some v else none
    | .yld id => if id < n then some v else none
    | .rp cells => (cells.mapM (deepRead h n k)).map .rp
    | .rs cells len sz cap => (cells.mapM (deepRead h n k)).map fun cs => .rs cs len sz cap
    | .agg cs => (cs.mapM (deepRead h n k)).map .agg
    | .tup cs => (cs.mapM (deepRead h n k)).map .tup
    | .iface t v => (deepRead h n k v).map (.iface t)
    | .fn f a b => match a.mapM (deepRead h n k), b.mapM (deepRead h n k) with
      | some a, some b => some (.fn f a b)
      | _, _ => none
    | v => some v

def cresult (P : Program) (tm : Env) (h : Heap) : ResultVar → Option CV
  | .tmp t => some (tm.getD t .any)
  | .cell a t => cload P t h (tm.getD a .any)

def cresults (P : Program) (rs : Array ResultVar) (tm : Env) (h : Heap) : Option CV :=
  match rs.toList.mapM (cresult P tm h) with
  | some [v] => some v
  | some vs => some (.tup vs)
  | none => none

/-- The deferred calls, one by one, and the end. -/
def cleave (P : Program) (callf : CallF) (n fl : Nat) (fn : Func) (tm : Env) : List Dfr → Mode → Heap → Dem Out
  | [], .calm, h => match cresults P fn.results tm h with
    | some v => .ret (.val v h)
    | none => .fail
  | [], .up v, h => .ret (.pan v h)
  | [], .got _, _ => .fail
  | .mark id :: ds, m, h => match h[id]? with
    | some .dfd => if fl ≤ id then cleave P callf n fl fn tm ds m (h.set id .dead) else .fail
    | _ => .fail
  | .call g args :: ds, m, h => match P.funcs[g]? with
    | none => .fail
    | some gn => match gn.body with
      | none => .fail
      | some c => forceL (args ++ List.replicate (gn.ntmps - args.length) (.tup [])) fun tm1 => (scode P callf n fl c tm1 h m).bind fun
        | (.normal, tm', h', m') | (.ret, tm', h', m') => match cresults P gn.results tm' h' with
          | none => .fail
          | some _ => cleave P callf n fl fn tm ds (match m' with
            | .got _ => .calm
            | m => m) h'
        | (.pan v, _, h', .calm) => cleave P callf n fl fn tm ds (.up v) h'
        | _ => .fail

def setAll (tm : Env) (l : List (Tmp × CV)) : Env := l.foldl (fun tm x => tm.set x.1 x.2) tm

/-- A round ends: j: the jump that it leaves. -/
def cend (id : Nat) (j : Option (Option Nat)) (h : Heap) : Dem Out := match h[id]? with
  | some (.loop a b c d 1 _) => .ret (.val (.bool j.isNone) (h.set id (.loop a b c d (if j.isNone then 0 else 2) j)))
  | _ => .fail

/-- A round of a range over a function. -/
def cround (P : Program) (callf : CallF) (n fl id : Nat) (args : List CV) (h : Heap) : Dem Out := match h[id]? with
  | some (.loop tm ps assign body 0 _) =>
    if fl ≤ id ∧ args.length = ps.length then
      (ccode P callf n fl assign (setAll tm (ps.zip args)) h).bind fun
        | (.normal, tm1, h1) => match h1[id]? with
          | some (.loop a b c d 0 e) => (ccode P callf n fl body tm1 (h1.set id (.loop a b c d 1 e))).bind fun
            | (.normal, _, h2) => cend id none h2
            | (.ret, _, h2) => cend id (some none) h2
            | (.exit x, _, h2) => cend id (some (some x)) h2
            | (.pan _, _, _) => .fail
          | _ => .fail
        | _ => .fail
    else .fail
  | _ => .fail

def ccall (P : Program) (cfg : Cfg) : Nat → CallF
  | 0, _, _, _, _ => .fail
  | n + 1, fl, .rnd id, args, h => cround P (ccall P cfg n) n fl id args h
  | n + 1, fl, .fn f, args, h =>
    match cfg.spec f with
    | some g => match g args with
      | some v => .ret (.val v h)
      | none => .fail
    | none =>
    match P.funcs[f]? with
    | none => .fail
    | some fn =>
      match fn.body with
      | none => match cfg.ext f args with
        | some v => .ret (.val v h)
        | none => .fail
      | some c =>
        if cfg.dfr f then
          forceL (args ++ List.replicate (fn.ntmps - args.length) (.tup [])) fun tm => (dcode P (ccall P cfg n) n fl c tm h []).bind fun
            | (.normal, tm, h', ds) | (.ret, tm, h', ds) => cleave P (ccall P cfg n) n fl fn tm ds .calm h'
            | (.pan v, tm, h', ds) => cleave P (ccall P cfg n) n fl fn tm ds (.up v) h'
            | (.exit _, _, _, _) => .fail
        else if cfg.apart f then
          forceL (args ++ List.replicate (fn.ntmps - args.length) (.tup [])) fun tm => (ccode P (ccall P cfg n) n h.length c tm h).bind fun
            | (.normal, tm, h') | (.ret, tm, h') => match (cresults P fn.results tm h').bind (deepRead h' h.length 1000) with
              | some v => .ret (.val v h)
              | none => .fail
            | (.pan v, _, h') => match deepRead h' h.length 1000 v with
              | some v => .ret (.pan v h)
              | none => .fail
            | (.exit _, _, _) => .fail
        else
          forceL (args ++ List.replicate (fn.ntmps - args.length) (.tup [])) fun tm => (ccode P (ccall P cfg n) n fl c tm h).bind fun
            | (.normal, tm, h') | (.ret, tm, h') => match cresults P fn.results tm h' with
              | some v => .ret (.val v h')
              | none => .fail
            | (.pan v, _, h') => .ret (.pan v h')
            | (.exit _, _, _) => .fail

end
end Go.CE

/- The lean code, its transformer, and how the model's code becomes it. -/
import Derived.Test.YtjklebickfcddaaDoorSepF
import Derived.Deep.LoopGhost
import Derived.Scope
namespace Go.Proofs.YtjklebickfcddaaDoor.Sep
open Go.RowKit
set_option linter.unusedVariables false
set_option linter.unusedSimpArgs false
set_option linter.constructorNameAsVariable false

inductive ACode where
  | skip
  | reg (ops : List AOper)
  | seq (a b : ACode)
  | cond (c : Operand) (a b : ACode)
  | block (id : Nat) (b : ACode)
  | loop (b : ACode)
  | exit (id : Nat)
  | ret
  deriving Inhabited

/-- Is a guarded operation carried out? -/
def goes (t : T) : Option (Nat × Bool) → Bool
  | none => true
  | some (d, want) => match t d with
    | .bool b => b == want
    | _ => false

def step (P : Program) (o : AOper) (K : T → H → Prop) (t : T) (h : H) : Prop :=
  if goes t o.guard = true then aop P o.op (ev t) h fun v e => e.ok h → K (puto t o.dst v) (e.app h) else K (puto t o.dst undef) h

def aops (P : Program) : List AOper → (T → H → Prop) → T → H → Prop
  | [], K => K
  | o :: r, K => step P o (aops P r K)

/-- 'n': what is to hold where the code goes on; 'e': where it leaves a block; 'r': where it returns. -/
def awp (P : Program) : ACode → (n : T → H → Prop) → (e : Nat → T → H → Prop) → (r : T → H → Prop) → T → H → Prop
  | .skip, n, _, _, t, h => n t h
  | .reg ops, n, _, _, t, h => aops P ops n t h
  | .seq a b, n, e, r, t, h => awp P a (fun t h => awp P b n e r t h) e r t h
  | .cond c a b, n, e, r, t, h => match ev t c with
    | .bool v => (v = true → awp P a n e r t h) ∧ (v = false → awp P b n e r t h)
    | _ => False
  | .block id b, n, e, r, t, h => awp P b n (fun i t h => if i = id then n t h else e i t h) r t h
  | .loop b, n, e, r, t, h => ∃ (I : Nat → T → H → Prop) (k : Nat), I k t h ∧ ∀ k t h, I k t h → awp P b (fun t h => ∃ k', k' < k ∧ I k' t h) e r t h
  | .exit id, _, e, _, t, h => e id t h
  | .ret, _, _, r, t, h => r t h

/-! ### From the model's code -/

def compGuard (ops : Array Oper) (o : Oper) : Option (Option (Nat × Bool)) :=
  match o.guard with
  | none => some none
  | some (j, want) => ((ops[j]?).bind (·.dst)).map fun d => some (d, want)

def compOper (P : Program) (N : Nat) (ops : Array Oper) (o : Oper) : Option AOper :=
  (compOp P o).bind fun op => (compGuard ops o).bind fun g =>
    if (o.dst.all (· < N)) then some ⟨o.dst, op, g⟩ else none

def opsTmps : List Operand → List Nat := fun l => l.filterMap fun | .tmp t => some t | _ => none

/-- What an operation looks at. -/
def AOp.reads : AOp → List Operand
  | .mv x | .ld _ x | .un _ x | .cvi _ x | .fa _ x | .fd _ _ x | .ext x _ | .lenS x | .lenT x | .lenM x | .nilS _ x | .b2s x | .cvs x | .box _ x | .s2b _ x | .clr _ x => [x]
  | .pick c a b => [c, a, b]
  | .ldb b _ x => [x, b]
  | .bld _ ps | .mks _ _ _ ps => ps.map (·.2.2)
  | .bin _ x y | .eqa _ _ _ x y | .ixA _ _ x y | .ixS _ x y | .ixV _ _ _ x y | .ixT x y | .max x y | .min x y | .mk _ _ _ x y | .appT _ x y | .st _ x y | .cpy _ x y | .cpyT x y => [x, y]
  | .slS _ x lo hi | .slA _ _ x lo hi | .slT x lo hi => x :: (lo.toList ++ hi.toList)
  | .mkf _ f c => f ++ c
  | .app _ _ _ _ av x y => x :: y :: av
  | .sta av _ x y => x :: y :: av
  | .alloc .. | .mkm | .bad => []
  | .call _ as | .callp _ as => as
  | .callv f as => f :: as

def AOper.looks (o : AOper) : List Nat := opsTmps o.op.reads ++ (match o.guard with | some (g, _) => [g] | none => [])

/-- 0: it yields a value of its operands alone; 1: of memory, too; 2: it lays new memory; 3: a pure call; 4: it turns memory. -/
def AOp.class : AOp → Nat
  | .ld .. | .ldb .. | .lenM _ | .b2s _ => 1
  | .alloc .. | .box .. | .mks .. | .mk .. | .mkm => 2
  | .callp .. => 3
  | .st .. | .sta .. | .app .. | .appT .. | .cpy .. | .cpyT .. | .clr .. | .bad | .call .. | .callv .. | .s2b .. => 4
  | _ => 0

/-- Where an operation reads memory. -/
def AOp.at : AOp → Option Operand
  | .ldb b _ _ => some b
  | _ => none

/-- May a reader stand behind 'y'? -/
def passes (x : AOp) : AOp → Bool
  | .app _ _ _ _ av _ _ => match x.at with
    | some (.tmp k) => av.any fun | .tmp j => j == k | _ => false
    | _ => false
  | .sta av _ _ _ => match x.at with
    | some (.tmp k) => av.any fun | .tmp j => j == k | _ => false
    | _ => false
  | y => y.class ≤ 3

/-- May 'x; y' be carried out as 'y; x'? -/
def mayTurn (x y : AOper) : Bool :=
  (x.dst.all fun d => !y.looks.contains d && y.dst != some d) && (y.dst.all fun d => !x.looks.contains d) &&
  match x.op.class with
  | 0 => true
  | 1 => passes x.op y.op
  | 2 | 3 => y.op.class == 2
  | _ => (match x.op with | .st .. => true | _ => false) && y.op.class == 2

/-- The canonical order of a region that draws: values first, new memory last. -/
def canon (ops : List AOper) (bef : List Nat) : (fuel : Nat) → (left : List Nat) → List Nat → List Nat
  | 0, _, acc => acc.reverse
  | f + 1, left, acc =>
    let ready := left.filter fun i => left.all fun j => j == i || !(bef.getD i 0).testBit j
    let cls (i : Nat) : Nat := ((ops[i]?).map (·.op.class)).getD 9
    match (ready.find? fun i => cls i ≤ 1).or ((ready.find? fun i => cls i ≥ 3).or ((ready.find? fun i => left.any fun j => (bef.getD j 0).testBit i && cls j ≥ 3).or (ready.find? fun _ => true))) with
    | none => acc.reverse
    | some i => canon ops bef f (left.filter (· != i)) (i :: acc)

/-- A call in a region that draws is a pure one. -/
def pureCall (o : AOper) : AOper :=
  match o.op with
  | .call f l => { o with op := .callp f l }
  | _ => o

/-- Of what an address in the region was reckoned. -/
def baseOf (l : List AOper) : Nat → Operand → Operand
  | 0, x => x
  | f + 1, .tmp k => match l.find? fun o => o.dst == some k with
    | some o => match o.op with
      | .fa _ y | .ixA _ _ y _ | .ixS _ y _ | .mv y => baseOf l f y
      | _ => .tmp k
    | none => .tmp k
  | _, x => x

def floats (bef : List Nat) (i j : Nat) : Bool := !(i == j) && !((bef.getD j 0).testBit i) && !((bef.getD i 0).testBit j)

/-- A load beside an append tells of what its address was reckoned. -/
def based (l : List AOper) (bef : List Nat) (i : Nat) (o : AOper) : AOper :=
  match o.op with
  | .ld n x => if (l.zipIdx.any fun p => (match p.1.op with | .app .. => true | .st .. => true | _ => false) && floats bef i p.2) then { o with op := .ldb (baseOf l 20 x) n x } else o
  | _ => o

/-- An append in a region that draws avoids what readers beside it read. -/
def avoiding (l : List AOper) (bef : List Nat) (j : Nat) (o : AOper) : AOper :=
  match o.op with
  | .app e sz by' z _ s x => { o with op := .app e sz by' z ((List.range l.length).filterMap fun i =>
      if floats bef i j then (l[i]?).bind (·.op.at) else none) s x }
  | .st n a x => match (List.range l.length).filterMap fun i => if floats bef i j then (l[i]?).bind (·.op.at) else none with
    | [] => o
    | av => { o with op := .sta av n a x }
  | _ => o

/-- Does nothing but what yields a value float beside it? -/
def settled (l : List AOper) (bef : List Nat) (j : Nat) : Bool := l.zipIdx.all fun p => !(floats bef p.2 j) || p.1.op.class == 0
def callAs (m : Bool) (l : List AOper) (bef : List Nat) (j : Nat) (o : AOper) : AOper := if m && settled l bef j then o else pureCall o

/-- The operations of a region that draws, as they are told. -/
def retold (m : Bool) (l : List AOper) (bef : List Nat) : List AOper :=
  let l := l.zipIdx.map fun p => callAs m l bef p.2 p.1
  let l := l.zipIdx.map fun p => based l bef p.2 p.1
  l.zipIdx.map fun p => avoiding l bef p.2 p.1

/-- Is each of the list, with each behind it, in order or free to turn? -/
def turnsOk (ops : List AOper) (bef : List Nat) : List Nat → Bool
  | [] => true
  | i :: r => (r.all fun j => (bef.getD j 0).testBit i || (match ops[i]?, ops[j]? with | some x, some y => mayTurn x y | _, _ => false)) && turnsOk ops bef r

/-- What an operation waits for does not stand behind it. -/
def topoOk (ops : Array Oper) : List Nat → Bool
  | [] => true
  | i :: r => ((ops[i]?).map fun o => o.after.toList.all fun e => !Region.binds .any e || (decide (e.on < ops.size) && !r.contains e.on && e.on != i)).getD false && topoOk ops r

def befOk (ops : Array Oper) (bef : List Nat) : Bool :=
  (List.range ops.size).all fun j => ((ops[j]?).map fun o => (List.range ops.size).all fun i => (bef.getD j 0).testBit i →
    (o.after.toList.any fun e => Region.binds .any e && (e.on == i || (bef.getD e.on 0).testBit i))).getD false

def compRegD (P : Program) (ops : Array Oper) (l : List AOper) (m : Bool) : Option (List AOper) :=
  let bef := (Region.before ops).toList
  let l := retold m l bef
  let c := canon l bef ops.size (List.range ops.size) []
  if P.follows .mixedOrders = true ∧ c.length = ops.size ∧ c.all (· < ops.size) = true ∧ c.Nodup ∧ turnsOk l bef c = true ∧ befOk ops bef = true ∧ topoOk ops c = true then c.mapM (l[·]?) else none
def compReg (P : Program) (N : Nat) (ops : Array Oper) (draw : Bool) : Option (List AOper) :=
  (ops.toList.mapM (compOper P N ops)).bind fun l =>
    if draw then (match compRegD P ops l true with
      | some r => some r
      | none => compRegD P ops l false)
    else some l

def compC (P : Program) (N : Nat) : Code → Option ACode
  | .skip => some .skip
  | .region _ ops draw => (compReg P N ops draw).map .reg
  | .seq a b => (compC P N a).bind fun a => (compC P N b).map fun b => .seq a b
  | .cond c a b => (compC P N a).bind fun a' => (compC P N b).map fun b' => .cond c a' b'
  | .block id b => (compC P N b).map (.block id)
  | .loop b => (compC P N b).map .loop
  | .exit id => some (.exit id)
  | .ret => some .ret
  | .label _ => some .skip
  | _ => none

end Go.Proofs.YtjklebickfcddaaDoor.Sep

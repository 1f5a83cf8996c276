/- A symbolic heap over the kit's worlds, and a lean copy of the code: definitions. -/
import Derived.WalkKit
import Derived.Below
import Derived.Orders
import Derived.Laws.AppendOwn
import Derived.Laws.MakeOwn
namespace Go.Proofs.YtjklebickfcddaaDoor.Sep
open Go.RowKit
set_option linter.unusedVariables false
set_option linter.unusedSimpArgs false
set_option linter.constructorNameAsVariable false

/-- What is known of a block: a row of cells (the first ones; so many more behind them), or an object as it is. 'own': it may be written. -/
inductive Blk where
  | row (own : Bool) (e : TypeId) (cs : List Value) (ex : Nat)
  | obj (own : Bool) (o : Obj)

def Blk.own : Blk → Bool
  | .row own _ _ _ => own
  | .obj own _ => own

def Obj.isRow : Obj → Bool
  | .cells .. => true
  | _ => false

def Blk.ok : Blk → Obj → Prop
  | .row own e cs ex, o => ∃ c fr, o = .cells c e fr ∧ c.size = cs.length + ex ∧ c.toList.take cs.length = cs ∧ (own = true → fr = (0, 0)) ∧ (own = true → ∀ v ∈ cs, v.oneCell' = true)
  | .obj _ x, o => o = x ∧ Obj.isRow x = false

abbrev H := Nat → Option Blk
abbrev T := Nat → Value

def upd (h : H) (b : Nat) (k : Blk) : H := fun x => if x = b then some k else h x
def erase (h : H) (b : Nat) : H := fun x => if x = b then none else h x
def join (h d : H) : H := fun x => (d x).or (h x)
def emp : H := fun _ => none
def single (b : Nat) (k : Blk) : H := fun x => if x = b then some k else none
def put (t : T) (d : Nat) (v : Value) : T := fun x => if x = d then v else t x
def puto (t : T) : Option Nat → Value → T
  | some d, v => put t d v
  | none, _ => t

def Le (h h' : H) : Prop := ∀ b k, h b = some k → h' b = some k
def Dis (h d : H) : Prop := ∀ b, (d b).isSome = true → h b = none
/-- 'b' is none of the blocks of 'h'. -/
def New (h : H) (b : Nat) : Prop := ∀ x, (h x).isSome = true → ¬ x = b ∧ ¬ b = x

/-- What bounds a call: below 'b' the world is as it was; a block of the heap is one of 's', or it was laid from 'n' on. -/
structure Bd where
  b : Nat
  s : Nat → Prop
  n : Nat

/-- The heap 'h' tells truly of the world 'w', which below block 'B' is as 'w0' was. -/
structure Sat (B : Bd) (w0 w : World) (h : H) : Prop where
  below : Below B.b w0 w
  base : B.b ≤ w.heap.size
  blk : ∀ b k, h b = some k → (∃ o, w.heap[b]? = some o ∧ k.ok o) ∧ (k.own = true → B.b ≤ b)
  grow : B.n ≤ w.heap.size
  old : ∀ b, (h b).isSome = true → B.s b ∨ B.n ≤ b

/-- The frame's temporaries. -/
structure TR (N : Nat) (t : T) (a : Act) : Prop where
  size : a.tmps.size = N
  get : ∀ k, a.tmps.getD k undef = t k
  defers : a.defers = []

def ev (t : T) : Operand → Value
  | .tmp k => t k
  | .const v => v
  | .global g => .pointer (some ⟨g, 0, none⟩)
  | .func f => .func (.func f) #[] #[]

/-- What becomes of the heap. -/
inductive Eff where
  | keep
  | new (d : H)
  | ovr (b : Nat) (k : Blk)
  | set (h : H)

def Eff.app : Eff → H → H
  | .keep, h => h
  | .new d, h => join h d
  | .ovr b k, h => upd h b k
  | .set h', _ => h'

/-- A pure call: whatever else lies in memory, 'f' returns, memory that was there is as it was, and what is new is told by 'Φ'. -/
def Spec (P : Program) (f : FuncId) (args : List Value) (h : H) (Φ : Value → H → Prop) : Prop :=
  ∀ hr, Le h hr → ∀ B w0 w, Sat B w0 w hr → Calls P f args.toArray w fun e w' => ∃ r d, e = .returned r ∧ Φ r d ∧ Dis hr d ∧ Sat B w0 w' (join hr d)

/-- A call that may turn memory: 'Φ' tells the result and the whole heap behind it. -/
def SpecW (P : Program) (f : FuncId) (args : List Value) (h : H) (Φ : Value → H → Prop) : Prop :=
  ∀ B w0 w, Sat B w0 w h → Calls P f args.toArray w fun e w' => ∃ r h', e = .returned r ∧ Φ r h' ∧ Sat B w0 w' h'

/-! ### Operations -/

/-- What kind of thing a cell holds. -/
inductive Sg where
  | i (k : IntKind)
  | b
  | s
  deriving DecidableEq

inductive AOp where
  | mv (x : Operand)
  | pick (c a b : Operand)
  | bld (zero : List Value) (parts : List (Nat × Nat × Operand))
  | ld (n : Option Nat) (x : Operand)
  | ldb (base : Operand) (n : Option Nat) (x : Operand)
  | bin (op : BinOp) (x y : Operand)
  | eqa (neg agg : Bool) (sg : List Sg) (x y : Operand)
  | un (op : UnOp) (x : Operand)
  | cvi (k : IntKind) (x : Operand)
  | slS (sz : Nat) (x : Operand) (lo hi : Option Operand)
  | slA (n sz : Nat) (x : Operand) (lo hi : Option Operand)
  | slT (x : Operand) (lo hi : Option Operand)
  | fa (off : Nat) (x : Operand)
  | fd (n : Option Nat) (off : Nat) (x : Operand)
  | ixA (len sz : Nat) (x i : Operand)
  | ixS (sz : Nat) (x i : Operand)
  | ixV (len sz : Nat) (n : Option Nat) (x i : Operand)
  | ixT (x i : Operand)
  | ext (x : Operand) (i : Nat)
  | lenS (x : Operand)
  | lenT (x : Operand)
  | lenM (x : Operand)
  | nilS (neg : Bool) (x : Operand)
  | max (x y : Operand)
  | min (x y : Operand)
  | mkf (fn : Fn) (first cap : List Operand)
  | b2s (x : Operand)
  | cvs (x : Operand)
  | alloc (e : TypeId) (zero : List Value)
  | box (e : TypeId) (x : Operand)
  | mks (e : TypeId) (zero : List Value) (len : Nat) (parts : List (Nat × Nat × Operand))
  | mk (e : TypeId) (bytes : Nat) (zero : List Value) (l c : Operand)
  | app (e : TypeId) (sz bytes : Nat) (zero : List Value) (av : List Operand) (s x : Operand)
  | appT (e : TypeId) (s x : Operand)
  | s2b (e : TypeId) (x : Operand)
  | st (n : Nat) (a x : Operand)
  | sta (av : List Operand) (n : Nat) (a x : Operand)
  | cpy (sz : Nat) (d s : Operand)
  | cpyT (d s : Operand)
  | clr (zero : List Value) (x : Operand)
  | bad
  | call (f : FuncId) (args : List Operand)
  | callp (f : FuncId) (args : List Operand)
  | callv (fv : Operand) (args : List Operand)
  | mkm
  deriving Inhabited

structure AOper where
  dst : Option Nat
  op : AOp
  guard : Option (Nat × Bool)
  deriving Inhabited

def grd {α : Type} (c : Prop) [Decidable c] (x : Option α) : Option α := if c then x else none

def OK {α : Type} (x : Option α) (K : α → Prop) : Prop := ∃ v, x = some v ∧ K v

abbrev inI64 (n : Int) : Prop := -9223372036854775808 ≤ n ∧ n ≤ 9223372036854775807

def aint : BinOp → IntKind → Int → Int → Option Value
  | .add, k, a, b => some (.int k (k.wrap (a + b)))
  | .sub, k, a, b => some (.int k (k.wrap (a - b)))
  | .mul, k, a, b => some (.int k (k.wrap (a * b)))
  | .quo, k, a, b => grd (b ≠ 0) (some (.int k (k.wrap (a.tdiv b))))
  | .rem, k, a, b => grd (b ≠ 0) (some (.int k (a.tmod b)))
  | .and, k, a, b => some (.int k (k.wrap ((BitVec.ofInt k.bits a &&& BitVec.ofInt k.bits b).toNat)))
  | .or, k, a, b => some (.int k (k.wrap ((BitVec.ofInt k.bits a ||| BitVec.ofInt k.bits b).toNat)))
  | .xor, k, a, b => some (.int k (k.wrap ((BitVec.ofInt k.bits a ^^^ BitVec.ofInt k.bits b).toNat)))
  | .andNot, k, a, b => some (.int k (k.wrap ((BitVec.ofInt k.bits a &&& ~~~(BitVec.ofInt k.bits b)).toNat)))
  | .eql, _, a, b => some (.bool (a == b))
  | .neq, _, a, b => some (.bool (a != b))
  | .lss, _, a, b => some (.bool (decide (a < b)))
  | .leq, _, a, b => some (.bool (decide (a ≤ b)))
  | .gtr, _, a, b => some (.bool (decide (a > b)))
  | .geq, _, a, b => some (.bool (decide (a ≥ b)))
  | _, _, _, _ => none

def ashift : BinOp → IntKind → Int → Int → Option Value
  | .shl, k, a, b => grd (0 ≤ b) (some (.int k (k.wrap (a * 2 ^ (Nat.min b.toNat k.bits)))))
  | .shr, k, a, b => grd (0 ≤ b) (some (.int k (a.fdiv (2 ^ (Nat.min b.toNat k.bits)))))
  | _, _, _, _ => none

def astr : BinOp → ByteArray → ByteArray → Option Value
  | .add, x, y => grd (((x.size + y.size : Nat) : Int) ≤ 9223372036854775807) (some (.string (x ++ y)))
  | .eql, x, y => some (.bool (x.toList == y.toList))
  | .neq, x, y => some (.bool !(x.toList == y.toList))
  | .lss, x, y => some (.bool (Op.bytesLess x.toList y.toList))
  | .leq, x, y => some (.bool (Op.bytesLess x.toList y.toList || x.toList == y.toList))
  | .gtr, x, y => some (.bool !(Op.bytesLess x.toList y.toList || x.toList == y.toList))
  | .geq, x, y => some (.bool !(Op.bytesLess x.toList y.toList))
  | _, _, _ => none

def isSh : BinOp → Bool
  | .shl | .shr => true
  | _ => false

def abin (op : BinOp) : Value → Value → Option Value
  | .int k a, .int k' b => if isSh op then ashift op k a b else grd (k = k') (aint op k a b)
  | .string a, .string b => astr op a b
  | _, _ => none

/-- Equality of two cells that are numbers, bools or strings, and of rows of such cells. -/
def veq : Sg → Value → Value → Option Bool
  | .i k, .int k1 a, .int k2 b => grd (k1 = k ∧ k2 = k) (some (a == b))
  | .b, .bool a, .bool b => some (a == b)
  | .s, .string a, .string b => some (a == b)
  | _, _, _ => none

def leq : List Sg → List Value → List Value → Option Bool
  | [], [], [] => some true
  | s :: ss, x :: xs, y :: ys => (veq s x y).bind fun b => if b then leq ss xs ys else (leq ss xs ys).bind fun _ => some false
  | _, _, _ => none

def aeqa (neg : Bool) (sg : List Sg) (x y : Value) : Option Value :=
  (leq sg x.cells.toList y.cells.toList).bind fun b => some (.bool (if neg then !b else b))

def isAggV : Value → Bool
  | .agg _ => true
  | _ => false

def aun : UnOp → Value → Option Value
  | .neg, .int k n => some (.int k (k.wrap (-n)))
  | .not, .bool b => some (.bool !b)
  | _, _ => none

def acvi (k : IntKind) : Value → Option Value
  | .int _ n => some (.int k (k.wrap n))
  | _ => none

def apick : Value → Value → Value → Option Value
  | .bool c, a, b => some (if c then a else b)
  | _, _, _ => none

/-- Cells put over others. -/
def fillL : List Value → List (Nat × Nat × Value) → Option (List Value)
  | cs, [] => some cs
  | cs, (off, n, v) :: r => grd (v.cells.size = n ∧ off + n ≤ cs.length) (fillL (cs.take off ++ v.cells.toList ++ cs.drop (off + n)) r)

def abld (zero : List Value) (parts : List (Nat × Nat × Value)) : Option Value := (fillL zero parts).bind fun cs => some (.agg cs.toArray)

/-- So many cells of a list from a place on, as a value: one cell, or an aggregate. -/
def cellsAt (cs : List Value) (off : Nat) : Option Nat → Option Value
  | none => grd (off < cs.length) (some (cs.getD off undef))
  | some n => grd (off + n ≤ cs.length) (some (.agg ((cs.drop off).take n).toArray))

def ldB (off : Nat) (n : Option Nat) : Option Blk → Option Value
  | some (.row _ _ cs _) => cellsAt cs off n
  | _ => none

def ald (h : H) (n : Option Nat) : Value → Option Value
  | .pointer (some ⟨b, off, none⟩) => ldB off n (h b)
  | _ => none

def afa (off : Nat) : Value → Option Value
  | .pointer (some ⟨b, o, none⟩) => some (.pointer (some ⟨b, o + off, none⟩))
  | _ => none

def afd (n : Option Nat) (off : Nat) : Value → Option Value
  | .agg cs => cellsAt cs.toList off n
  | _ => none

def aixA (len sz : Nat) : Value → Value → Option Value
  | .pointer (some ⟨b, o, none⟩), .int _ i => grd (0 ≤ i ∧ i < len) (some (.pointer (some ⟨b, o + i.toNat * sz, none⟩)))
  | _, _ => none

def aixS (sz : Nat) : Value → Value → Option Value
  | .slice (some ⟨b, o, none⟩) n _, .int _ i => grd (0 ≤ i ∧ i < n) (some (.pointer (some ⟨b, o + i.toNat * sz, none⟩)))
  | _, _ => none

def aixV (len sz : Nat) (n : Option Nat) : Value → Value → Option Value
  | .agg cs, .int _ i => grd (0 ≤ i ∧ i < len) (cellsAt cs.toList (i.toNat * sz) n)
  | _, _ => none

def aixT : Value → Value → Option Value
  | .string s, .int _ i => grd (0 ≤ i ∧ i < s.size) (some (.int .u8 (s.data.toList.getD i.toNat 0).toNat))
  | _, _ => none

def aext (i : Nat) : Value → Option Value
  | .tuple vs => vs[i]?
  | _ => none

def alenS : Value → Option Value
  | .slice _ n _ => some (.int .i64 n)
  | _ => none

def alenT : Value → Option Value
  | .string s => some (.int .i64 s.size)
  | _ => none

def alenM (h : H) : Value → Option Value
  | .map none => some (.int .i64 0)
  | .map (some b) => match h b with
    | some (.obj _ (.map es _)) => some (.int .i64 es.size)
    | _ => none
  | _ => none

def anilS (neg : Bool) : Value → Option Value
  | .slice a _ _ => some (.bool (if neg then a.isSome else a.isNone))
  | _ => none

def amax : Value → Value → Option Value
  | .int k x, .int k' y => some (.int k (if y > x then y else x))
  | _, _ => none

def amin : Value → Value → Option Value
  | .int k x, .int k' y => some (.int k (if y < x then y else x))
  | _, _ => none

/-- A bound of a slice expression. -/
def abnd (dflt : Nat) : Option Value → Option Int
  | none => some dflt
  | some (.int _ i) => some i
  | _ => none

def aslS (sz : Nat) : Value → Option Value → Option Value → Option Value
  | .slice (some ⟨b, o, none⟩) n c, lo, hi => (abnd 0 lo).bind fun l => (abnd n hi).bind fun m =>
      grd (0 ≤ l ∧ l ≤ m ∧ m ≤ c) (some (.slice (some ⟨b, if (c : Int) = l then o else o + l.toNat * sz, none⟩) (m.toNat - l.toNat) (c - l.toNat)))
  | .slice none n c, lo, hi => (abnd 0 lo).bind fun l => (abnd n hi).bind fun m =>
      grd (0 ≤ l ∧ l ≤ m ∧ m ≤ c) (some (.slice none (m.toNat - l.toNat) (c - l.toNat)))
  | _, _, _ => none

def aslA (len sz : Nat) : Value → Option Value → Option Value → Option Value
  | .pointer (some ⟨b, o, none⟩), lo, hi => (abnd 0 lo).bind fun l => (abnd len hi).bind fun m =>
      grd (0 ≤ l ∧ l ≤ m ∧ m ≤ len) (some (.slice (some ⟨b, if (len : Int) = l then o else o + l.toNat * sz, none⟩) (m.toNat - l.toNat) (len - l.toNat)))
  | _, _, _ => none

def aslT : Value → Option Value → Option Value → Option Value
  | .string s, lo, hi => (abnd 0 lo).bind fun l => (abnd s.size hi).bind fun m =>
      grd (0 ≤ l ∧ l ≤ m ∧ m ≤ s.size) (some (.string (s.extract l.toNat m.toNat)))
  | _, _, _ => none

/-- Bytes as they lie in cells. -/
def bytesOf : List Value → Option (List UInt8)
  | [] => some []
  | .int .u8 n :: r => (bytesOf r).bind fun l => some (UInt8.ofNat n.toNat :: l)
  | _ => none

def ab2s (h : H) : Value → Option Value
  | .slice none _ _ => some (.string .empty)
  | .slice (some ⟨b, o, none⟩) n _ => match h b with
    | some (.row _ _ cs _) => grd (o + n ≤ cs.length) ((bytesOf ((cs.drop o).take n)).bind fun l => some (.string ⟨l.toArray⟩))
    | _ => none
  | _ => none

def acvs : Value → Option Value
  | .string s => some (.string s)
  | _ => none

/-- The block that an address or a slice lies in. -/
def blockOf : Value → Option Nat
  | .pointer (some a) => some a.block
  | .slice (some a) _ _ => some a.block
  | _ => none

/-- The operations that yield a value and leave memory as it is. -/
def adet (h : H) (ρ : Operand → Value) : AOp → Option Value
  | .mv x => some (ρ x)
  | .pick c a b => apick (ρ c) (ρ a) (ρ b)
  | .bld zero parts => abld zero (parts.map fun p => (p.1, p.2.1, ρ p.2.2))
  | .ld n x => ald h n (ρ x)
  | .ldb base n x => grd (blockOf (ρ x) = blockOf (ρ base)) (ald h n (ρ x))
  | .bin op x y => abin op (ρ x) (ρ y)
  | .eqa neg agg sg x y => grd (isAggV (ρ x) = agg ∧ isAggV (ρ y) = agg) (aeqa neg sg (ρ x) (ρ y))
  | .un op x => aun op (ρ x)
  | .cvi k x => acvi k (ρ x)
  | .slS sz x lo hi => aslS sz (ρ x) (lo.map ρ) (hi.map ρ)
  | .slA n sz x lo hi => aslA n sz (ρ x) (lo.map ρ) (hi.map ρ)
  | .slT x lo hi => aslT (ρ x) (lo.map ρ) (hi.map ρ)
  | .fa off x => afa off (ρ x)
  | .fd n off x => afd n off (ρ x)
  | .ixA len sz x i => aixA len sz (ρ x) (ρ i)
  | .ixS sz x i => aixS sz (ρ x) (ρ i)
  | .ixV len sz n x i => aixV len sz n (ρ x) (ρ i)
  | .ixT x i => aixT (ρ x) (ρ i)
  | .ext x i => aext i (ρ x)
  | .lenS x => alenS (ρ x)
  | .lenT x => alenT (ρ x)
  | .lenM x => alenM h (ρ x)
  | .nilS neg x => anilS neg (ρ x)
  | .max x y => amax (ρ x) (ρ y)
  | .min x y => amin (ρ x) (ρ y)
  | .mkf fn first cap => some (.func fn (first.map ρ).toArray (cap.map ρ).toArray)
  | .b2s x => ab2s h (ρ x)
  | .cvs x => acvs (ρ x)
  | _ => none

end Go.Proofs.YtjklebickfcddaaDoor.Sep

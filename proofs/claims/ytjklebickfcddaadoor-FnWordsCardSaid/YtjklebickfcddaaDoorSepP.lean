/- Values read as trees, a heap of named blocks, and the code's transformer over them: definitions. -/
import Derived.Test.YtjklebickfcddaaDoorSepL
namespace Go.Proofs.YtjklebickfcddaaDoor.Sep
open Go.RowKit
set_option linter.unusedVariables false
set_option linter.unusedSimpArgs false
set_option linter.constructorNameAsVariable false

/-- A value: 'sl', 'pf': a slice, an address, of memory that is not written any more; 'rf', 'ptr': of a named block; 'own': a slice with memory that nothing else knows; 'fz': the very slice 'x' of bytes that are not written. -/
inductive V where
  | und
  | int (k : IntKind) (n : Int)
  | bool (b : Bool)
  | str (s : List UInt8)
  | agg (l : List V)
  | tup (l : List V)
  | ptr (b off : Nat)
  | nilp
  | pf (l : List V) (off : Nat)
  | sl (n : Nat) (l : List V)
  | rf (b off n : Nat)
  | nils
  | own (e : TypeId) (sz n : Nat) (l : List V)
  | fn (f : FuncId) (l : List V)
  | fz (x : Value) (l : List Int)
  deriving Inhabited

inductive Slot where
  | free
  | dead
  | row (e : TypeId) (sz : Nat) (cs : List V)

abbrev Hp := Nat → Slot
abbrev Tp := Nat → V

def hput (h : Hp) (b : Nat) (s : Slot) : Hp := fun x => if x = b then s else h x
def hnil : Hp := fun _ => .free
def tput (t : Tp) (d : Nat) (v : V) : Tp := fun x => if x = d then v else t x
def tputo (t : Tp) : Option Nat → V → Tp
  | some d, v => tput t d v
  | none, _ => t
def tund : Tp := fun _ => .und

/-- Where a name's block lies: its number, all its cells, the cells of an element. -/
abbrev Iota := Nat → Option (Nat × Nat × Nat)
def Dj (d e : H) : Prop := ∀ x, d x = none ∨ e x = none

/-- A slice of bytes that are not written. -/
def FZ (F : H) (l : List Int) (v : Value) : Prop := (l = [] ∧ (v = .slice none 0 0 ∨ ∃ a c, v = .slice (some a) 0 c)) ∨
  ∃ b o c, v = .slice (some ⟨b, o, none⟩) l.length c ∧ l.length ≤ c ∧ (l = [] ∨ ∃ own e cs ex, F b = some (.row own e cs ex) ∧ o + l.length ≤ cs.length ∧ (cs.drop o).take l.length = l.map (Value.int .u8))

mutual
/-- 'v' is told by a value without own memory. -/
def R (ι : Iota) (F : H) : V → Value → Prop
  | .und, _ => True
  | .int k n, v => v = .int k n
  | .bool b, v => v = .bool b
  | .str s, v => v = .string ⟨s.toArray⟩
  | .agg l, v => ∃ cs : List Value, v = .agg cs.toArray ∧ RL ι F l cs
  | .tup l, v => ∃ cs : List Value, v = .tuple cs.toArray ∧ RL ι F l cs
  | .ptr b off, v => ∃ b' tot sz, ι b = some (b', tot, sz) ∧ v = .pointer (some ⟨b', off, none⟩)
  | .nilp, v => v = .pointer none
  | .pf l off, v => ∃ b o own e cs ex, v = .pointer (some ⟨b, o + off, none⟩) ∧ F b = some (.row own e cs ex) ∧ o + l.length ≤ cs.length ∧ RL ι F l ((cs.drop o).take l.length)
  | .sl n l, v => (n = 0 ∧ l = [] ∧ (v = .slice none 0 0 ∨ ∃ a c, v = .slice (some a) 0 c)) ∨
      ∃ b o c, v = .slice (some ⟨b, o, none⟩) n c ∧ n ≤ c ∧ (l = [] ∨ ∃ own e cs ex, F b = some (.row own e cs ex) ∧ o + l.length ≤ cs.length ∧ RL ι F l ((cs.drop o).take l.length))
  | .rf b off n, v => ∃ b' tot sz off' c, ι b = some (b', tot, sz) ∧ v = .slice (some ⟨b', off', none⟩) n c ∧ (n ≠ 0 ∨ off = 0 → off' = off) ∧ n ≤ c ∧ c ≤ maxLen ∧ (off = 0 → c * sz = tot ∧ (sz = 0 → c = 0))
  | .nils, v => v = .slice none 0 0
  | .own .., _ => False
  | .fn f l, v => ∃ cs : List Value, v = .func (.func f) #[] cs.toArray ∧ RL ι F l cs
  | .fz x l, v => v = x ∧ FZ F l v
def RL (ι : Iota) (F : H) : List V → List Value → Prop
  | [], r => r = []
  | a :: l, r => ∃ v r', r = v :: r' ∧ R ι F a v ∧ RL ι F l r'
end

mutual
/-- 'v' is told by a value whose own memory is 'd'. -/
def OV (ι : Iota) (F : H) : V → Value → H → Prop
  | .own e sz n l, v, d => ∃ b c rcs ex d', v = .slice (some ⟨b, 0, none⟩) n c ∧ n ≤ c ∧ c ≤ maxLen ∧ c * sz = rcs.length + ex ∧ (sz = 0 → c = 0) ∧ l.length ≤ rcs.length ∧
      d = join (single b (.row true e rcs ex)) d' ∧ d' b = none ∧ OL ι F l (rcs.take l.length) d'
  | .agg l, v, d => ∃ cs : List Value, v = .agg cs.toArray ∧ OL ι F l cs d
  | .tup l, v, d => ∃ cs : List Value, v = .tuple cs.toArray ∧ OL ι F l cs d
  | .und, v, d => d = emp ∧ R ι F .und v
  | .int k n, v, d => d = emp ∧ R ι F (.int k n) v
  | .bool b, v, d => d = emp ∧ R ι F (.bool b) v
  | .str s, v, d => d = emp ∧ R ι F (.str s) v
  | .ptr b o, v, d => d = emp ∧ R ι F (.ptr b o) v
  | .nilp, v, d => d = emp ∧ R ι F .nilp v
  | .pf l o, v, d => d = emp ∧ R ι F (.pf l o) v
  | .sl n l, v, d => d = emp ∧ R ι F (.sl n l) v
  | .rf b o n, v, d => d = emp ∧ R ι F (.rf b o n) v
  | .nils, v, d => d = emp ∧ R ι F .nils v
  | .fn f l, v, d => d = emp ∧ R ι F (.fn f l) v
  | .fz x l, v, d => d = emp ∧ R ι F (.fz x l) v
def OL (ι : Iota) (F : H) : List V → List Value → H → Prop
  | [], r, d => r = [] ∧ d = emp
  | a :: l, r, d => ∃ v r' d1 d2, r = v :: r' ∧ d = join d1 d2 ∧ Dj d1 d2 ∧ OV ι F a v d1 ∧ OL ι F l r' d2
end

/-- A named block, and what it stands for. -/
def LiveB (ι : Iota) (F : H) (b : Nat) (e : TypeId) (sz : Nat) (cs : List V) (d : H) : Prop :=
  ∃ b' rcs ex d', ι b = some (b', rcs.length + ex, sz) ∧ d = join (single b' (.row true e rcs ex)) d' ∧ d' b' = none ∧ cs.length ≤ rcs.length ∧ OL ι F cs (rcs.take cs.length) d'

/-- 'h' tells of the memory 'g': of the parts 'D'; what is 'F' of it is not written. -/
structure Hold (ι : Iota) (F : H) (h : Hp) (D : Nat → H) (g : H) : Prop where
  live : ∀ b e sz cs, h b = .row e sz cs → LiveB ι F b e sz cs (D b)
  idle : ∀ b, (∀ e sz cs, h b ≠ .row e sz cs) → D b = emp
  sub : ∀ b, Le (D b) g
  dj : ∀ b b2, b ≠ b2 → Dj (D b) (D b2)
  djF : ∀ b, Dj (D b) F
  dom : ∀ b, 64 ≤ b → h b = .free → ι b = .none
  leF : Le F g

def iext (ι ι' : Iota) : Prop := ∀ b p, ι b = some p → ι' b = some p
/-- What a call leaves as it is: memory that is not written; where the blocks lie that it was handed, whose names are below 64. -/
structure Fr where
  F : H
  ι : Iota
  lt : ∀ b p, ι b = some p → b < 64
def Sim (F0 : Fr) (t : Tp) (h : Hp) (u : T) (g : H) : Prop :=
  ∃ ι F D, (Le F0.F F ∧ iext F0.ι ι) ∧ Hold ι F h D g ∧ ∀ k, R ι F (t k) (u k)

/-! ### Operations -/
mutual
def ofVal : Value → V
  | .int k n => .int k n
  | .bool b => .bool b
  | .string s => .str s.data.toList
  | .slice none 0 0 => .nils
  | .pointer none => .nilp
  | .agg ⟨l⟩ => .agg (ofVals l)
  | .func (.func f) ⟨[]⟩ ⟨[]⟩ => .fn f []
  | _ => .und
def ofVals : List Value → List V
  | [] => []
  | v :: l => ofVal v :: ofVals l
end

def toVal : V → Option Value
  | .int k n => some (.int k n)
  | .bool b => some (.bool b)
  | .str s => some (.string ⟨s.toArray⟩)
  | _ => none

def pev (t : Tp) : Operand → V
  | .tmp k => t k
  | .const v => ofVal v
  | .global _ => .und
  | .func f => .fn f []

mutual
/-- A value as it is seen where nothing is written. -/
def vw : V → V
  | .own _ _ n l => .sl n (vws l)
  | .agg l => .agg (vws l)
  | .tup l => .tup (vws l)
  | .ptr .. => .und
  | .rf .. => .und
  | .fn f l => .fn f (vws l)
  | .fz x l => .fz x l
  | .pf l o => .pf (vws l) o
  | .sl n l => .sl n (vws l)
  | .und => .und
  | .int k n => .int k n
  | .bool b => .bool b
  | .str s => .str s
  | .nilp => .nilp
  | .nils => .nils
def vws : List V → List V
  | [] => []
  | v :: l => vw v :: vws l
end

mutual
/-- The same of a value that names blocks. -/
def dv (h : Hp) : V → V
  | .rf b off n => match h b with
    | .row _ sz cs => .sl n (vws ((cs.drop off).take (n * sz)))
    | _ => .und
  | .agg l => .agg (dvs h l)
  | .tup l => .tup (dvs h l)
  | .fn f l => .fn f (dvs h l)
  | .fz x l => .fz x l
  | .own e sz n l => vw (.own e sz n l)
  | .ptr b off => match h b with
    | .row _ _ cs => .pf (vws cs) off
    | _ => .und
  | .pf l o => .pf (vws l) o
  | .sl n l => .sl n (vws l)
  | .und => .und
  | .int k n => .int k n
  | .bool b => .bool b
  | .str s => .str s
  | .nilp => .nilp
  | .nils => .nils
def dvs (h : Hp) : List V → List V
  | [] => []
  | v :: l => dv h v :: dvs h l
end

/-- Has it no own memory? -/
def plain1 : V → Bool
  | .own .. | .agg _ | .tup _ => false
  | _ => true
def noOwn (l : List V) : Bool := l.all plain1
/-- May it lie in a cell? -/
def cell1 : V → Bool
  | .und | .agg _ | .tup _ | .own .. => false
  | _ => true
def cellsV : V → List V
  | .agg l => l
  | v => [v]
/-- Are its cells known? -/
def cellOk : V → Bool
  | .agg _ => true
  | v => cell1 v

def vcellsAt (cs : List V) (off : Nat) : Option Nat → Option V
  | none => grd (off < cs.length) (some (cs.getD off .und))
  | some n => grd (off + n ≤ cs.length) (some (.agg ((cs.drop off).take n)))

def vfill : List V → List (Nat × Nat × V) → Option (List V)
  | cs, [] => some cs
  | cs, (off, n, v) :: r => grd (cellOk v = true ∧ (cellsV v).length = n ∧ off + n ≤ cs.length) (vfill (cs.take off ++ cellsV v ++ cs.drop (off + n)) r)

def setV (cs : List V) (off : Nat) : List V → List V
  | [v] => cs.set off v
  | vs => cs.take off ++ vs ++ cs.drop (off + vs.length)

def lift1 (f : Value → Option Value) (x : V) : Option V := (toVal x).bind fun a => (f a).map ofVal
def lift2 (f : Value → Value → Option Value) (x y : V) : Option V := (toVal x).bind fun a => (toVal y).bind fun b => (f a b).map ofVal

def vveq (s : Sg) (x y : V) : Option Bool := (toVal x).bind fun a => (toVal y).bind fun b => veq s a b
def vleq : List Sg → List V → List V → Option Bool
  | [], [], [] => some true
  | s :: ss, x :: xs, y :: ys => (vveq s x y).bind fun b => if b then vleq ss xs ys else (vleq ss xs ys).bind fun _ => some false
  | _, _, _ => none
def isAggP : V → Bool
  | .agg _ => true
  | _ => false
def veqa (neg ag : Bool) (sg : List Sg) (x y : V) : Option V :=
  grd (cellOk x = true ∧ cellOk y = true ∧ isAggP x = ag ∧ isAggP y = ag) ((vleq sg (cellsV x) (cellsV y)).bind fun b => some (.bool (if neg then !b else b)))

def vpick : V → V → V → Option V
  | .bool c, a, b => some (if c then a else b)
  | _, _, _ => none

def vfa (off : Nat) : V → Option V
  | .ptr b o => some (.ptr b (o + off))
  | .pf l o => some (.pf l (o + off))
  | _ => none
def vfd (n : Option Nat) (off : Nat) : V → Option V
  | .agg l => vcellsAt l off n
  | _ => none
def vixA (len sz : Nat) : V → V → Option V
  | .ptr b o, .int _ i => grd (0 ≤ i ∧ i < len) (some (.ptr b (o + i.toNat * sz)))
  | .pf l o, .int _ i => grd (0 ≤ i ∧ i < len) (some (.pf l (o + i.toNat * sz)))
  | _, _ => none
def vixS (sz : Nat) : V → V → Option V
  | .rf b o n, .int _ i => grd (0 ≤ i ∧ i < n) (some (.ptr b (o + i.toNat * sz)))
  | .sl n l, .int _ i => grd (0 ≤ i ∧ i < n ∧ i.toNat * sz < l.length) (some (.pf l (i.toNat * sz)))
  | .fz _ l, .int _ i => grd (0 ≤ i ∧ i < l.length ∧ sz = 1) (some (.pf (l.map (V.int .u8)) i.toNat))
  | _, _ => none
def vixV (len sz : Nat) (n : Option Nat) : V → V → Option V
  | .agg l, .int _ i => grd (0 ≤ i ∧ i < len) (vcellsAt l (i.toNat * sz) n)
  | _, _ => none
def vixT : V → V → Option V
  | .str s, .int _ i => grd (0 ≤ i ∧ i < s.length) (some (.int .u8 (s.getD i.toNat 0).toNat))
  | _, _ => none
def vext (i : Nat) : V → Option V
  | .tup l => l[i]?
  | _ => none
def vlenS : V → Option V
  | .rf _ _ n => some (.int .i64 n)
  | .sl n _ => some (.int .i64 n)
  | .fz _ l => some (.int .i64 l.length)
  | .nils => some (.int .i64 0)
  | _ => none
def vlenT : V → Option V
  | .str s => some (.int .i64 s.length)
  | _ => none
def vnilS (neg : Bool) : V → Option V
  | .nils => some (.bool !neg)
  | .rf .. => some (.bool neg)
  | .sl (_ + 1) _ => some (.bool neg)
  | _ => none
def vbnd (dflt : Nat) : Option V → Option Int
  | none => some dflt
  | some (.int _ i) => some i
  | _ => none
def vslS (sz : Nat) : V → Option V → Option V → Option V
  | .sl n l, lo, hi => (vbnd 0 lo).bind fun a => (vbnd n hi).bind fun m =>
      grd (0 < n ∧ 0 ≤ a ∧ a ≤ m ∧ m ≤ n ∧ n * sz ≤ l.length) (some (.sl (m.toNat - a.toNat) ((l.drop (a.toNat * sz)).take ((m.toNat - a.toNat) * sz))))
  | .rf b o n, lo, hi => (vbnd 0 lo).bind fun a => (vbnd n hi).bind fun m =>
      grd (0 ≤ a ∧ a ≤ m ∧ m ≤ n ∧ (0 < sz ∨ a = 0)) (some (.rf b (o + a.toNat * sz) (m.toNat - a.toNat)))
  | .nils, lo, hi => (vbnd 0 lo).bind fun a => (vbnd 0 hi).bind fun m => grd (a = 0 ∧ m = 0) (some .nils)
  | _, _, _ => none
def vslT : V → Option V → Option V → Option V
  | .str s, lo, hi => (vbnd 0 lo).bind fun a => (vbnd s.length hi).bind fun m =>
      grd (0 ≤ a ∧ a ≤ m ∧ m ≤ s.length) (some (.str ((s.drop a.toNat).take (m.toNat - a.toNat))))
  | _, _, _ => none
def vbytes : List V → Option (List UInt8)
  | [] => some []
  | .int .u8 n :: r => (vbytes r).bind fun l => some (UInt8.ofNat n.toNat :: l)
  | _ => none
def vb2s (h : Hp) : V → Option V
  | .nils => some (.str [])
  | .sl n l => grd (0 < n ∧ n ≤ l.length) ((vbytes (l.take n)).bind fun s => some (.str s))
  | .rf b o n => match h b with
    | .row _ _ cs => grd ((0 < n ∨ o = 0) ∧ o + n ≤ cs.length) ((vbytes ((cs.drop o).take n)).bind fun s => some (.str s))
    | _ => none
  | _ => none
def vmkf (fn : Fn) (first cap : List V) : Option V :=
  match fn, first with
  | .func f, [] => some (.fn f cap)
  | _, _ => none

def vdet (h : Hp) (ρ : Operand → V) : AOp → Option V
  | .mv x => some (ρ x)
  | .pick c a b => vpick (ρ c) (ρ a) (ρ b)
  | .bld zero parts => (vfill (ofVals zero) (parts.map fun p => (p.1, p.2.1, ρ p.2.2))).bind fun cs => some (.agg cs)
  | .bin op x y => lift2 (abin op) (ρ x) (ρ y)
  | .eqa neg ag sg x y => veqa neg ag sg (ρ x) (ρ y)
  | .un op x => lift1 (aun op) (ρ x)
  | .cvi k x => lift1 (acvi k) (ρ x)
  | .slS sz x lo hi => vslS sz (ρ x) (lo.map ρ) (hi.map ρ)
  | .slT x lo hi => vslT (ρ x) (lo.map ρ) (hi.map ρ)
  | .fa off x => vfa off (ρ x)
  | .fd n off x => vfd n off (ρ x)
  | .ixA len sz x i => vixA len sz (ρ x) (ρ i)
  | .ixS sz x i => vixS sz (ρ x) (ρ i)
  | .ixV len sz n x i => vixV len sz n (ρ x) (ρ i)
  | .ixT x i => vixT (ρ x) (ρ i)
  | .ext x i => vext i (ρ x)
  | .lenS x => vlenS (ρ x)
  | .lenT x => vlenT (ρ x)
  | .nilS neg x => vnilS neg (ρ x)
  | .max x y => lift2 amax (ρ x) (ρ y)
  | .min x y => lift2 amin (ρ x) (ρ y)
  | .mkf fn first cap => vmkf fn (first.map ρ) (cap.map ρ)
  | .b2s x => vb2s h (ρ x)
  | .cvs x => lift1 acvs (ρ x)
  | _ => none

/-- A cell that is read: own memory is written no more from then on, or it gets a name. -/
def ldc (h : Hp) (b : Nat) (e : TypeId) (sz : Nat) (cs : List V) (off : Nat) (K : V → Hp → Prop) : V → Prop
  | .own e2 sz2 n l => K (.sl n (vws l)) (hput h b (.row e sz (cs.set off (.sl n (vws l))))) ∨
      ∃ d, (64 ≤ d ∧ h d = .free) ∧ K (.rf d 0 n) (hput (hput h b (.row e sz (cs.set off (.rf d 0 n)))) d (.row e2 sz2 l))
  | .agg _ | .tup _ => False
  | v => K v h

def Rq (c X : Prop) : Prop := c ∧ X

def pldB (h : Hp) (b off : Nat) (n : Option Nat) (K : V → Hp → Prop) : Slot → Prop
  | .row e sz cs => match n with
    | none => Rq (off < cs.length) (ldc h b e sz cs off K (cs.getD off .und))
    | some m => Rq (off + m ≤ cs.length ∧ noOwn ((cs.drop off).take m) = true) (K (.agg ((cs.drop off).take m)) h)
  | _ => False
def pld (h : Hp) (n : Option Nat) (K : V → Hp → Prop) : V → Prop
  | .ptr b off => pldB h b off n K (h b)
  | .pf l off => OK (vcellsAt l off n) fun v => K v h
  | _ => False

/-- A load beside an append: of which block. -/
def sameB : V → V → Prop
  | .ptr b _, .ptr b2 _ => b = b2
  | .ptr b _, .rf b2 _ _ => b = b2
  | _, _ => False

def pstB (h : Hp) (b off m : Nat) (vs : List V) (K : V → Hp → Prop) : Slot → Prop
  | .row e sz cs => Rq (vs.length = m ∧ off + m ≤ cs.length ∧ vs.all cell1 = true) (K .und (hput h b (.row e sz (setV cs off vs))))
  | _ => False
def pst (h : Hp) (m : Nat) (vs : List V) (K : V → Hp → Prop) : V → Prop
  | .ptr b off => pstB h b off m vs K (h b)
  | _ => False

/-- A new block with a name. -/
def pnew (h : Hp) (b : Nat) (e : TypeId) (sz : Nat) (cs : List V) (X : Prop) : Prop := Rq (h b = .free) X

def preadB (sz o n : Nat) : Slot → Option (Nat × List V)
  | .row _ _ cs => grd (o + n * sz ≤ cs.length ∧ noOwn ((cs.drop o).take (n * sz)) = true) (some (n, (cs.drop o).take (n * sz)))
  | _ => none
def preadS (sz : Nat) (h : Hp) : V → Option (Nat × List V)
  | .nils => some (0, [])
  | .sl n l => grd (0 < sz ∧ n * sz ≤ l.length) (some (n, l.take (n * sz)))
  | .rf b o n => preadB sz o n (h b)
  | _ => none

/-- Elements copied into a slice. -/
def pcpyV (sz : Nat) (h : Hp) (K : V → Hp → Prop) (m : Nat) (news : List V) : V → Prop
  | .rf b off n => if min m n = 0 then K (.int .i64 0) h else pst h (min m n * sz) (news.take (min m n * sz)) (fun _ h => K (.int .i64 (min m n : Nat)) h) (.ptr b off)
  | .nils => K (.int .i64 0) h
  | _ => False
/-- A slice that is cleared. -/
def pclrV (z : List V) (h : Hp) (K : V → Hp → Prop) : V → Prop
  | .rf b off n => if n = 0 then K (.tup []) h else pst h (n * z.length) (List.replicate n z).flatten (fun _ h => K (.tup []) h) (.ptr b off)
  | .nils => K (.tup []) h
  | _ => False

def papB (e : TypeId) (sz bytes d : Nat) (h : Hp) (K : V → Hp → Prop) (b n m : Nat) (news : List V) : Slot → Prop
  | .row e' sz' cs => Rq (e' = e ∧ (sz' = sz ∨ sz' = 0) ∧ 0 < sz ∧ n * sz ≤ cs.length ∧ n + m ≤ maxLen ∧ (n + m) * bytes ≤ 140737488355328 ∧ h d = .free)
      (K (.rf d 0 (n + m)) (hput (hput h b .dead) d (.row e sz (cs.take (n * sz) ++ news))))
  | _ => False
def papV (e : TypeId) (sz bytes d : Nat) (h : Hp) (K : V → Hp → Prop) (m : Nat) (news : List V) : V → Prop
  | .rf b 0 n => papB e sz bytes d h K b n m news (h b)
  | .nils => (m = 0 → K .nils h) ∧ (0 < m → Rq (0 < sz ∧ m ≤ maxLen ∧ m * bytes ≤ 140737488355328 ∧ h d = .free) (K (.rf d 0 m) (hput h d (.row e sz news))))
  | _ => False

def isRow : Slot → Prop
  | .row .. => True
  | _ => False
/-- None of these lies in the block of the slice. -/
def pavoid (h : Hp) (s : V) : V → Prop
  | .ptr b _ => match s with
    | .rf b2 _ _ => b ≠ b2 ∧ isRow (h b)
    | .nils => True
    | _ => False
  | .rf b _ _ => match s with
    | .rf b2 _ _ => b ≠ b2 ∧ isRow (h b)
    | .nils => True
    | _ => False
  | .sl _ l => l ≠ []
  | .int .. | .bool _ | .str _ | .agg _ | .nilp | .nils | .pf .. => True
  | _ => False
/-- The same of what is stored to. -/
def pavoidP (h : Hp) (a y : V) : Prop := match a with
  | .ptr b o => pavoid h (.rf b o 0) y
  | _ => False


mutual
/-- Own memory of a result gets names, from a number on. -/
def mat : V → Nat → V × List (Nat × TypeId × Nat × List V) × Nat
  | .own e sz n l, c => (.rf c 0 n, [(c, e, sz, l)], c + 1000)
  | .agg l, c => let r := mats l c; (.agg r.1, r.2)
  | .tup l, c => let r := mats l c; (.tup r.1, r.2)
  | .und, c => (.und, [], c)
  | .int k n, c => (.int k n, [], c)
  | .bool b, c => (.bool b, [], c)
  | .str s, c => (.str s, [], c)
  | .ptr b o, c => (.ptr b o, [], c)
  | .nilp, c => (.nilp, [], c)
  | .pf l o, c => (.pf l o, [], c)
  | .sl n l, c => (.sl n l, [], c)
  | .rf b o n, c => (.rf b o n, [], c)
  | .nils, c => (.nils, [], c)
  | .fn f l, c => (.fn f l, [], c)
  | .fz x l, c => (.fz x l, [], c)
def mats : List V → Nat → List V × List (Nat × TypeId × Nat × List V) × Nat
  | [], c => ([], [], c)
  | v :: l, c => let r := mat v c; let q := mats l r.2.2; (r.1 :: q.1, r.2.1 ++ q.2.1, q.2.2)
end

def hputs (h : Hp) : List (Nat × TypeId × Nat × List V) → Hp
  | [] => h
  | p :: l => hputs (hput h p.1 (.row p.2.1 p.2.2.1 p.2.2.2)) l
def allFree (h : Hp) : List (Nat × TypeId × Nat × List V) → Prop
  | [] => True
  | p :: l => h p.1 = .free ∧ allFree (hput h p.1 (.row p.2.1 p.2.2.1 p.2.2.2)) l

def folds (f : Hp → V → Option (V × Hp)) : Hp → List V → Option (List V × Hp)
  | h, [] => some ([], h)
  | h, v :: l => (f h v).bind fun p => (folds f p.2 l).map fun q => (p.1 :: q.1, q.2)

/-- The tree of a value: its blocks are taken out of the heap. -/
def fin : Nat → Hp → V → Option (V × Hp)
  | 0, _, _ => none
  | n + 1, h, .rf b o k => match h b with
    | .row e sz cs => grd (o = 0 ∧ k * sz ≤ cs.length ∧ (sz = 0 → cs = [])) ((folds (fin n) (hput h b .dead) (cs.take (k * sz))).map fun p => (.own e sz k p.1, p.2))
    | _ => none
  | n + 1, h, .agg l => (folds (fin n) h l).map fun p => (.agg p.1, p.2)
  | n + 1, h, .tup l => (folds (fin n) h l).map fun p => (.tup p.1, p.2)
  | _ + 1, _, .ptr .. => none
  | _ + 1, h, v => some (v, h)
/-- A block's cells as trees. -/
def closeB (h : Hp) (b : Nat) : Option Hp := match h b with
  | .row e sz cs => (folds (fin 4) (hput h b .dead) cs).map fun p => hput p.2 b (.row e sz p.1)
  | _ => none
def closeAll : Hp → List Nat → Option Hp
  | h, [] => some h
  | h, b :: l => (closeB h b).bind fun h' => closeAll h' l

def boxesOf (h : Hp) : List (Nat × TypeId × Nat) → Option (List (List V))
  | [] => some []
  | p :: l => match h p.1 with
    | .row e sz cs => grd (e = p.2.1 ∧ sz = p.2.2) ((boxesOf h l).map fun r => cs :: r)
    | _ => none
def hputb (h : Hp) : List (Nat × TypeId × Nat) → List (List V) → Hp
  | p :: l, cs :: r => hput (hputb h l r) p.1 (.row p.2.1 p.2.2 cs)
  | _, _ => h
def names (bx : List (Nat × TypeId × Nat)) : List Nat := bx.map (·.1)

def ι0 : Iota := fun _ => none
/-- A pure call: of values, to a value. -/
def PSpec (P : Program) (f : FuncId) (vs : List V) (Φ : V → Prop) : Prop :=
  ∀ (F : H) (rs : List Value), RL ι0 F vs rs → Spec P f rs F fun r d => ∃ v, Φ v ∧ OV ι0 emp v r d

/-- A pure call whose result may share memory with the arguments: 'd1' is not written any more, 'd2' is the result's own. -/
def PSpecV (P : Program) (f : FuncId) (vs : List V) (Φ : V → Prop) : Prop :=
  ∀ (F : H) (rs : List Value), RL ι0 F vs rs → Spec P f rs F fun r d => ∃ v d1 d2, Φ v ∧ d = join d1 d2 ∧ Dj d1 d2 ∧ OV ι0 (join F d1) v r d2

mutual
/-- No named block, nothing that is only looked at. -/
def clo : V → Bool
  | .own _ _ _ l => clos l
  | .agg l => clos l
  | .tup l => clos l
  | .int .. | .bool _ | .str _ | .nilp | .nils | .und => true
  | _ => false
def clos : List V → Bool
  | [] => true
  | v :: l => clo v && clos l
end
def closs : List (List V) → Bool
  | [] => true
  | l :: r => clos l && closs r
/-- The first cell holds a slice of bytes that was there before. -/
def fzH : List V → List V → Prop
  | .fz x l :: _, .fz y m :: r => (y = x ∧ m = l) ∧ clos r = true
  | _, _ => False
/-- Nothing that is only looked at, but for what was there before. -/
def closK : List (List V) → List (List V) → Prop
  | _, [] => True
  | [], c :: r => clos c = true ∧ closK [] r
  | a :: k, c :: r => (clos c = true ∨ fzH a c) ∧ closK k r
mutual
/-- No named block. -/
def nrf : V → Bool
  | .own _ _ _ l => nrfs l
  | .agg l => nrfs l
  | .tup l => nrfs l
  | .fn _ l => nrfs l
  | .sl _ l => nrfs l
  | .pf l _ => nrfs l
  | .ptr .. | .rf .. => false
  | .int .. | .bool _ | .str _ | .nilp | .nils | .und | .fz .. => true
def nrfs : List V → Bool
  | [] => true
  | v :: l => nrf v && nrfs l
end
/-- What comes of a call: it is only looked at, or it is one's own. -/
def Pure (P : Program) (f : FuncId) (vs : List V) (d : Nat) (h : Hp) (K : V → Hp → Prop) : Prop :=
  (∃ Φ, PSpec P f (dvs h vs) Φ ∧ ((∀ v, Φ v → K (vw v) h) ∨ (∀ v, Φ v → Rq (allFree h (mat v d).2.1) (K (mat v d).1 (hputs h (mat v d).2.1))))) ∨
    (nrfs vs = true ∧ ∃ Φ, PSpecV P f vs Φ ∧ ((∀ v, Φ v → K (vw v) h) ∨ (∀ v, Φ v → Rq (allFree h (mat v d).2.1) (K (mat v d).1 (hputs h (mat v d).2.1)))))

def nrfss : List (List V) → Bool
  | [] => true
  | l :: r => nrfs l && nrfss r

/-- A call that turns blocks which it is handed: they have the names of 'bx', below 64, and the cells 'cells'; behind it there are a result and the blocks' new cells. -/
def PSpecM (P : Program) (f : FuncId) (vs : List V) (bx : List (Nat × TypeId × Nat)) (cells : List (List V)) (Φ : V → List (List V) → Prop) : Prop :=
  ∀ ι F D rs g, Hold ι F (hputb hnil bx cells) D g → RL ι F vs rs → SpecW P f rs g fun r g' => ∃ v cs, Φ v cs ∧ closK cells cs ∧ cs.length = bx.length ∧
    ∃ F' D' d, Le F F' ∧ Hold ι F' (hputb hnil bx cs) D' g' ∧ OV ι0 emp v r d ∧ Le d g' ∧ Dj d F' ∧ ∀ b, Dj d (D' b)

/-- The same of a call that returns a slice of a block that it was handed. -/
def PSpecMR (P : Program) (f : FuncId) (vs : List V) (bx : List (Nat × TypeId × Nat)) (cells : List (List V)) (Φ : Nat → Nat → Nat → List (List V) → Prop) : Prop :=
  ∀ ι F D rs g, Hold ι F (hputb hnil bx cells) D g → RL ι F vs rs → SpecW P f rs g fun r g' => ∃ j o n cs, Φ j o n cs ∧ closK cells cs ∧ cs.length = bx.length ∧
    ∃ F' D', Le F F' ∧ Hold ι F' (hputb hnil bx cs) D' g' ∧ R ι F' (.rf j o n) r

/-- Told by the arguments of a call, or by nothing. -/
def keepV (vs : List V) (v : V) : Prop := (clo v = true ∧ plain1 v = true) ∨ ∃ x l, v = .fz x l ∧ v ∈ vs
/-- A call that returns the address of a new block. -/
def PSpecB (P : Program) (f : FuncId) (vs : List V) (Φ : TypeId → List V → Prop) : Prop :=
  ∀ (F : H) (rs : List Value), RL ι0 F vs rs → Spec P f rs F fun r d => ∃ e cells b rcs ex, Φ e cells ∧ r = .pointer (some ⟨b, 0, none⟩) ∧ d = single b (.row true e rcs ex) ∧ cells.length ≤ rcs.length ∧ RL ι0 F cells (rcs.take cells.length)
def PNew (P : Program) (f : FuncId) (vs : List V) (d : Nat) (h : Hp) (K : V → Hp → Prop) : Prop :=
  nrfs vs = true ∧ ∃ Φ, PSpecB P f vs Φ ∧ ∀ e cells, Φ e cells → Rq (h d = .free) (K (.ptr d 0) (hput h d (.row e 1 cells)))

/-- The number of a block among those that are handed on. -/
def nm : List Nat → Nat → Option Nat
  | [], _ => none
  | b :: l, x => if x = b then some 0 else (nm l x).map (· + 1)
def mvR (h : Hp) (b off n : Nat) : Option Nat → V
  | some j => .rf j off n
  | none => dv h (.rf b off n)
def mvP (h : Hp) (b off : Nat) : Option Nat → V
  | some j => .ptr j off
  | none => dv h (.ptr b off)
mutual
/-- An argument as such a call sees it. -/
def mv (bs : List Nat) (h : Hp) : V → V
  | .rf b off n => mvR h b off n (nm bs b)
  | .ptr b off => mvP h b off (nm bs b)
  | .agg l => .agg (mvs bs h l)
  | .tup l => .tup (mvs bs h l)
  | .fn f l => .fn f (mvs bs h l)
  | .fz x l => .fz x l
  | .own e sz n l => vw (.own e sz n l)
  | .pf l o => .pf (vws l) o
  | .sl n l => .sl n (vws l)
  | .und => .und
  | .int k n => .int k n
  | .bool b => .bool b
  | .str s => .str s
  | .nilp => .nilp
  | .nils => .nils
def mvs (bs : List Nat) (h : Hp) : List V → List V
  | [] => []
  | v :: l => mv bs h v :: mvs bs h l
end
/-- The blocks that are handed on: their types, their cells. -/
def handB (h : Hp) : List Nat → Nat → Option (List (Nat × TypeId × Nat) × List (List V))
  | [], _ => some ([], [])
  | b :: l, j => match h b with
    | .row e sz cs => (handB h l (j + 1)).map fun p => ((j, e, sz) :: p.1, cs :: p.2)
    | _ => none
def hputs2 (h : Hp) : List Nat → List (Nat × TypeId × Nat) → List (List V) → Hp
  | b :: l, p :: bx, cs :: r => hputs2 (hput h b (.row p.2.1 p.2.2 cs)) l bx r
  | _, _, _ => h
/-- Such a call, its blocks chosen. -/
def CallM (P : Program) (f : FuncId) (d : Nat) (h : Hp) (K : V → Hp → Prop) (bs : List Nat) (bx : List (Nat × TypeId × Nat)) (cells : List (List V)) (ws : List V) : Prop :=
  ∃ Φ, PSpecM P f ws bx cells Φ ∧ ((∀ v cs, Φ v cs → K (vw v) (hputs2 h bs bx cs)) ∨
    (∀ v cs, Φ v cs → Rq (allFree (hputs2 h bs bx cs) (mat v d).2.1) (K (mat v d).1 (hputs (hputs2 h bs bx cs) (mat v d).2.1))))
def CallMR (P : Program) (f : FuncId) (h : Hp) (K : V → Hp → Prop) (bs : List Nat) (bx : List (Nat × TypeId × Nat)) (cells : List (List V)) (ws : List V) : Prop :=
  ∃ Φ, PSpecMR P f ws bx cells Φ ∧ ∀ j o n cs, Φ j o n cs → ∀ b, bs[j]? = some b → K (.rf b o n) (hputs2 h bs bx cs)
def TurnsR (P : Program) (f : FuncId) (vs : List V) (h : Hp) (K : V → Hp → Prop) : Prop :=
  ∃ bs : List Nat, (decide bs.Nodup && decide (bs.length ≤ 64)) = true ∧ OK (closeAll h bs) fun h1 => OK (handB h1 bs 0) fun q => Rq (nrfss q.2 = true) (CallMR P f h1 K bs q.1 q.2 (mvs bs h1 vs))
def TurnsA (P : Program) (f : FuncId) (vs : List V) (d : Nat) (h : Hp) (K : V → Hp → Prop) : Prop :=
  ∃ bs : List Nat, (decide bs.Nodup && decide (bs.length ≤ 64)) = true ∧ OK (closeAll h bs) fun h1 => OK (handB h1 bs 0) fun q => Rq (nrfss q.2 = true) (CallM P f d h1 K bs q.1 q.2 (mvs bs h1 vs))

def Turns (P : Program) (f : FuncId) (vs : List V) (d : Nat) (h : Hp) (K : V → Hp → Prop) : Prop := TurnsA P f vs d h K ∨ TurnsR P f vs h K

def pcall (P : Program) (f : FuncId) (vs : List V) (d : Nat) (h : Hp) (K : V → Hp → Prop) : Prop := Pure P f vs d h K ∨ (Turns P f vs d h K ∨ PNew P f vs d h K)

def pcallv (P : Program) (args : List V) (d : Nat) (h : Hp) (K : V → Hp → Prop) : V → Prop
  | .fn f cap => Rq (isFn P f = true) (pcall P f (args ++ cap) d h K)
  | _ => False

def pop (P : Program) (d : Nat) (op : AOp) (ρ : Operand → V) (h : Hp) (K : V → Hp → Prop) : Prop :=
  match op with
  | .ld n x => pld h n K (ρ x)
  | .ldb base n x => Rq (sameB (ρ x) (ρ base)) (pld h n K (ρ x))
  | .alloc e zero => Rq (h d = .free) (K (.ptr d 0) (hput h d (.row e 1 (ofVals zero))))
  | .box e x => Rq (h d = .free ∧ (cellsV (ρ x)).all cell1 = true) (K (.ptr d 0) (hput h d (.row e 1 (cellsV (ρ x)))))
  | .mks e zero len parts => OK (vfill (ofVals zero) (parts.map fun p => (p.1, p.2.1, ρ p.2.2))) fun cs =>
      Rq (h d = .free ∧ cs.all cell1 = true ∧ len ≤ maxLen ∧ (zero.length = if len = 0 then 0 else len * (zero.length / len)) ∧ (len = 0 ∨ zero.length ≠ 0))
        (K (.rf d 0 len) (hput h d (.row e (if len = 0 then 0 else zero.length / len) cs)))
  | .mk e bytes zero l c => match ρ l, ρ c with
    | .int _ l, .int _ c => Rq (h d = .free ∧ 0 ≤ l ∧ l ≤ c ∧ (bytes : Int) * c ≤ 281474976710656 ∧ c ≤ maxLen ∧ zero ≠ []) (K (.rf d 0 l.toNat) (hput h d (.row e zero.length ((List.replicate c.toNat (ofVals zero)).flatten))))
    | _, _ => False
  | .app e sz bytes zero av s x => OK (preadS sz h (ρ x)) fun r => Rq (r.2.all cell1 = true ∧ ∀ y ∈ av, pavoid h (ρ s) (ρ y)) (papV e sz bytes d h K r.1 r.2 (ρ s))
  | .st n a x => pst h n (cellsV (ρ x)) K (ρ a)
  | .cpy sz x y => OK (preadS sz h (ρ y)) fun r => pcpyV sz h K r.1 r.2 (ρ x)
  | .clr z x => pclrV (ofVals z) h K (ρ x)
  | .sta av n a x => Rq (∀ y ∈ av, pavoidP h (ρ a) (ρ y)) (pst h n (cellsV (ρ x)) K (ρ a))
  | .call f args => pcall P f (args.map ρ) d h K
  | .callp f args => Pure P f (args.map ρ) d h K
  | .callv fv args => pcallv P (args.map ρ) d h K (ρ fv)
  | op => OK (vdet h ρ op) fun v => K v h

/-- Is a guarded operation carried out? -/
def pgoes (t : Tp) (A B : Prop) : Option (Nat × Bool) → Prop
  | none => A
  | some (d, want) => match t d with
    | .bool b => if b = want then A else B
    | .tup [] => B
    | _ => False

def pstep (P : Program) (o : AOper) (K : Tp → Hp → Prop) (t : Tp) (h : Hp) : Prop :=
  pgoes t (pop P (o.dst.getD 0 + 64) o.op (pev t) h fun v h => K (tputo t o.dst v) h) (K (tputo t o.dst (.tup [])) h) o.guard

def pops (P : Program) : List AOper → (Tp → Hp → Prop) → Tp → Hp → Prop
  | [], K => K
  | o :: r, K => pstep P o (pops P r K)

end Go.Proofs.YtjklebickfcddaaDoor.Sep

/- Texts put together: SepA, SepB, SepC, SepD, SepE, SepF, SepG, SepH, SepI, SepJ, SepK, SepL, SepP, SepQ, SepR. -/
import Derived.WalkKit
import Derived.Below
import Derived.Orders
import Derived.Laws.AppendOwn
import Derived.Laws.MakeOwn
import Derived.WalkLawsBesides
import Derived.Laws.Cover3
import Derived.Deep.LoopGhost
import Derived.Scope
namespace Go.Proofs.YtbjbpmicnmjbfaaGreat.Sep
open Go.RowKit
set_option linter.unusedVariables false
set_option linter.unusedSimpArgs false
set_option maxRecDepth 20000
section
set_option linter.constructorNameAsVariable false
inductive Blk where
 | row (own:Bool) (e:TypeId) (cs:List Value) (ex:Nat)
 | obj (own:Bool) (o:Obj)
def Blk.own:Blk -> Bool
 | .row own _ _ _=>own
 | .obj own _=>own
def Obj.isRow:Obj -> Bool
 | .cells .. => true
 | _=>false
def Blk.ok:Blk -> Obj -> Prop
 | .row own e cs ex,o=>∃ c fr,o = .cells c e fr /\ c.size = cs.length + ex /\ c.toList.take cs.length = cs /\ (own = true -> fr = (0,0)) /\ (own = true -> ∀ v ∈ cs,v.oneCell' = true)
 | .obj _ x,o=>o = x /\ Obj.isRow x = false
abbrev H:=Nat -> Option Blk
abbrev T:=Nat -> Value
def upd (h:H) (b:Nat) (k:Blk):H:=fun x=>if x = b then some k else h x
def erase (h:H) (b:Nat):H:=fun x=>if x = b then none else h x
def join (h d:H):H:=fun x=>(d x).or (h x)
def emp:H:=fun _=>none
def single (b:Nat) (k:Blk):H:=fun x=>if x = b then some k else none
def put (t:T) (d:Nat) (v:Value):T:=fun x=>if x = d then v else t x
def puto (t:T):Option Nat -> Value -> T
 | some d,v=>put t d v
 | none,_=>t
def Le (h h':H):Prop:=∀ b k,h b = some k -> h' b = some k
def Dis (h d:H):Prop:=∀ b,(d b).isSome = true -> h b = none
def New (h:H) (b:Nat):Prop:=∀ x,(h x).isSome = true -> ¬ x = b /\ ¬ b = x
structure Bd where
 b:Nat
 s:Nat -> Prop
 n:Nat
structure Sat (B:Bd) (w0 w:World) (h:H):Prop where
 below:Below B.b w0 w
 base:B.b <= w.heap.size
 blk:∀ b k,h b = some k -> (∃ o,w.heap[b]? = some o /\ k.ok o) /\ (k.own = true -> B.b <= b)
 grow:B.n <= w.heap.size
 old:∀ b,(h b).isSome = true -> B.s b ∨ B.n <= b
structure TR (N:Nat) (t:T) (a:Act):Prop where
 size:a.tmps.size = N
 get:∀ k,a.tmps.getD k undef = t k
 defers:a.defers = []
def ev (t:T):Operand -> Value
 | .tmp k=>t k
 | .const v=>v
 | .global g=>.pointer (some ⟨g,0,none⟩)
 | .func f=>.func (.func f) #[] #[]
inductive Eff where
 | keep
 | new (d:H)
 | ovr (b:Nat) (k:Blk)
 | set (h:H)
def Eff.app:Eff -> H -> H
 | .keep,h=>h
 | .new d,h=>join h d
 | .ovr b k,h=>upd h b k
 | .set h',_=>h'
def Spec (P:Program) (f:FuncId) (args:List Value) (h:H) (Φ:Value -> H -> Prop):Prop :=
 ∀ hr,Le h hr -> ∀ B w0 w,Sat B w0 w hr -> Calls P f args.toArray w fun e w'=>∃ r d,e = .returned r /\ Φ r d /\ Dis hr d /\ Sat B w0 w' (join hr d)
def SpecW (P:Program) (f:FuncId) (args:List Value) (h:H) (Φ:Value -> H -> Prop):Prop :=
 ∀ B w0 w,Sat B w0 w h -> Calls P f args.toArray w fun e w'=>∃ r h',e = .returned r /\ Φ r h' /\ Sat B w0 w' h'
def SpecX (P:Program) (f:FuncId) (args:List Value) (h:H) (Φ:Value -> H -> Prop):Prop :=
 ∀ X,Dis h X -> SpecW P f args (join h X) fun r g=>∃ h',Φ r h' /\ Dis h' X /\ g = join h' X
theorem SpecX.w {P:Program} {f:FuncId} {args:List Value} {h:H} {Φ:Value -> H -> Prop} (hs:SpecX P f args h Φ):SpecW P f args h Φ:=by
 have e:∀ h:H,join h emp = h:=fun h=>by funext b; simp [join,emp]
 have h1:=hs emp (fun b hb=>by simp [emp] at hb)
 rw [e] at h1
 intro B w0 w hw
 refine (h1 B w0 w hw).mono ?_
 rintro x w' ⟨r,g,rfl,⟨h',hΦ,_,rfl⟩,hsat⟩
 rw [e] at hsat
 exact ⟨r,h',rfl,hΦ,hsat⟩
inductive Sg where
 | i (k:IntKind)
 | b
 | s
 deriving DecidableEq
inductive AOp where
 | mv (x:Operand)
 | pick (c a b:Operand)
 | bld (zero:List Value) (parts:List (Nat × Nat × Operand))
 | ld (n:Option Nat) (x:Operand)
 | ldb (base:Operand) (n:Option Nat) (x:Operand)
 | bin (op:BinOp) (x y:Operand)
 | eqa (neg agg:Bool) (sg:List Sg) (x y:Operand)
 | un (op:UnOp) (x:Operand)
 | cvi (k:IntKind) (x:Operand)
 | slS (sz:Nat) (x:Operand) (lo hi:Option Operand)
 | slA (n sz:Nat) (x:Operand) (lo hi:Option Operand)
 | slT (x:Operand) (lo hi:Option Operand)
 | fa (off:Nat) (x:Operand)
 | fd (n:Option Nat) (off:Nat) (x:Operand)
 | ixA (len sz:Nat) (x i:Operand)
 | ixS (sz:Nat) (x i:Operand)
 | ixV (len sz:Nat) (n:Option Nat) (x i:Operand)
 | ixT (x i:Operand)
 | ext (x:Operand) (i:Nat)
 | lenS (x:Operand)
 | lenT (x:Operand)
 | lenM (x:Operand)
 | nilS (neg:Bool) (x:Operand)
 | max (x y:Operand)
 | min (x y:Operand)
 | mkf (fn:Fn) (first cap:List Operand)
 | b2s (x:Operand)
 | cvs (x:Operand)
 | alloc (e:TypeId) (zero:List Value)
 | box (e:TypeId) (x:Operand)
 | mks (e:TypeId) (zero:List Value) (len:Nat) (parts:List (Nat × Nat × Operand))
 | mk (e:TypeId) (bytes:Nat) (zero:List Value) (l c:Operand)
 | app (e:TypeId) (sz bytes:Nat) (zero:List Value) (av:List Operand) (s x:Operand)
 | appT (e:TypeId) (s x:Operand)
 | s2b (e:TypeId) (x:Operand)
 | st (n:Nat) (a x:Operand)
 | sta (av:List Operand) (n:Nat) (a x:Operand)
 | cpy (sz:Nat) (d s:Operand)
 | cpyT (d s:Operand)
 | clr (zero:List Value) (x:Operand)
 | bad
 | call (f:FuncId) (args:List Operand)
 | callp (f:FuncId) (args:List Operand)
 | calla (av:List Operand) (f:FuncId) (args:List Operand)
 | callv (fv:Operand) (args:List Operand)
 | mkm
 deriving Inhabited
structure AOper where
 dst:Option Nat
 op:AOp
 guard:Option (Nat × Bool)
 deriving Inhabited
def grd {α:Type} (c:Prop) [Decidable c] (x:Option α):Option α:=if c then x else none
def OK {α:Type} (x:Option α) (K:α -> Prop):Prop:=∃ v,x = some v /\ K v
def aint:BinOp -> IntKind -> Int -> Int -> Option Value
 | .add,k,a,b=>some (.int k (k.wrap (a + b)))
 | .sub,k,a,b=>some (.int k (k.wrap (a - b)))
 | .mul,k,a,b=>some (.int k (k.wrap (a * b)))
 | .quo,k,a,b=>grd (b ≠ 0) (some (.int k (k.wrap (a.tdiv b))))
 | .rem,k,a,b=>grd (b ≠ 0) (some (.int k (a.tmod b)))
 | .and,k,a,b=>some (.int k (k.wrap ((BitVec.ofInt k.bits a &&& BitVec.ofInt k.bits b).toNat)))
 | .or,k,a,b=>some (.int k (k.wrap ((BitVec.ofInt k.bits a ||| BitVec.ofInt k.bits b).toNat)))
 | .xor,k,a,b=>some (.int k (k.wrap ((BitVec.ofInt k.bits a ^^^ BitVec.ofInt k.bits b).toNat)))
 | .andNot,k,a,b=>some (.int k (k.wrap ((BitVec.ofInt k.bits a &&& ~~~(BitVec.ofInt k.bits b)).toNat)))
 | .eql,_,a,b=>some (.bool (a == b))
 | .neq,_,a,b=>some (.bool (a != b))
 | .lss,_,a,b=>some (.bool (decide (a < b)))
 | .leq,_,a,b=>some (.bool (decide (a <= b)))
 | .gtr,_,a,b=>some (.bool (decide (a > b)))
 | .geq,_,a,b=>some (.bool (decide (a >= b)))
 | _,_,_,_=>none
def ashift:BinOp -> IntKind -> Int -> Int -> Option Value
 | .shl,k,a,b=>grd (0 <= b) (some (.int k (k.wrap (a * 2 ^ (Nat.min b.toNat k.bits)))))
 | .shr,k,a,b=>grd (0 <= b) (some (.int k (a.fdiv (2 ^ (Nat.min b.toNat k.bits)))))
 | _,_,_,_=>none
def astr:BinOp -> ByteArray -> ByteArray -> Option Value
 | .add,x,y=>grd (((x.size + y.size:Nat):Int) <= 9223372036854775807) (some (.string (x ++ y)))
 | .eql,x,y=>some (.bool (x.toList == y.toList))
 | .neq,x,y=>some (.bool !(x.toList == y.toList))
 | .lss,x,y=>some (.bool (Op.bytesLess x.toList y.toList))
 | .leq,x,y=>some (.bool (Op.bytesLess x.toList y.toList || x.toList == y.toList))
 | .gtr,x,y=>some (.bool !(Op.bytesLess x.toList y.toList || x.toList == y.toList))
 | .geq,x,y=>some (.bool !(Op.bytesLess x.toList y.toList))
 | _,_,_=>none
def isSh:BinOp -> Bool
 | .shl | .shr=>true
 | _=>false
def abin (op:BinOp):Value -> Value -> Option Value
 | .int k a,.int k' b=>if isSh op then ashift op k a b else grd (k = k') (aint op k a b)
 | .string a,.string b=>astr op a b
 | _,_=>none
def veq:Sg -> Value -> Value -> Option Bool
 | .i k,.int k1 a,.int k2 b=>grd (k1 = k /\ k2 = k) (some (a == b))
 | .b,.bool a,.bool b=>some (a == b)
 | .s,.string a,.string b=>some (a == b)
 | _,_,_=>none
def leq:List Sg -> List Value -> List Value -> Option Bool
 | [],[],[]=>some true
 | s :: ss,x :: xs,y :: ys=>(veq s x y).bind fun b=>if b then leq ss xs ys else (leq ss xs ys).bind fun _=>some false
 | _,_,_=>none
def aeqa (neg:Bool) (sg:List Sg) (x y:Value):Option Value :=
 (leq sg x.cells.toList y.cells.toList).bind fun b=>some (.bool (if neg then !b else b))
def isAggV:Value -> Bool
 | .agg _=>true
 | _=>false
def aun:UnOp -> Value -> Option Value
 | .neg,.int k n=>some (.int k (k.wrap (-n)))
 | .not,.bool b=>some (.bool !b)
 | _,_=>none
def acvi (k:IntKind):Value -> Option Value
 | .int _ n=>some (.int k (k.wrap n))
 | _=>none
def apick:Value -> Value -> Value -> Option Value
 | .bool c,a,b=>some (if c then a else b)
 | _,_,_=>none
def fillL:List Value -> List (Nat × Nat × Value) -> Option (List Value)
 | cs,[]=>some cs
 | cs,(off,n,v) :: r=>grd (v.cells.size = n /\ off + n <= cs.length) (fillL (cs.take off ++ v.cells.toList ++ cs.drop (off + n)) r)
def abld (zero:List Value) (parts:List (Nat × Nat × Value)):Option Value:=(fillL zero parts).bind fun cs=>some (.agg cs.toArray)
def cellsAt (cs:List Value) (off:Nat):Option Nat -> Option Value
 | none=>grd (off < cs.length) (some (cs.getD off undef))
 | some n=>grd (off + n <= cs.length) (some (.agg ((cs.drop off).take n).toArray))
def ldB (off:Nat) (n:Option Nat):Option Blk -> Option Value
 | some (.row _ _ cs _)=>cellsAt cs off n
 | _=>none
def ald (h:H) (n:Option Nat):Value -> Option Value
 | .pointer (some ⟨b,off,none⟩)=>ldB off n (h b)
 | _=>none
def afa (off:Nat):Value -> Option Value
 | .pointer (some ⟨b,o,none⟩)=>some (.pointer (some ⟨b,o + off,none⟩))
 | _=>none
def afd (n:Option Nat) (off:Nat):Value -> Option Value
 | .agg cs=>cellsAt cs.toList off n
 | _=>none
def aixA (len sz:Nat):Value -> Value -> Option Value
 | .pointer (some ⟨b,o,none⟩),.int _ i=>grd (0 <= i /\ i < len) (some (.pointer (some ⟨b,o + i.toNat * sz,none⟩)))
 | _,_=>none
def aixS (sz:Nat):Value -> Value -> Option Value
 | .slice (some ⟨b,o,none⟩) n _,.int _ i=>grd (0 <= i /\ i < n) (some (.pointer (some ⟨b,o + i.toNat * sz,none⟩)))
 | _,_=>none
def aixV (len sz:Nat) (n:Option Nat):Value -> Value -> Option Value
 | .agg cs,.int _ i=>grd (0 <= i /\ i < len) (cellsAt cs.toList (i.toNat * sz) n)
 | _,_=>none
def aixT:Value -> Value -> Option Value
 | .string s,.int _ i=>grd (0 <= i /\ i < s.size) (some (.int .u8 (s.data.toList.getD i.toNat 0).toNat))
 | _,_=>none
def aext (i:Nat):Value -> Option Value
 | .tuple vs=>vs[i]?
 | _=>none
def alenS:Value -> Option Value
 | .slice _ n _=>some (.int .i64 n)
 | _=>none
def alenT:Value -> Option Value
 | .string s=>some (.int .i64 s.size)
 | _=>none
def alenM (h:H):Value -> Option Value
 | .map none=>some (.int .i64 0)
 | .map (some b)=>match h b with
  | some (.obj _ (.map es _))=>some (.int .i64 es.size)
  | _=>none
 | _=>none
def anilS (neg:Bool):Value -> Option Value
 | .slice a _ _=>some (.bool (if neg then a.isSome else a.isNone))
 | _=>none
def amax:Value -> Value -> Option Value
 | .int k x,.int k' y=>some (.int k (if y > x then y else x))
 | _,_=>none
def amin:Value -> Value -> Option Value
 | .int k x,.int k' y=>some (.int k (if y < x then y else x))
 | _,_=>none
def abnd (dflt:Nat):Option Value -> Option Int
 | none=>some dflt
 | some (.int _ i)=>some i
 | _=>none
def aslS (sz:Nat):Value -> Option Value -> Option Value -> Option Value
 | .slice (some ⟨b,o,none⟩) n c,lo,hi=>(abnd 0 lo).bind fun l=>(abnd n hi).bind fun m =>
   grd (0 <= l /\ l <= m /\ m <= c) (some (.slice (some ⟨b,if (c:Int) = l then o else o + l.toNat * sz,none⟩) (m.toNat - l.toNat) (c - l.toNat)))
 | .slice none n c,lo,hi=>(abnd 0 lo).bind fun l=>(abnd n hi).bind fun m =>
   grd (0 <= l /\ l <= m /\ m <= c) (some (.slice none (m.toNat - l.toNat) (c - l.toNat)))
 | _,_,_=>none
def aslA (len sz:Nat):Value -> Option Value -> Option Value -> Option Value
 | .pointer (some ⟨b,o,none⟩),lo,hi=>(abnd 0 lo).bind fun l=>(abnd len hi).bind fun m =>
   grd (0 <= l /\ l <= m /\ m <= len) (some (.slice (some ⟨b,if (len:Int) = l then o else o + l.toNat * sz,none⟩) (m.toNat - l.toNat) (len - l.toNat)))
 | _,_,_=>none
def aslT:Value -> Option Value -> Option Value -> Option Value
 | .string s,lo,hi=>(abnd 0 lo).bind fun l=>(abnd s.size hi).bind fun m =>
   grd (0 <= l /\ l <= m /\ m <= s.size) (some (.string (s.extract l.toNat m.toNat)))
 | _,_,_=>none
def bytesOf:List Value -> Option (List UInt8)
 | []=>some []
 | .int .u8 n :: r=>(bytesOf r).bind fun l=>some (UInt8.ofNat n.toNat :: l)
 | _=>none
def ab2s (h:H):Value -> Option Value
 | .slice none _ _=>some (.string .empty)
 | .slice (some ⟨b,o,none⟩) n _=>match h b with
  | some (.row _ _ cs _)=>grd (o + n <= cs.length) ((bytesOf ((cs.drop o).take n)).bind fun l=>some (.string ⟨l.toArray⟩))
  | _=>none
 | _=>none
def acvs:Value -> Option Value
 | .string s=>some (.string s)
 | _=>none
def blockOf:Value -> Option Nat
 | .pointer (some a)=>some a.block
 | .slice (some a) _ _=>some a.block
 | _=>none
def adet (h:H) (ρ:Operand -> Value):AOp -> Option Value
 | .mv x=>some (ρ x)
 | .pick c a b=>apick (ρ c) (ρ a) (ρ b)
 | .bld zero parts=>abld zero (parts.map fun p=>(p.1,p.2.1,ρ p.2.2))
 | .ld n x=>ald h n (ρ x)
 | .ldb base n x=>grd (blockOf (ρ x) = blockOf (ρ base)) (ald h n (ρ x))
 | .bin op x y=>abin op (ρ x) (ρ y)
 | .eqa neg agg sg x y=>grd (isAggV (ρ x) = agg /\ isAggV (ρ y) = agg) (aeqa neg sg (ρ x) (ρ y))
 | .un op x=>aun op (ρ x)
 | .cvi k x=>acvi k (ρ x)
 | .slS sz x lo hi=>aslS sz (ρ x) (lo.map ρ) (hi.map ρ)
 | .slA n sz x lo hi=>aslA n sz (ρ x) (lo.map ρ) (hi.map ρ)
 | .slT x lo hi=>aslT (ρ x) (lo.map ρ) (hi.map ρ)
 | .fa off x=>afa off (ρ x)
 | .fd n off x=>afd n off (ρ x)
 | .ixA len sz x i=>aixA len sz (ρ x) (ρ i)
 | .ixS sz x i=>aixS sz (ρ x) (ρ i)
 | .ixV len sz n x i=>aixV len sz n (ρ x) (ρ i)
 | .ixT x i=>aixT (ρ x) (ρ i)
 | .ext x i=>aext i (ρ x)
 | .lenS x=>alenS (ρ x)
 | .lenT x=>alenT (ρ x)
 | .lenM x=>alenM h (ρ x)
 | .nilS neg x=>anilS neg (ρ x)
 | .max x y=>amax (ρ x) (ρ y)
 | .min x y=>amin (ρ x) (ρ y)
 | .mkf fn first cap=>some (.func fn (first.map ρ).toArray (cap.map ρ).toArray)
 | .b2s x=>ab2s h (ρ x)
 | .cvs x=>acvs (ρ x)
 | _=>none
end
section
def zc (P:Program) (e:TypeId):Option (List Value) :=
 (P.info? e).bind fun i=>i.zero.bind fun z=>if z.cells.all (·.oneCell') && z.cells.size == i.size then some z.cells.toList else none
def szOf (P:Program) (t:TypeId):Option Nat:=(P.info? t).map (·.size)
def aggT (P:Program) (t:TypeId):Option Bool :=
 match P.underlying t with
 | some (.struct _) | some (.array _ _)=>some true
 | some _=>some false
 | none=>none
def nOf (P:Program) (t:TypeId):Option (Option Nat) :=
 match aggT P t with
 | some true=>(szOf P t).map some
 | some false=>some none
 | none=>none
def placeOf (P:Program) (t:TypeId):Option (Nat -> Option (Nat × Nat)) :=
 match P.underlying t with
 | some (.struct fs)=>(fs.toList.mapM fun f=>(P.info? f.type).map fun i=>(f.offset,i.size)).map fun l=>(l.toArray[·]?)
 | some (.array _ e) | some (.slice e)=>(P.info? e).map fun i=>fun k=>some (k * i.size,i.size)
 | _=>none
def partsOf {α:Type} (place:Nat -> Option (Nat × Nat)) (parts:List (Nat × α)):Option (List (Nat × Nat × α)) :=
 parts.mapM fun p=>(place p.1).map fun q=>(q.1,q.2,p.2)
def sgRow (P:Program) (sub:TypeId -> Option (List Sg)):List Field -> Nat -> Option (List Sg)
 | [],_=>some []
 | f :: r, off => if f.offset = off ∧ f.name ≠ "_" then (sub f.type).bind fun l =>
   if szOf P f.type = some l.length then (sgRow P sub r (off + l.length)).map (l ++ ·) else none else none
def sigOf (P:Program):Nat -> TypeId -> Option (List Sg)
 | 0,_=>none
 | d + 1,t =>
  match P.underlying t with
  | some (.int k)=>if szOf P t = some 1 then some [.i k] else none
  | some .bool=>if szOf P t = some 1 then some [.b] else none
  | some .string=>if szOf P t = some 1 then some [.s] else none
  | some (.struct fs)=>if P.stoodInHeld t then none else
    (sgRow P (sigOf P d) fs.toList 0).bind fun l=>if szOf P t = some l.length then some l else none
  | some (.array n e)=>(sigOf P d e).bind fun l=>if szOf P e = some l.length /\ szOf P t = some (n * l.length) then some (List.replicate n l).flatten else none
  | _=>none
def eqaOf (P:Program) (op:BinOp) (t:TypeId) (x y:Operand):Option AOp :=
 if P.eqGuardType P.depth t then none else
  (sigOf P 20 t).bind fun sg=>(aggT P t).bind fun ag=>match op with
  | .eql=>some (.eqa false ag sg x y)
  | .neq=>some (.eqa true ag sg x y)
  | _=>none
def binOf (P:Program) (op:BinOp) (t:TypeId) (x y:Operand):Option AOp :=
 match P.underlying t with
 | some (.int _) | some .string=>some (.bin op x y)
 | _=>none
def cvOf (P:Program) (src dst:TypeId) (x:Operand):Option AOp :=
 match P.underlying src,P.underlying dst with
 | some (.int _),some (.int k)=>some (.cvi k x)
 | some .string,some .string=>some (.cvs x)
 | some .string,some (.slice e)=>match P.underlying e with
  | some (.int .u8)=>some (.s2b e x)
  | _=>none
 | some (.slice e),some .string=>match P.underlying e with
  | some (.int .u8)=>some (.b2s x)
  | _=>none
 | _,_=>none
def callOf (P:Program) (c:Call):Option AOp :=
 match c.callee with
 | .value (.func f)=>match P.funcs[f]? with
  | some fn => if fn.name == "runtime.NumGoroutine" || fn.body.isNone then none else some (.call f c.args.toList)
  | none=>none
 | .value x=>some (.callv x c.args.toList)
 | .builtin .len=>match (c.argTypes[0]?).bind P.underlying,c.args.toList with
  | some .string,[x]=>some (.lenT x)
  | some (.slice _),[x]=>some (.lenS x)
  | some (.array n _),[_]=>some (.mv (.const (.int .i64 n)))
  | some (.map _ _),[x]=>some (.lenM x)
  | _,_=>none
 | .builtin .max=>match c.args.toList with
  | [x,y]=>some (.max x y)
  | _=>none
 | .builtin .min=>match c.args.toList with
  | [x,y]=>some (.min x y)
  | _=>none
 | .builtin .append=>match c.argTypes.toList,c.args.toList with
  | [t,u],[s,x]=>match P.underlying t with
   | some (.slice e)=>(zc P e).bind fun z=>(P.info? e).bind fun i =>
     if u = t then (if 0 < i.size then some (.app e i.size i.bytes z [] s x) else none)
     else match P.underlying u,P.underlying e with
      | some .string,some (.int .u8)=>if i.size = 1 /\ i.bytes = 1 then some (.appT e s x) else none
      | _,_=>none
   | _=>none
  | _,_=>none
 | .builtin .copy=>match (c.argTypes[0]?).bind P.underlying,(c.argTypes[1]?).bind P.underlying,c.args.toList with
  | some (.slice e),some (.slice _),[d,s]=>(szOf P e).map fun n=>.cpy n d s
  | some (.slice e),some .string,[d,s]=>if szOf P e = some 1 then some (.cpyT d s) else none
  | _,_,_=>none
 | .builtin .clear=>match (c.argTypes[0]?).bind P.underlying,c.args.toList with
  | some (.slice e),[x]=>(zc P e).map fun z=>.clr z x
  | _,_=>none
 | _=>none
def compOp (P:Program) (o:Oper):Option AOp :=
 match o.op with
 | .move x | .assign x=>some (.mv x)
 | .nilCheck x=>some (.fa 0 x)
 | .pick c a b=>some (.pick c a b)
 | .alloc e=>(zc P e).map fun z=>.alloc e z
 | .box e x=>some (.box e x)
 | .build t parts=>(zc P t).bind fun z=>match P.underlying t with
  | some (.slice _)=>none
  | _=>(placeOf P t).bind fun pl=>(partsOf pl parts.toList).map fun ps=>.bld z ps
 | .buildSlice t len parts=>match P.underlying t with
  | some (.slice e)=>(zc P e).bind fun z=>(placeOf P t).bind fun pl=>(partsOf pl parts.toList).bind fun ps =>
    if len * z.length <= 2 ^ 24 then some (.mks e ((List.range (len * z.length)).map fun k=>z.getD (k % z.length) undef) len ps) else none
  | _=>none
 | .load t a=>(nOf P t).map fun n=>.ld n a
 | .store t a x=>(szOf P t).map fun n=>.st n a x
 | .binOp op t x y _=>match P.underlying t with
  | some (.struct _) | some (.array _ _) | some .bool=>eqaOf P op t x y
  | some (.slice _)=>match y with
   | .const (.slice none 0 0)=>match op with
    | .eql=>some (.nilS false x)
    | .neq=>some (.nilS true x)
    | _=>none
   | _=>none
  | _=>binOf P op t x y
 | .unOp op _ x=>some (.un op x)
 | .convert src dst x=>cvOf P src dst x
 | .makeFunc fn first cap=>some (.mkf fn first.toList cap.toList)
 | .makeSlice t l c=>match P.underlying t with
  | some (.slice e)=>(zc P e).bind fun z=>(P.info? e).map fun i=>.mk e i.bytes z l c
  | _=>none
 | .slice t x lo hi none=>match P.underlying t with
  | some (.array n e)=>(szOf P e).map fun s=>.slA n s x lo hi
  | some (.slice e)=>(szOf P e).map fun s=>.slS s x lo hi
  | some .string=>some (.slT x lo hi)
  | _=>none
 | .fieldAddr s x f=>match P.underlying s with
  | some (.struct fs)=>(fs[f]?).bind fun g=>(szOf P g.type).bind fun n=>if n = 0 then none else some (.fa g.offset x)
  | _=>none
 | .field t x f=>match P.underlying t with
  | some (.struct fs)=>(fs[f]?).bind fun g=>(nOf P g.type).map fun n=>.fd n g.offset x
  | _=>none
 | .indexAddr t x i=>match P.underlying t with
  | some (.array n e)=>(szOf P e).map fun s=>.ixA n s x i
  | some (.slice e)=>(szOf P e).map fun s=>.ixS s x i
  | _=>none
 | .index t x i=>match P.underlying t with
  | some (.array n e)=>(szOf P e).bind fun s=>(nOf P e).map fun m=>.ixV n s m x i
  | some .string=>some (.ixT x i)
  | _=>none
 | .extract x i=>some (.ext x i)
 | .call c=>callOf P c
 | .makeMap _ none=>some .mkm
 | .panic _=>some .bad
 | .makeInterface _ _=>some .bad
 | _=>none
theorem Sat.cell {B:Bd} {w0 w:World} {h:H} (hs:Sat B w0 w h) {b i:Nat} {own:Bool} {e:TypeId} {cs:List Value} {ex:Nat}
  (hb:h b = some (.row own e cs ex)) (hi:i < cs.length):w.cell? ⟨b,i,none⟩ = some (cs.getD i undef):=by
 obtain ⟨⟨o,ho,c,fr,rfl,hsz,htk,_⟩,_⟩:=hs.blk b _ hb
 rw [cell_of_row w b i c e fr ho]
 have h1:c.toList[i]? = cs[i]?:=by rw [<-htk,List.getElem?_take,if_pos hi]; 
 rw [<-Array.getElem?_toList,h1,List.getElem?_eq_getElem hi]
 simp [List.getD,List.getElem?_eq_getElem hi]
theorem run_isAgg {P:Program} {t:TypeId} {b:Bool} (h:aggT P t = some b) (w:World):(isAgg t).run P w = .ok b w:=by
 unfold aggT at h
 cases hu:P.underlying t with
 | none=>simp [hu] at h
 | some d=>cases d <;> simp [hu] at h <;> subst h <;> simp [isAgg,run_underlying hu]
theorem run_sizeOf {P:Program} {t:TypeId} {n:Nat} (h:szOf P t = some n) (w:World):(sizeOf t).run P w = .ok n w:=by
 unfold szOf at h
 cases hi:P.info? t with
 | none=>simp [hi] at h
 | some i=>simp [hi] at h; simp [sizeOf,typeInfo,hi,h]
theorem nOf_none {P:Program} {t:TypeId} (h:nOf P t = some none):aggT P t = some false:=by
 unfold nOf at h; split at h <;> simp_all
theorem nOf_some {P:Program} {t:TypeId} {n:Nat} (h:nOf P t = some (some n)):aggT P t = some true /\ szOf P t = some n:=by
 unfold nOf at h; split at h <;> simp_all
theorem addr_add (b off j:Nat):(⟨b,off,none⟩:Addr).add j = ⟨b,off + j,none⟩:=by unfold Addr.add; split <;> simp_all
theorem cellsAt_run {P:Program} {B:Bd} {w0 w:World} {h:H} (hs:Sat B w0 w h) {b off:Nat} {own:Bool} {e:TypeId} {cs:List Value} {ex:Nat}
  (hb:h b = some (.row own e cs ex)) {t:TypeId} {n:Option Nat} (hn:nOf P t = some n) {v:Value} (hv:cellsAt cs off n = some v) :
  (loadVar t ⟨b,off,none⟩).run P w = .ok v w:=by
 cases n with
 | none =>
  simp only [cellsAt,grd] at hv
  split at hv
  ·rename_i hlt
   simp only [Option.some.injEq] at hv
   subst hv
   have hc:=hs.cell hb hlt
   simp [loadVar,run_isAgg (nOf_none hn),load,Sem.run,hc]
  ·simp at hv
 | some m =>
  obtain ⟨ha,hsz⟩:=nOf_some hn
  simp only [cellsAt,grd] at hv
  split at hv
  ·rename_i hle
   simp only [Option.some.injEq] at hv
   subst hv
   have hl:((cs.drop off).take m).length = m:=by simp; omega
   have hr:=run_loadCells_list (P:=P) w ⟨b,off,none⟩ ((cs.drop off).take m) (fun j v hj=>by
    have hj1:=hj
    rw [List.getElem?_take] at hj1
    split at hj1
    ·rw [List.getElem?_drop] at hj1
     have hlt:off + j < cs.length:=by omega
     have hc:=hs.cell hb hlt
     rw [addr_add,hc]
     rw [List.getD,hj1]; rfl
    ·simp at hj1)
   rw [hl] at hr
   simp [loadVar,run_isAgg ha,run_sizeOf hsz,hr]
  ·simp at hv
theorem ald_run {P:Program} {B:Bd} {w0 w:World} {h hr:H} (hs:Sat B w0 w hr) (hle:Le h hr) {t:TypeId} {n:Option Nat} (hn:nOf P t = some n)
  {x v:Value} (hv:ald h n x = some v):(Instr.loadAt t x).run P w = .ok v w:=by
 unfold ald at hv
 split at hv
 ·rename_i b off
  unfold ldB at hv
  split at hv
  ·rename_i own e cs ex hb
   simp only [Instr.loadAt,Instr.sureAddr]
   simpa using cellsAt_run hs (hle _ _ hb) hn hv
  ·simp at hv
 ·simp at hv
end
section
set_option linter.constructorNameAsVariable false
theorem grd_some {α:Type} {c:Prop} [Decidable c] {x:Option α} {v:α} (h:grd c x = some v):c /\ x = some v:=by
 unfold grd at h; split at h
 ·exact ⟨by assumption,h⟩
 ·cases h
section
variable {P:Program} {w:World}
theorem afa_run {s:TypeId} {f:Nat} {fs:Array Field} {g:Field} (hu:P.underlying s = some (.struct fs)) (hg:fs[f]? = some g)
  {n:Nat} (hn:szOf P g.type = some n) (h0:n ≠ 0) {x v:Value} (hv:afa g.offset x = some v):(Instr.fieldAt s x f).run P w = .ok v w:=by
 unfold afa at hv
 split at hv
 ·simp only [Option.some.injEq] at hv
  subst hv
  simp [Instr.fieldAt,run_underlying hu,hg,Instr.sureAddr,fieldPlace,run_sizeOf hn,h0,addr_add]
 ·cases hv
theorem run_part {t:TypeId} {n:Option Nat} (hn:nOf P t = some n) {cs:Array Value} {off:Nat} {v:Value} (hv:cellsAt cs.toList off n = some v) :
  (part t cs off).run P w = .ok v w:=by
 cases n with
 | none =>
  obtain ⟨hlt,hv⟩:=grd_some hv
  simp only [Option.some.injEq] at hv
  subst hv
  have hlt':off < cs.size:=by simpa using hlt
  simp [part,run_isAgg (nOf_none hn),hlt']
 | some m =>
  obtain ⟨ha,hsz⟩:=nOf_some hn
  obtain ⟨hle,hv⟩:=grd_some hv
  simp only [Option.some.injEq] at hv
  subst hv
  have:cs.extract off (off + m) = (List.take m (List.drop off cs.toList)).toArray:=by
   apply Array.ext'
   simp [List.extract_eq_take_drop]
  simp [part,run_isAgg ha,run_sizeOf hsz,this]
theorem afd_run {t:TypeId} {f:Nat} {fs:Array Field} {g:Field} (hu:P.underlying t = some (.struct fs)) (hg:fs[f]? = some g)
  {n:Option Nat} (hn:nOf P g.type = some n) {x v:Value} (hv:afd n g.offset x = some v):(Instr.field t x f).run P w = .ok v w:=by
 unfold afd at hv
 split at hv
 ·simp [Instr.field,run_underlying hu,hg,asAgg,run_part hn hv]
 ·cases hv
theorem aixA_run {t e:TypeId} {len sz:Nat} (hu:P.underlying t = some (.array len e)) (hs:szOf P e = some sz) {x i v:Value}
  (hv:aixA len sz x i = some v):(Instr.indexAt t x i).run P w = .ok v w:=by
 unfold aixA at hv
 split at hv
 ·obtain ⟨⟨h0,h1⟩,hv⟩:=grd_some hv
  simp only [Option.some.injEq] at hv
  subst hv
  simp [Instr.indexAt,asIntOf,run_underlying hu,Instr.sureAddr,h0,h1,run_sizeOf hs,addr_add]
 ·cases hv
theorem aixS_run {t e:TypeId} {sz:Nat} (hu:P.underlying t = some (.slice e)) (hs:szOf P e = some sz) {x i v:Value}
  (hv:aixS sz x i = some v):(Instr.indexAt t x i).run P w = .ok v w:=by
 unfold aixS at hv
 split at hv
 ·obtain ⟨⟨h0,h1⟩,hv⟩:=grd_some hv
  simp only [Option.some.injEq] at hv
  subst hv
  simp [Instr.indexAt,asIntOf,run_underlying hu,h0,h1,run_sizeOf hs,addr_add]
 ·cases hv
theorem aixV_run {t e:TypeId} {len sz:Nat} {n:Option Nat} (hu:P.underlying t = some (.array len e)) (hs:szOf P e = some sz) (hn:nOf P e = some n) {x i v:Value}
  (hv:aixV len sz n x i = some v):(Instr.index t x i).run P w = .ok v w:=by
 unfold aixV at hv
 split at hv
 ·obtain ⟨⟨h0,h1⟩,hv⟩:=grd_some hv
  simp [Instr.index,asIntOf,run_underlying hu,h0,h1,run_sizeOf hs,run_part hn hv]
 ·cases hv
theorem aixT_run {t:TypeId} (hu:P.underlying t = some .string) {x i v:Value} (hv:aixT x i = some v):(Instr.index t x i).run P w = .ok v w:=by
 unfold aixT at hv
 split at hv
 ·rename_i s k i
  obtain ⟨⟨h0,h1⟩,hv⟩:=grd_some hv
  simp only [Option.some.injEq] at hv
  subst hv
  have hlt:i.toNat < s.size:=by omega
  have hlt':i.toNat < s.data.size:=hlt
  have he:(s[i.toNat]?:Option UInt8) = some (s.data.toList.getD i.toNat 0):=by
   rw [show (s[i.toNat]?:Option UInt8) = some s[i.toNat] from by simp [hlt]]
   simp only [List.getD,Array.getElem?_toList,Array.getElem?_eq_getElem hlt',Option.getD_some]; rfl
  simp [Instr.index,asIntOf,run_underlying hu,h0,he]
 ·cases hv
theorem aext_run {i:Nat} {x v:Value} (hv:aext i x = some v):(Instr.extract x i).run P w = .ok v w:=by
 unfold aext at hv
 split at hv
 ·simp [Instr.extract,hv]
 ·cases hv
theorem aun_run {op:UnOp} {x v:Value} (hv:aun op x = some v):(Op.unary op x).run P w = .ok v w:=by
 unfold aun at hv
 split at hv
 ·simp only [Option.some.injEq] at hv
  subst hv
  simp [Op.unary,Op.intArith]
 ·simp only [Option.some.injEq] at hv
  subst hv
  simp [Op.unary]
 ·cases hv
theorem aint_run (t : TypeId) {op : BinOp} {k : IntKind} {a b : Int} {v : Value} (hs : isSh op = false) (hv : aint op k a b = some v) :
    (binOp op t (.int k a) (.int k b)).run P w = .ok v w := by
  cases op <;> simp only [isSh, Bool.true_eq_false] at hs
  all_goals
    first
    | (simp only [aint, Option.some.injEq] at hv
       subst hv
       simp [binOp, Op.intArith, Op.intBits, Op.intCmp])
    | (simp only [aint] at hv
       obtain ⟨hb, hv⟩ := grd_some hv
       simp only [Option.some.injEq] at hv
       subst hv
       simp [binOp, Op.intDiv, hb])
    | cases hv
theorem ashift_run (t:TypeId) {op:BinOp} {k k':IntKind} {a b:Int} {v:Value} (hv:ashift op k a b = some v) :
  (binOp op t (.int k a) (.int k' b)).run P w = .ok v w:=by
 cases op <;> simp only [ashift] at hv <;> first | (cases hv; done) | skip
 all_goals
  obtain ⟨hb,hv⟩:=grd_some hv
  simp only [Option.some.injEq] at hv
  subst hv
  have:¬ b < 0:=by omega
  simp [binOp,Op.shift,this]
  try rfl
theorem astr_run (t:TypeId) {op:BinOp} {a b:ByteArray} {v:Value} (hv:astr op a b = some v) :
  (binOp op t (.string a) (.string b)).run P w = .ok v w:=by
 cases op <;> simp only [astr] at hv <;> first | (cases hv; done) | skip
 case add =>
  obtain ⟨hb,hv⟩:=grd_some hv
  simp only [Option.some.injEq] at hv
  subst hv
  have:¬ (((a.size + b.size:Nat):Int) > IntKind.i64.max):=by simp [IntKind.max,IntKind.signed,IntKind.bits]; omega
  simp only [binOp,Op.stringOp,if_neg this,Sem.run_pure]
 all_goals
  simp only [Option.some.injEq] at hv
  subst hv
  simp [binOp,Op.stringOp]
theorem abin_run {op:BinOp} {t:TypeId} {x y:Operand} {a b v:Value} (hv:abin op a b = some v) :
  (do eqGuard op t x y a b; binOp op t a b:Sem Value).run P w = .ok v w:=by
 unfold abin at hv
 split at hv
 ·rename_i k a k' b
  have h1:(binOp op t (.int k a) (.int k' b)).run P w = .ok v w:=by
   split at hv
   ·exact ashift_run t hv
   ·rename_i hsh
    obtain ⟨hk,hv2⟩:=grd_some hv
    subst hk
    exact aint_run t (by simpa using hsh) hv2
  have h2:(eqGuard op t x y (.int k a) (.int k' b)).run P w = .ok () w:=by unfold eqGuard; cases op <;> simp
  simp [h1,h2]
 ·rename_i a b
  have h1:=astr_run (P:=P) (w:=w) t hv
  have h2:(eqGuard op t x y (.string a) (.string b)).run P w = .ok () w:=by unfold eqGuard; cases op <;> simp
  simp [h1,h2]
 ·cases hv
theorem bound_run {y:Nat} {c:BoundsCode} {k:IntKind} {i:Int} (h0:0 <= i) (h1:i <= y):(Instr.sliceBound (.int k i) y c).run P w = .ok i.toNat w:=by
 simp [Instr.sliceBound,asIntOf,h0,h1]
theorem abnd_none {d:Nat} {l:Int} (h:abnd d none = some l):l = d:=by simp [abnd] at h; omega
theorem abnd_some {d:Nat} {x:Value} {l:Int} (h:abnd d (some x) = some l):∃ k,x = .int k l:=by
 unfold abnd at h; split at h
 ·rename_i he; cases he
 ·rename_i k i he; cases he; exact ⟨k,by simp at h; rw [h]⟩
 ·cases h
theorem bounds_run {isS:Bool} {len cap:Nat} {lo hi:Option Value} {l m:Int} (hl:abnd 0 lo = some l) (hm:abnd len hi = some m)
  (h0:0 <= l) (h1:l <= m) (h2:m <= cap) (hlen:len <= cap ∨ hi ≠ none) :
  (Instr.sliceBounds isS len cap lo hi none).run P w = .ok (l.toNat,m.toNat,cap) w:=by
 have hm':(m.toNat:Int) = m:=by omega
 cases hi with
 | none =>
  have:=abnd_none hm; subst this
  cases lo with
  | none=>have:=abnd_none hl; subst this; simp [Instr.sliceBounds]
  | some x =>
   obtain ⟨k,rfl⟩:=abnd_some hl
   have hb:=bound_run (P:=P) (w:=w) (c:=.sliceB) (k:=k) h0 h1
   simp [Instr.sliceBounds,hb]
 | some y =>
  obtain ⟨k,rfl⟩:=abnd_some hm
  have hb:=fun c=>bound_run (P:=P) (w:=w) (c:=c) (k:=k) (y:=cap) (by omega:0 <= m) h2
  cases lo with
  | none=>have:=abnd_none hl; subst this; simp [Instr.sliceBounds,hb]
  | some x =>
   obtain ⟨k',rfl⟩:=abnd_some hl
   have hb2:=bound_run (P:=P) (w:=w) (c:=.sliceB) (k:=k') (y:=m.toNat) h0 (by omega)
   simp [Instr.sliceBounds,hb,hb2]
theorem aslS_run {t e:TypeId} {sz:Nat} (hu:P.underlying t = some (.slice e)) (hs:szOf P e = some sz) {x v:Value} {lo hi:Option Value}
  (hv:aslS sz x lo hi = some v):(Instr.sliceAt t x lo hi none).run P w = .ok v w:=by
 unfold aslS at hv
 split at hv
 ·rename_i b o n c
  cases hl:abnd 0 lo with
  | none=>simp [hl] at hv
  | some l =>
   cases hm:abnd n hi with
   | none=>simp [hl,hm] at hv
   | some m =>
    simp only [hl,hm,Option.bind_some] at hv
    obtain ⟨⟨h0,h1,h2⟩,hv⟩:=grd_some hv
    simp only [Option.some.injEq] at hv
    subst hv
    have hb:=bounds_run (P:=P) (w:=w) (isS:=true) hl hm h0 h1 h2 (by by_cases hh:hi = none; (left; subst hh; have:=abnd_none hm; omega); exact .inr hh)
    by_cases hc:(c:Int) = l
    ·have this:∀ {α:Type} (x y:α),(if c = l.toNat then x else y) = x:=fun _ _=>if_pos (by omega)
     simp [Instr.sliceAt,Instr.slice,run_underlying hu,hb,run_sizeOf hs,if_pos hc,this]
    ·have:¬ c = l.toNat:=by omega
     simp [Instr.sliceAt,Instr.slice,run_underlying hu,hb,run_sizeOf hs,hc,this,addr_add]
 ·rename_i n c
  cases hl:abnd 0 lo with
  | none=>simp [hl] at hv
  | some l =>
   cases hm:abnd n hi with
   | none=>simp [hl,hm] at hv
   | some m =>
    simp only [hl,hm,Option.bind_some] at hv
    obtain ⟨⟨h0,h1,h2⟩,hv⟩:=grd_some hv
    simp only [Option.some.injEq] at hv
    subst hv
    have hb:=bounds_run (P:=P) (w:=w) (isS:=true) hl hm h0 h1 h2 (by by_cases hh:hi = none; (left; subst hh; have:=abnd_none hm; omega); exact .inr hh)
    simp [Instr.sliceAt,Instr.slice,run_underlying hu,hb,run_sizeOf hs]
 ·cases hv
theorem aslA_run {t e:TypeId} {n sz:Nat} (hu:P.underlying t = some (.array n e)) (hs:szOf P e = some sz) {x v:Value} {lo hi:Option Value}
  (hv:aslA n sz x lo hi = some v):(Instr.sliceAt t x lo hi none).run P w = .ok v w:=by
 unfold aslA at hv
 split at hv
 ·rename_i b o
  cases hl:abnd 0 lo with
  | none=>simp [hl] at hv
  | some l =>
   cases hm:abnd n hi with
   | none=>simp [hl,hm] at hv
   | some m =>
    simp only [hl,hm,Option.bind_some] at hv
    obtain ⟨⟨h0,h1,h2⟩,hv⟩:=grd_some hv
    simp only [Option.some.injEq] at hv
    subst hv
    have hb:=bounds_run (P:=P) (w:=w) (isS:=false) hl hm h0 h1 h2 (by left; omega)
    by_cases hc:(n:Int) = l
    ·have this:∀ {α:Type} (x y:α),(if n = l.toNat then x else y) = x:=fun _ _=>if_pos (by omega)
     simp [Instr.sliceAt,Instr.sureAddr,run_underlying hu,hb,run_sizeOf hs,if_pos hc,this]
    ·have:¬ n = l.toNat:=by omega
     simp [Instr.sliceAt,Instr.sureAddr,run_underlying hu,hb,run_sizeOf hs,hc,this,addr_add]
 ·cases hv
theorem aslT_run {t:TypeId} (hu:P.underlying t = some .string) {x v:Value} {lo hi:Option Value}
  (hv:aslT x lo hi = some v):(Instr.sliceAt t x lo hi none).run P w = .ok v w:=by
 unfold aslT at hv
 split at hv
 ·rename_i s
  cases hl:abnd 0 lo with
  | none=>simp [hl] at hv
  | some l =>
   cases hm:abnd s.size hi with
   | none=>simp [hl,hm] at hv
   | some m =>
    simp only [hl,hm,Option.bind_some] at hv
    obtain ⟨⟨h0,h1,h2⟩,hv⟩:=grd_some hv
    simp only [Option.some.injEq] at hv
    subst hv
    have hb:=bounds_run (P:=P) (w:=w) (isS:=false) hl hm h0 h1 h2 (by left; omega)
    simp [Instr.sliceAt,Instr.slice,run_underlying hu,hb]
 ·cases hv
theorem bytesOf_some:∀ (cs:List Value) (l:List UInt8),bytesOf cs = some l -> ∃ ns:List Int,cs = ns.map (Value.int .u8) /\ l = ns.map fun n=>UInt8.ofNat n.toNat
 | [],l,h=>by simp [bytesOf] at h; exact ⟨[],rfl,by simp [h]⟩
 | c :: cs,l,h=>by
  unfold bytesOf at h
  split at h
  ·cases ‹c :: cs = []›
  ·rename_i n r he
   simp only [List.cons.injEq] at he
   obtain ⟨rfl,rfl⟩:=he
   cases hb:bytesOf cs with
   | none=>simp [hb] at h
   | some l' =>
    simp [hb] at h
    obtain ⟨ns,h1,h2⟩:=bytesOf_some _ _ hb
    exact ⟨n :: ns,by simp [h1],by simp [<-h,h2]⟩
  ·cases h
theorem foldl_push:∀ (ns:List Int) (s:ByteArray),ns.foldl (fun r n=>r.push (UInt8.ofNat n.toNat)) s = ⟨(s.data.toList ++ ns.map fun n=>UInt8.ofNat n.toNat).toArray⟩
 | [],s=>by simp
 | n :: ns,s=>by
  rw [List.foldl_cons,foldl_push ns]
  congr 1
  simp [ByteArray.push]
theorem ab2s_run {B:Bd} {w0:World} {h hr:H} (hs:Sat B w0 w hr) (hle:Le h hr) {x v:Value} (hv:ab2s h x = some v) :
  (Conv.bytesToString x).run P w = .ok v w:=by
 unfold ab2s at hv
 split at hv
 ·simp only [Option.some.injEq] at hv
  subst hv
  simp [Conv.bytesToString]
 ·rename_i b o n c
  split at hv
  ·rename_i own e cs ex hb
   obtain ⟨hle2,hv⟩:=grd_some hv
   cases hy:bytesOf ((cs.drop o).take n) with
   | none=>simp [hy] at hv
   | some l =>
    simp [hy] at hv
    subst hv
    obtain ⟨ns,h1,rfl⟩:=bytesOf_some _ _ hy
    have hl:((cs.drop o).take n).length = n:=by simp; omega
    have hrr:=run_loadCells_list (P:=P) w ⟨b,o,none⟩ ((cs.drop o).take n) (fun j v hj=>by
     have hj1:=hj
     rw [List.getElem?_take] at hj1
     split at hj1
     ·rw [List.getElem?_drop] at hj1
      have hlt:o + j < cs.length:=by omega
      have hc:=hs.cell (hle _ _ hb) hlt
      rw [addr_add,hc]
      rw [List.getD,hj1]; rfl
     ·simp at hj1)
    rw [hl,h1] at hrr
    rw [run_bytesToString w _ n c ns hrr,foldl_push]
    simp
  ·cases hv
 ·cases hv
theorem fold_set (off:Nat):∀ (l:List Value) (k:Nat) (cs:List Value),off + k + l.length <= cs.length ->
  (l.zipIdx k).foldl (fun (acc:Array Value) p=>acc.setIfInBounds (off + p.2) p.1) cs.toArray = (cs.take (off + k) ++ l ++ cs.drop (off + k + l.length)).toArray
 | [],k,cs,h=>by simp
 | v :: l,k,cs,h=>by
  simp only [List.length_cons] at h
  rw [List.zipIdx_cons,List.foldl_cons]
  simp only [List.setIfInBounds_toArray]
  rw [fold_set off l (k + 1) (cs.set (off + k) v) (by simp; omega)]
  congr 1
  apply List.ext_getElem?
  intro i
  simp only [List.getElem?_append,List.getElem?_take,List.getElem?_drop,List.getElem?_set,List.length_append,List.length_take,List.length_set,List.length_cons,List.getElem?_cons,List.length_drop]
  grind
theorem bld_fill (place:Nat -> Option (Nat × Nat)):∀ (parts:List (Nat × Value)) (ps:List (Nat × Nat × Value)) (cs r:List Value),
  partsOf place parts = some ps -> fillL cs ps = some r -> Instr.fill place cs.toArray parts = some r.toArray
 | [],ps,cs,r,h1,h2=>by
  simp [partsOf] at h1
  subst h1
  simp [fillL] at h2
  simp [Instr.fill,h2]
 | (i,v) :: rest,ps,cs,r,h1,h2=>by
  rw [partsOf,List.mapM_cons] at h1
  cases hp:place i with
  | none=>simp [hp] at h1
  | some q =>
   obtain ⟨off,n⟩:=q
   cases hm:rest.mapM (fun p=>(place p.1).map fun q=>(q.1,q.2,p.2)) with
   | none=>simp [hp,hm] at h1
   | some ps' =>
    simp [hp,hm] at h1
    subst h1
    simp only [fillL] at h2
    obtain ⟨⟨h3,h4⟩,h5⟩:=grd_some h2
    have hfold:v.cells.zipIdx.foldl (fun cs (c,j)=>cs.setIfInBounds (off + j) c) cs.toArray = (cs.take off ++ v.cells.toList ++ cs.drop (off + n)).toArray:=by
     have:=fold_set off v.cells.toList 0 cs (by simp; omega)
     simp only [Nat.add_zero,Array.length_toList,h3] at this
     rw [<-this,<-Array.foldl_toList,Array.toList_zipIdx]
    have ih:=bld_fill place rest ps' _ r hm h5
    simp only [Instr.fill,hp]
    rw [if_neg (by simp; omega)]
    rw [hfold]
    exact ih
theorem leq_append:∀ (s t:List Sg) (a b c d:List Value) (r:Bool),s.length = a.length -> a.length = b.length -> leq (s ++ t) (a ++ c) (b ++ d) = some r ->
  ∃ r1 r2,leq s a b = some r1 /\ leq t c d = some r2 /\ r = (r1 && r2)
 | [],t,[],[],c,d,r,_,_,h=>⟨true,r,rfl,h,by simp⟩
 | s :: ss,t,x :: a,y :: b,c,d,r,hl1,hl,h=>by
  simp only [List.cons_append,leq] at h ⊢
  simp only [List.length_cons,Nat.add_right_cancel_iff] at hl hl1
  cases hv:veq s x y with
  | none=>simp [hv] at h
  | some q =>
   simp only [hv,Option.bind_some] at h ⊢
   cases q with
   | true =>
    simp only [if_true] at h
    obtain ⟨r1,r2,h1,h2,rfl⟩:=leq_append ss t a b c d r hl1 hl h
    exact ⟨r1,r2,by simp [h1],h2,rfl⟩
   | false =>
    simp only [Bool.false_eq_true,if_false] at h
    cases hq:leq (ss ++ t) (a ++ c) (b ++ d) with
    | none=>simp [hq] at h
    | some q' =>
     simp [hq] at h
     subst h
     obtain ⟨r1,r2,h1,h2,_⟩:=leq_append ss t a b c d q' hl1 hl hq
     exact ⟨false,r2,by simp [h1],h2,by simp⟩
 | [],_,[],_ :: _,_,_,_,_,hl,_=>by simp at hl
 | [],_,_ :: _,_,_,_,_,hl,_,_=>by simp at hl
 | _ :: _,_,[],_,_,_,_,hl,_,_=>by simp at hl
 | _ :: _,_,_ :: _,[],_,_,_,_,hl,_=>by simp at hl
theorem leq_len:∀ (s:List Sg) (a b:List Value) (r:Bool),leq s a b = some r -> a.length = s.length /\ b.length = s.length
 | [],[],[],_,_=>⟨rfl,rfl⟩
 | s :: ss,x :: a,y :: b,r,h=>by
  simp only [leq] at h
  cases hv:veq s x y with
  | none=>simp [hv] at h
  | some q =>
   simp only [hv,Option.bind_some] at h
   have:∃ r',leq ss a b = some r':=by
    cases q
    ·simp only [Bool.false_eq_true,if_false] at h
     cases hq:leq ss a b with
     | none=>simp [hq] at h
     | some q'=>exact ⟨q',rfl⟩
    ·exact ⟨r,by simpa using h⟩
   obtain ⟨r',h'⟩:=this
   have:=leq_len ss a b r' h'
   simp [this]
 | [],[],_ :: _,_,h | [],_ :: _,_,_,h | _ :: _,[],_,_,h | _ :: _,_ :: _,[],_,h=>by simp [leq] at h
theorem cellsAt_seg {cs:List Value} {off n:Nat} {m:Option Nat} (hm:m = none /\ n = 1 ∨ m = some n):cellsAt cs off m = cellsAt ((cs.drop off).take n) 0 m ∨ cs.length < off + n:=by
 by_cases h:off + n <= cs.length
 ·left
  rcases hm with ⟨rfl,rfl⟩ | rfl
  ·unfold cellsAt grd
   have h0:off < cs.length:=by omega
   rw [if_pos h0,if_pos (by simp; omega)]
   congr 1
   simp [List.getD,List.getElem?_take,List.getElem?_drop]
  ·simp only [cellsAt,grd]
   rw [if_pos h,if_pos (by simp; omega)]
   simp [List.take_take]
 ·right; omega
theorem sig_nOf {d:Nat} {t:TypeId} {l:List Sg} (h:sigOf P d t = some l):szOf P t = some l.length /\ ∃ m,nOf P t = some m /\ (m = none /\ l.length = 1 ∨ m = some l.length):=by
 cases d with
 | zero=>simp [sigOf] at h
 | succ d =>
  unfold sigOf at h
  split at h
  ·rename_i hu
   split at h
   ·rename_i h1; simp only [Option.some.injEq] at h; subst h; exact ⟨h1,none,by simp [nOf,aggT,hu],.inl ⟨rfl,rfl⟩⟩
   ·cases h
  ·rename_i hu
   split at h
   ·rename_i h1; simp only [Option.some.injEq] at h; subst h; exact ⟨h1,none,by simp [nOf,aggT,hu],.inl ⟨rfl,rfl⟩⟩
   ·cases h
  ·rename_i hu
   split at h
   ·rename_i h1; simp only [Option.some.injEq] at h; subst h; exact ⟨h1,none,by simp [nOf,aggT,hu],.inl ⟨rfl,rfl⟩⟩
   ·cases h
  ·rename_i fs hu
   split at h
   ·cases h
   ·cases hr:sgRow P (sigOf P d) fs.toList 0 with
    | none=>simp [hr] at h
    | some l' =>
     simp only [hr,Option.bind_some] at h
     split at h
     ·rename_i h1; simp only [Option.some.injEq] at h; subst h; exact ⟨h1,some _,by simp [nOf,aggT,hu,h1],.inr rfl⟩
     ·cases h
  ·rename_i n e hu
   cases hr:sigOf P d e with
   | none=>simp [hr] at h
   | some l' =>
    simp only [hr,Option.bind_some] at h
    split at h
    ·rename_i h1
     simp only [Option.some.injEq] at h
     have hl:l.length = n * l'.length:=by rw [<-h]; simp [List.length_flatten]
     exact ⟨by rw [h1.2,hl],some (n * l'.length),by simp [nOf,aggT,hu,h1.2],.inr (by rw [hl])⟩
    ·cases h
  ·cases h
theorem cellsOf_of {t:TypeId} {n:Nat} (h:szOf P t = some n):P.cellsOf t = n:=by
 unfold szOf at h; simp [Program.cellsOf,h]
theorem cells_ex {c:List Value} {n:Nat} {m:Option Nat} (hc:c.length = n) (hnm:m = none /\ n = 1 ∨ m = some n):∃ v,cellsAt c 0 m = some v:=by
 rcases hnm with ⟨rfl,rfl⟩ | rfl <;> simp only [cellsAt,grd] <;> rw [if_pos (by omega)] <;> exact ⟨_,rfl⟩
def EqP (P:Program) (w:World) (D:Nat) (t:TypeId) (sg:List Sg):Prop :=
 ∀ (m:Option Nat) (x y:List Value) (vx vy:Value) (r:Bool),nOf P t = some m -> leq sg x y = some r -> cellsAt x 0 m = some vx -> cellsAt y 0 m = some vy -> (Op.equalIn D t vx vy).run P w = .ok r w
theorem eqFields_flat {D d:Nat} (IH:∀ t sg,sigOf P d t = some sg -> EqP P w D t sg) :
  ∀ (fs:List Field) (off:Nat) (sg:List Sg) (xs ys:Array Value) (r:Bool),sgRow P (sigOf P d) fs off = some sg ->
   off + sg.length <= xs.size -> off + sg.length <= ys.size -> leq sg ((xs.toList.drop off).take sg.length) ((ys.toList.drop off).take sg.length) = some r ->
   (Op.eqFields D xs ys fs).run P w = .ok r w
 | [],off,sg,xs,ys,r,h1,hx,hy,hl=>by
  simp only [sgRow,Option.some.injEq] at h1
  subst h1
  simp [leq] at hl
  subst hl
  simp [Op.eqFields]
 | f :: fs,off,sg,xs,ys,r,h1,hx,hy,hl=>by
  simp only [sgRow] at h1
  split at h1
  ·rename_i hoff
   cases hn:sigOf P d f.type with
   | none=>simp [hn] at h1
   | some l =>
    simp only [hn,Option.bind_some] at h1
    split at h1
    ·cases hr:sgRow P (sigOf P d) fs (off + l.length) with
     | none=>simp [hr] at h1
     | some l2 =>
      simp only [hr,Option.map_some,Option.some.injEq] at h1
      subst h1
      obtain ⟨hsz,m,hm,hnm⟩:=sig_nOf hn
      simp only [List.length_append] at hx hy hl
      rw [List.take_add,List.take_add,List.drop_drop,List.drop_drop] at hl
      have lx:((xs.toList.drop off).take l.length).length = l.length:=by simp; omega
      have ly:((ys.toList.drop off).take l.length).length = l.length:=by simp; omega
      obtain ⟨r1,r2,e1,e2,rfl⟩:=leq_append _ _ _ _ _ _ r lx.symm (by rw [lx,ly]) hl
      obtain ⟨vx,cx⟩:=cells_ex lx hnm
      obtain ⟨vy,cy⟩:=cells_ex ly hnm
      have px:(part f.type xs f.offset).run P w = .ok vx w:=run_part hm (by
       rcases cellsAt_seg (cs:=xs.toList) (off:=off) hnm with h | h
       ·rw [hoff.1,h]; exact cx
       ·simp at h; omega)
      have py:(part f.type ys f.offset).run P w = .ok vy w:=run_part hm (by
       rcases cellsAt_seg (cs:=ys.toList) (off:=off) hnm with h | h
       ·rw [hoff.1,h]; exact cy
       ·simp at h; omega)
      have he:=IH f.type l hn m _ _ vx vy r1 hm e1 cx cy
      have hr:=eqFields_flat IH fs (off + l.length) l2 xs ys r2 hr (by omega) (by omega) e2
      cases r1 <;> simp [Op.eqFields,hoff.2,px,py,he,hr]
    ·cases h1
  ·cases h1
theorem eqItems_flat {D:Nat} {e:TypeId} {l:List Sg} {m:Option Nat} (hn:szOf P e = some l.length) (hm:nOf P e = some m) (hnm:m = none /\ l.length = 1 ∨ m = some l.length)
  (IH:EqP P w D e l) :
  ∀ (k i:Nat) (xs ys:Array Value) (r:Bool),(i + k) * l.length <= xs.size -> (i + k) * l.length <= ys.size ->
   leq (List.replicate k l).flatten ((xs.toList.drop (i * l.length)).take (k * l.length)) ((ys.toList.drop (i * l.length)).take (k * l.length)) = some r ->
   (Op.eqItems D e (P.cellsOf e) xs ys (List.range' i k)).run P w = .ok r w
 | 0,i,xs,ys,r,hx,hy,hl=>by
  simp [leq] at hl
  subst hl
  simp [Op.eqItems]
 | k + 1,i,xs,ys,r,hx,hy,hl=>by
  have hk:(i + (k + 1)) * l.length = i * l.length + l.length + k * l.length:=by rw [Nat.add_mul,Nat.add_mul]; omega
  have hi1:(i + 1) * l.length = i * l.length + l.length:=by rw [Nat.add_mul]; omega
  have hs:∀ zs:List Value,(zs.drop (i * l.length)).take ((k + 1) * l.length) = (zs.drop (i * l.length)).take l.length ++ (zs.drop ((i + 1) * l.length)).take (k * l.length):=fun zs=>by
   rw [show (k + 1) * l.length = l.length + k * l.length by rw [Nat.add_mul]; omega,List.take_add,List.drop_drop,hi1]
  rw [hs,hs,List.replicate_succ,List.flatten_cons] at hl
  have lx:((xs.toList.drop (i * l.length)).take l.length).length = l.length:=by simp; omega
  have ly:((ys.toList.drop (i * l.length)).take l.length).length = l.length:=by simp; omega
  obtain ⟨r1,r2,e1,e2,rfl⟩:=leq_append _ _ _ _ _ _ r lx.symm (by rw [lx,ly]) hl
  obtain ⟨vx,cx⟩:=cells_ex lx hnm
  obtain ⟨vy,cy⟩:=cells_ex ly hnm
  have px:(part e xs (i * l.length)).run P w = .ok vx w:=run_part hm (by
   rcases cellsAt_seg (cs:=xs.toList) (off:=i * l.length) hnm with h | h
   ·rw [h]; exact cx
   ·simp at h; omega)
  have py:(part e ys (i * l.length)).run P w = .ok vy w:=run_part hm (by
   rcases cellsAt_seg (cs:=ys.toList) (off:=i * l.length) hnm with h | h
   ·rw [h]; exact cy
   ·simp at h; omega)
  have he:=IH m _ _ vx vy r1 hm e1 cx cy
  have hr:=eqItems_flat hn hm hnm IH k (i + 1) xs ys r2 (by rw [show i + 1 + k = i + (k + 1) by omega]; exact hx) (by rw [show i + 1 + k = i + (k + 1) by omega]; exact hy) e2
  rw [List.range'_succ]
  rw [cellsOf_of hn] at hr ⊢
  cases r1 <;> simp [Op.eqItems,px,py,he,hr]
theorem one_cells {s:Sg} {x y:List Value} {r:Bool} {vx vy:Value} (hl:leq [s] x y = some r) (hx:cellsAt x 0 none = some vx) (hy:cellsAt y 0 none = some vy):veq s vx vy = some r:=by
 obtain ⟨h1,h2⟩:=leq_len _ _ _ _ hl
 match x,y,h1,h2 with
 | [a],[b],_,_ =>
  simp [cellsAt,grd] at hx hy
  subst hx; subst hy
  simp only [leq] at hl
  cases hv:veq s a b with
  | none=>simp [hv] at hl
  | some q=>simp [hv,leq] at hl; cases q <;> simp_all
theorem flat_eq:∀ (d D:Nat) (t:TypeId) (sg:List Sg),d <= D -> sigOf P d t = some sg -> EqP P w D t sg
 | 0,_,_,_,_,h=>by simp [sigOf] at h
 | d + 1,0,_,_,h,_=>by omega
 | d + 1,D + 1,t,sg,hd,hf=>by
  intro m x y vx vy r hm hl hx hy
  obtain ⟨hsz,m',hm',hnm⟩:=sig_nOf hf
  rw [hm] at hm'
  simp only [Option.some.injEq] at hm'
  subst hm'
  obtain ⟨l1,l2⟩:=leq_len _ _ _ _ hl
  unfold sigOf at hf
  split at hf
  ·rename_i k hu
   split at hf
   ·simp only [Option.some.injEq] at hf
    subst hf
    obtain rfl:m = none:=by have:=hm; simp [nOf,aggT,hu] at this; exact this.symm
    have hv:=one_cells hl hx hy
    unfold veq at hv
    split at hv
    ·rename_i he; obtain ⟨⟨hk1,hk2⟩,hv2⟩:=grd_some hv; simp only [Option.some.injEq] at hv2; rw [hk1,hk2,<-hv2]; simp [Op.equalIn,run_underlying hu]
    ·rename_i he; cases he
    ·rename_i he; cases he
    ·cases hv
   ·cases hf
  ·rename_i hu
   split at hf
   ·simp only [Option.some.injEq] at hf
    subst hf
    obtain rfl:m = none:=by have:=hm; simp [nOf,aggT,hu] at this; exact this.symm
    have hv:=one_cells hl hx hy
    unfold veq at hv
    split at hv
    ·rename_i he; cases he
    ·simp only [Option.some.injEq] at hv; subst hv; simp [Op.equalIn,run_underlying hu]
    ·rename_i he; cases he
    ·cases hv
   ·cases hf
  ·rename_i hu
   split at hf
   ·simp only [Option.some.injEq] at hf
    subst hf
    obtain rfl:m = none:=by have:=hm; simp [nOf,aggT,hu] at this; exact this.symm
    have hv:=one_cells hl hx hy
    unfold veq at hv
    split at hv
    ·rename_i he; cases he
    ·rename_i he; cases he
    ·simp only [Option.some.injEq] at hv; subst hv; simp [Op.equalIn,run_underlying hu]
    ·cases hv
   ·cases hf
  ·rename_i fs hu
   split at hf
   ·cases hf
   ·rename_i hst
    cases hr:sgRow P (sigOf P d) fs.toList 0 with
    | none=>simp [hr] at hf
    | some l' =>
     simp only [hr,Option.bind_some] at hf
     split at hf
     ·simp only [Option.some.injEq] at hf
      subst hf
      rename_i h1
      obtain rfl:m = some l'.length:=by have:=hm; simp [nOf,aggT,hu,h1] at this; exact this.symm
      simp only [cellsAt] at hx hy
      obtain ⟨_,hx⟩:=grd_some hx
      obtain ⟨_,hy⟩:=grd_some hy
      simp only [Option.some.injEq] at hx hy
      have ex:vx = .agg x.toArray:=by rw [<-hx,<-l1]; simp
      have ey:vy = .agg y.toArray:=by rw [<-hy,<-l2]; simp
      rw [ex,ey]
      have hfs:P.fieldsOf t = fs:=by simp [Program.fieldsOf,hu]
      rw [run_equalIn_struct w D t x.toArray y.toArray (by rw [hfs]; exact hu) (by simpa using hst),hfs]
      refine eqFields_flat (fun t sg h=>flat_eq d D t sg (by omega) h) fs.toList 0 l' _ _ r hr (by simp; omega) (by simp; omega) ?_
      simp only [List.drop_zero]
      rw [show (x.toArray.toList.take l'.length) = x by rw [<-l1]; simp,show (y.toArray.toList.take l'.length) = y by rw [<-l2]; simp]
      exact hl
     ·cases hf
  ·rename_i n e hu
   cases hr:sigOf P d e with
   | none=>simp [hr] at hf
   | some l' =>
    simp only [hr,Option.bind_some] at hf
    split at hf
    ·rename_i h1
     simp only [Option.some.injEq] at hf
     have hlen:sg.length = n * l'.length:=by rw [<-hf]; simp [List.length_flatten]
     obtain rfl:m = some (n * l'.length):=by have:=hm; simp [nOf,aggT,hu,h1.2] at this; exact this.symm
     simp only [cellsAt] at hx hy
     obtain ⟨_,hx⟩:=grd_some hx
     obtain ⟨_,hy⟩:=grd_some hy
     simp only [Option.some.injEq] at hx hy
     have ex:vx = .agg x.toArray:=by rw [<-hx,<-hlen,<-l1]; simp
     have ey:vy = .agg y.toArray:=by rw [<-hy,<-hlen,<-l2]; simp
     rw [ex,ey]
     obtain ⟨hsz',m2,hm2,hnm2⟩:=sig_nOf hr
     have hi:∃ i,P.info? e = some i:=by unfold szOf at hsz'; cases hi:P.info? e with
      | none=>simp [hi] at hsz'
      | some i=>exact ⟨i,rfl⟩
     obtain ⟨i,hi⟩:=hi
     rw [run_equalIn_array w D x.toArray y.toArray hu hi,List.range_eq_range']
     refine eqItems_flat hsz' hm2 hnm2 (flat_eq d D e l' (by omega) hr) n 0 _ _ r (by simp; omega) (by simp; omega) ?_
     rw [hf]
     simp only [Nat.zero_mul,List.drop_zero,<-hlen]
     rw [show (x.toArray.toList.take sg.length) = x by rw [<-l1]; simp,show (y.toArray.toList.take sg.length) = y by rw [<-l2]; simp]
     exact hl
    ·cases hf
  ·cases hf
theorem aeqa_run {op:BinOp} {t:TypeId} {x y:Operand} {sg:List Sg} {neg agg:Bool} (hop:op = if neg then .neq else .eql) (hg:P.eqGuardType P.depth t = false)
  (hs:sigOf P 20 t = some sg) (hag:aggT P t = some agg) (hbool:agg = false -> P.underlying t = some .bool) {a b v:Value} (ha:isAggV a = agg) (hb:isAggV b = agg) (hv:aeqa neg sg a b = some v) :
  (do eqGuard op t x y a b; binOp op t a b:Sem Value).run P w = .ok v w:=by
 unfold aeqa at hv
 cases hl:leq sg a.cells.toList b.cells.toList with
 | none=>simp [hl] at hv
 | some r =>
  simp [hl] at hv
  subst hv
  obtain ⟨hsz,m,hm,hnm⟩:=sig_nOf hs
  obtain ⟨l1,l2⟩:=leq_len _ _ _ _ hl
  have cx:cellsAt a.cells.toList 0 m = some a:=by
   cases agg with
   | true =>
    obtain rfl:m = some sg.length:=by have:=hm; simp [nOf,hag,hsz] at this; exact this.symm
    cases a <;> simp [isAggV] at ha
    simp only [cellsAt,grd]; rw [if_pos (by omega),<-l1]; simp only [Value.cells,List.drop_zero,List.take_length]
   | false =>
    obtain rfl:m = none:=by have:=hm; simp [nOf,hag] at this; exact this.symm
    have:a.cells = #[a]:=by cases a <;> simp [isAggV] at ha <;> rfl
    simp [cellsAt,grd,this]
  have cy:cellsAt b.cells.toList 0 m = some b:=by
   cases agg with
   | true =>
    obtain rfl:m = some sg.length:=by have:=hm; simp [nOf,hag,hsz] at this; exact this.symm
    cases b <;> simp [isAggV] at hb
    simp only [cellsAt,grd]; rw [if_pos (by omega),<-l2]; simp only [Value.cells,List.drop_zero,List.take_length]
   | false =>
    obtain rfl:m = none:=by have:=hm; simp [nOf,hag] at this; exact this.symm
    have:b.cells = #[b]:=by cases b <;> simp [isAggV] at hb <;> rfl
    simp [cellsAt,grd,this]
  have he:(Op.equal t a b).run P w = .ok r w:=flat_eq 20 10000 t sg (by omega) hs m _ _ a b r hm hl cx cy
  have hgb:(eqGuard op t x y a b).run P w = .ok () w /\ (binOp op t a b).run P w = .ok (.bool (if neg then !r else r)) w:=by
   cases agg with
   | true =>
    cases a <;> simp [isAggV] at ha
    cases b <;> simp [isAggV] at hb
    refine ⟨run_eqGuard_agg w op t x y _ _ hg,?_⟩
    subst hop
    cases neg <;> simp [binOp,he]
   | false =>
    have hu:=hbool rfl
    have hsg:sg = [.b]:=by
     unfold sigOf at hs; simp only [hu] at hs; split at hs
     ·simpa using hs.symm
     ·cases hs
    subst hsg
    obtain rfl:m = none:=by have:=hm; simp [nOf,hag] at this; exact this.symm
    have hv:=one_cells hl cx cy
    unfold veq at hv
    split at hv
    ·rename_i hq; cases hq
    ·subst hop
     refine ⟨by unfold eqGuard; cases neg <;> simp,?_⟩
     cases neg <;> simp [binOp,he]
    ·rename_i hq; cases hq
    ·cases hv
  obtain ⟨hgd,hbin⟩:=hgb
  simp [hgd,hbin]
end
end
section
set_option linter.constructorNameAsVariable false
section
variable {P:Program} {w:World}
theorem TR.eval {N:Nat} {t:T} {a:Act} (h:TR N t a):a.eval = ev t:=by
 funext x
 cases x with
 | tmp k=>exact h.get k
 | const v=>rfl
 | global g=>rfl
 | func f=>rfl
theorem TR.put {N:Nat} {t:T} {a:Act} (h:TR N t a) {d:Option Nat} (hd:∀ k,d = some k -> k < N) (v:Value):TR N (puto t d v) (a.put d v):=by
 cases d with
 | none=>exact h
 | some k =>
  have hk:=hd k rfl
  refine ⟨by simp [Act.put,h.size],fun j=>?_,h.defers⟩
  simp only [Act.put,puto,Sep.put]
  have hg:=h.get j
  by_cases hj:j = k
  ·subst hj
   simp [h.size,hk]
  ·rw [if_neg hj,<-hg]
   simp [Array.getElem?_setIfInBounds_ne (Ne.symm hj)]
theorem partsOf_map {α β:Type} (f:α -> β) (place:Nat -> Option (Nat × Nat)):∀ (parts:List (Nat × α)) (ps:List (Nat × Nat × α)),partsOf place parts = some ps ->
  partsOf place (parts.map fun p=>(p.1,f p.2)) = some (ps.map fun p=>(p.1,p.2.1,f p.2.2))
 | [],ps,h=>by simp [partsOf] at h; subst h; simp [partsOf]
 | p :: r,ps,h=>by
  simp only [partsOf,List.mapM_cons] at h
  cases hp:place p.1 with
  | none=>simp [hp] at h
  | some q =>
   cases hr:r.mapM (fun p=>(place p.1).map fun q=>(q.1,q.2,p.2)) with
   | none=>simp [hp,hr] at h
   | some r' =>
    simp [hp,hr] at h
    subst h
    have ih:=partsOf_map f place r r' hr
    simp only [partsOf] at ih
    simp only [partsOf,List.map_cons,List.mapM_cons,hp,Option.map_some,ih]
    simp
theorem zc_spec {e:TypeId} {z:List Value} (h:zc P e = some z):∃ i zv,P.info? e = some i /\ i.zero = some zv /\ zv.cells.toList = z /\ i.size = z.length /\ ∀ v ∈ z,v.oneCell' = true:=by
 unfold zc at h
 cases hi:P.info? e with
 | none=>simp [hi] at h
 | some i =>
  cases hz:i.zero with
  | none=>simp [hi,hz] at h
  | some zv =>
   simp only [hi,hz,Option.bind_some] at h
   split at h
   ·rename_i hc
    simp only [Option.some.injEq] at h
    simp only [Bool.and_eq_true,beq_iff_eq] at hc
    refine ⟨i,zv,rfl,hz,h,by rw [<-h]; simp [hc.2],fun v hv=>?_⟩
    rw [<-h] at hv
    exact Array.all_eq_true_iff_forall_mem.1 hc.1 v (Array.mem_toList_iff.1 hv)
   ·cases h
theorem abld_run {t:TypeId} {z:List Value} (hz:zc P t = some z) {pl:Nat -> Option (Nat × Nat)} (hpl:placeOf P t = some pl) (hns:∀ e,P.underlying t ≠ some (.slice e))
  {parts:Array (Nat × Value)} {ps:List (Nat × Nat × Value)} (hp:partsOf pl parts.toList = some ps) {v:Value} (hv:abld z ps = some v) :
  (Instr.build t parts).run P w = .ok v w:=by
 unfold abld at hv
 cases hf:fillL z ps with
 | none=>simp [hf] at hv
 | some r =>
  simp [hf] at hv
  subst hv
  obtain ⟨i,zv,hi,hzz,hzc,_,_⟩:=zc_spec hz
  refine run_build w t parts r.toArray ?_
  have hfl:=bld_fill pl parts.toList ps z r hp hf
  have hcells:zv.cells = z.toArray:=by rw [<-hzc]
  unfold Program.built
  unfold placeOf at hpl
  cases hu:P.underlying t with
  | none=>simp [hu] at hpl
  | some d =>
   cases d <;> simp [hu] at hpl
   case array n e =>
    obtain ⟨ie,hie,rfl⟩:=hpl
    simp [hi,hzz,hie,hcells,hfl]
   case slice e=>exact absurd hu (hns e)
   case struct fs =>
    obtain ⟨l,hl,rfl⟩:=hpl
    simp [hi,hzz,hl,hcells,hfl]
theorem run_v {s:Sem Value} {v:Value} (h:s.run P w = .ok v w):(do pure (Next.value (<-s)):Sem Next).run P w = .ok (.value v) w:=by
 simp [h]
theorem binOf_run {o:Oper} {op:BinOp} {t yt:TypeId} {x y:Operand} (ho:o.op = .binOp op t x y yt) {ao:AOp} (hb:binOf P op t x y = some ao) {h:H} {ρ:Operand -> Value} {v:Value}
  (hv:adet h ρ ao = some v):(execOp ρ o).run P w = .ok (.value v) w:=by
 unfold binOf at hb
 unfold execOp
 simp only [ho]
 split at hb
 ·simp only [Option.some.injEq] at hb; subst hb; exact run_v (abin_run hv)
 ·simp only [Option.some.injEq] at hb; subst hb; exact run_v (abin_run hv)
 ·cases hb
theorem eqaOf_run {o:Oper} {op:BinOp} {t yt:TypeId} {x y:Operand} (ho:o.op = .binOp op t x y yt) {ao:AOp} (hb:eqaOf P op t x y = some ao) (hbool:aggT P t = some false -> P.underlying t = some .bool)
  {h:H} {ρ:Operand -> Value} {v:Value} (hv:adet h ρ ao = some v):(execOp ρ o).run P w = .ok (.value v) w:=by
 unfold eqaOf at hb
 unfold execOp
 simp only [ho]
 split at hb
 ·cases hb
 ·rename_i hg
  cases hs:sigOf P 20 t with
  | none=>simp [hs] at hb
  | some sg =>
   cases ha:aggT P t with
   | none=>simp [hs,ha] at hb
   | some ag =>
    simp only [hs,ha,Option.bind_some] at hb
    split at hb
    ·simp only [Option.some.injEq] at hb; subst hb
     obtain ⟨⟨h1,h2⟩,hv⟩:=grd_some hv
     exact run_v (aeqa_run (by simp) (by simpa using hg) hs ha (fun e=>hbool (by rw [ha,e])) h1 h2 hv)
    ·simp only [Option.some.injEq] at hb; subst hb
     obtain ⟨⟨h1,h2⟩,hv⟩:=grd_some hv
     exact run_v (aeqa_run (by simp) (by simpa using hg) hs ha (fun e=>hbool (by rw [ha,e])) h1 h2 hv)
    ·cases hb
theorem cvOf_run {o:Oper} {src dst:TypeId} {x:Operand} (ho:o.op = .convert src dst x) {ao:AOp} (hb:cvOf P src dst x = some ao)
  {B:Bd} {w0:World} {h hr:H} (hs:Sat B w0 w hr) (hle:Le h hr) {ρ:Operand -> Value} {v:Value} (hv:adet h ρ ao = some v):(execOp ρ o).run P w = .ok (.value v) w:=by
 unfold cvOf at hb
 unfold execOp
 simp only [ho]
 split at hb
 ·rename_i k1 k2 h1 h2
  simp only [Option.some.injEq] at hb; subst hb
  refine run_v ?_
  simp only [adet] at hv
  unfold acvi at hv
  split at hv
  ·rename_i he
   simp only [Option.some.injEq] at hv; subst hv
   simp [convert,run_underlying h1,run_underlying h2,he,Conv.intToInt]
  ·cases hv
 ·rename_i h1 h2
  simp only [Option.some.injEq] at hb; subst hb
  refine run_v ?_
  simp only [adet] at hv
  unfold acvs at hv
  split at hv
  ·rename_i he
   simp only [Option.some.injEq] at hv; subst hv
   simp [convert,run_underlying h1,run_underlying h2,he]
  ·cases hv
 ·rename_i e h1 h2
  split at hb
  ·simp only [Option.some.injEq] at hb; subst hb; simp [adet] at hv
  ·cases hb
 ·rename_i e h1 h2
  split at hb
  ·rename_i h3
   simp only [Option.some.injEq] at hb; subst hb
   refine run_v ?_
   simp only [adet] at hv
   have hr:=ab2s_run (P:=P) hs hle hv
   unfold ab2s at hv
   split at hv
   ·rename_i he; rw [he] at hr ⊢; simpa [convert,run_underlying h1,run_underlying h2,run_underlying h3] using hr
   ·rename_i he; rw [he] at hr ⊢; simpa [convert,run_underlying h1,run_underlying h2,run_underlying h3] using hr
   ·cases hv
  ·cases hb
 ·cases hb
theorem max_run {x y v:Value} (hv:amax x y = some v):(Builtin.max2 x y).run P w = .ok v w:=by
 unfold amax at hv
 split at hv
 ·simp only [Option.some.injEq] at hv; subst hv; simp [Builtin.max2]
 ·cases hv
theorem min_run {x y v:Value} (hv:amin x y = some v):(Builtin.min2 x y).run P w = .ok v w:=by
 unfold amin at hv
 split at hv
 ·simp only [Option.some.injEq] at hv; subst hv; simp [Builtin.min2]
 ·cases hv
theorem callOf_run {o:Oper} {c:Call} (ho:o.op = .call c) {ao:AOp} (hb:callOf P c = some ao)
  {B:Bd} {w0:World} {h hr:H} (hs:Sat B w0 w hr) (hle:Le h hr) {ρ:Operand -> Value} (hρ:∀ v,ρ (.const v) = v) {v:Value} (hv:adet h ρ ao = some v):(execOp ρ o).run P w = .ok (.value v) w:=by
 obtain ⟨callee,args,argTypes⟩:=c
 unfold callOf at hb
 unfold execOp
 simp only [ho]
 cases callee with
 | invoke r m=>simp at hb
 | value f =>
  cases f with
  | func f =>
   simp only at hb
   split at hb
   ·split at hb
    ·cases hb
    ·simp only [Option.some.injEq] at hb; subst hb; simp [adet] at hv
   ·cases hb
  | _=>simp only [Option.some.injEq] at hb; subst hb; simp [adet] at hv
 | builtin b =>
  cases b <;> simp only at hb <;> try (cases hb; done)
  case len =>
   cases ht:argTypes[0]? with
   | none=>simp [ht] at hb
   | some t =>
    simp only [ht,Option.bind_some] at hb
    split at hb
    ·rename_i x hu ha
     simp only [Option.some.injEq] at hb; subst hb
     obtain rfl:args = #[x]:=by cases args; simp_all
     simp only [adet] at hv; unfold alenT at hv
     split at hv
     ·rename_i he
      simp only [Option.some.injEq] at hv; subst hv
      simp [resolve,invoke,builtin,Builtin.len_,ht,he,run_underlying hu,goInt]
     ·cases hv
    ·rename_i e x hu ha
     simp only [Option.some.injEq] at hb; subst hb
     obtain rfl:args = #[x]:=by cases args; simp_all
     simp only [adet] at hv; unfold alenS at hv
     split at hv
     ·rename_i he
      simp only [Option.some.injEq] at hv; subst hv
      simp [resolve,invoke,builtin,Builtin.len_,ht,he,run_underlying hu,goInt]
     ·cases hv
    ·rename_i n e x hu ha
     simp only [Option.some.injEq] at hb; subst hb
     obtain rfl:args = #[x]:=by cases args; simp_all
     simp only [adet,Option.some.injEq] at hv; subst hv
     simp [resolve,invoke,builtin,Builtin.len_,ht,run_underlying hu,goInt,hρ]
    ·rename_i k e x hu ha
     simp only [Option.some.injEq] at hb; subst hb
     obtain rfl:args = #[x]:=by cases args; simp_all
     simp only [adet] at hv; unfold alenM at hv
     split at hv
     ·rename_i he
      simp only [Option.some.injEq] at hv; subst hv
      simp [resolve,invoke,builtin,Builtin.len_,ht,he,run_underlying hu,goInt]
     ·rename_i b he
      split at hv
      ·rename_i es cl hb2
       simp only [Option.some.injEq] at hv; subst hv
       obtain ⟨⟨o',ho',hok⟩,_⟩:=hs.blk b _ (hle _ _ hb2)
       obtain ⟨rfl,_⟩:=hok
       simp [resolve,invoke,builtin,Builtin.len_,ht,he,run_underlying hu,goInt,getObj,Sem.run,ho']
      ·cases hv
     ·cases hv
    ·cases hb
  case max =>
   split at hb
   ·rename_i x y ha
    simp only [Option.some.injEq] at hb; subst hb
    obtain rfl:args = #[x,y]:=by cases args; simp_all
    have:=max_run (P:=P) (w:=w) hv
    simp [resolve,invoke,builtin,Builtin.max_,this]
   ·cases hb
  case min =>
   split at hb
   ·rename_i x y ha
    simp only [Option.some.injEq] at hb; subst hb
    obtain rfl:args = #[x,y]:=by cases args; simp_all
    have:=min_run (P:=P) (w:=w) hv
    simp [resolve,invoke,builtin,Builtin.min_,this]
   ·cases hb
  case append =>
   split at hb
   ·split at hb
    ·rename_i e _
     cases hz:zc P e with
     | none=>simp [hz] at hb
     | some z =>
      cases hi:P.info? e with
      | none=>simp [hz,hi] at hb
      | some i =>
       simp only [hz,hi,Option.bind_some] at hb
       split at hb
       ·split at hb
        ·simp only [Option.some.injEq] at hb; subst hb; simp [adet] at hv
        ·cases hb
       ·split at hb
        ·split at hb
         ·simp only [Option.some.injEq] at hb; subst hb; simp [adet] at hv
         ·cases hb
        ·cases hb
    ·cases hb
   ·cases hb
  case copy =>
   split at hb
   ·rename_i e _ _ _ _ _ _
    cases hz:szOf P e with
    | none=>simp [hz] at hb
    | some n=>simp [hz] at hb; subst hb; simp [adet] at hv
   ·split at hb
    ·simp only [Option.some.injEq] at hb; subst hb; simp [adet] at hv
    ·cases hb
   ·cases hb
  case clear =>
   split at hb
   ·rename_i e _ _ _
    cases hz:zc P e with
    | none=>simp [hz] at hb
    | some n=>simp [hz] at hb; subst hb; simp [adet] at hv
   ·cases hb
theorem det_run {B:Bd} {w0:World} {h hr:H} (hs:Sat B w0 w hr) (hle:Le h hr) {o:Oper} {op:AOp} (hc:compOp P o = some op)
  {ρ:Operand -> Value} (hρ:∀ v,ρ (.const v) = v) {v:Value} (hv:adet h ρ op = some v):(execOp ρ o).run P w = .ok (.value v) w:=by
 unfold compOp at hc
 split at hc
 all_goals rename_i ho
 all_goals try (cases hc; done)
 -- move,assign
 ·simp only [Option.some.injEq] at hc; subst hc; simp only [adet,Option.some.injEq] at hv; subst hv; simp [execOp,ho]
 ·simp only [Option.some.injEq] at hc; subst hc; simp only [adet,Option.some.injEq] at hv; subst hv; simp [execOp,ho]
 -- nilCheck
 ·simp only [Option.some.injEq] at hc; subst hc
  simp only [adet] at hv; unfold afa at hv
  split at hv
  ·rename_i b o hx
   simp only [Option.some.injEq] at hv; subst hv
   unfold execOp; simp only [ho]; rw [hx]; simp
  ·cases hv
 -- pick
 ·simp only [Option.some.injEq] at hc; subst hc
  simp only [adet] at hv
  unfold apick at hv
  split at hv
  ·simp only [Option.some.injEq] at hv; subst hv; rename_i he; simp [execOp,ho,he,asBool]
  ·cases hv
 -- alloc
 ·rename_i e
  cases hz:zc P e with
  | none=>simp [hz] at hc
  | some z=>simp [hz] at hc; subst hc; simp [adet] at hv
 -- box
 ·simp only [Option.some.injEq] at hc; subst hc; simp [adet] at hv
 -- build
 ·rename_i t parts
  cases hz:zc P t with
  | none=>simp [hz] at hc
  | some z =>
   simp only [hz,Option.bind_some] at hc
   split at hc
   ·cases hc
   ·rename_i hns
    cases hpl:placeOf P t with
    | none=>simp [hpl] at hc
    | some pl =>
     cases hp:partsOf pl parts.toList with
     | none=>simp [hpl,hp] at hc
     | some ps =>
      simp [hpl,hp] at hc
      subst hc
      have hpm:=partsOf_map ρ pl _ _ hp
      have hr:=abld_run (P:=P) (w:=w) (parts:=parts.map fun p=>(p.1,ρ p.2)) hz hpl (fun e he=>hns e he) (by rw [Array.toList_map]; exact hpm) hv
      simp [execOp,ho,hr]
 -- buildSlice
 ·split at hc
  ·rename_i e hu
   cases hz:zc P e with
   | none=>simp [hz] at hc
   | some z =>
    rename_i t len parts _
    cases hpl:placeOf P t with
    | none=>simp [hz,hpl] at hc
    | some pl =>
     cases hp:partsOf pl parts.toList with
     | none=>simp [hz,hpl,hp] at hc
     | some ps=>simp [hz,hpl,hp] at hc; rw [<-hc.2] at hv; simp [adet] at hv
  ·cases hc
 -- load
 ·rename_i t a
  cases hn:nOf P t with
  | none=>simp [hn] at hc
  | some n=>simp [hn] at hc; subst hc; simp [execOp,ho,ald_run hs hle hn hv]
 -- store
 ·rename_i t a x
  cases hn:szOf P t with
  | none=>simp [hn] at hc
  | some n=>simp [hn] at hc; subst hc; simp [adet] at hv
 -- binOp
 ·rename_i op t x y yt
  split at hc
  ·rename_i hu; exact eqaOf_run ho hc (fun e=>by simp [aggT,hu] at e) hv
  ·rename_i hu; exact eqaOf_run ho hc (fun e=>by simp [aggT,hu] at e) hv
  ·rename_i hu; exact eqaOf_run ho hc (fun _=>hu) hv
  ·rename_i e hu
   have hg:∀ op' (z:Value),(eqGuard op' t x (.const (.slice none 0 0)) z (.slice none 0 0)).run P w = .ok () w:=fun op' z=>by unfold eqGuard; cases op' <;> cases z <;> simp
   split at hc
   ·have he:∀ (a:Option Addr) (n c:Nat),(Op.equal t (.slice a n c) (.slice none 0 0)).run P w = .ok a.isNone w:=fun a n c=>run_equal_slice_nil w t e a n c hu
    split at hc
    ·simp only [Option.some.injEq] at hc; subst hc
     simp only [adet] at hv; unfold anilS at hv
     split at hv
     ·rename_i a n c hx
      simp only [Option.some.injEq] at hv; subst hv
      unfold execOp; simp only [ho]
      refine run_v ?_
      rw [hx,hρ]
      simp [hg,binOp,he]
     ·cases hv
    ·simp only [Option.some.injEq] at hc; subst hc
     simp only [adet] at hv; unfold anilS at hv
     split at hv
     ·rename_i a n c hx
      simp only [Option.some.injEq] at hv; subst hv
      unfold execOp; simp only [ho]
      refine run_v ?_
      rw [hx,hρ]
      simp [hg,binOp,he]
     ·cases hv
    ·cases hc
   ·cases hc
  ·exact binOf_run ho hc hv
 -- unOp
 ·simp only [Option.some.injEq] at hc; subst hc
  unfold execOp; simp only [ho]
  exact run_v (aun_run hv)
 -- convert
 ·exact cvOf_run ho hc hs hle hv
 -- makeFunc
 ·simp only [Option.some.injEq] at hc; subst hc
  simp only [adet,Option.some.injEq] at hv; subst hv
  unfold execOp; simp only [ho]
  refine run_v ?_
  have h1:∀ a:Array Operand,Array.map ρ a = (List.map ρ a.toList).toArray:=fun a=>by apply Array.ext'; simp
  simp [Instr.makeFunc,h1]
 -- makeSlice
 ·split at hc
  ·rename_i e hu
   cases hz:zc P e with
   | none=>simp [hz] at hc
   | some z =>
    cases hi:P.info? e with
    | none=>simp [hz,hi] at hc
    | some i=>simp [hz,hi] at hc; subst hc; simp [adet] at hv
  ·cases hc
 -- slice
 ·rename_i t x lo hi
  unfold execOp; simp only [ho]
  split at hc
  ·rename_i n e hu
   cases hz:szOf P e with
   | none=>simp [hz] at hc
   | some s=>simp [hz] at hc; subst hc; exact run_v (aslA_run hu hz hv)
  ·rename_i e hu
   cases hz:szOf P e with
   | none=>simp [hz] at hc
   | some s=>simp [hz] at hc; subst hc; exact run_v (aslS_run hu hz hv)
  ·rename_i hu
   simp only [Option.some.injEq] at hc; subst hc; exact run_v (aslT_run hu hv)
  ·cases hc
 -- fieldAddr
 ·unfold execOp; simp only [ho]
  split at hc
  ·rename_i fs hu
   rename_i s x f _
   cases hg:fs[f]? with
   | none=>simp [hg] at hc
   | some g =>
    cases hz:szOf P g.type with
    | none=>simp [hg,hz] at hc
    | some n =>
     simp only [hg,hz,Option.bind_some] at hc
     split at hc
     ·cases hc
     ·rename_i h0
      simp only [Option.some.injEq] at hc; subst hc; exact run_v (afa_run hu hg hz h0 hv)
  ·cases hc
 -- field
 ·unfold execOp; simp only [ho]
  split at hc
  ·rename_i fs hu
   rename_i s x f _
   cases hg:fs[f]? with
   | none=>simp [hg] at hc
   | some g =>
    cases hz:nOf P g.type with
    | none=>simp [hg,hz] at hc
    | some n=>simp [hg,hz] at hc; subst hc; exact run_v (afd_run hu hg hz hv)
  ·cases hc
 -- indexAddr
 ·unfold execOp; simp only [ho]
  split at hc
  ·rename_i n e hu
   cases hz:szOf P e with
   | none=>simp [hz] at hc
   | some s=>simp [hz] at hc; subst hc; exact run_v (aixA_run hu hz hv)
  ·rename_i e hu
   cases hz:szOf P e with
   | none=>simp [hz] at hc
   | some s=>simp [hz] at hc; subst hc; exact run_v (aixS_run hu hz hv)
  ·cases hc
 -- index
 ·unfold execOp; simp only [ho]
  split at hc
  ·rename_i n e hu
   cases hz:szOf P e with
   | none=>simp [hz] at hc
   | some s =>
    cases hn:nOf P e with
    | none=>simp [hz,hn] at hc
    | some m=>simp [hz,hn] at hc; subst hc; exact run_v (aixV_run hu hz hn hv)
  ·rename_i hu
   simp only [Option.some.injEq] at hc; subst hc; exact run_v (aixT_run hu hv)
  ·cases hc
 -- extract
 ·simp only [Option.some.injEq] at hc; subst hc
  unfold execOp; simp only [ho]
  exact run_v (aext_run hv)
 -- call
 ·exact callOf_run ho hc hs hle hρ hv
 -- makeMap
 ·simp only [Option.some.injEq] at hc; subst hc; simp [adet] at hv
 -- panic,makeInterface
 ·simp only [Option.some.injEq] at hc; subst hc; simp [adet] at hv
 ·simp only [Option.some.injEq] at hc; subst hc; simp [adet] at hv
end
end
section
set_option linter.constructorNameAsVariable false
def all1 (cs:List Value):Bool:=cs.all Value.oneCell'
def reps (zero:List Value) (n:Nat):List Value:=(List.replicate n zero).flatten
def setL (cs:List Value) (off:Nat):List Value -> List Value
 | [v]=>cs.set off v
 | vs=>cs.take off ++ vs ++ cs.drop (off + vs.length)
def acall (P:Program) (f:FuncId) (args:List Value) (h:H) (K:Value -> Eff -> Prop):Prop :=
 (∃ Φ,Spec P f args h Φ /\ ∀ r d,Φ r d -> K r (.new d)) ∨ (∃ Φ,SpecW P f args h Φ /\ ∀ r h',Φ r h' -> K r (.set h'))
def acallp (P:Program) (f:FuncId) (args:List Value) (h:H) (K:Value -> Eff -> Prop):Prop :=
 ∃ Φ,Spec P f args h Φ /\ ∀ r d,Φ r d -> K r (.new d)
def acalla (P:Program) (f:FuncId) (args avs:List Value) (h:H) (K:Value -> Eff -> Prop):Prop :=
 (∃ Φ,Spec P f args h Φ /\ ∀ r d,Φ r d -> K r (.new d)) ∨
  (∃ Φ,SpecX P f args h Φ /\ ∀ r h',Φ r h' -> (∀ x ∈ avs,∀ b,blockOf x = some b -> (h b).isSome = true -> h' b = h b) /\ K r (.set h'))
theorem acalla_acall {P:Program} {f:FuncId} {args avs:List Value} {h:H} {K:Value -> Eff -> Prop} (hK:acalla P f args avs h K):acall P f args h K :=
 hK.imp id fun ⟨Φ,h1,h2⟩=>⟨Φ,h1.w,fun r h' hh=>(h2 r h' hh).2⟩
def isFn (P:Program) (f:FuncId):Bool :=
 match P.funcs[f]? with
 | some fn => !(fn.name == "runtime.NumGoroutine") && !fn.body.isNone
 | none=>false
def acallv (P:Program) (h:H) (K:Value -> Eff -> Prop) (args:List Value):Value -> Prop
 | .func (.func f) first cap=>isFn P f = true /\ acall P f (first.toList ++ args ++ cap.toList) h K
 | _=>False
def anew (h:H) (k:Blk) (K:Nat -> Eff -> Prop):Prop:=∀ b,New h b -> K b (.new (single b k))
def aboxV (e:TypeId) (v:Value) (h:H) (K:Value -> Eff -> Prop):Prop :=
 all1 v.cells.toList = true /\ anew h (.row true e v.cells.toList 0) fun b e=>K (.pointer (some ⟨b,0,none⟩)) e
def amksV (e:TypeId) (len:Nat) (cs:List Value) (h:H) (K:Value -> Eff -> Prop):Prop :=
 all1 cs = true /\ anew h (.row true e cs 0) fun b e=>K (.slice (some ⟨b,0,none⟩) len len) e
def amkV (e:TypeId) (bytes:Nat) (zero:List Value) (h:H) (K:Value -> Eff -> Prop):Value -> Value -> Prop
 | .int _ l,.int _ c=>(0 <= l /\ l <= c /\ (bytes:Int) * c <= 281474976710656 /\ c <= 9223372036854775807) /\
   anew h (.row true e (reps zero c.toNat) 0) fun b e=>K (.slice (some ⟨b,0,none⟩) l.toNat c.toNat) e
 | _,_=>False
def readB (sz o n:Nat):Option Blk -> Option (Nat × List Value)
 | some (.row _ _ cs _)=>grd (o + n * sz <= cs.length) (some (n,(cs.drop o).take (n * sz)))
 | _=>none
def readS (sz:Nat) (h:H):Value -> Option (Nat × List Value)
 | .slice none 0 0=>some (0,[])
 | .slice (some ⟨b,o,sp⟩) n _=>if n = 0 then some (0,[]) else if sp = none then readB sz o n (h b) else none
 | _=>none
def appB (e:TypeId) (sz bytes:Nat) (h:H) (K:Value -> Eff -> Prop) (b n cap m:Nat) (news:List Value):Option Blk -> Prop
 | some (.row true e' cs ex)=>(e' = e /\ n * sz <= cs.length /\ n <= cap /\ cap <= maxLen /\ cap * sz = cs.length + ex /\ n + m <= maxLen /\ (n + m) * bytes <= 140737488355328) /\
   ∀ b' cap' ex',New (erase h b) b' -> n + m <= cap' -> cap' <= maxLen -> cap' * sz = (n + m) * sz + ex' ->
    K (.slice (some ⟨b',0,none⟩) (n + m) cap') (.set (upd (erase h b) b' (.row true e (cs.take (n * sz) ++ news) ex')))
 | _=>False
def appV (e:TypeId) (sz bytes:Nat) (h:H) (K:Value -> Eff -> Prop) (m:Nat) (news:List Value):Value -> Prop
 | .slice (some ⟨b,0,none⟩) n cap=>appB e sz bytes h K b n cap m news (h b)
 | .slice none 0 0=>if m = 0 then K (.slice none 0 0) .keep else (m <= maxLen /\ m * bytes <= 140737488355328) /\
   ∀ b' cap' ex',New h b' -> m <= cap' -> cap' <= maxLen -> cap' * sz = m * sz + ex' ->
    K (.slice (some ⟨b',0,none⟩) m cap') (.new (single b' (.row true e news ex')))
 | _=>False
def acpyB (b off k:Nat) (vs:List Value) (K:Value -> Eff -> Prop):Option Blk -> Prop
 | some (.row true e cs ex)=>(off + vs.length <= cs.length /\ all1 vs = true) /\ K (.int .i64 k) (.ovr b (.row true e (setL cs off vs) ex))
 | _=>False
def acpyV (sz:Nat) (h:H) (K:Value -> Eff -> Prop) (m:Nat) (news:List Value):Value -> Prop
 | .slice (some ⟨b,off,none⟩) n _=>if min m n = 0 then K (.int .i64 0) .keep else acpyB b off (min m n) (news.take (min m n * sz)) K (h b)
 | .slice none 0 0=>K (.int .i64 0) .keep
 | _=>False
def aclrB (b off:Nat) (vs:List Value) (K:Value -> Eff -> Prop):Option Blk -> Prop
 | some (.row true e cs ex)=>(off + vs.length <= cs.length /\ all1 vs = true) /\ K (.tuple #[]) (.ovr b (.row true e (setL cs off vs) ex))
 | _=>False
def aclrV (zero:List Value) (h:H) (K:Value -> Eff -> Prop):Value -> Prop
 | .slice (some ⟨b,off,none⟩) n _=>if n = 0 then K (.tuple #[]) .keep else aclrB b off (reps zero n) K (h b)
 | .slice none 0 0=>K (.tuple #[]) .keep
 | _=>False
def astB (b off n:Nat) (v:List Value) (K:Value -> Eff -> Prop):Option Blk -> Prop
 | some (.row true e cs ex)=>(v.length = n /\ off + n <= cs.length /\ all1 v = true) /\ K undef (.ovr b (.row true e (setL cs off v) ex))
 | _=>False
def astV (n:Nat) (v:List Value) (h:H) (K:Value -> Eff -> Prop):Value -> Prop
 | .pointer (some ⟨b,off,none⟩)=>astB b off n v K (h b)
 | _=>False
def avoids (av:List Value) (s:Value):Bool:=av.all fun x=>match blockOf s with
 | none=>true
 | some b=>match blockOf x with
  | some b'=>decide (b' ≠ b)
  | none=>true
def aop (P:Program) (op:AOp) (ρ:Operand -> Value) (h:H) (K:Value -> Eff -> Prop):Prop :=
 match op with
 | .alloc e zero=>anew h (.row true e zero 0) fun b e=>K (.pointer (some ⟨b,0,none⟩)) e
 | .box e x=>aboxV e (ρ x) h K
 | .mks e zero len parts=>OK (fillL zero (parts.map fun p=>(p.1,p.2.1,ρ p.2.2))) fun cs=>amksV e len cs h K
 | .mk e bytes zero l c=>amkV e bytes zero h K (ρ l) (ρ c)
 | .app e sz bytes zero av s x=>OK (readS sz h (ρ x)) fun r=>(all1 r.2 = true /\ avoids (av.map ρ) (ρ s) = true) /\ appV e sz bytes h K r.1 r.2 (ρ s)
 | .st n a x=>astV n (ρ x).cells.toList h K (ρ a)
 | .sta av n a x=>avoids (av.map ρ) (ρ a) = true /\ astV n (ρ x).cells.toList h K (ρ a)
 | .call f args=>acall P f (args.map ρ) h K
 | .callp f args=>acallp P f (args.map ρ) h K
 | .calla av f args=>acalla P f (args.map ρ) (av.map ρ) h K
 | .callv fv args=>acallv P h K (args.map ρ) (ρ fv)
 | .mkm=>anew h (.obj true (.map #[] 0)) fun b e=>K (.map (some b)) e
 | .cpy sz d s=>OK (readS sz h (ρ s)) fun r=>acpyV sz h K r.1 r.2 (ρ d)
 | .clr zero x=>aclrV zero h K (ρ x)
 | .appT .. | .s2b .. | .cpyT .. | .bad=>False
 | op=>OK (adet h ρ op) fun v=>K v .keep
def Eff.ok:Eff -> H -> Prop
 | .new d,h=>Dis h d
 | _,_=>True
section
variable {P:Program} {w:World}
theorem Sat.lt {B:Bd} {w0 w:World} {h:H} (hs:Sat B w0 w h) {b:Nat} (hb:(h b).isSome = true):b < w.heap.size:=by
 obtain ⟨k,hk⟩:=Option.isSome_iff_exists.1 hb
 obtain ⟨⟨o,ho,_⟩,_⟩:=hs.blk b k hk
 exact (Array.getElem?_eq_some_iff.1 ho).1
theorem Sat.new {B:Bd} {w0 w:World} {h:H} (hs:Sat B w0 w h):New h w.heap.size:=fun x hx=>by
 have:=hs.lt hx; omega
theorem Sat.drew {B:Bd} {w0 w:World} {h:H} (hs:Sat B w0 w h):Sat B w0 w.drew h:=⟨hs.below.drew,hs.base,hs.blk,hs.grow,hs.old⟩
theorem New.none {h:H} {b:Nat} (hn:New h b):h b = none:=by
 cases hb:h b with
 | none=>rfl
 | some k=>exact absurd rfl (hn b (by simp [hb])).1
theorem join_single (h:H) (b:Nat) (k:Blk):join h (single b k) = upd h b k:=by
 funext x; simp only [join,single,upd]; split <;> simp
theorem dis_single {h:H} {b:Nat} (k:Blk) (hn:New h b):Dis h (single b k):=fun x hx=>by
 simp only [single] at hx
 split at hx
 ·rename_i e; subst e; exact hn.none
 ·simp at hx
theorem Sat.alloc {B:Bd} {w0 w:World} {h:H} (hs:Sat B w0 w h) {o:Obj} {k:Blk} (hk:k.ok o):Sat B w0 (w.alloc o) (upd h w.heap.size k):=by
 refine ⟨hs.below.alloc hs.base o,by simp; have:=hs.base; omega,fun b k' hb=>?_,by simp; have:=hs.grow; omega,fun b hb=>?_⟩
 rotate_left
 ·simp only [upd] at hb
  split at hb
  ·rename_i e; subst e; exact .inr hs.grow
  ·exact hs.old b hb
 simp only [upd] at hb
 split at hb
 ·rename_i e
  subst e
  simp only [Option.some.injEq] at hb
  subst hb
  exact ⟨⟨o,heap_alloc_new w o,hk⟩,fun _=>hs.base⟩
 ·obtain ⟨⟨o',ho',hok⟩,hown⟩:=hs.blk b k' hb
  have hlt:=(Array.getElem?_eq_some_iff.1 ho').1
  exact ⟨⟨o',by rw [Below.heap_alloc w o b hlt]; exact ho',hok⟩,hown⟩
theorem rowOk {e:TypeId} {cs:List Value} (h1:all1 cs = true):(Blk.row true e cs 0).ok (.cells cs.toArray e) :=
 ⟨cs.toArray,(0,0),rfl,by simp,by simp,fun _=>rfl,fun _ v hv=>by simpa [all1] using List.all_eq_true.1 h1 v hv⟩
theorem newRow_run (e:TypeId) (cs:Array Value):(newRow e cs).run P w = .ok ⟨w.heap.size,0,none⟩ (w.alloc (.cells cs e)):=by
 simp [newRow,newObj,Sem.run]
abbrev Out (B:Bd) (w0:World) (o:Oper) (h:H) (K:Value -> Eff -> Prop) (a:Act):Act -> World -> Prop :=
 fun a' w'=>∃ v e,K v e /\ a' = a.put o.dst v /\ e.ok h /\ Sat B w0 w' (e.app h)
theorem out_value {B:Bd} {w0:World} {o:Oper} {h:H} {K:Value -> Eff -> Prop} {a:Act} {Q:Exit -> Act -> World -> Prop} {v:Value} {w':World}
  (hr:(execOp a.eval o).run P w = .ok (.value v) w') (e:Eff) (hK:K v e) (hok:e.ok h) (hs:Sat B w0 w' (e.app h)):o.wp P a w (Out B w0 o h K a) Q:=by
 unfold Oper.wp
 rw [hr]
 exact ⟨v,e,hK,rfl,hok,hs⟩
theorem out_new {B:Bd} {w0:World} {o:Oper} {h:H} {K:Value -> Eff -> Prop} {a:Act} {Q:Exit -> Act -> World -> Prop} {v:Value} {ob:Obj} {k:Blk}
  (hr:(execOp a.eval o).run P w = .ok (.value v) (w.alloc ob)) (hs:Sat B w0 w h) (hk:k.ok ob) (hK:K v (.new (single w.heap.size k))):o.wp P a w (Out B w0 o h K a) Q :=
 out_value hr _ hK (dis_single k hs.new) (by simp only [Eff.app,join_single]; exact hs.alloc hk)
theorem fillL_len:∀ (ps:List (Nat × Nat × Value)) (cs r:List Value),fillL cs ps = some r -> r.length = cs.length
 | [],cs,r,h=>by simp [fillL] at h; rw [h]
 | (off,n,v) :: ps,cs,r,h=>by
  simp only [fillL] at h
  obtain ⟨⟨h1,h2⟩,h⟩:=grd_some h
  rw [fillL_len ps _ r h]
  simp; omega
theorem mks_run {t e:TypeId} {z:List Value} (hu:P.underlying t = some (.slice e)) (hz:zc P e = some z) {pl:Nat -> Option (Nat × Nat)} (hpl:placeOf P t = some pl)
  {len:Nat} (hlen:len * z.length <= 2 ^ 24) {parts:Array (Nat × Value)} {ps:List (Nat × Nat × Value)} (hp:partsOf pl parts.toList = some ps)
  {cs:List Value} (hf:fillL ((List.range (len * z.length)).map fun k=>z.getD (k % z.length) undef) ps = some cs) :
  (Instr.buildSlice t len parts).run P w = .ok (.slice (some ⟨w.heap.size,0,none⟩) len len) (w.alloc (.cells cs.toArray e)):=by
 obtain ⟨i,zv,hi,hzz,hzc,hsz,_⟩:=zc_spec hz
 have hcells:zv.cells = z.toArray:=by rw [<-hzc]
 have hpl2:pl = fun k=>some (k * i.size,i.size):=by
  unfold placeOf at hpl; simp [hu,hi] at hpl; exact hpl.symm
 have hfl:=bld_fill pl parts.toList ps _ cs hp hf
 rw [hpl2] at hfl
 have h24:¬ (len * i.size > 2 ^ 24):=by rw [hsz]; omega
 by_cases h0:len * i.size = 0
 ·have h0':len * z.length = 0:=by rw [<-hsz]; exact h0
  rw [h0'] at hfl
  simp only [List.range_zero,List.map_nil] at hfl
  have hr0:(Array.range (len * i.size)) = #[]:=by rw [h0]; rfl
  simp only [Instr.buildSlice,Sem.run_bind,run_underlying hu,Result.andThen_ok,run_sizeOf (show szOf P e = some i.size by simp [szOf,hi]),if_neg h24,Sem.run_pure,if_pos h0,hr0]
  simp only [Array.map_empty]
  rw [show (#[]:Array Value) = ([]:List Value).toArray from rfl,hfl]
  simp [newRow_run]
 ·have hm:(Array.range (len * i.size)).map (fun x=>zv.cells[x % zv.cells.size]!) = ((List.range (len * z.length)).map fun k=>z.getD (k % z.length) undef).toArray:=by
   apply Array.ext'
   simp only [Array.toList_map,Array.toList_range,hsz]
   apply List.map_congr_left
   intro k hk
   have hz0:0 < z.length:=by rcases Nat.eq_zero_or_pos z.length with h | h; (exfalso; rw [hsz,h] at h0; simp at h0); exact h
   have hlt:k % z.length < z.length:=Nat.mod_lt _ hz0
   simp [hcells,hlt]
  simp only [Instr.buildSlice,Sem.run_bind,run_underlying hu,Result.andThen_ok,run_sizeOf (show szOf P e = some i.size by simp [szOf,hi]),if_neg h24,Sem.run_pure,if_neg h0]
  simp only [zeroValue,typeInfo,Sem.run_bind,run_program,Result.andThen_ok,hi,hzz,Sem.run_pure]
  rw [hm,hfl]
  simp [newRow_run]
theorem madeCells_reps {zv:Value} {z:List Value} (hz:zv.cells.toList = z) (n:Nat):(madeCells zv.cells (n * z.length)).toList = reps z n:=by
 have hcells:zv.cells = z.toArray:=by rw [<-hz]
 unfold madeCells reps
 simp only [Array.toList_map,Array.toList_range,hcells]
 induction n with
 | zero=>simp
 | succ n ih =>
  rw [List.replicate_succ',List.flatten_append,<-ih,Nat.add_mul,Nat.one_mul,List.range_add,List.map_append]
  congr 1
  apply List.ext_getElem?
  intro i
  simp only [List.map_map,List.getElem?_map,List.flatten_cons,List.flatten_nil,List.append_nil]
  by_cases hi:i < z.length
  ·have hm:(n * z.length + i) % z.length = i:=by rw [Nat.mul_add_mod_self_right]; exact Nat.mod_eq_of_lt hi
   simp [List.getElem?_range hi,hm,hi]
  ·rw [List.getElem?_eq_none (by simpa using hi),List.getElem?_eq_none (by simpa using hi)]; rfl
theorem all1_reps {z:List Value} (h:∀ v ∈ z,v.oneCell' = true) (n:Nat):all1 (reps z n) = true:=by
 simp only [all1,reps,List.all_eq_true,List.mem_flatten,List.mem_replicate]
 rintro v ⟨l,⟨_,rfl⟩,hv⟩
 exact h v hv
theorem st_run {t:TypeId} {n:Nat} (hn:szOf P t = some n) {B:Bd} {w0:World} {h:H} (hs:Sat B w0 w h) {b off:Nat} {e:TypeId} {cs:List Value} {ex:Nat}
  (hb:h b = some (.row true e cs ex)) {x:Value} (hx:x.cells.toList.length = n) (hoff:off + n <= cs.length) (h1:all1 x.cells.toList = true) :
  ∃ w',(Instr.storeAt t (.pointer (some ⟨b,off,none⟩)) x).run P w = .ok () w' /\ Sat B w0 w' (upd h b (.row true e (setL cs off x.cells.toList) ex)):=by
 obtain ⟨⟨o,ho,c,fr,rfl,hsz,htk,hfr,hone⟩,hown⟩:=hs.blk b _ hb
 obtain rfl:=hfr rfl
 have hst:=run_storeCells_at P b off e x.cells.toList 0 c w ho (by simp only [Nat.add_zero]; omega) (fun v hv=>by simpa [all1] using List.all_eq_true.1 h1 v hv)
 refine ⟨w.setRow b (c.toList.take (off + 0) ++ x.cells.toList ++ c.toList.drop (off + 0 + x.cells.toList.length)).toArray,?_,?_⟩
 ·have:x.cells.size = n:=by simpa using hx
  simp only [Instr.storeAt,Instr.sureAddr,Sem.run_bind,Sem.run_pure,Result.andThen_ok,storeVar,run_sizeOf hn,this]
  simp only [ne_eq,not_true_eq_false,if_false]
  exact hst
 ·have hset:setL cs off x.cells.toList = cs.take off ++ x.cells.toList ++ cs.drop (off + n):=by
   unfold setL
   split
   ·rename_i v hv
    rw [hv] at hx; simp at hx; subst hx
    rw [hv]
    apply List.ext_getElem?
    intro i
    simp only [List.getElem?_append,List.getElem?_take,List.getElem?_drop,List.getElem?_set,List.length_append,List.length_take,List.length_cons,List.getElem?_cons,List.length_drop,List.length_nil]
    grind
   ·rw [hx]
  have hown':=hown rfl
  refine ⟨?_,by simp; exact hs.base,fun b' k' hb'=>?_,by simp; exact hs.grow,fun b' hb'=>by
   simp only [upd] at hb'
   split at hb'
   ·rename_i e1; subst e1; exact hs.old b' (by rw [hb]; rfl)
   ·exact hs.old b' hb'⟩
  ·exact hs.below.trans ⟨rfl,rfl,rfl,by simp,fun k hk=>setRow_other w b k _ (by omega)⟩
  ·simp only [upd] at hb'
   split at hb'
   ·rename_i e1
    subst e1
    simp only [Option.some.injEq] at hb'
    subst hb'
    refine ⟨⟨_,setRow_heap w b' c _ e _ ho,⟨_,(0,0),rfl,?_,?_,fun _=>rfl,?_⟩⟩,fun _=>hown'⟩
    ·simp only [Nat.add_zero,List.size_toArray,List.length_append,List.length_take,List.length_drop,Array.length_toList,hset,hx]
     omega
    ·rw [hset]
     simp only [Nat.add_zero,List.length_append,List.length_take,List.length_drop,hx]
     rw [<-htk]
     apply List.ext_getElem?
     intro i
     simp only [List.getElem?_append,List.getElem?_take,List.getElem?_drop,List.length_append,List.length_take,List.length_drop,hx,Array.length_toList]
     grind
    ·rw [hset]
     intro _ v hv
     simp only [List.mem_append] at hv
     rcases hv with (hv | hv) | hv
     ·exact hone rfl v (List.mem_of_mem_take hv)
     ·simpa [all1] using List.all_eq_true.1 h1 v hv
     ·exact hone rfl v (List.mem_of_mem_drop hv)
   ·rename_i hne
    obtain ⟨⟨o',ho',hok⟩,hown2⟩:=hs.blk b' k' hb'
    exact ⟨⟨o',by rw [setRow_other w b b' _ hne]; exact ho',hok⟩,hown2⟩
theorem stc_run {B:Bd} {w0:World} {h:H} (hs:Sat B w0 w h) {b off n:Nat} {e:TypeId} {cs:List Value} {ex:Nat}
  (hb:h b = some (.row true e cs ex)) {vs:List Value} (hx:vs.length = n) (hoff:off + n <= cs.length) (h1:all1 vs = true) :
  ∃ w',(storeCells ⟨b,off,none⟩ vs).run P w = .ok () w' /\ Sat B w0 w' (upd h b (.row true e (setL cs off vs) ex)):=by
 obtain ⟨⟨o,ho,c,fr,rfl,hsz,htk,hfr,hone⟩,hown⟩:=hs.blk b _ hb
 obtain rfl:=hfr rfl
 have hst:=run_storeCells_at P b off e vs 0 c w ho (by simp only [Nat.add_zero]; omega) (fun v hv=>by simpa [all1] using List.all_eq_true.1 h1 v hv)
 refine ⟨w.setRow b (c.toList.take (off + 0) ++ vs ++ c.toList.drop (off + 0 + vs.length)).toArray,?_,?_⟩
 ·exact hst
 ·have hset:setL cs off vs = cs.take off ++ vs ++ cs.drop (off + n):=by
   unfold setL
   split
   ·rename_i v
    simp at hx; subst hx
    apply List.ext_getElem?
    intro i
    simp only [List.getElem?_append,List.getElem?_take,List.getElem?_drop,List.getElem?_set,List.length_append,List.length_take,List.length_cons,List.getElem?_cons,List.length_drop,List.length_nil]
    grind
   ·rw [hx]
  have hown':=hown rfl
  refine ⟨?_,by simp; exact hs.base,fun b' k' hb'=>?_,by simp; exact hs.grow,fun b' hb'=>by
   simp only [upd] at hb'
   split at hb'
   ·rename_i e1; subst e1; exact hs.old b' (by rw [hb]; rfl)
   ·exact hs.old b' hb'⟩
  ·exact hs.below.trans ⟨rfl,rfl,rfl,by simp,fun k hk=>setRow_other w b k _ (by omega)⟩
  ·simp only [upd] at hb'
   split at hb'
   ·rename_i e1
    subst e1
    simp only [Option.some.injEq] at hb'
    subst hb'
    refine ⟨⟨_,setRow_heap w b' c _ e _ ho,⟨_,(0,0),rfl,?_,?_,fun _=>rfl,?_⟩⟩,fun _=>hown'⟩
    ·simp only [Nat.add_zero,List.size_toArray,List.length_append,List.length_take,List.length_drop,Array.length_toList,hset,hx]
     omega
    ·rw [hset]
     simp only [Nat.add_zero,List.length_append,List.length_take,List.length_drop,hx]
     rw [<-htk]
     apply List.ext_getElem?
     intro i
     simp only [List.getElem?_append,List.getElem?_take,List.getElem?_drop,List.length_append,List.length_take,List.length_drop,hx,Array.length_toList]
     grind
    ·rw [hset]
     intro _ v hv
     simp only [List.mem_append] at hv
     rcases hv with (hv | hv) | hv
     ·exact hone rfl v (List.mem_of_mem_take hv)
     ·simpa [all1] using List.all_eq_true.1 h1 v hv
     ·exact hone rfl v (List.mem_of_mem_drop hv)
   ·rename_i hne
    obtain ⟨⟨o',ho',hok⟩,hown2⟩:=hs.blk b' k' hb'
    exact ⟨⟨o',by rw [setRow_other w b b' _ hne]; exact ho',hok⟩,hown2⟩
end
end
section
set_option linter.constructorNameAsVariable false
section
variable {P:Program} {w:World}
theorem readS_cells {B:Bd} {w0:World} {h:H} (hs:Sat B w0 w h) {sz b o n c m:Nat} {news:List Value} (hr:readS sz h (.slice (some ⟨b,o,none⟩) n c) = some (m,news)) :
  m = n /\ news.length = m * sz /\ ∀ j u,news[j]? = some u -> w.cell? ((⟨b,o,none⟩:Addr).add j) = some u:=by
 simp only [readS] at hr
 split at hr
 ·rename_i h0
  simp only [Option.some.injEq,Prod.mk.injEq] at hr
  obtain ⟨rfl,rfl⟩:=hr
  exact ⟨h0.symm,by simp,fun j u hj=>by simp at hj⟩
 simp only [if_true] at hr
 unfold readB at hr
 split at hr
 ·rename_i own e cs ex hb
  obtain ⟨hle,hr⟩:=grd_some hr
  simp only [Option.some.injEq,Prod.mk.injEq] at hr
  obtain ⟨rfl,rfl⟩:=hr
  refine ⟨rfl,by simp; omega,fun j u hj=>?_⟩
  have hj1:=hj
  rw [List.getElem?_take] at hj1
  split at hj1
  ·rw [List.getElem?_drop] at hj1
   have hlt:o + j < cs.length:=by omega
   have hc:=hs.cell hb hlt
   rw [addr_add,hc,List.getD,hj1]; rfl
  ·simp at hj1
 ·cases hr
theorem readS_zero {h:H} {sz:Nat} {x:Value} {news:List Value} (hr:readS sz h x = some (0,news)) :
  news = [] /\ (Builtin.lenOf x).run P w = .ok 0 w /\ (Builtin.firstCells sz 0 x).run P w = .ok #[] w:=by
 cases x <;> try (simp [readS] at hr; done)
 rename_i ad xm xc
 cases ad with
 | none =>
  have:xm = 0 /\ xc = 0:=by simp only [readS] at hr; split at hr <;> simp_all
  obtain ⟨rfl,rfl⟩:=this
  simp [readS] at hr
  subst hr
  simp [Builtin.lenOf,Builtin.firstCells]
 | some a =>
  obtain ⟨xb,xo,spot⟩:=a
  simp only [readS] at hr
  split at hr
  ·rename_i h0
   subst h0
   simp only [Option.some.injEq,Prod.mk.injEq,true_and] at hr
   subst hr
   simp [Builtin.lenOf,Builtin.firstCells,loadCells,loadCellsFrom]
  ·rename_i h0
   split at hr
   ·unfold readB at hr
    split at hr
    ·obtain ⟨_,hr⟩:=grd_some hr
     simp only [Option.some.injEq,Prod.mk.injEq] at hr
     exact absurd hr.1 h0
    ·cases hr
   ·cases hr
theorem readS_some {h:H} {sz:Nat} {x:Value} {m:Nat} {news:List Value} (hr:readS sz h x = some (m,news)) (hm:m ≠ 0):∃ b o n c,x = .slice (some ⟨b,o,none⟩) n c:=by
 cases x <;> try (simp [readS] at hr; done)
 rename_i ad xm xc
 cases ad with
 | none =>
  have:xm = 0 /\ xc = 0:=by simp only [readS] at hr; split at hr <;> simp_all
  obtain ⟨rfl,rfl⟩:=this
  simp [readS] at hr
  exact absurd hr.1.symm hm
 | some a =>
  obtain ⟨xb,xo,spot⟩:=a
  simp only [readS] at hr
  split at hr
  ·simp only [Option.some.injEq,Prod.mk.injEq] at hr
   exact absurd hr.1.symm hm
  ·split at hr
   ·rename_i hsp; subst hsp; exact ⟨xb,xo,xm,xc,rfl⟩
   ·cases hr
theorem Sat.erase_alloc {B:Bd} {w0 w:World} {h:H} (hs:Sat B w0 w h) {ob:Obj} {k:Blk} (hk:k.ok ob) (b:Nat) :
  Sat B w0 (w.drew.alloc ob) (upd (erase h b) w.heap.size k):=by
 have h1:=(hs.drew).alloc hk
 refine ⟨h1.below,h1.base,fun b' k' hb'=>?_,h1.grow,fun b' hb'=>h1.old b' ?_⟩
 rotate_left
 ·simp only [upd,erase] at hb' ⊢
  split at hb'
  ·rename_i he; rw [if_pos (show b' = w.drew.heap.size from he)]; rfl
  ·rename_i hne
   split at hb'
   ·simp at hb'
   ·split
    ·rfl
    ·exact hb'
 refine h1.blk b' k' ?_
 simp only [upd,erase] at hb' ⊢
 show (if b' = w.heap.size then some k else h b') = some k'
 split at hb'
 ·rename_i he; rw [if_pos he]; exact hb'
 ·rename_i hne
  rw [if_neg hne]
  split at hb'
  ·cases hb'
  ·exact hb'
theorem rowOk' {e:TypeId} {cs:List Value} {c:Array Value} (h1:all1 cs = true) {ex:Nat} (hsz:c.size = cs.length + ex) (htk:c.toList.take cs.length = cs):(Blk.row true e cs ex).ok (.cells c e) :=
 ⟨c,(0,0),rfl,hsz,htk,fun _=>rfl,fun _ v hv=>by simpa [all1] using List.all_eq_true.1 h1 v hv⟩
theorem app_run {t ty e:TypeId} {z:List Value} {i:TypeInfo} (hu:P.underlying t = some (.slice e)) (hz:zc P e = some z) (hi:P.info? e = some i) (hsz0:0 < i.size)
  {B:Bd} {w0:World} {h:H} (hs:Sat B w0 w h) {x s:Value} {m:Nat} {news:List Value} (hx:readS i.size h x = some (m,news)) (h1:all1 news = true)
  {K:Value -> Eff -> Prop} (hK:appV e i.size i.bytes h K m news s) :
  ∃ v w' ef,(Builtin.append_ #[t,t] ty #[s,x]).run P w = .ok v w' /\ K v ef /\ ef.ok h /\ Sat B w0 w' (ef.app h):=by
 obtain ⟨i',zv,hi',hzz,hzc,hsz,hz1⟩:=zc_spec hz
 rw [hi] at hi'
 simp only [Option.some.injEq] at hi'
 subst hi'
 have hzs:zv.cells.size = i.size:=by rw [hsz,<-hzc]; simp
 have hs63:∀ {n:Nat},n <= maxLen -> (n:Int) <= 9223372036854775807:=fun {n} h=>by simp only [maxLen] at h; omega
 unfold appV at hK
 split at hK
 ·rename_i b n cap
  unfold appB at hK
  split at hK
  ·rename_i e' cs ex hb
   obtain ⟨⟨rfl,hn,hnc,hcm,hcap,hnm,hby⟩,hK⟩:=hK
   obtain ⟨⟨o,ho,c,fr,rfl,hcsz,htk,hfr,hone⟩,hown⟩:=hs.blk b _ hb
   obtain rfl:=hfr rfl
   have hown':=hown rfl
   have hsome:(h b).isSome = true:=by rw [hb]; rfl
   have hlold:(cs.take (n * i.size)).length = n * i.size:=by simp; omega
   have hxs:all1 (cs.take (n * i.size) ++ news) = true:=by
    simp only [all1,List.all_append,Bool.and_eq_true]
    refine ⟨List.all_eq_true.2 fun v hv=>hone rfl v (List.mem_of_mem_take hv),h1⟩
   -- what is appended
   by_cases hm0:m = 0
   ·subst hm0
    obtain ⟨rfl,hx1,hx2⟩:=readS_zero (P:=P) (w:=w) hx
    refine ⟨.slice (some ⟨b,0,none⟩) n cap,w,_,?_,hK b cap (cs.length + ex - n * i.size) ?_ ?_ hcm ?_,trivial,?_⟩
    ·have hn1:(Builtin.lenOf (.slice (some ⟨b,0,none⟩) n cap)).run P w = .ok n w:=by simp [Builtin.lenOf]
     simp [Builtin.append_,run_underlying hu,sizeOf,typeInfo,hi,hn1,hnc,hx1,hx2,storeCells]
    ·intro y hy; simp only [erase] at hy; split at hy <;> rename_i hne
     ·simp at hy
     ·exact ⟨hne,fun e=>hne e.symm⟩
    ·omega
    ·have:n * i.size <= cap * i.size:=Nat.mul_le_mul_right _ hnc
     simp only [Nat.add_zero]; omega
    ·simp only [Eff.app,List.append_nil]
     refine ⟨hs.below,hs.base,fun b' k' hb'=>?_,hs.grow,fun b' hb'=>by
      simp only [upd,erase] at hb'
      split at hb'
      ·rename_i he; subst he; exact hs.old b' hsome
      ·rename_i hne
       first
       | exact hs.old b' hb'
       | (rw [if_neg hne] at hb'; exact hs.old b' hb')⟩
     simp only [upd,erase] at hb'
     split at hb'
     ·rename_i he; subst he
      simp only [Option.some.injEq] at hb'
      subst hb'
      refine ⟨⟨_,ho,rowOk' (by simpa using hxs) ?_ ?_⟩,fun _=>hown'⟩
      ·rw [hcsz,hlold]; have:n * i.size <= cap * i.size:=Nat.mul_le_mul_right _ hnc; omega
      ·rw [hlold,<-htk,List.take_take]; congr 1; omega
     ·rename_i hne
      first
      | exact hs.blk b' k' hb'
      | (rw [if_neg hne] at hb'; exact hs.blk b' k' hb')
   ·obtain ⟨xb,xo,xm,xc,rfl⟩:=readS_some hx hm0
    ·obtain ⟨rfl,hl,hnews⟩:=readS_cells hs hx
     by_cases hroom:n + m <= cap
     ·have hfit:n * i.size + news.length <= c.size:=by rw [hl,hcsz,<-hcap,<-Nat.add_mul]; exact Nat.mul_le_mul_right _ hroom
      have hr:=run_append_room (P:=P) w t ty e' i hu hi b n cap c ho ⟨xb,xo,none⟩ m xc news hl hnews (fun u hu=>by simpa [all1] using List.all_eq_true.1 h1 u hu) hroom hfit
      have htkn:c.toList.take (n * i.size) = cs.take (n * i.size):=by rw [<-htk,List.take_take]; congr 1; omega
      refine ⟨_,_,_,hr,hK b cap (c.size - (n + m) * i.size) ?_ hroom hcm ?_,trivial,?_⟩
      ·intro y hy; simp only [erase] at hy; split at hy <;> rename_i hne
       ·simp at hy
       ·exact ⟨hne,fun e=>hne e.symm⟩
      ·have:(n + m) * i.size <= cap * i.size:=Nat.mul_le_mul_right _ hroom
       omega
      ·simp only [Eff.app]
       refine ⟨hs.below.trans ⟨rfl,rfl,rfl,by simp,fun k hk=>setRow_other w b k _ (by omega)⟩,by simp; exact hs.base,fun b' k' hb'=>?_,by simp; exact hs.grow,fun b' hb'=>by
        simp only [upd,erase] at hb'
        split at hb'
        ·rename_i he; subst he; exact hs.old b' hsome
        ·rename_i hne
         first
         | exact hs.old b' hb'
         | (rw [if_neg hne] at hb'; exact hs.old b' hb')⟩
       simp only [upd,erase] at hb'
       split at hb'
       ·rename_i he; subst he
        simp only [Option.some.injEq] at hb'
        subst hb'
        refine ⟨⟨_,setRow_heap w b' c _ e' _ ho,rowOk' hxs ?_ ?_⟩,fun _=>hown'⟩
        ·have:(n + m) * i.size <= cap * i.size:=Nat.mul_le_mul_right _ hroom
         rw [Nat.add_mul] at this ⊢
         simp only [List.size_toArray,List.length_append,List.length_take,List.length_drop,Array.length_toList]
         omega
        ·rw [htkn]
         exact List.take_left
       ·rename_i hne
        try rw [if_neg hne] at hb'
        obtain ⟨⟨o',ho',hok⟩,hown2⟩:=hs.blk b' k' hb'
        exact ⟨⟨o',by rw [setRow_other w b b' _ hne]; exact ho',hok⟩,hown2⟩
     ·have holds:∀ j u,(cs.take (n * i.size))[j]? = some u -> w.cell? ((⟨b,0,none⟩:Addr).add j) = some u:=fun j u hj=>by
       rw [List.getElem?_take] at hj
       split at hj
       ·have hlt:j < cs.length:=by omega
        have hc:=hs.cell hb hlt
        rw [addr_add,Nat.zero_add,hc,List.getD,hj]; rfl
       ·simp at hj
      have hr:=run_append_grow (P:=P) w t ty e' i zv hu hi hzz ⟨b,0,none⟩ n cap (cs.take (n * i.size)) hlold holds ⟨xb,xo,none⟩ m xc news hl hnews (by omega) (hs63 hnm) (growslice_fits (by omega) hby)
      have hge:=grownCap_ge w (n + m) cap e'
      have hgm:=grownCap_le_maxLen w (n + m) cap e' hnm
      refine ⟨_,_,_,hr,hK w.heap.size _ ((grownCap w (n + m) cap e' - (n + m)) * i.size) ?_ hge hgm ?_,trivial,?_⟩
      ·intro y hy
       have:(h y).isSome = true:=by simp only [erase] at hy; split at hy <;> simp_all
       have:=hs.lt this
       omega
      ·rw [<-Nat.add_mul]; congr 1; omega
      ·simp only [Eff.app]
       refine hs.erase_alloc (rowOk' hxs ?_ ?_) b
       ·simp only [Array.size_append,List.size_toArray,size_zeroCells,hzs,List.length_append]
       ·simp only [Array.toList_append]
        exact List.take_left
  ·exact hK.elim
 ·split at hK
  ·rename_i hm0
   subst hm0
   refine ⟨.slice none 0 0,w,.keep,?_,hK,trivial,hs⟩
   have hx0:(Builtin.lenOf x).run P w = .ok 0 w /\ (Builtin.firstCells i.size 0 x).run P w = .ok #[] w:=(readS_zero (P:=P) (w:=w) hx).2
   simp [Builtin.append_,run_underlying hu,sizeOf,typeInfo,hi,hx0]
  ·rename_i hm0
   obtain ⟨⟨hm,hby⟩,hK⟩:=hK
   obtain ⟨xb,xo,xm,xc,rfl⟩:=readS_some hx hm0
   ··obtain ⟨rfl,hl,hnews⟩:=readS_cells hs hx
     have hr:=run_append_nil (P:=P) w t ty e i zv hu hi hzz ⟨xb,xo,none⟩ m xc news hl hnews (by omega) (hs63 hm) (by omega)
     have hge:=grownCap_ge w m 0 e
     have hgm:=grownCap_le_maxLen w m 0 e hm
     refine ⟨_,_,_,hr,hK w.heap.size _ ((grownCap w m 0 e - m) * i.size) hs.new hge hgm ?_,dis_single _ hs.new,?_⟩
     ·rw [<-Nat.add_mul]; congr 1; omega
     ·simp only [Eff.app,join_single]
      have:=hs.drew.alloc (k:=.row true e news ((grownCap w m 0 e - m) * i.size)) (o:=.cells (news.toArray ++ Builtin.zeroCells zv.cells (grownCap w m 0 e - m)) e) (rowOk' h1 (by simp only [Array.size_append,List.size_toArray,size_zeroCells,hzs]) (by simp only [Array.toList_append]; exact List.take_left))
      exact this
 ·exact hK.elim
theorem readS_run {B:Bd} {w0:World} {h:H} (hs:Sat B w0 w h) {sz:Nat} {x:Value} {m:Nat} {news:List Value} (hr:readS sz h x = some (m,news)) :
  (Builtin.lenOf x).run P w = .ok m w /\ ∀ k,k <= m -> (Builtin.firstCells sz k x).run P w = .ok (news.take (k * sz)).toArray w:=by
 by_cases hm:m = 0
 ·subst hm
  obtain ⟨rfl,h1,h2⟩:=readS_zero (P:=P) (w:=w) hr
  refine ⟨h1,fun k hk=>?_⟩
  obtain rfl:k = 0:=by omega
  simpa using h2
 ·obtain ⟨b,o,n,c,rfl⟩:=readS_some hr hm
  obtain ⟨rfl,hl,hc⟩:=readS_cells hs hr
  refine ⟨by simp [Builtin.lenOf],fun k hk=>?_⟩
  have hl2:(news.take (k * sz)).length = k * sz:=by rw [List.length_take,hl]; have:=Nat.mul_le_mul_right sz hk; omega
  have:=run_loadCells_list (P:=P) w ⟨b,o,none⟩ (news.take (k * sz)) (fun j u hj=>hc j u (by rw [List.getElem?_take] at hj; split at hj; exact hj; cases hj))
  rw [hl2] at this
  simpa [Builtin.firstCells] using this
theorem cpy_run {t t2 ty e:TypeId} {n:Nat} (hu:P.underlying t = some (.slice e)) (hn:szOf P e = some n) {B:Bd} {w0:World} {h:H} (hs:Sat B w0 w h) {d x:Value} {m:Nat} {news:List Value}
  (hx:readS n h x = some (m,news)) {K:Value -> Eff -> Prop} (hK:acpyV n h K m news d) :
  ∃ v w' ef,(Builtin.copy_ #[t,t2] ty #[d,x]).run P w = .ok v w' /\ K v ef /\ ef.ok h /\ Sat B w0 w' (ef.app h):=by
 obtain ⟨hl,hf⟩:=readS_run (P:=P) hs hx
 unfold acpyV at hK
 split at hK
 ·rename_i b off dl dc
  split at hK
  ·rename_i h0
   refine ⟨.int .i64 0,w,.keep,?_,hK,trivial,hs⟩
   have hf0:=hf 0 (Nat.zero_le _)
   have h0':Nat.min m dl = 0:=h0
   simp [Builtin.copy_,run_underlying hu,run_sizeOf hn,hl,h0',hf0,storeCells,goInt]
  ·unfold acpyB at hK
   split at hK
   ·rename_i e' cs ex hb
    obtain ⟨⟨hfit,h1⟩,hK⟩:=hK
    obtain ⟨w',hst,hs'⟩:=stc_run (P:=P) hs hb rfl hfit h1
    refine ⟨.int .i64 (min m dl:Nat),w',_,?_,hK,trivial,hs'⟩
    have hf1:=hf (Nat.min m dl) (Nat.min_le_left ..)
    have hst':(storeCells ⟨b,off,none⟩ (news.take (Nat.min m dl * n))).run P w = .ok () w':=hst
    simp [Builtin.copy_,run_underlying hu,run_sizeOf hn,hl,hf1,hst',goInt]
   ·exact hK.elim
 ·refine ⟨.int .i64 0,w,.keep,?_,hK,trivial,hs⟩
  have hf0:=hf 0 (Nat.zero_le _)
  simp [Builtin.copy_,run_underlying hu,run_sizeOf hn,hl,hf0,storeCells,goInt]
 ·exact hK.elim
theorem clr_run {t ty e:TypeId} {z:List Value} (hu:P.underlying t = some (.slice e)) (hz:zc P e = some z) {B:Bd} {w0:World} {h:H} (hs:Sat B w0 w h) {x:Value}
  {K:Value -> Eff -> Prop} (hK:aclrV z h K x) :
  ∃ v w' ef,(Builtin.clear_ #[t] ty #[x]).run P w = .ok v w' /\ K v ef /\ ef.ok h /\ Sat B w0 w' (ef.app h):=by
 obtain ⟨i,zv,hi,hzz,hzc,hsz,hz1⟩:=zc_spec hz
 unfold aclrV at hK
 split at hK
 ·rename_i b off n c
  split at hK
  ·rename_i h0
   subst h0
   exact ⟨.tuple #[],w,.keep,by simp [Builtin.clear_,run_underlying hu],hK,trivial,hs⟩
  ·rename_i hn0
   unfold aclrB at hK
   split at hK
   ·rename_i e' cs ex hb
    obtain ⟨⟨hfit,h1⟩,hK⟩:=hK
    obtain ⟨w',hst,hs'⟩:=stc_run (P:=P) hs hb rfl hfit h1
    refine ⟨.tuple #[],w',_,?_,hK,trivial,hs'⟩
    have hzl:(Builtin.zeroCells zv.cells n).toList = reps z n:=by
     rw [<-madeCells_reps hzc n]
     have:z.length = zv.cells.size:=by rw [<-hzc]; simp
     rw [this]; rfl
    rw [<-hzl] at hst
    obtain ⟨k,rfl⟩:∃ k,n = k + 1:=⟨n - 1,by omega⟩
    simp [Builtin.clear_,run_underlying hu,zeroValue,typeInfo,hi,hzz,hst]
   ·exact hK.elim
 ·exact ⟨.tuple #[],w,.keep,by simp [Builtin.clear_,run_underlying hu],hK,trivial,hs⟩
 ·exact hK.elim
theorem callFunc_run {f : FuncId} {fn : Func} (hf : P.funcs[f]? = some fn) (hb : fn.body.isNone = false) (hn : (fn.name == "runtime.NumGoroutine") = false) (args : Array Value) :
  (callFunc f args).run P w = .ok (.enter f args) w:=by
 have h1 : fn.name ≠ "runtime.NumGoroutine" := by simpa using hn
 have h2:fn.body ≠ none:=fun e=>by simp [e] at hb
 simp [callFunc,hf,h1,h2]
theorem acall_sound {f : FuncId} {fn : Func} (hf : P.funcs[f]? = some fn) (hb : fn.body.isNone = false) (hn : (fn.name == "runtime.NumGoroutine") = false) {B : Bd} {w0 : World} {h : H} (hs : Sat B w0 w h)
  {args:List Value} {K:Value -> Eff -> Prop} (hK:acall P f args h K) {o:Oper} {a:Act} {Q:Exit -> Act -> World -> Prop}
  (hr:(execOp a.eval o).run P w = .ok (.enter f args.toArray) w):o.wp P a w (Out B w0 o h K a) Q:=by
 unfold Oper.wp
 rw [hr]
 simp only [Oper.upon_enter]
 rcases hK with ⟨Φ,hsp,hK⟩ | ⟨Φ,hsp,hK⟩
 ·refine (hsp h (fun _ _ h=>h) B w0 w hs).mono fun e w'=>?_
  rintro ⟨r,d,rfl,hΦ,hd,hs'⟩
  exact ⟨r,.new d,hK r d hΦ,rfl,hd,hs'⟩
 ·refine (hsp B w0 w hs).mono fun e w'=>?_
  rintro ⟨r,h',rfl,hΦ,hs'⟩
  exact ⟨r,.set h',hK r h' hΦ,rfl,trivial,hs'⟩
def Source (P:Program) (o:Oper):AOp -> Prop
 | .alloc e z=>o.op = .alloc e /\ zc P e = some z
 | .box e x=>o.op = .box e x
 | .mks e zs len ps=>∃ t parts z pl,o.op = .buildSlice t len parts /\ P.underlying t = some (.slice e) /\ zc P e = some z /\ placeOf P t = some pl /\ partsOf pl parts.toList = some ps /\
   len * z.length <= 2 ^ 24 /\ zs = (List.range (len * z.length)).map fun k=>z.getD (k % z.length) undef
 | .mk e bytes z l c=>∃ t i,o.op = .makeSlice t l c /\ P.underlying t = some (.slice e) /\ zc P e = some z /\ P.info? e = some i /\ i.bytes = bytes
 | .app e sz bytes z av s x=>∃ t i ts,o.op = .call { callee:=.builtin .append,args:=#[s,x],argTypes:=ts } /\ ts.toList = [t,t] /\ P.underlying t = some (.slice e) /\ zc P e = some z /\ P.info? e = some i /\ i.size = sz /\ i.bytes = bytes /\ 0 < sz
 | .st n a x=>∃ t,o.op = .store t a x /\ szOf P t = some n
 | .sta _ n a x=>∃ t,o.op = .store t a x /\ szOf P t = some n
 | .call f args => ∃ fn ts as, o.op = .call { callee := .value (.func f), args := as, argTypes := ts } ∧ as.toList = args ∧ P.funcs[f]? = some fn ∧ fn.body.isNone = false ∧ (fn.name == "runtime.NumGoroutine") = false
 | .callp f args => ∃ fn ts as, o.op = .call { callee := .value (.func f), args := as, argTypes := ts } ∧ as.toList = args ∧ P.funcs[f]? = some fn ∧ fn.body.isNone = false ∧ (fn.name == "runtime.NumGoroutine") = false
 | .calla _ f args => ∃ fn ts as, o.op = .call { callee := .value (.func f), args := as, argTypes := ts } ∧ as.toList = args ∧ P.funcs[f]? = some fn ∧ fn.body.isNone = false ∧ (fn.name == "runtime.NumGoroutine") = false
 | .callv fv args=>∃ ts as,o.op = .call { callee:=.value fv,args:=as,argTypes:=ts } /\ as.toList = args
 | .mkm=>∃ t,o.op = .makeMap t none
 | .cpy n d s=>∃ t t2 e ts,o.op = .call { callee:=.builtin .copy,args:=#[d,s],argTypes:=ts } /\ ts[0]? = some t /\ ts[1]? = some t2 /\ P.underlying t = some (.slice e) /\ szOf P e = some n
 | .clr z x=>∃ t e ts,o.op = .call { callee:=.builtin .clear,args:=#[x],argTypes:=ts } /\ ts[0]? = some t /\ P.underlying t = some (.slice e) /\ zc P e = some z
 | _=>True
theorem source_of {o:Oper} {op:AOp} (hc:compOp P o = some op):Source P o op:=by
 unfold compOp at hc
 split at hc <;> rename_i ho
 all_goals try (simp only [Option.some.injEq] at hc; subst hc; trivial)
 ·simp only [Option.map_eq_some_iff] at hc; obtain ⟨z,hz,rfl⟩:=hc; exact ⟨ho,hz⟩
 ·simp only [Option.bind_eq_some_iff] at hc
  obtain ⟨z,hz,hc⟩:=hc
  split at hc
  ·cases hc
  ·simp only [Option.bind_eq_some_iff,Option.map_eq_some_iff] at hc; obtain ⟨_,_,_,_,rfl⟩:=hc; trivial
 ·split at hc
  ·rename_i e hu
   simp only [Option.bind_eq_some_iff] at hc
   obtain ⟨z,hz,pl,hpl,ps,hps,hc⟩:=hc
   split at hc
   ·rename_i h24; simp only [Option.some.injEq] at hc; subst hc; exact ⟨_,_,z,pl,ho,hu,hz,hpl,hps,h24,rfl⟩
   ·cases hc
  ·cases hc
 ·simp only [Option.map_eq_some_iff] at hc; obtain ⟨_,_,rfl⟩:=hc; trivial
 ·simp only [Option.map_eq_some_iff] at hc; obtain ⟨n,hn,rfl⟩:=hc; exact ⟨_,ho,hn⟩
 ·have heq:∀ {op' t x y},eqaOf P op' t x y = some op -> Source P o op:=fun {op' t x y} h=>by
   unfold eqaOf at h
   split at h
   ·cases h
   ·simp only [Option.bind_eq_some_iff] at h
    obtain ⟨_,_,_,_,h⟩:=h
    split at h <;> first | (simp only [Option.some.injEq] at h; subst h; trivial) | cases h
  split at hc
  ·exact heq hc
  ·exact heq hc
  ·exact heq hc
  ·split at hc
   ·split at hc <;> first | (simp only [Option.some.injEq] at hc; subst hc; trivial) | cases hc
   ·cases hc
  ·unfold binOf at hc
   split at hc <;> first | (simp only [Option.some.injEq] at hc; subst hc; trivial) | cases hc
 ·unfold cvOf at hc
  split at hc
  ·simp only [Option.some.injEq] at hc; subst hc; trivial
  ·simp only [Option.some.injEq] at hc; subst hc; trivial
  ·split at hc <;> first | (simp only [Option.some.injEq] at hc; subst hc; trivial) | cases hc
  ·split at hc <;> first | (simp only [Option.some.injEq] at hc; subst hc; trivial) | cases hc
  ·cases hc
 ·split at hc
  ·rename_i e hu
   simp only [Option.bind_eq_some_iff,Option.map_eq_some_iff] at hc
   obtain ⟨z,hz,i,hi,rfl⟩:=hc
   exact ⟨_,i,ho,hu,hz,hi,rfl⟩
  ·cases hc
 ·split at hc
  ·simp only [Option.map_eq_some_iff] at hc; obtain ⟨_,_,rfl⟩:=hc; trivial
  ·simp only [Option.map_eq_some_iff] at hc; obtain ⟨_,_,rfl⟩:=hc; trivial
  ·simp only [Option.some.injEq] at hc; subst hc; trivial
  ·cases hc
 ·split at hc
  ·simp only [Option.bind_eq_some_iff] at hc
   obtain ⟨_,_,_,_,hc⟩:=hc
   split at hc <;> first | (simp only [Option.some.injEq] at hc; subst hc; trivial) | cases hc
  ·cases hc
 ·split at hc
  ·simp only [Option.bind_eq_some_iff,Option.map_eq_some_iff] at hc; obtain ⟨_,_,_,_,rfl⟩:=hc; trivial
  ·cases hc
 ·split at hc
  ·simp only [Option.map_eq_some_iff] at hc; obtain ⟨_,_,rfl⟩:=hc; trivial
  ·simp only [Option.map_eq_some_iff] at hc; obtain ⟨_,_,rfl⟩:=hc; trivial
  ·cases hc
 ·split at hc
  ·simp only [Option.bind_eq_some_iff,Option.map_eq_some_iff] at hc; obtain ⟨_,_,_,_,rfl⟩:=hc; trivial
  ·simp only [Option.some.injEq] at hc; subst hc; trivial
  ·cases hc
 ·rename_i c
  obtain ⟨callee,args,argTypes⟩:=c
  unfold callOf at hc
  split at hc <;> rename_i hcal
  all_goals try (cases hc; done)
  ·simp only at hcal; subst hcal
   split at hc
   ·rename_i fn hf
    split at hc
    ·cases hc
    ·rename_i hcond
     simp only [Option.some.injEq] at hc; subst hc
     simp only [Bool.or_eq_true,not_or] at hcond
     exact ⟨fn,argTypes,args,ho,rfl,hf,by cases hfb:fn.body <;> simp_all,by simpa using hcond.1⟩
   ·cases hc
  ·simp only at hcal; subst hcal
   simp only [Option.some.injEq] at hc; subst hc; exact ⟨_,_,ho,rfl⟩
  ·split at hc <;> first | (simp only [Option.some.injEq] at hc; subst hc; trivial) | cases hc
  ·split at hc <;> first | (simp only [Option.some.injEq] at hc; subst hc; trivial) | cases hc
  ·split at hc <;> first | (simp only [Option.some.injEq] at hc; subst hc; trivial) | cases hc
  ·simp only at hcal; subst hcal
   split at hc
   ·rename_i t u s x hts has
    split at hc
    ·rename_i e hu
     simp only [Option.bind_eq_some_iff] at hc
     obtain ⟨z,hz,i,hi,hc⟩:=hc
     split at hc
     ·rename_i he
      split at hc
      ·rename_i h0
       simp only [Option.some.injEq] at hc; subst hc; subst he
       have:args = #[s,x]:=by cases args; simp_all
       subst this
       exact ⟨_,i,argTypes,ho,hts,hu,hz,hi,rfl,rfl,h0⟩
      ·cases hc
     ·split at hc
      ·split at hc <;> first | (simp only [Option.some.injEq] at hc; subst hc; trivial) | cases hc
      ·cases hc
    ·cases hc
   ·cases hc
  ·simp only at hcal; subst hcal
   split at hc
   ·rename_i e u d s h1 h2 h3
    simp only [Option.map_eq_some_iff] at hc
    obtain ⟨n,hn,rfl⟩:=hc
    obtain rfl:args = #[d,s]:=by cases args; simp_all
    simp only [Option.bind_eq_some_iff] at h1 h2
    obtain ⟨t,ht,hu⟩:=h1
    obtain ⟨t2,ht2,_⟩:=h2
    exact ⟨t,t2,e,argTypes,ho,ht,ht2,hu,hn⟩
   ·split at hc <;> first | (simp only [Option.some.injEq] at hc; subst hc; trivial) | cases hc
   ·cases hc
  ·simp only at hcal; subst hcal
   split at hc
   ·rename_i e x h1 h3
    simp only [Option.map_eq_some_iff] at hc
    obtain ⟨z,hz,rfl⟩:=hc
    obtain rfl:args = #[x]:=by cases args; simp_all
    simp only [Option.bind_eq_some_iff] at h1
    obtain ⟨t,ht,hu⟩:=h1
    exact ⟨t,e,argTypes,ho,ht,hu,hz⟩
   ·cases hc
 ·simp only [Option.some.injEq] at hc; subst hc; exact ⟨_,ho⟩
 ·cases hc
def CompAs (P:Program) (o:Oper) (op:AOp):Prop :=
 compOp P o = some op ∨ (∃ f l,op = .callp f l /\ compOp P o = some (.call f l)) ∨
 (∃ e sz by' z av av0 s x,op = .app e sz by' z av s x /\ compOp P o = some (.app e sz by' z av0 s x)) ∨
 (∃ base n x,op = .ldb base n x /\ compOp P o = some (.ld n x)) ∨
 (∃ av n a x,op = .sta av n a x /\ compOp P o = some (.st n a x)) ∨
 (∃ av f l,op = .calla av f l /\ (compOp P o = some (.call f l) ∨ ∃ av0,compOp P o = some (.calla av0 f l)))
theorem CompAs.source {o:Oper} {op:AOp} (h:CompAs P o op):Source P o op:=by
 rcases h with h | ⟨f,l,rfl,h⟩ | ⟨e,sz,by',z,av,av0,s,x,rfl,h⟩ | ⟨base,n,x,rfl,h⟩ | ⟨av,n,a,x,rfl,h⟩ | ⟨av,f,l,rfl,h | ⟨av0,h⟩⟩
 ·exact source_of h
 ·have:=source_of h; exact this
 ·have:=source_of h; exact this
 ·trivial
 ·have:=source_of h; exact this
 ·have:=source_of h; exact this
 ·have:=source_of h; exact this
theorem op_sound {B:Bd} {w0:World} {h:H} (hs:Sat B w0 w h) {o:Oper} {op:AOp} (hc:CompAs P o op) {a:Act} {t:T} (ha:a.eval = ev t)
  {K:Value -> Eff -> Prop} (hK:aop P op (ev t) h K) {Q:Exit -> Act -> World -> Prop}:o.wp P a w (Out B w0 o h K a) Q:=by
 have hdet:∀ v,adet h (ev t) op = some v -> K v .keep -> o.wp P a w (Out B w0 o h K a) Q:=fun v hv hk=>by
  have hc':∃ op',compOp P o = some op' /\ adet h (ev t) op' = some v:=by
   rcases hc with hc | ⟨f,l,rfl,_⟩ | ⟨e,sz,by',z,av,av0,s,x,rfl,_⟩ | ⟨base,n,x,rfl,hc⟩ | ⟨av,n,a,x,rfl,_⟩ | ⟨av,f,l,rfl,_⟩
   ·exact ⟨_,hc,hv⟩
   ·simp [adet] at hv
   ·simp [adet] at hv
   ·exact ⟨_,hc,(grd_some hv).2⟩
   ·simp [adet] at hv
   ·simp [adet] at hv
  obtain ⟨op',hc',hv'⟩:=hc'
  exact out_value (by rw [ha]; exact det_run hs (fun _ _ h=>h) hc' (fun _=>rfl) hv') .keep hk trivial hs
 have hdet':OK (adet h (ev t) op) (fun v=>K v .keep) -> o.wp P a w (Out B w0 o h K a) Q:=fun ⟨v,hv,hk⟩=>hdet v hv hk
 have hsrc:=hc.source
 cases op <;> simp only [aop] at hK <;> first | (exact hdet' hK) | (exact hK.elim) | skip
 case alloc e zero =>
  obtain ⟨ho,hz⟩:=hsrc
  obtain ⟨i,zv,hi,hzz,hzc,hsz,h1⟩:=zc_spec hz
  refine out_new (ob:=.cells zero.toArray e) (k:=.row true e zero 0) (v:=.pointer (some ⟨w.heap.size,0,none⟩)) ?_ hs (rowOk (by simpa [all1] using h1)) (hK _ hs.new)
  have:zv.cells = zero.toArray:=by rw [<-hzc]
  simp [execOp,ho,Instr.alloc,zeroValue,typeInfo,hi,hzz,newVar,this,newRow_run]
 case box e x =>
  obtain ⟨h1,hK⟩:=hK
  refine out_new (ob:=.cells (ev t x).cells.toList.toArray e) (k:=.row true e (ev t x).cells.toList 0) (v:=.pointer (some ⟨w.heap.size,0,none⟩)) ?_ hs (rowOk h1) (hK _ hs.new)
  have ho:o.op = .box e x:=hsrc
  simp [execOp,ho,ha,Instr.box,newVar,newRow_run]
 case mks e zero len parts =>
  obtain ⟨tt,prt,z,pl,ho,hu,hz,hpl,hps,h24,hzs⟩:=hsrc
  obtain ⟨cs,hf,h1,hK⟩:=hK
  have hpm:=partsOf_map (ev t) pl _ _ hps
  rw [hzs] at hf
  have hr:=mks_run (w:=w) hu hz hpl h24 (parts:=prt.map fun p=>(p.1,ev t p.2)) (by rw [Array.toList_map]; exact hpm) hf
  exact out_new (ob:=.cells cs.toArray e) (k:=.row true e cs 0) (v:=.slice (some ⟨w.heap.size,0,none⟩) len len) (by simp [execOp,ho,ha,hr]) hs (rowOk h1) (hK _ hs.new)
 case mk e bytes zero l c =>
  obtain ⟨tt,i,ho,hu,hz,hi,rfl⟩:=hsrc
  obtain ⟨i',zv,hi',hzz,hzc,hsz,h1⟩:=zc_spec hz
  rw [hi] at hi'
  simp only [Option.some.injEq] at hi'
  subst hi'
  unfold amkV at hK
  split at hK
  ·rename_i k1 l' k2 c' hl' hc'
   obtain ⟨⟨h0,hlc,hby,h63⟩,hK⟩:=hK
   have hr:=run_make (P:=P) w tt e i zv hu hi hzz k1 k2 l' c' h0 hlc hby h63
   refine out_new (ob:=.cells (madeCells zv.cells (c'.toNat * i.size)) e) (k:=.row true e (reps zero c'.toNat) 0) (v:=.slice (some ⟨w.heap.size,0,none⟩) l'.toNat c'.toNat) ?_ hs ?_ (hK _ hs.new)
   ·simp [execOp,ho,ha,hl',hc',hr]
   ·have hm:=madeCells_reps hzc c'.toNat
    rw [<-hsz] at hm
    exact rowOk' (all1_reps h1 _) (by rw [<-hm]; simp) (by rw [<-hm]; exact List.take_length)
  ·exact hK.elim
 case app e sz bytes z av s x =>
  obtain ⟨tt,i,ts,ho,hts,hu,hz,hi,rfl,rfl,h0⟩:=hsrc
  obtain ⟨⟨m,news⟩,hx,⟨h1,_⟩,hK⟩:=hK
  have:ts = #[tt,tt]:=by cases ts; simp_all
  subst this
  obtain ⟨v,w',ef,hr,hKv,hok,hs'⟩:=app_run (ty:=o.type) hu hz hi h0 hs hx h1 hK
  exact out_value (by simp [execOp,ho,ha,resolve,invoke,builtin,hr]) ef hKv hok hs'
 case st n ad x =>
  obtain ⟨tt,ho,hn⟩:=hsrc
  unfold astV at hK
  split at hK
  ·rename_i b off hv
   unfold astB at hK
   split at hK
   ·rename_i e cs ex hb
    obtain ⟨⟨hl,hoff,h1⟩,hK⟩:=hK
    obtain ⟨w',hr,hs'⟩:=st_run hn hs hb hl hoff h1
    unfold Oper.wp
    have:(execOp a.eval o).run P w = .ok .skip w':=by simp [execOp,ho,ha,hv,hr]
    rw [this]
    exact ⟨undef,_,hK,rfl,trivial,hs'⟩
   ·exact hK.elim
  ·exact hK.elim
 case cpy n d s =>
  obtain ⟨t,t2,e,ts,ho,h1,h2,hu,hn⟩:=hsrc
  obtain ⟨⟨m,news⟩,hx,hK⟩:=hK
  have hcp:∀ ty (y z:Value),Builtin.copy_ ts ty #[y,z] = Builtin.copy_ #[t,t2] ty #[y,z]:=fun ty y z=>by simp [Builtin.copy_,h1]
  obtain ⟨v,w',ef,hr,hKv,hok,hs'⟩:=cpy_run (t2:=t2) (ty:=o.type) hu hn hs hx hK
  exact out_value (by simp [execOp,ho,ha,resolve,invoke,builtin,hcp,hr]) ef hKv hok hs'
 case clr z x =>
  obtain ⟨t,e,ts,ho,h1,hu,hz⟩:=hsrc
  have hcp:∀ ty (y:Value),Builtin.clear_ ts ty #[y] = Builtin.clear_ #[t] ty #[y]:=fun ty y=>by simp [Builtin.clear_,h1]
  obtain ⟨v,w',ef,hr,hKv,hok,hs'⟩:=clr_run (ty:=o.type) hu hz hs hK
  exact out_value (by simp [execOp,ho,ha,resolve,invoke,builtin,hcp,hr]) ef hKv hok hs'
 case sta av n ad x =>
  obtain ⟨tt,ho,hn⟩:=hsrc
  obtain ⟨_,hK⟩:=hK
  unfold astV at hK
  split at hK
  ·rename_i b off hv
   unfold astB at hK
   split at hK
   ·rename_i e cs ex hb
    obtain ⟨⟨hl,hoff,h1⟩,hK⟩:=hK
    obtain ⟨w',hr,hs'⟩:=st_run hn hs hb hl hoff h1
    unfold Oper.wp
    have:(execOp a.eval o).run P w = .ok .skip w':=by simp [execOp,ho,ha,hv,hr]
    rw [this]
    exact ⟨undef,_,hK,rfl,trivial,hs'⟩
   ·exact hK.elim
  ·exact hK.elim
 case call f args =>
  obtain ⟨fn,ts,as,ho,rfl,hf,hb,hn⟩:=hsrc
  refine acall_sound hf hb hn hs hK ?_
  have:=callFunc_run (w:=w) hf hb hn (as.map (ev t))
  simp [execOp,ho,ha,resolve,invoke,Deferred.ofValue,ev,this]
  cases as; simp
 case callp f args =>
  obtain ⟨fn,ts,as,ho,rfl,hf,hb,hn⟩:=hsrc
  refine acall_sound hf hb hn hs (.inl hK) ?_
  have:=callFunc_run (w:=w) hf hb hn (as.map (ev t))
  simp [execOp,ho,ha,resolve,invoke,Deferred.ofValue,ev,this]
  cases as; simp
 case calla av f args =>
  obtain ⟨fn,ts,as,ho,rfl,hf,hb,hn⟩:=hsrc
  refine acall_sound hf hb hn hs (acalla_acall hK) ?_
  have:=callFunc_run (w:=w) hf hb hn (as.map (ev t))
  simp [execOp,ho,ha,resolve,invoke,Deferred.ofValue,ev,this]
  cases as; simp
 case callv fv args =>
  obtain ⟨ts,as,ho,rfl⟩:=hsrc
  unfold acallv at hK
  split at hK
  ·rename_i f first cap hfv
   obtain ⟨hfn,hK⟩:=hK
   unfold isFn at hfn
   split at hfn
   ·rename_i fn hf
    simp only [Bool.and_eq_true,Bool.not_eq_true'] at hfn
    refine acall_sound hf hfn.2 hfn.1 hs hK ?_
    have:=callFunc_run (w:=w) hf hfn.2 hfn.1 (first ++ as.map (ev t) ++ cap)
    simp [execOp,ho,ha,resolve,invoke,Deferred.ofValue,hfv] at this ⊢
    rw [this]
    simp
   ·cases hfn
  ·exact hK.elim
 case mkm =>
  obtain ⟨tt,ho⟩:=hsrc
  refine out_new (ob:=.map #[] 0) (k:=.obj true (.map #[] 0)) (v:=.map (some w.heap.size)) ?_ hs ⟨rfl,rfl⟩ (hK _ hs.new)
  simp [execOp,ho,Instr.makeMap,newObj,Sem.run]
end
end
section
set_option linter.constructorNameAsVariable false
inductive ACode where
 | skip
 | reg (ops:List AOper)
 | seq (a b:ACode)
 | cond (c:Operand) (a b:ACode)
 | block (id:Nat) (b:ACode)
 | loop (b:ACode)
 | exit (id:Nat)
 | ret
 deriving Inhabited
def goes (t:T):Option (Nat × Bool) -> Bool
 | none=>true
 | some (d,want)=>match t d with
  | .bool b=>b == want
  | _=>false
def step (P:Program) (o:AOper) (K:T -> H -> Prop) (t:T) (h:H):Prop :=
 if goes t o.guard = true then aop P o.op (ev t) h fun v e=>e.ok h -> K (puto t o.dst v) (e.app h) else K (puto t o.dst undef) h
def aops (P:Program):List AOper -> (T -> H -> Prop) -> T -> H -> Prop
 | [],K=>K
 | o :: r,K=>step P o (aops P r K)
def awp (P:Program):ACode -> (n:T -> H -> Prop) -> (e:Nat -> T -> H -> Prop) -> (r:T -> H -> Prop) -> T -> H -> Prop
 | .skip,n,_,_,t,h=>n t h
 | .reg ops,n,_,_,t,h=>aops P ops n t h
 | .seq a b,n,e,r,t,h=>awp P a (fun t h=>awp P b n e r t h) e r t h
 | .cond c a b,n,e,r,t,h=>match ev t c with
  | .bool v=>(v = true -> awp P a n e r t h) /\ (v = false -> awp P b n e r t h)
  | _=>False
 | .block id b,n,e,r,t,h=>awp P b n (fun i t h=>if i = id then n t h else e i t h) r t h
 | .loop b,n,e,r,t,h=>∃ (I:Nat -> T -> H -> Prop) (k:Nat),I k t h /\ ∀ k t h,I k t h -> awp P b (fun t h=>∃ k',k' < k /\ I k' t h) e r t h
 | .exit id,_,e,_,t,h=>e id t h
 | .ret,_,_,r,t,h=>r t h
def compGuard (ops:Array Oper) (o:Oper):Option (Option (Nat × Bool)) :=
 match o.guard with
 | none=>some none
 | some (j,want)=>((ops[j]?).bind (·.dst)).map fun d=>some (d,want)
def compOper (P:Program) (N:Nat) (ops:Array Oper) (o:Oper):Option AOper :=
 (compOp P o).bind fun op=>(compGuard ops o).bind fun g =>
  if (o.dst.all (· < N)) then some ⟨o.dst,op,g⟩ else none
def opsTmps:List Operand -> List Nat:=fun l=>l.filterMap fun | .tmp t=>some t | _=>none
def AOp.reads:AOp -> List Operand
 | .mv x | .ld _ x | .un _ x | .cvi _ x | .fa _ x | .fd _ _ x | .ext x _ | .lenS x | .lenT x | .lenM x | .nilS _ x | .b2s x | .cvs x | .box _ x | .s2b _ x | .clr _ x=>[x]
 | .pick c a b=>[c,a,b]
 | .ldb b _ x=>[x,b]
 | .bld _ ps | .mks _ _ _ ps=>ps.map (·.2.2)
 | .bin _ x y | .eqa _ _ _ x y | .ixA _ _ x y | .ixS _ x y | .ixV _ _ _ x y | .ixT x y | .max x y | .min x y | .mk _ _ _ x y | .appT _ x y | .st _ x y | .cpy _ x y | .cpyT x y=>[x,y]
 | .slS _ x lo hi | .slA _ _ x lo hi | .slT x lo hi=>x :: (lo.toList ++ hi.toList)
 | .mkf _ f c=>f ++ c
 | .app _ _ _ _ av x y=>x :: y :: av
 | .sta av _ x y=>x :: y :: av
 | .alloc .. | .mkm | .bad=>[]
 | .call _ as | .callp _ as=>as
 | .calla av _ as=>as ++ av
 | .callv f as=>f :: as
def AOper.looks (o:AOper):List Nat:=opsTmps o.op.reads ++ (match o.guard with | some (g,_)=>[g] | none=>[])
def AOp.class:AOp -> Nat
 | .ld .. | .ldb .. | .lenM _ | .b2s _=>1
 | .alloc .. | .box .. | .mks .. | .mk .. | .mkm=>2
 | .callp .. => 3
 | .st .. | .sta .. | .app .. | .appT .. | .cpy .. | .cpyT .. | .clr .. | .bad | .call .. | .calla .. | .callv .. | .s2b .. => 4
 | _=>0
def AOp.at:AOp -> Option Operand
 | .ldb b _ _=>some b
 | _=>none
def passes (x:AOp):AOp -> Bool
 | .app _ _ _ _ av _ _=>match x.at with
  | some (.tmp k)=>av.any fun | .tmp j=>j == k | _=>false
  | _=>false
 | .sta av _ _ _=>match x.at with
  | some (.tmp k)=>av.any fun | .tmp j=>j == k | _=>false
  | _=>false
 | .calla av _ _=>match x.at with
  | some (.tmp k)=>av.any fun | .tmp j=>j == k | _=>false
  | _=>false
 | y=>y.class <= 3
def mayTurn (x y:AOper):Bool :=
 (x.dst.all fun d=>!y.looks.contains d && y.dst != some d) && (y.dst.all fun d=>!x.looks.contains d) &&
 match x.op.class with
 | 0=>true
 | 1=>passes x.op y.op
 | 2 | 3=>y.op.class == 2
 | _=>(match x.op with | .st .. => true | .calla .. => true | .sta .. => true | _=>false) && y.op.class == 2
def canon (ops:List AOper) (bef:List Nat):(fuel:Nat) -> (left:List Nat) -> List Nat -> List Nat
 | 0,_,acc=>acc.reverse
 | f + 1,left,acc =>
  let ready:=left.filter fun i=>left.all fun j=>j == i || !(bef.getD i 0).testBit j
  let cls (i:Nat):Nat:=((ops[i]?).map (·.op.class)).getD 9
  match (ready.find? fun i=>cls i <= 1).or ((ready.find? fun i=>cls i >= 3).or ((ready.find? fun i=>left.any fun j=>(bef.getD j 0).testBit i && cls j >= 3).or (ready.find? fun _=>true))) with
  | none=>acc.reverse
  | some i=>canon ops bef f (left.filter (· != i)) (i :: acc)
def pureCall (o:AOper):AOper :=
 match o.op with
 | .call f l=>{ o with op:=.callp f l }
 | _=>o
def baseOf (l:List AOper):Nat -> Operand -> Operand
 | 0,x=>x
 | f + 1,.tmp k=>match l.find? fun o=>o.dst == some k with
  | some o=>match o.op with
   | .fa _ y | .ixA _ _ y _ | .ixS _ y _ | .mv y=>baseOf l f y
   | _=>.tmp k
  | none=>.tmp k
 | _,x=>x
def floats (bef:List Nat) (i j:Nat):Bool:=!(i == j) && !((bef.getD j 0).testBit i) && !((bef.getD i 0).testBit j)
def based (l:List AOper) (bef:List Nat) (i:Nat) (o:AOper):AOper :=
 match o.op with
 | .ld n x=>if (l.zipIdx.any fun p=>(match p.1.op with | .app .. => true | .st .. => true | .calla .. => true | _=>false) && floats bef i p.2) then { o with op:=.ldb (baseOf l 20 x) n x } else o
 | _=>o
def avoiding (l:List AOper) (bef:List Nat) (j:Nat) (o:AOper):AOper :=
 match o.op with
 | .app e sz by' z _ s x=>{ o with op:=.app e sz by' z ((List.range l.length).filterMap fun i =>
   if floats bef i j then (l[i]?).bind (·.op.at) else none) s x }
 | .st n a x=>match (List.range l.length).filterMap fun i=>if floats bef i j then (l[i]?).bind (·.op.at) else none with
  | []=>o
  | av=>{ o with op:=.sta av n a x }
 | .calla _ f as=>{ o with op:=.calla ((List.range l.length).filterMap fun i=>if floats bef i j then (l[i]?).bind (·.op.at) else none) f as }
 | _=>o
def settled (l:List AOper) (bef:List Nat) (j:Nat):Bool:=l.zipIdx.all fun p=>!(floats bef p.2 j) || p.1.op.class == 0
def light (l:List AOper) (bef:List Nat) (j:Nat):Bool:=l.zipIdx.all fun p=>!(floats bef p.2 j) || p.1.op.class <= 2
def ptrFn (P:Program) (f:FuncId):Bool:=(P.funcs[f]?).any fun fn=>match fn.params[0]? with
 | some t=>(match P.underlying t with | some (.pointer _)=>true | _=>false)
 | none=>false
def apartCall (P:Program) (m:Bool) (l:List AOper) (bef:List Nat) (j:Nat) (o:AOper):AOper :=
 match o.op with
 | .call f as=>if m && light l bef j && ptrFn P f then { o with op:=.calla [] f as } else { o with op:=.callp f as }
 | _=>o
def callAs (P:Program) (m:Bool) (l:List AOper) (bef:List Nat) (j:Nat) (o:AOper):AOper:=if m && settled l bef j then o else apartCall P m l bef j o
def retold (P:Program) (m:Bool) (l:List AOper) (bef:List Nat):List AOper :=
 let l:=l.zipIdx.map fun p=>callAs P m l bef p.2 p.1
 let l:=l.zipIdx.map fun p=>based l bef p.2 p.1
 l.zipIdx.map fun p=>avoiding l bef p.2 p.1
def turnsOk (ops:List AOper) (bef:List Nat):List Nat -> Bool
 | []=>true
 | i :: r=>(r.all fun j=>(bef.getD j 0).testBit i || (match ops[i]?,ops[j]? with | some x,some y=>mayTurn x y | _,_=>false)) && turnsOk ops bef r
def topoOk (ops:Array Oper):List Nat -> Bool
 | []=>true
 | i :: r=>((ops[i]?).map fun o=>o.after.toList.all fun e=>!Region.binds .any e || (decide (e.on < ops.size) && !r.contains e.on && e.on != i)).getD false && topoOk ops r
def befOk (ops:Array Oper) (bef:List Nat):Bool :=
 (List.range ops.size).all fun j=>((ops[j]?).map fun o=>(List.range ops.size).all fun i=>(bef.getD j 0).testBit i ->
  (o.after.toList.any fun e=>Region.binds .any e && (e.on == i || (bef.getD e.on 0).testBit i))).getD false
def compRegD (P:Program) (ops:Array Oper) (l:List AOper) (m:Bool):Option (List AOper) :=
 let bef:=(Region.before ops).toList
 let l:=retold P m l bef
 let c:=canon l bef ops.size (List.range ops.size) []
 if P.follows .mixedOrders = true /\ c.length = ops.size /\ c.all (· < ops.size) = true /\ c.Nodup /\ turnsOk l bef c = true /\ befOk ops bef = true /\ topoOk ops c = true then c.mapM (l[·]?) else none
def compReg (P:Program) (N:Nat) (ops:Array Oper) (draw:Bool):Option (List AOper) :=
 (ops.toList.mapM (compOper P N ops)).bind fun l =>
  if draw then (match compRegD P ops l true with
   | some r=>some r
   | none=>compRegD P ops l false)
  else some l
def compC (P:Program) (N:Nat):Code -> Option ACode
 | .skip=>some .skip
 | .region _ ops draw=>(compReg P N ops draw).map .reg
 | .seq a b=>(compC P N a).bind fun a=>(compC P N b).map fun b=>.seq a b
 | .cond c a b=>(compC P N a).bind fun a'=>(compC P N b).map fun b'=>.cond c a' b'
 | .block id b=>(compC P N b).map (.block id)
 | .loop b=>(compC P N b).map .loop
 | .exit id=>some (.exit id)
 | .ret=>some .ret
 | .label _=>some .skip
 | _=>none
end
section
set_option linter.constructorNameAsVariable false
section
variable {P:Program}
theorem aop_det {op:AOp} {ρ:Operand -> Value} {h:H} {K:Value -> Eff -> Prop} (hc:op.class <= 1):aop P op ρ h K ↔ OK (adet h ρ op) fun v=>K v .keep:=by
 cases op <;> simp [AOp.class] at hc <;> rfl
def mkNew (e:TypeId) (bytes:Nat) (z:List Value):Value -> Value -> Option ((Nat -> Value) × Blk)
 | .int _ l,.int _ c=>grd (0 <= l /\ l <= c /\ (bytes:Int) * c <= 281474976710656 /\ c <= 9223372036854775807) (some (fun b=>.slice (some ⟨b,0,none⟩) l.toNat c.toNat,.row true e (reps z c.toNat) 0))
 | _,_=>none
def new2 (ρ:Operand -> Value):AOp -> Option ((Nat -> Value) × Blk)
 | .alloc e z=>some (fun b=>.pointer (some ⟨b,0,none⟩),.row true e z 0)
 | .box e x=>grd (all1 (ρ x).cells.toList = true) (some (fun b=>.pointer (some ⟨b,0,none⟩),.row true e (ρ x).cells.toList 0))
 | .mks e z len ps=>(fillL z (ps.map fun p=>(p.1,p.2.1,ρ p.2.2))).bind fun cs=>grd (all1 cs = true) (some (fun b=>.slice (some ⟨b,0,none⟩) len len,.row true e cs 0))
 | .mk e bytes z l c=>mkNew e bytes z (ρ l) (ρ c)
 | .mkm=>some (fun b=>.map (some b),.obj true (.map #[] 0))
 | _=>none
theorem aop_new {op:AOp} {ρ:Operand -> Value} {h:H} {K:Value -> Eff -> Prop} (hc:op.class = 2) :
  aop P op ρ h K ↔ ∃ p,new2 ρ op = some p /\ ∀ b,New h b -> K (p.1 b) (.new (single b p.2)):=by
 cases op <;> simp [AOp.class] at hc
 case alloc e z=>simp [aop,new2,anew]
 case mkm=>simp [aop,new2,anew]
 case box e x =>
  simp only [aop,new2,aboxV,anew,grd]
  constructor
  ·rintro ⟨h1,h2⟩; exact ⟨_,by rw [if_pos h1],h2⟩
  ·rintro ⟨p,h1,h2⟩; split at h1
   ·simp only [Option.some.injEq] at h1; subst h1; exact ⟨by assumption,h2⟩
   ·cases h1
 case mks e z len ps =>
  simp only [aop,new2,amksV,anew,grd,OK]
  constructor
  ·rintro ⟨cs,hcs,h1,h2⟩; exact ⟨_,by rw [hcs,Option.bind_some,if_pos h1],h2⟩
  ·rintro ⟨p,h1,h2⟩
   cases hf:fillL z (ps.map fun p=>(p.1,p.2.1,ρ p.2.2)) with
   | none=>simp [hf] at h1
   | some cs =>
    rw [hf,Option.bind_some] at h1
    split at h1
    ·simp only [Option.some.injEq] at h1; subst h1; exact ⟨cs,rfl,by assumption,h2⟩
    ·cases h1
 case mk e bytes z l c =>
  simp only [aop,new2]
  generalize ρ l = a
  generalize ρ c = b
  cases a <;> cases b <;> simp only [amkV,mkNew,anew,grd,reduceCtorEq,false_and,exists_false]
  constructor
  ·rintro ⟨h1,h2⟩; exact ⟨_,by rw [if_pos h1],h2⟩
  ·rintro ⟨p,h1,h2⟩; split at h1
   ·simp only [Option.some.injEq] at h1; subst h1; exact ⟨by assumption,h2⟩
   ·cases h1
theorem map_congr_mem {α β:Type} {f g:α -> β}:∀ {l:List α},(∀ x ∈ l,f x = g x) -> l.map f = l.map g:=List.map_congr_left
theorem parts_congr {ρ ρ':Operand -> Value} {ps:List (Nat × Nat × Operand)} (h:∀ x ∈ ps.map (·.2.2),ρ x = ρ' x) :
  (ps.map fun p=>(p.1,p.2.1,ρ p.2.2)) = ps.map fun p=>(p.1,p.2.1,ρ' p.2.2):=by
 apply List.map_congr_left
 intro p hp
 rw [h _ (List.mem_map_of_mem hp)]
theorem opt_congr {ρ ρ':Operand -> Value} {o:Option Operand} (h:∀ x ∈ o.toList,ρ x = ρ' x):o.map ρ = o.map ρ':=by
 cases o with
 | none=>rfl
 | some x=>simp [h x (by simp)]
theorem adet_congr {op:AOp} {ρ ρ':Operand -> Value} {h:H} (hr:∀ x ∈ op.reads,ρ x = ρ' x):adet h ρ op = adet h ρ' op:=by
 cases op <;> simp only [AOp.reads,List.mem_cons,List.mem_append,List.not_mem_nil,or_false,forall_eq_or_imp,forall_eq] at hr <;> simp only [adet]
 all_goals try (simp only [hr]; done)
 case bld z ps=>rw [parts_congr hr]
 case slS=>rw [hr.1,opt_congr fun x hx=>hr.2 x (.inl hx),opt_congr fun x hx=>hr.2 x (.inr hx)]
 case slA=>rw [hr.1,opt_congr fun x hx=>hr.2 x (.inl hx),opt_congr fun x hx=>hr.2 x (.inr hx)]
 case slT=>rw [hr.1,opt_congr fun x hx=>hr.2 x (.inl hx),opt_congr fun x hx=>hr.2 x (.inr hx)]
 case mkf=>rw [map_congr_mem fun x hx=>hr x (.inl hx),map_congr_mem fun x hx=>hr x (.inr hx)]
theorem aop_congr {op:AOp} {ρ ρ':Operand -> Value} {h:H} {K:Value -> Eff -> Prop} (hr:∀ x ∈ op.reads,ρ x = ρ' x):aop P op ρ h K = aop P op ρ' h K:=by
 have hd:=adet_congr (h:=h) hr
 cases op <;> simp only [aop,hd] <;> simp only [AOp.reads,List.mem_cons,List.mem_append,List.not_mem_nil,or_false,forall_eq_or_imp,forall_eq] at hr
 case box=>rw [hr]
 case mks=>rw [parts_congr hr]
 case mk=>rw [hr.1,hr.2]
 case app=>rw [hr.1,hr.2.1,map_congr_mem hr.2.2]
 case st=>rw [hr.1,hr.2]
 case sta=>rw [hr.1,hr.2.1,map_congr_mem hr.2.2]
 case cpy=>rw [hr.1,hr.2]
 case clr=>rw [hr]
 case call=>rw [map_congr_mem hr]
 case callp=>rw [map_congr_mem hr]
 case calla=>rw [map_congr_mem fun x hx=>hr x (.inl hx),map_congr_mem fun x hx=>hr x (.inr hx)]
 case callv=>rw [hr.1,map_congr_mem hr.2]
theorem new2_congr {op:AOp} {ρ ρ':Operand -> Value} (hr:∀ x ∈ op.reads,ρ x = ρ' x):new2 ρ op = new2 ρ' op:=by
 cases op <;> simp only [new2] <;> simp only [AOp.reads,List.mem_cons,List.mem_append,List.not_mem_nil,or_false,forall_eq_or_imp,forall_eq] at hr
 case box=>rw [hr]
 case mks=>rw [parts_congr hr]
 case mk=>rw [hr.1,hr.2]
theorem aop_mono {op:AOp} {ρ:Operand -> Value} {h:H} {K K':Value -> Eff -> Prop} (hK:∀ v e,K v e -> K' v e) (ha:aop P op ρ h K):aop P op ρ h K':=by
 have hacall:∀ {f args},acall P f args h K -> acall P f args h K':=fun {f args} hx =>
  hx.imp (fun ⟨Φ,h1,h2⟩=>⟨Φ,h1,fun r d hΦ=>hK _ _ (h2 r d hΦ)⟩) (fun ⟨Φ,h1,h2⟩=>⟨Φ,h1,fun r d hΦ=>hK _ _ (h2 r d hΦ)⟩)
 cases hcl:decide (op.class <= 1) with
 | true=>rw [aop_det (by simpa using hcl)] at ha ⊢; exact ha.imp fun v hv=>⟨hv.1,hK _ _ hv.2⟩
 | false =>
  cases op <;> simp [AOp.class] at hcl <;> simp only [aop] at ha ⊢
  case alloc=>exact fun b hb=>hK _ _ (ha b hb)
  case mkm=>exact fun b hb=>hK _ _ (ha b hb)
  case box=>exact ⟨ha.1,fun b hb=>hK _ _ (ha.2 b hb)⟩
  case mks=>exact ha.imp fun cs hcs=>⟨hcs.1,hcs.2.1,fun b hb=>hK _ _ (hcs.2.2 b hb)⟩
  case mk =>
   unfold amkV at ha ⊢
   split at ha
   ·exact ⟨ha.1,fun b hb=>hK _ _ (ha.2 b hb)⟩
   ·exact ha.elim
  case app =>
   refine ha.imp fun r hr=>⟨hr.1,hr.2.1,?_⟩
   have hx:=hr.2.2
   unfold appV at hx ⊢
   split at hx
   ·unfold appB at hx ⊢
    split at hx
    ·exact ⟨hx.1,fun b c e h1 h2 h3 h4=>hK _ _ (hx.2 b c e h1 h2 h3 h4)⟩
    ·exact hx.elim
   ·split at hx
    ·rename_i hm; rw [if_pos hm]; exact hK _ _ hx
    ·rename_i hm; rw [if_neg hm]; exact ⟨hx.1,fun b c e h1 h2 h3 h4=>hK _ _ (hx.2 b c e h1 h2 h3 h4)⟩
   ·exact hx.elim
  case st =>
   unfold astV at ha ⊢
   split at ha
   ·unfold astB at ha ⊢
    split at ha
    ·exact ⟨ha.1,hK _ _ ha.2⟩
    ·exact ha.elim
   ·exact ha.elim
  case cpy =>
   obtain ⟨r,h1,ha⟩:=ha
   refine ⟨r,h1,?_⟩
   unfold acpyV at ha ⊢
   split at ha
   ·split at ha
    ·rename_i h0; rw [if_pos h0]; exact hK _ _ ha
    ·rename_i h0
     rw [if_neg h0]
     unfold acpyB at ha ⊢
     split at ha
     ·exact ⟨ha.1,hK _ _ ha.2⟩
     ·exact ha.elim
   ·exact hK _ _ ha
   ·exact ha.elim
  case clr =>
   unfold aclrV at ha ⊢
   split at ha
   ·split at ha
    ·rename_i h0; rw [if_pos h0]; exact hK _ _ ha
    ·rename_i h0
     rw [if_neg h0]
     unfold aclrB at ha ⊢
     split at ha
     ·exact ⟨ha.1,hK _ _ ha.2⟩
     ·exact ha.elim
   ·exact hK _ _ ha
   ·exact ha.elim
  case sta =>
   refine ⟨ha.1,?_⟩
   replace ha:=ha.2
   unfold astV at ha ⊢
   split at ha
   ·unfold astB at ha ⊢
    split at ha
    ·exact ⟨ha.1,hK _ _ ha.2⟩
    ·exact ha.elim
   ·exact ha.elim
  case call=>exact hacall ha
  case callp=>exact ha.imp fun Φ hΦ=>⟨hΦ.1,fun r d h=>hK _ _ (hΦ.2 r d h)⟩
  case calla=>exact ha.imp (fun ⟨Φ,h1,h2⟩=>⟨Φ,h1,fun r d hΦ=>hK _ _ (h2 r d hΦ)⟩) (fun ⟨Φ,h1,h2⟩=>⟨Φ,h1,fun r d hΦ=>⟨(h2 r d hΦ).1,hK _ _ (h2 r d hΦ).2⟩⟩)
  case callv =>
   unfold acallv at ha ⊢
   split at ha
   ·exact ⟨ha.1,hacall ha.2⟩
   ·exact ha.elim
theorem step_mono {o:AOper} {K K':T -> H -> Prop} (hK:∀ t h,K t h -> K' t h) {t:T} {h:H} (hs:step P o K t h):step P o K' t h:=by
 unfold step at hs ⊢
 split
 ·rename_i hg; rw [if_pos hg] at hs; exact aop_mono (fun v e hx hok=>hK _ _ (hx hok)) hs
 ·rename_i hg; rw [if_neg hg] at hs; exact hK _ _ hs
theorem ev_put {t:T} {d:Nat} {v:Value} {x:Operand} (h:∀ k,x = .tmp k -> k ≠ d):ev (put t d v) x = ev t x:=by
 cases x with
 | tmp k=>simp [ev,put,h k rfl]
 | _=>rfl
theorem mem_opsTmps {l:List Operand} {k:Nat} (h:Operand.tmp k ∈ l):k ∈ opsTmps l:=by
 unfold opsTmps
 exact List.mem_filterMap.2 ⟨_,h,rfl⟩
theorem ev_puto {o:AOper} {d:Option Nat} (hd:∀ k,d = some k -> k ∉ o.looks) {t:T} {v:Value}:∀ x ∈ o.op.reads,ev (puto t d v) x = ev t x:=fun x hx=>by
 cases d with
 | none=>rfl
 | some k =>
  refine ev_put fun j hj=>?_
  rintro rfl
  subst hj
  exact hd j rfl (by unfold AOper.looks; exact List.mem_append_left _ (mem_opsTmps hx))
theorem goes_puto {o:AOper} {d:Option Nat} (hd:∀ k,d = some k -> k ∉ o.looks) {t:T} {v:Value}:goes (puto t d v) o.guard = goes t o.guard:=by
 cases d with
 | none=>rfl
 | some k =>
  have:=hd k rfl
  unfold goes
  cases hg:o.guard with
  | none=>rfl
  | some p =>
   obtain ⟨g,want⟩:=p
   have hne:g ≠ k:=fun e=>this (by unfold AOper.looks; rw [hg,e]; simp)
   simp [puto,put,hne]
theorem puto_comm {t:T} {d d':Option Nat} (hd:∀ k,d = some k -> d' ≠ some k) {v v':Value}:puto (puto t d v) d' v' = puto (puto t d' v') d v:=by
 cases d with
 | none=>rfl
 | some k =>
  cases d' with
  | none=>rfl
  | some k' =>
   have hne:k ≠ k':=fun e=>hd k rfl (by rw [e])
   funext x
   simp only [puto,put]
   split <;> split <;> first | rfl | (rename_i h1 h2; omega)
theorem step_put {o:AOper} {K:T -> H -> Prop} {t:T} {h:H} {d:Option Nat} {v:Value} (hd:∀ k,d = some k -> k ∉ o.looks) (hne:∀ k,d = some k -> o.dst ≠ some k) :
  step P o K (puto t d v) h ↔ step P o (fun t' h'=>K (puto t' d v) h') t h:=by
 unfold step
 rw [goes_puto hd]
 split
 ·rw [aop_congr (ev_puto hd)]
  have:∀ u,puto (puto t d v) o.dst u = puto (puto t o.dst u) d v:=fun u=>puto_comm hne
  simp only [this]
 ·have:∀ u,puto (puto t d v) o.dst u = puto (puto t o.dst u) d v:=fun u=>puto_comm hne
  simp only [this]
theorem ald_mono {h h':H} (hle:Le h h') {n:Option Nat} {x v:Value} (hv:ald h n x = some v):ald h' n x = some v:=by
 unfold ald at hv ⊢
 split at hv
 ·rename_i b off
  unfold ldB at hv ⊢
  split at hv
  ·rename_i hb; rw [hle _ _ hb]; exact hv
  ·cases hv
 ·cases hv
theorem adet_mono {h h':H} (hle:Le h h') {op:AOp} {ρ:Operand -> Value} {v:Value} (hv:adet h ρ op = some v):adet h' ρ op = some v:=by
 cases op <;> simp only [adet] at hv ⊢ <;> first | exact hv | skip
 case ld=>exact ald_mono hle hv
 case ldb =>
  obtain ⟨h1,h2⟩:=grd_some hv
  simp only [grd]; rw [if_pos h1]; exact ald_mono hle h2
 case lenM =>
  unfold alenM at hv ⊢
  split at hv
  ·exact hv
  ·split at hv
   ·rename_i hb; rw [hle _ _ hb]; exact hv
   ·cases hv
  ·cases hv
 case b2s =>
  unfold ab2s at hv ⊢
  split at hv
  ·exact hv
  ·split at hv
   ·rename_i hb; rw [hle _ _ hb]; exact hv
   ·cases hv
  ·cases hv
theorem adet_pure {h h':H} {op:AOp} (hc:op.class = 0) {ρ:Operand -> Value}:adet h ρ op = adet h' ρ op:=by
 cases op <;> simp [AOp.class] at hc <;> rfl
theorem le_join {h d:H} (hd:Dis h d):Le h (join h d):=fun b k hb=>by
 unfold join
 cases hdb:d b with
 | none=>simpa using hb
 | some k'=>have:=hd b (by simp [hdb]); rw [hb] at this; cases this
theorem step_def (o:AOper) (K:T -> H -> Prop) (t:T) (h:H) :
  step P o K t h = if goes t o.guard = true then aop P o.op (ev t) h fun v e=>e.ok h -> K (puto t o.dst v) (e.app h) else K (puto t o.dst undef) h:=rfl
def detV (t:T) (h:H) (o:AOper):Option Value:=if goes t o.guard = true then adet h (ev t) o.op else some undef
theorem step_det {o:AOper} {K:T -> H -> Prop} {t:T} {h:H} (hc:o.op.class <= 1):step P o K t h ↔ ∃ v,detV t h o = some v /\ K (puto t o.dst v) h:=by
 unfold step detV
 split
 ·rw [aop_det hc]
  constructor
  ·rintro ⟨v,hv,hK⟩; exact ⟨v,hv,hK trivial⟩
  ·rintro ⟨v,hv,hK⟩; exact ⟨v,hv,fun _=>hK⟩
 ·constructor
  ·intro hK; exact ⟨undef,rfl,hK⟩
  ·rintro ⟨v,hv,hK⟩; simp only [Option.some.injEq] at hv; subst hv; exact hK
structure Apart (x y:AOper):Prop where
 xy:∀ k,x.dst = some k -> k ∉ y.looks
 ne:∀ k,x.dst = some k -> y.dst ≠ some k
 yx:∀ k,y.dst = some k -> k ∉ x.looks
theorem Apart.ne' {x y:AOper} (h:Apart x y):∀ k,y.dst = some k -> x.dst ≠ some k:=fun k hk hx=>h.ne k hx hk
theorem detV_puto {o:AOper} {d:Option Nat} (hd:∀ k,d = some k -> k ∉ o.looks) {t:T} {v:Value} {h:H}:detV (puto t d v) h o = detV t h o:=by
 unfold detV
 rw [goes_puto hd,adet_congr (ev_puto hd)]
theorem detV_mono {o:AOper} {t:T} {h h':H} (hle:Le h h') {v:Value} (hv:detV t h o = some v):detV t h' o = some v:=by
 unfold detV at hv ⊢
 split
 ·rename_i hg; rw [if_pos hg] at hv; exact adet_mono hle hv
 ·rename_i hg; rw [if_neg hg] at hv; exact hv
theorem aop_grows {op:AOp} {ρ:Operand -> Value} {h:H} {K:Value -> Eff -> Prop} (hc:op.class <= 3) (ha:aop P op ρ h K):aop P op ρ h fun v e=>K v e /\ (e.ok h -> Le h (e.app h)):=by
 cases hcl:decide (op.class <= 1) with
 | true=>rw [aop_det (by simpa using hcl)] at ha ⊢; exact ha.imp fun v hv=>⟨hv.1,hv.2,fun _ _ _ h=>h⟩
 | false =>
  have hcl':¬ op.class <= 1:=by simpa using hcl
  by_cases h2:op.class = 2
  ·rw [aop_new h2] at ha ⊢
   obtain ⟨p,hp,hK⟩:=ha
   exact ⟨p,hp,fun b hb=>⟨hK b hb,fun hok=>le_join hok⟩⟩
  ·cases op <;> simp [AOp.class] at hc hcl' h2
   case callp =>
    simp only [aop] at ha ⊢
    obtain ⟨Φ,h1,h2⟩:=ha
    exact ⟨Φ,h1,fun r d hΦ=>⟨h2 r d hΦ,fun hok=>le_join hok⟩⟩
theorem step_grows {o:AOper} {K:T -> H -> Prop} {t:T} {h:H} (hc:o.op.class <= 3) (hs:step P o K t h):step P o (fun t' h'=>K t' h' /\ Le h h') t h:=by
 unfold step at hs ⊢
 split
 ·rename_i hg; rw [if_pos hg] at hs
  exact aop_mono (fun v e hx hok=>⟨hx.1 hok,hx.2 hok⟩) (aop_grows hc hs)
 ·rename_i hg; rw [if_neg hg] at hs; exact ⟨hs,fun _ _ h=>h⟩
theorem turn_det {x y:AOper} (hx:x.op.class <= 1) (hap:Apart x y) {K:T -> H -> Prop} {t:T} {h:H}
  (hst:∀ v,detV t h x = some v -> ∀ K:T -> H -> Prop,step P y K t h -> step P y (fun t' h'=>K t' h' /\ detV t h' x = some v) t h)
  (hs:step P x (step P y K) t h):step P y (step P x K) t h:=by
 rw [step_det hx] at hs
 obtain ⟨v,hv,hs⟩:=hs
 rw [step_put hap.xy (fun k hk=>hap.ne k hk)] at hs
 have h1:=hst v hv _ hs
 -- the outcomes of 'y' put 'y.dst' alone
 rw [step_def y] at h1 ⊢
 split
 ·rename_i hg
  rw [if_pos hg] at h1
  refine aop_mono (fun u e hue hok=>?_) h1
  obtain ⟨hK,hd⟩:=hue hok
  rw [step_det hx] 
  refine ⟨v,?_,?_⟩
  ·rw [detV_puto hap.yx]; exact hd
  ·exact hK
 ·rename_i hg
  rw [if_neg hg] at h1
  obtain ⟨hK,hd⟩:=h1
  rw [step_det hx]
  exact ⟨v,by rw [detV_puto hap.yx]; exact hd,hK⟩
end
end
section
set_option linter.constructorNameAsVariable false
section
variable {P:Program}
theorem Spec.mono {f:FuncId} {args:List Value} {h h':H} {Φ:Value -> H -> Prop} (hs:Spec P f args h Φ) (hle:Le h h'):Spec P f args h' Φ :=
 fun hr hl B w0 w hw=>hs hr (fun b k hb=>hl b k (hle b k hb)) B w0 w hw
theorem le_upd {h:H} {b:Nat} {k:Blk} (hb:New h b):Le h (upd h b k):=fun x k' hx=>by
 have:¬ x = b:=(hb x (by simp [hx])).1
 simp [upd,this,hx]
theorem new_of_upd {h:H} {b b2:Nat} {k:Blk} (hb2:New (upd h b k) b2):New h b2 /\ b2 ≠ b:=by
 refine ⟨fun x hx=>hb2 x (by simp only [upd]; split; rfl; exact hx),?_⟩
 have:=(hb2 b (by simp [upd])).2
 exact this
theorem upd_comm {h:H} {b b2:Nat} {k k2:Blk} (hne:b2 ≠ b):upd (upd h b k) b2 k2 = upd (upd h b2 k2) b k:=by
 funext x; simp only [upd]; split <;> split <;> first | rfl | (rename_i h1 h2; exact absurd (h1.symm.trans h2) (fun e=>hne (by omega)))
theorem new_upd {h:H} {b b2:Nat} {k2:Blk} (hb:New h b) (hne:b2 ≠ b):New (upd h b2 k2) b:=fun x hx=>by
 simp only [upd] at hx
 split at hx
 ·rename_i e; subst e; exact ⟨hne,fun e=>hne e.symm⟩
 ·exact hb x hx
theorem step_frame {x:AOper} (hx:x.op.class = 2 ∨ x.op.class = 3 ∨ (∃ n a v,x.op = .st n a v) ∨ (∃ av f l,x.op = .calla av f l) ∨ (∃ av n a v,x.op = .sta av n a v)) {K1 K2:T -> H -> Prop} {t:T} {h:H} {b:Nat} {k:Blk} (hb:New h b)
  (hK:∀ t' h',New h' b -> K1 t' h' -> K2 t' (upd h' b k)) (hs:step P x K1 t h):step P x K2 t (upd h b k):=by
 rw [step_def] at hs ⊢
 split
 ·rename_i hg
  rw [if_pos hg] at hs
  rcases hx with hx | hx | ⟨n,a,v,hx⟩ | ⟨av,f,l,hx⟩ | ⟨av,n,a,v,hx⟩
  ·rw [aop_new hx] at hs ⊢
   obtain ⟨p,hp,hs⟩:=hs
   refine ⟨p,hp,fun b2 hb2 hok=>?_⟩
   obtain ⟨h1,h2⟩:=new_of_upd hb2
   have:=hs b2 h1 (dis_single _ h1)
   simp only [Eff.app,join_single] at this ⊢
   rw [upd_comm h2]
   exact hK _ _ (new_upd hb h2) this
  ·obtain ⟨dst,op,g⟩:=x
   cases op <;> simp [AOp.class] at hx
   case callp f args =>
    simp only [aop] at hs ⊢
    obtain ⟨Φ,h1,h2⟩:=hs
    refine ⟨Φ,h1.mono (le_upd hb),fun r d hΦ hok=>?_⟩
    have hdb:d b = none:=by
     cases hd:d b with
     | none=>rfl
     | some k'=>have:=hok b (by simp [hd]); simp [upd] at this
    have hd:Dis h d:=fun y hy=>by
     have:=hok y hy
     simp only [upd] at this
     split at this
     ·cases this
     ·exact this
    have:=h2 r d hΦ hd
    simp only [Eff.app] at this ⊢
    have he:join (upd h b k) d = upd (join h d) b k:=by
     funext y; simp only [join,upd]; by_cases hy:y = b
     ·subst hy; simp [hdb]
     ·simp [hy]
    rw [he]
    refine hK _ _ (fun y hy=>?_) this
    simp only [join] at hy
    cases hdy:d y with
    | some k'=>constructor <;> (rintro rfl; rw [hdb] at hdy; cases hdy)
    | none=>rw [hdy] at hy; exact hb y (by simpa using hy)
  ·rw [hx] at hs ⊢
   simp only [aop] at hs ⊢
   unfold astV at hs ⊢
   split at hs
   ·rename_i ba off ha
    unfold astB at hs ⊢
    split at hs
    ·rename_i e cs ex hba
     have hne:=hb ba (by simp [hba])
     simp only [upd,hne.1,if_false,hba]
     refine ⟨hs.1,fun _=>?_⟩
     have:=hs.2 trivial
     simp only [Eff.app] at this ⊢
     rw [upd_comm hne.1]
     exact hK _ _ (new_upd hb hne.1) this
    ·exact hs.elim
   ·exact hs.elim
  ·rw [hx] at hs ⊢
   simp only [aop] at hs ⊢
   rcases hs with ⟨Φ,h1,h2⟩ | ⟨Φ,h1,h2⟩
   ·refine .inl ⟨Φ,h1.mono (le_upd hb),fun r d hΦ hok=>?_⟩
    have hdb:d b = none:=by
     cases hd:d b with
     | none=>rfl
     | some k'=>have:=hok b (by simp [hd]); simp [upd] at this
    have hd:Dis h d:=fun y hy=>by
     have:=hok y hy
     simp only [upd] at this
     split at this
     ·cases this
     ·exact this
    have:=h2 r d hΦ hd
    simp only [Eff.app] at this ⊢
    have he:join (upd h b k) d = upd (join h d) b k:=by
     funext y; simp only [join,upd]; by_cases hy:y = b
     ·subst hy; simp [hdb]
     ·simp [hy]
    rw [he]
    refine hK _ _ (fun y hy=>?_) this
    simp only [join] at hy
    cases hdy:d y with
    | some k'=>constructor <;> (rintro rfl; rw [hdb] at hdy; cases hdy)
    | none=>rw [hdy] at hy; exact hb y (by simpa using hy)
   ·refine .inr ⟨fun r g=>∃ h',Φ r h' /\ New h' b /\ g = upd h' b k,fun X hX=>?_,?_⟩
    ·have hXb:X b = none:=by
      cases hd:X b with
      | none=>rfl
      | some k'=>have:=hX b (by simp [hd]); simp [upd] at this
     have hhb:h b = none:=by
      cases hd:h b with
      | none=>rfl
      | some k'=>exact absurd rfl (hb b (by simp [hd])).1
     have hX':Dis h (upd X b k):=fun y hy=>by
      by_cases e:y = b
      ·subst e; exact hhb
      ·simp only [upd,if_neg e] at hy
       have:=hX y hy
       simpa only [upd,if_neg e] using this
     have ej:∀ q:H,q b = none -> join (upd q b k) X = join q (upd X b k):=fun q hq=>by
      funext y; simp only [join,upd]; by_cases hy:y = b
      ·subst hy; simp [hXb]
      ·simp [hy]
     intro B w0 w hw
     rw [ej h hhb] at hw
     refine (h1 _ hX' B w0 w hw).mono ?_
     rintro x w' ⟨r,g,rfl,⟨h',hΦ,hd',rfl⟩,hsat⟩
     have hb':h' b = none:=hd' b (by simp [upd])
     refine ⟨r,_,rfl,⟨upd h' b k,⟨h',hΦ,fun y hy=>?_,rfl⟩,fun y hy=>?_,(ej h' hb').symm⟩,hsat⟩
     ·constructor <;> (rintro rfl; rw [hb'] at hy; cases hy)
     ·have e:y ≠ b:=fun e=>by subst e; rw [hXb] at hy; cases hy
      simp only [upd,if_neg e]
      exact hd' y (by simp only [upd,if_neg e]; exact hy)
    ·rintro r g ⟨h',hΦ,hn,rfl⟩
     obtain ⟨h3,h4⟩:=h2 r h' hΦ
     refine ⟨fun x hx b0 hb0 hs0=>?_,fun _=>?_⟩
     ·by_cases e:b0 = b
      ·subst e; simp [upd]
      ·simp only [upd,if_neg e] at hs0 ⊢
       exact h3 x hx b0 hb0 hs0
     ·exact hK _ _ hn (h4 trivial)
  ·rw [hx] at hs ⊢
   simp only [aop] at hs ⊢
   refine ⟨hs.1,?_⟩
   replace hs:=hs.2
   unfold astV at hs ⊢
   split at hs
   ·rename_i ba off ha
    unfold astB at hs ⊢
    split at hs
    ·rename_i e cs ex hba
     have hne:=hb ba (by simp [hba])
     simp only [upd,hne.1,if_false,hba]
     refine ⟨hs.1,fun _=>?_⟩
     have:=hs.2 trivial
     simp only [Eff.app] at this ⊢
     rw [upd_comm hne.1]
     exact hK _ _ (new_upd hb hne.1) this
    ·exact hs.elim
   ·exact hs.elim
 ·rename_i hg
  rw [if_neg hg] at hs
  exact hK _ _ hb hs
theorem new2_puto {o:AOper} {d:Option Nat} (hd:∀ k,d = some k -> k ∉ o.looks) {t:T} {v:Value}:new2 (ev (puto t d v)) o.op = new2 (ev t) o.op :=
 new2_congr (ev_puto hd)
theorem turn_new {x y:AOper} (hx:x.op.class = 2 ∨ x.op.class = 3 ∨ (∃ n a v,x.op = .st n a v) ∨ (∃ av f l,x.op = .calla av f l) ∨ (∃ av n a v,x.op = .sta av n a v)) (hy:y.op.class = 2) (hap:Apart x y) {K:T -> H -> Prop} {t:T} {h:H}
  (hc:goes t y.guard = true -> ∃ p,new2 (ev t) y.op = some p) (hs:step P x (step P y K) t h):step P y (step P x K) t h:=by
 by_cases hg:goes t y.guard = true
 ·obtain ⟨p,hp⟩:=hc hg
  rw [step_def y,if_pos hg,aop_new hy]
  refine ⟨p,hp,fun b hb hok=>?_⟩
  simp only [Eff.app,join_single]
  rw [step_put hap.yx hap.ne']
  have hrel:∀ t' h',New h' b -> (∃ u,t' = puto t x.dst u) /\ step P y K t' h' -> K (puto t' y.dst (p.1 b)) (upd h' b p.2):=by
   rintro t' h' hn ⟨⟨u,rfl⟩,hsy⟩
   rw [step_def,goes_puto hap.xy,if_pos hg,aop_new hy,new2_puto hap.xy] at hsy
   obtain ⟨p',hp',hsy⟩:=hsy
   rw [hp] at hp'
   simp only [Option.some.injEq] at hp'
   subst hp'
   have:=hsy b hn (dis_single _ hn)
   simpa only [Eff.app,join_single] using this
  refine step_frame hx hb (K1:=fun t' h'=>(∃ u,t' = puto t x.dst u) /\ step P y K t' h') hrel ?_
  rw [step_def] at hs ⊢
  split
  ·rename_i hgx; rw [if_pos hgx] at hs; exact aop_mono (fun v e hve hok=>⟨⟨v,rfl⟩,hve hok⟩) hs
  ·rename_i hgx; rw [if_neg hgx] at hs; exact ⟨⟨undef,rfl⟩,hs⟩
 ·rw [step_def y,if_neg hg,step_put hap.yx hap.ne']
  rw [step_def x] at hs ⊢
  split
  ·rename_i hgx; rw [if_pos hgx] at hs
   refine aop_mono (fun v e hve hok=>?_) hs
   have:=hve hok
   rw [step_def y,goes_puto hap.xy,if_neg hg] at this
   exact this
  ·rename_i hgx; rw [if_neg hgx] at hs
   rw [step_def y,goes_puto hap.xy,if_neg hg] at hs
   exact hs
theorem app_keeps {x:AOper} {base:Operand} {n:Option Nat} {xa:Operand} (hx:x.op = .ldb base n xa) {y:AOper} {e:TypeId} {sz by':Nat} {z:List Value} {av:List Operand} {s ya:Operand}
  (hy:y.op = .app e sz by' z av s ya) (hav:base ∈ av) {t:T} {h:H} {v:Value} (hv:detV t h x = some v) {K:T -> H -> Prop} (hs:step P y K t h) :
  step P y (fun t' h'=>K t' h' /\ detV t h' x = some v) t h:=by
 rw [step_def] at hs ⊢
 split
 ·rename_i hg
  rw [if_pos hg,hy] at hs
  rw [hy]
  simp only [aop] at hs ⊢
  obtain ⟨⟨m,news⟩,hrd,⟨h1,hav2⟩,hs⟩:=hs
  refine ⟨⟨m,news⟩,hrd,⟨h1,hav2⟩,?_⟩
  -- the load,wherever its block is as it was
  have hld:∀ h':H,(∀ b,blockOf (ev t s) ≠ some b -> (h b).isSome = true -> h' b = h b) -> detV t h' x = some v:=fun h' hh=>by
   unfold detV at hv ⊢
   split
   ·rename_i hgx
    rw [if_pos hgx,hx] at hv
    rw [hx]
    simp only [adet] at hv ⊢
    obtain ⟨hb,hv⟩:=grd_some hv
    simp only [grd]; rw [if_pos hb]
    unfold ald at hv ⊢
    split at hv
    ·rename_i b off hxa
     unfold ldB at hv ⊢
     split at hv
     ·rename_i hb2
      have hbase:blockOf (ev t base) = some b:=by rw [<-hb,hxa]; rfl
      have hne:blockOf (ev t s) ≠ some b:=fun hsb=>by
       simp only [avoids,List.all_eq_true,List.mem_map,forall_exists_index,and_imp,forall_apply_eq_imp_iff₂] at hav2
       have:=hav2 base hav
       rw [hsb,hbase] at this
       simp at this
      rw [hh b hne (by simp [hb2]),hb2]
      exact hv
     ·cases hv
    ·cases hv
   ·rename_i hgx; rw [if_neg hgx] at hv; exact hv
  unfold appV at hs ⊢
  split at hs
  ·rename_i b0 n0 cap hsv
   unfold appB at hs ⊢
   split at hs
   ·refine ⟨hs.1,fun b' cap' ex' hb' h2 h3 h4 hok=>⟨hs.2 b' cap' ex' hb' h2 h3 h4 hok,hld _ fun b hb hbs=>?_⟩⟩
    have hne0:¬ b = b0:=fun e=>hb (by rw [hsv,e]; rfl)
    have hn:=hb' b (by simp only [erase]; rw [if_neg hne0]; exact hbs)
    simp only [Eff.app,upd,erase]
    rw [if_neg hn.1,if_neg hne0]
   ·exact hs.elim
  ·split at hs
   ·rename_i hm; rw [if_pos hm]; exact fun hok=>⟨hs hok,hld _ fun _ _ _=>rfl⟩
   ·rename_i hm; rw [if_neg hm]
    refine ⟨hs.1,fun b' cap' ex' hb' h2 h3 h4 hok=>⟨hs.2 b' cap' ex' hb' h2 h3 h4 hok,hld _ fun b hb hbs=>?_⟩⟩
    have hn:=hb' b hbs
    simp only [Eff.app,join_single,upd]
    rw [if_neg hn.1]
  ·exact hs.elim
 ·rename_i hg
  rw [if_neg hg] at hs
  exact ⟨hs,hv⟩
theorem sta_keeps {x:AOper} {base:Operand} {n:Option Nat} {xa:Operand} (hx:x.op = .ldb base n xa) {y:AOper} {av:List Operand} {m:Nat} {s ya:Operand}
  (hy:y.op = .sta av m s ya) (hav:base ∈ av) {t:T} {h:H} {v:Value} (hv:detV t h x = some v) {K:T -> H -> Prop} (hs:step P y K t h) :
  step P y (fun t' h'=>K t' h' /\ detV t h' x = some v) t h:=by
 rw [step_def] at hs ⊢
 split
 ·rename_i hg
  rw [if_pos hg,hy] at hs
  rw [hy]
  simp only [aop] at hs ⊢
  obtain ⟨hav2,hs⟩:=hs
  refine ⟨hav2,?_⟩
  have hld:∀ h':H,(∀ b,blockOf (ev t s) ≠ some b -> (h b).isSome = true -> h' b = h b) -> detV t h' x = some v:=fun h' hh=>by
   unfold detV at hv ⊢
   split
   ·rename_i hgx
    rw [if_pos hgx,hx] at hv
    rw [hx]
    simp only [adet] at hv ⊢
    obtain ⟨hb,hv⟩:=grd_some hv
    simp only [grd]; rw [if_pos hb]
    unfold ald at hv ⊢
    split at hv
    ·rename_i b off hxa
     unfold ldB at hv ⊢
     split at hv
     ·rename_i hb2
      have hbase:blockOf (ev t base) = some b:=by rw [<-hb,hxa]; rfl
      have hne:blockOf (ev t s) ≠ some b:=fun hsb=>by
       simp only [avoids,List.all_eq_true,List.mem_map,forall_exists_index,and_imp,forall_apply_eq_imp_iff₂] at hav2
       have:=hav2 base hav
       rw [hsb,hbase] at this
       simp at this
      rw [hh b hne (by simp [hb2]),hb2]
      exact hv
     ·cases hv
    ·cases hv
   ·rename_i hgx; rw [if_neg hgx] at hv; exact hv
  unfold astV at hs ⊢
  split at hs
  ·rename_i b0 off0 hsv
   unfold astB at hs ⊢
   split at hs
   ·refine ⟨hs.1,fun hok=>⟨hs.2 hok,hld _ fun b hb hbs=>?_⟩⟩
    have hne0:¬ b = b0:=fun e=>hb (by rw [hsv,e]; rfl)
    simp only [Eff.app,upd]
    rw [if_neg hne0]
   ·exact hs.elim
  ·exact hs.elim
 ·rename_i hg
  rw [if_neg hg] at hs
  exact ⟨hs,hv⟩
theorem calla_keeps {x:AOper} {base:Operand} {n:Option Nat} {xa:Operand} (hx:x.op = .ldb base n xa) {y:AOper} {av as:List Operand} {f:FuncId}
  (hy:y.op = .calla av f as) (hav:base ∈ av) {t:T} {h:H} {v:Value} (hv:detV t h x = some v) {K:T -> H -> Prop} (hs:step P y K t h) :
  step P y (fun t' h'=>K t' h' /\ detV t h' x = some v) t h:=by
 rw [step_def] at hs ⊢
 split
 ·rename_i hg
  rw [if_pos hg,hy] at hs
  rw [hy]
  simp only [aop] at hs ⊢
  have hld:∀ h':H,(∀ b,blockOf (ev t base) = some b -> (h b).isSome = true -> h' b = h b) -> detV t h' x = some v:=fun h' hh=>by
   unfold detV at hv ⊢
   split
   ·rename_i hgx
    rw [if_pos hgx,hx] at hv
    rw [hx]
    simp only [adet] at hv ⊢
    obtain ⟨hb,hv⟩:=grd_some hv
    simp only [grd]; rw [if_pos hb]
    unfold ald at hv ⊢
    split at hv
    ·rename_i b off hxa
     unfold ldB at hv ⊢
     split at hv
     ·rename_i hb2
      have hbase:blockOf (ev t base) = some b:=by rw [<-hb,hxa]; rfl
      rw [hh b hbase (by simp [hb2]),hb2]
      exact hv
     ·cases hv
    ·cases hv
   ·rename_i hgx; rw [if_neg hgx] at hv; exact hv
  rcases hs with ⟨Φ,h1,h2⟩ | ⟨Φ,h1,h2⟩
  ·refine .inl ⟨Φ,h1,fun r d hΦ hok=>⟨h2 r d hΦ hok,hld _ fun b hb hbs=>?_⟩⟩
   have hle:=le_join hok
   obtain ⟨k,hk⟩:=Option.isSome_iff_exists.1 hbs
   simp only [Eff.app]
   rw [hle b k hk,hk]
  ·refine .inr ⟨Φ,h1,fun r h' hΦ=>⟨(h2 r h' hΦ).1,fun hok=>⟨(h2 r h' hΦ).2 hok,hld _ fun b hb hbs=>?_⟩⟩⟩
   simp only [Eff.app]
   exact (h2 r h' hΦ).1 _ (List.mem_map_of_mem hav) b hb hbs
 ·rename_i hg
  rw [if_neg hg] at hs
  exact ⟨hs,hv⟩
theorem apart_of {x y:AOper} (h:mayTurn x y = true):Apart x y:=by
 unfold mayTurn at h
 simp only [Bool.and_eq_true] at h
 obtain ⟨⟨h1,h2⟩,_⟩:=h
 refine ⟨fun k hk=>?_,fun k hk=>?_,fun k hk=>?_⟩
 ·rw [hk] at h1; simp at h1; exact h1.1
 ·rw [hk] at h1; simp at h1; exact h1.2
 ·rw [hk] at h2; simp at h2; exact h2
theorem turn {x y:AOper} (hm:mayTurn x y = true) {K:T -> H -> Prop} {t:T} {h:H}
  (hc:y.op.class = 2 -> goes t y.guard = true -> ∃ p,new2 (ev t) y.op = some p) (hs:step P x (step P y K) t h):step P y (step P x K) t h:=by
 have hap:=apart_of hm
 unfold mayTurn at hm
 simp only [Bool.and_eq_true] at hm
 obtain ⟨_,hm⟩:=hm
 split at hm
 ·rename_i h0
  refine turn_det (by omega) hap (fun v hv K hs=>?_) hs
  refine step_mono (fun t' h' hK=>⟨hK,?_⟩) hs
  unfold detV at hv ⊢
  rw [adet_pure h0 (h':=h)]; exact hv
 ·rename_i h1
  refine turn_det (by omega) hap (fun v hv K hs=>?_) hs
  unfold passes at hm
  split at hm
  ·rename_i e sz by' z av s ya hy
   split at hm
   ·rename_i k hat
    have:∃ n xa,x.op = .ldb (.tmp k) n xa:=by
     unfold AOp.at at hat
     split at hat
     ·rename_i b n xa ho; simp only [Option.some.injEq] at hat; subst hat; exact ⟨n,xa,ho⟩
     ·cases hat
    obtain ⟨n,xa,hx⟩:=this
    have hav:Operand.tmp k ∈ av:=by
     simp only [List.any_eq_true] at hm
     obtain ⟨o,ho,hk⟩:=hm
     cases o <;> simp at hk
     subst hk; exact ho
    exact app_keeps hx hy hav hv hs
   ·cases hm
  ·rename_i av m s ya hy
   split at hm
   ·rename_i k hat
    have:∃ n xa,x.op = .ldb (.tmp k) n xa:=by
     unfold AOp.at at hat
     split at hat
     ·rename_i b n xa ho; simp only [Option.some.injEq] at hat; subst hat; exact ⟨n,xa,ho⟩
     ·cases hat
    obtain ⟨n,xa,hx⟩:=this
    have hav:Operand.tmp k ∈ av:=by
     simp only [List.any_eq_true] at hm
     obtain ⟨o,ho,hk⟩:=hm
     cases o <;> simp at hk
     subst hk; exact ho
    exact sta_keeps hx hy hav hv hs
   ·cases hm
  ·rename_i av f as hy
   split at hm
   ·rename_i k hat
    have:∃ n xa,x.op = .ldb (.tmp k) n xa:=by
     unfold AOp.at at hat
     split at hat
     ·rename_i b n xa ho; simp only [Option.some.injEq] at hat; subst hat; exact ⟨n,xa,ho⟩
     ·cases hat
    obtain ⟨n,xa,hx⟩:=this
    have hav:Operand.tmp k ∈ av:=by
     simp only [List.any_eq_true] at hm
     obtain ⟨o,ho,hk⟩:=hm
     cases o <;> simp at hk
     subst hk; exact ho
    exact calla_keeps hx hy hav hv hs
   ·cases hm
  ·have:=step_grows (by simpa using hm) hs
   exact step_mono (fun t' h' ⟨hK,hle⟩=>⟨hK,detV_mono hle hv⟩) this
 ·rename_i h2; exact turn_new (.inl h2) (by simpa using hm) hap (hc (by simpa using hm)) hs
 ·rename_i h3; exact turn_new (.inr (.inl h3)) (by simpa using hm) hap (hc (by simpa using hm)) hs
 ·simp only [Bool.and_eq_true,beq_iff_eq] at hm
  obtain ⟨hst,hy⟩:=hm
  split at hst
  ·rename_i n a v ho; exact turn_new (.inr (.inr (.inl ⟨n,a,v,ho⟩))) hy hap (hc hy) hs
  ·rename_i av f l ho; exact turn_new (.inr (.inr (.inr (.inl ⟨av,f,l,ho⟩)))) hy hap (hc hy) hs
  ·rename_i av n a v ho; exact turn_new (.inr (.inr (.inr (.inr ⟨av,n,a,v,ho⟩)))) hy hap (hc hy) hs
  ·cases hst
end
end
section
set_option linter.constructorNameAsVariable false
section
variable {P:Program} {B:Bd} {w0:World} {N:Nat}
def St (B:Bd) (w0:World) (N:Nat) (K:T -> H -> Prop) (a:Act) (w:World):Prop:=∃ t h,TR N t a /\ Sat B w0 w h /\ K t h
structure Rel (P:Program) (N:Nat) (ops:Array Oper) (o:Oper) (x:AOper):Prop where
 op:CompAs P o x.op
 dst:x.dst = o.dst
 guard:compGuard ops o = some x.guard
 lt:∀ k,x.dst = some k -> k < N
theorem wanted_goes {ops:Array Oper} {o:Oper} {g:Option (Nat × Bool)} (hg:compGuard ops o = some g) {t:T} {a:Act} (ht:TR N t a) :
  Region.wanted o (yielded ops a.tmps) = goes t g:=by
 unfold compGuard at hg
 unfold Region.wanted goes
 cases ho:o.guard with
 | none=>simp [ho] at hg; subst hg; rfl
 | some p =>
  obtain ⟨j,want⟩:=p
  simp only [ho,Option.map_eq_some_iff] at hg
  obtain ⟨d,hd,rfl⟩:=hg
  simp only [yielded,hd,Option.bind_some]
  have:=ht.get d
  cases hv:a.tmps[d]? with
  | none =>
   have ht':t d = undef:=by rw [<-this]; simp [hv]
   simp [ht',undef]
  | some v =>
   have ht':t d = v:=by rw [<-this]; simp [hv]
   rw [ht']
   cases v <;> simp
theorem wpOp_of_wp {ops:Array Oper} {Q:Exit -> Act -> World -> Prop} {i:Nat} {o:Oper} (hi:ops[i]? = some o) {K:Act -> World -> Prop} {a:Act} {w:World}
  (h1:Region.wanted o (yielded ops a.tmps) = true -> o.wp P a w K Q) (h2:Region.wanted o (yielded ops a.tmps) = false -> K (a.put o.dst undef) w):wpOp P ops Q i K a w:=by
 unfold wpOp
 simp only [hi]
 cases hw:Region.wanted o (yielded ops a.tmps) with
 | true=>simp only [if_true]; exact .inl (h1 hw)
 | false=>simp only [Bool.false_eq_true,if_false]; exact h2 hw
theorem step_sound {ops:Array Oper} {i:Nat} {o:Oper} (hi:ops[i]? = some o) {x:AOper} (hx:Rel P N ops o x) {K:T -> H -> Prop} {t:T} {h:H} (hs:step P x K t h)
  {a:Act} {w:World} (ht:TR N t a) (hw:Sat B w0 w h) {Q:Exit -> Act -> World -> Prop}:wpOp P ops Q i (St B w0 N K) a w:=by
 refine wpOp_of_wp hi (fun hwt=>?_) (fun hwt=>?_)
 ·rw [wanted_goes hx.guard ht] at hwt
  rw [step_def,if_pos hwt] at hs
  refine Oper.wp_mono ?_ (op_sound hw hx.op ht.eval hs)
  rintro a' w' ⟨v,e,hK,rfl,hok,hs'⟩
  refine ⟨puto t x.dst v,e.app h,?_,hs',hK hok⟩
  rw [<-hx.dst]
  exact ht.put hx.lt v
 ·rw [wanted_goes hx.guard ht] at hwt
  rw [step_def,hwt] at hs
  simp only [Bool.false_eq_true,if_false] at hs
  refine ⟨puto t x.dst undef,h,?_,hw,hs⟩
  rw [<-hx.dst]
  exact ht.put hx.lt undef
theorem wpOp_exists {ops:Array Oper} {i:Nat} {K:Act -> World -> Prop} {a:Act} {w:World} (h:wpOp P ops (fun _ _ _=>False) i K a w):∃ a' w',K a' w':=by
 unfold wpOp at h
 split at h
 ·exact ⟨_,_,h⟩
 ·split at h
  ·rcases h with h | ⟨_,_,_,h⟩
   ·unfold Oper.wp at h
    generalize (execOp a.eval _).run P w = r at h
    cases r with
    | ok n w' =>
     cases n <;> simp only [Oper.upon] at h
     all_goals try (exact h.elim)
     ·exact ⟨_,_,h⟩
     ·exact ⟨_,_,h⟩
     ·obtain ⟨e,w'',fr,hR,_⟩:=h []
      cases e with
      | returned v=>exact ⟨_,_,hR⟩
      | panicked c=>exact hR.elim
      | outgrown=>obtain ⟨_,_,hf⟩:=hR; exact hf.elim
     ·exact ⟨_,_,h⟩
     ·obtain ⟨v,w'',hR,_⟩:=h default []
      exact ⟨_,_,hR⟩
    | halt x w' =>
     cases x <;> simp only [Oper.upon] at h
   ·exact h.elim
  ·exact ⟨_,_,h⟩
def Told (P:Program) (N:Nat) (ops:Array Oper) (l:List AOper):Prop:=∀ (i:Nat) (x:AOper),l[i]? = some x -> ∃ o,ops[i]? = some o /\ Rel P N ops o x
def pickAll (l:List AOper):List Nat -> List AOper:=fun c=>c.filterMap (l[·]?)
theorem virt {ops:Array Oper} {l:List AOper} (hl:Told P N ops l):∀ (c:List Nat) {K:T -> H -> Prop} {t:T} {h:H},aops P (pickAll l c) K t h ->
  ∀ {a:Act} {w:World},TR N t a -> Sat B w0 w h -> ∃ t' h',K t' h' /\ ∀ k,(∀ i ∈ c,∀ x,l[i]? = some x -> x.dst ≠ some k) -> t' k = t k
 | [],K,t,h,hK,a,w,ht,hw=>⟨t,h,hK,fun _ _=>rfl⟩
 | i :: c,K,t,h,hK,a,w,ht,hw=>by
  cases hi:l[i]? with
  | none =>
   have:pickAll l (i :: c) = pickAll l c:=by simp [pickAll,hi]
   rw [this] at hK
   obtain ⟨t',h',h1,h2⟩:=virt hl c hK ht hw
   exact ⟨t',h',h1,fun k hk=>h2 k fun j hj=>hk j (List.mem_cons_of_mem _ hj)⟩
  | some x =>
   have:pickAll l (i :: c) = x :: pickAll l c:=by simp [pickAll,hi]
   rw [this] at hK
   obtain ⟨o,ho,hr⟩:=hl i x hi
   have h1:step P x (fun t' h'=>(∃ u,t' = puto t x.dst u) /\ aops P (pickAll l c) K t' h') t h:=by
    have hK':step P x (aops P (pickAll l c) K) t h:=hK
    rw [step_def] at hK' ⊢
    split
    ·rename_i hg; rw [if_pos hg] at hK'; exact aop_mono (fun v e hve hok=>⟨⟨v,rfl⟩,hve hok⟩) hK'
    ·rename_i hg; rw [if_neg hg] at hK'; exact ⟨⟨undef,rfl⟩,hK'⟩
   obtain ⟨a',w',t1,hh1,ht1,hw1,⟨u,rfl⟩,hK1⟩:=wpOp_exists (step_sound ho hr h1 ht hw)
   obtain ⟨t',h',h3,h4⟩:=virt hl c hK1 ht1 hw1
   refine ⟨t',h',h3,fun k hk=>?_⟩
   rw [h4 k fun j hj=>hk j (List.mem_cons_of_mem _ hj)]
   have:=hk i (List.mem_cons_self ..) x hi
   cases hd:x.dst with
   | none=>rfl
   | some d =>
    have hne:k ≠ d:=fun e=>this (by rw [hd,e])
    simp [puto,put,hne]
theorem looks_eq {y:AOper} {t t':T} (h:∀ k ∈ y.looks,t' k = t k):goes t' y.guard = goes t y.guard /\ new2 (ev t') y.op = new2 (ev t) y.op:=by
 constructor
 ·unfold goes
  cases hg:y.guard with
  | none=>rfl
  | some p=>obtain ⟨g,want⟩:=p; simp only [h g (by unfold AOper.looks; rw [hg]; simp)]
 ·refine new2_congr fun x hx=>?_
  cases x with
  | tmp k=>exact h k (by unfold AOper.looks; exact List.mem_append_left _ (mem_opsTmps hx))
  | _=>rfl
theorem front {ops:Array Oper} {l:List AOper} (hl:Told P N ops l) {y:AOper}:∀ (pre:List Nat) {K:T -> H -> Prop} {t:T} {h:H},
  (∀ i ∈ pre,∀ x,l[i]? = some x -> mayTurn x y = true) -> (y.op.class = 2 -> goes t y.guard = true -> ∃ p,new2 (ev t) y.op = some p) ->
  aops P (pickAll l pre) (step P y K) t h -> step P y (aops P (pickAll l pre) K) t h
 | [],K,t,h,_,_,hs=>hs
 | i :: pre,K,t,h,hm,hc,hs=>by
  cases hi:l[i]? with
  | none =>
   have:pickAll l (i :: pre) = pickAll l pre:=by simp [pickAll,hi]
   rw [this] at hs ⊢
   exact front hl pre (fun j hj=>hm j (List.mem_cons_of_mem _ hj)) hc hs
  | some x =>
   have:pickAll l (i :: pre) = x :: pickAll l pre:=by simp [pickAll,hi]
   rw [this] at hs ⊢
   have hmx:=hm i (List.mem_cons_self ..) x hi
   have hap:=apart_of hmx
   refine turn hmx hc ?_
   have hs':step P x (aops P (pickAll l pre) (step P y K)) t h:=hs
   have h1:step P x (fun t' h'=>(∃ u,t' = puto t x.dst u) /\ aops P (pickAll l pre) (step P y K) t' h') t h:=by
    rw [step_def] at hs' ⊢
    split
    ·rename_i hg; rw [if_pos hg] at hs'; exact aop_mono (fun v e hve hok=>⟨⟨v,rfl⟩,hve hok⟩) hs'
    ·rename_i hg; rw [if_neg hg] at hs'; exact ⟨⟨undef,rfl⟩,hs'⟩
   refine step_mono ?_ h1
   rintro t' h' ⟨⟨u,rfl⟩,hs2⟩
   refine front hl pre (fun j hj=>hm j (List.mem_cons_of_mem _ hj)) (fun h2 hg=>?_) hs2
   rw [goes_puto hap.xy] at hg
   rw [new2_puto hap.xy]
   exact hc h2 hg
theorem aops_append {P:Program}:∀ (l m:List AOper) (K:T -> H -> Prop),aops P (l ++ m) K = aops P l (aops P m K)
 | [],m,K=>rfl
 | x :: l,m,K=>by simp only [List.cons_append,aops,aops_append l m K]
theorem pickAll_append (l:List AOper) (a b:List Nat):pickAll l (a ++ b) = pickAll l a ++ pickAll l b:=by simp [pickAll]
theorem turnsOk_mem {l:List AOper} {bef:List Nat}:∀ {c:List Nat},turnsOk l bef c = true -> ∀ {pre post:List Nat} {i:Nat},c = pre ++ i :: post -> ∀ j ∈ pre,
  (bef.getD i 0).testBit j = true ∨ ∃ x y,l[j]? = some x /\ l[i]? = some y /\ mayTurn x y = true
 | [],_,pre,post,i,he,j,hj=>by simp at he
 | k :: c,h,pre,post,i,he,j,hj=>by
  simp only [turnsOk,Bool.and_eq_true,List.all_eq_true,Bool.or_eq_true] at h
  cases pre with
  | nil=>cases hj
  | cons p pre =>
   simp only [List.cons_append,List.cons.injEq] at he
   obtain ⟨rfl,rfl⟩:=he
   rcases List.mem_cons.1 hj with rfl | hj
   ·rcases h.1 i (by simp) with h1 | h1
    ·exact .inl h1
    ·right
     split at h1
     ·rename_i x y hx hy; exact ⟨x,y,hx,hy,h1⟩
     ·cases h1
   ·exact turnsOk_mem h.2 rfl j hj
theorem turnsOk_sub {l:List AOper} {bef:List Nat} {c c':List Nat} (h:turnsOk l bef c = true) (hs:List.Sublist c' c):turnsOk l bef c' = true:=by
 induction hs with
 | slnil=>exact h
 | cons a hs ih =>
  simp only [turnsOk,Bool.and_eq_true] at h
  exact ih h.2
 | cons_cons a hs ih =>
  simp only [turnsOk,Bool.and_eq_true,List.all_eq_true] at h ⊢
  exact ⟨fun x hx=>h.1 x (hs.subset hx),ih h.2⟩
theorem topoOk_sub {ops:Array Oper} {c c':List Nat} (h:topoOk ops c = true) (hs:List.Sublist c' c):topoOk ops c' = true:=by
 induction hs with
 | slnil=>exact h
 | cons a hs ih =>
  simp only [topoOk,Bool.and_eq_true] at h
  exact ih h.2
 | cons_cons a hs ih =>
  simp only [topoOk,Bool.and_eq_true] at h ⊢
  refine ⟨?_,ih h.2⟩
  obtain ⟨h1,_⟩:=h
  cases ho:ops[a]? with
  | none=>simp [ho] at h1
  | some o =>
   simp only [ho,Option.map_some,Option.getD_some,List.all_eq_true,Bool.or_eq_true,Bool.and_eq_true,Bool.not_eq_true',decide_eq_true_eq] at h1 ⊢
   intro e he
   rcases h1 e he with h2 | h2
   ·exact .inl h2
   ·refine .inr ⟨⟨h2.1.1,?_⟩,h2.2⟩
    have:=h2.1.2
    simp only [List.contains_eq_mem,decide_eq_false_iff_not] at this ⊢
    exact fun hm=>this (hs.subset hm)
theorem any_sound {ops:Array Oper} {l:List AOper} (hl:Told P N ops l) (hll:l.length = ops.size) {bef:List Nat} (hbef:befOk ops bef = true) {K:T -> H -> Prop} {Q:Exit -> Act -> World -> Prop}
  (hQ:∀ a w,St B w0 N K a w -> Q .normal a w):∀ (f:Nat) (c:List Nat) (listed:Array Bool) (t:T) (h:H) (a:Act) (w:World),c.length <= f -> c.Nodup -> listed.size = ops.size ->
   (∀ i,i < ops.size -> (i ∈ c ↔ listed.getD i true = false)) -> (∀ i ∈ c,i < ops.size) -> (∀ j i,j < ops.size -> j ∉ c -> i < ops.size -> (bef.getD j 0).testBit i = true -> i ∉ c) ->
   turnsOk l bef c = true -> topoOk ops c = true -> aops P (pickAll l c) K t h -> TR N t a -> Sat B w0 w h -> wpAny P .any ops Q f listed a w:=by
 intro f
 induction f with
 | zero =>
  intro c listed t h a w hf hnd hsz hmem hlt hcl ht1 ht2 hK ht hw
  have:c = []:=List.eq_nil_of_length_eq_zero (by omega)
  subst this
  refine ⟨?_,hQ _ _ ⟨t,h,ht,hw,hK⟩⟩
  apply List.eq_nil_iff_forall_not_mem.2
  intro i hi
  obtain ⟨h0,o,ho,_⟩:=mem_ready.1 hi
  have:=(hmem i (Array.getElem?_eq_some_iff.1 ho).1).2 h0
  cases this
 | succ f ih =>
  intro c listed t h a w hf hnd hsz hmem hlt hcl ht1 ht2 hK ht hw
  refine ⟨fun hr=>?_,fun i hi=>?_⟩
  ·cases c with
   | nil=>exact hQ _ _ ⟨t,h,ht,hw,hK⟩
   | cons k c =>
    exfalso
    have hk:k ∈ Region.ready .any ops listed:=by
     refine mem_ready.2 ⟨(hmem k (hlt k (List.mem_cons_self ..))).1 (List.mem_cons_self ..),?_⟩
     simp only [topoOk,Bool.and_eq_true] at ht2
     obtain ⟨ht2,_⟩:=ht2
     cases ho:ops[k]? with
     | none=>simp [ho] at ht2
     | some o =>
      refine ⟨o,rfl,fun e he hb=>?_⟩
      simp only [ho,Option.map_some,Option.getD_some,List.all_eq_true,Bool.or_eq_true,Bool.and_eq_true,Bool.not_eq_true',decide_eq_true_eq] at ht2
      rcases ht2 e (by simpa using he) with h2 | h2
      ·rw [hb] at h2; cases h2
      ·have hnot:e.on ∉ k :: c:=by
        have h3:=h2.1.2
        simp only [List.contains_eq_mem,decide_eq_false_iff_not] at h3
        have h4:=h2.2
        simp only [bne_iff_ne,ne_eq] at h4
        simp [h3,h4]
       have h5:=mt (hmem e.on h2.1.1).2 hnot
       have h6:e.on < listed.size:=by rw [hsz]; exact h2.1.1
       simp [h6] at h5 ⊢
       exact h5
    rw [hr] at hk
    cases hk
  ·obtain ⟨h0,o,ho,hall⟩:=mem_ready.1 hi
   have hin:i < ops.size:=(Array.getElem?_eq_some_iff.1 ho).1
   have hic:=(hmem i hin).2 h0
   obtain ⟨pre,post,rfl⟩:=List.append_of_mem hic
   obtain ⟨y,hy⟩:∃ y,l[i]? = some y:=⟨l[i],List.getElem?_eq_getElem (by omega)⟩
   obtain ⟨o',ho',hrel⟩:=hl i y hy
   rw [ho] at ho'
   simp only [Option.some.injEq] at ho'
   subst ho'
   -- whatever 'i' waits for has come up
   have hwait:∀ j,j < ops.size -> (bef.getD i 0).testBit j = true -> j ∉ pre ++ i :: post:=fun j hj hb=>by
    unfold befOk at hbef
    simp only [List.all_eq_true,List.mem_range] at hbef
    have h1:=hbef i hin
    simp only [ho,Option.map_some,Option.getD_some,List.all_eq_true,List.mem_range,decide_eq_true_eq] at h1
    have h2:=h1 j hj hb
    simp only [List.any_eq_true,Bool.and_eq_true,Bool.or_eq_true,beq_iff_eq] at h2
    obtain ⟨e,he,hbe,h3⟩:=h2
    have hle:=hall e (by simpa using he) hbe
    have helt:e.on < ops.size:=by
     rcases Nat.lt_or_ge e.on listed.size with h' | h'
     ·rw [<-hsz]; exact h'
     ·simp [Array.getElem?_eq_none h'] at hle
    have hen:e.on ∉ pre ++ i :: post:=fun hm=>by
     have:=(hmem e.on helt).1 hm
     have h6:e.on < listed.size:=by rw [hsz]; exact helt
     simp [h6] at this hle
     rw [hle] at this; cases this
    rcases h3 with h3 | h3
    ·rw [<-h3]; exact hen
    ·exact hcl e.on j helt hen hj h3
   have hturn:∀ j ∈ pre,∀ x,l[j]? = some x -> mayTurn x y = true:=fun j hj x hx=>by
    rcases turnsOk_mem ht1 rfl j hj with h1 | ⟨x',y',hx',hy',hm⟩
    ·exact absurd (List.mem_append_left _ hj) (hwait j (hlt j (List.mem_append_left _ hj)) h1)
    ·rw [hx] at hx'; rw [hy] at hy'
     simp only [Option.some.injEq] at hx' hy'
     subst hx'; subst hy'; exact hm
   have hpk:pickAll l (pre ++ i :: post) = pickAll l pre ++ y :: pickAll l post:=by
    rw [pickAll_append]; simp [pickAll,hy]
   rw [hpk,aops_append] at hK
   have hK':aops P (pickAll l pre) (step P y (aops P (pickAll l post) K)) t h:=hK
   have hcond:y.op.class = 2 -> goes t y.guard = true -> ∃ p,new2 (ev t) y.op = some p:=fun h2 hg=>by
    obtain ⟨t',h',hs,heq⟩:=virt hl pre hK' ht hw
    have hl2:=looks_eq (y:=y) (t:=t) (t':=t') fun k hk=>heq k fun j hj x hx hd=>(apart_of (hturn j hj x hx)).xy k hd hk
    rw [step_def,hl2.1,if_pos hg,aop_new h2,hl2.2] at hs
    exact hs.imp fun p hp=>hp.1
   have hfr:=front hl pre hturn hcond hK'
   refine wpOp_mono ?_ (step_sound ho hrel hfr ht hw)
   rintro a' w' ⟨t',h',ht',hw',hK2⟩
   have hsub:(pre ++ post).Sublist (pre ++ i :: post):=List.Sublist.append (List.Sublist.refl _) (List.sublist_cons_self _ _)
   have hni:i ∉ pre ++ post:=by
    have:=List.nodup_append.1 hnd
    intro hm
    rcases List.mem_append.1 hm with hm | hm
    ·exact this.2.2 i hm i (List.mem_cons_self ..) rfl
    ·exact (List.nodup_cons.1 this.2.1).1 hm
   refine ih (pre ++ post) (listed.setIfInBounds i true) t' h' a' w' ?_ (hnd.sublist hsub) (by simp [hsz]) ?_ (fun j hj=>hlt j (hsub.subset hj)) ?_ (turnsOk_sub ht1 hsub) (topoOk_sub ht2 hsub) ?_ ht' hw'
   ·simp only [List.length_append,List.length_cons] at hf ⊢; omega
   ·intro j hj
    by_cases hji:j = i
    ·subst hji
     have:j < listed.size:=by rw [hsz]; exact hj
     simp [hni,this]
    ·rw [getD_set_ne true (Ne.symm hji),<-hmem j hj]
     simp [hji]
   ·intro j k hj hjn hk hb
    by_cases hji:j = i
    ·subst hji
     exact fun hm=>hwait k hk hb (hsub.subset hm)
    ·have:j ∉ pre ++ i :: post:=by simp [hji] at hjn ⊢; exact hjn
     exact fun hm=>hcl j k hj this hk hb (hsub.subset hm)
   ·rw [pickAll_append,aops_append]; exact hK2
end
end
section
set_option linter.constructorNameAsVariable false
section
variable {P:Program} {B:Bd} {w0:World} {N:Nat}
theorem mapM_get {α β:Type} {f:α -> Option β}:∀ {l:List α} {r:List β},l.mapM f = some r -> r.length = l.length /\ ∀ (i:Nat) (y:β),r[i]? = some y -> ∃ x,l[i]? = some x /\ f x = some y
 | [],r,h=>by simp at h; subst h; simp
 | x :: l,r,h=>by
  rw [List.mapM_cons] at h
  cases hf:f x with
  | none=>simp [hf] at h
  | some y =>
   cases hm:l.mapM f with
   | none=>simp [hf,hm] at h
   | some r' =>
    simp [hf,hm] at h
    subst h
    obtain ⟨h1,h2⟩:=mapM_get hm
    refine ⟨by simp [h1],fun i z hi=>?_⟩
    cases i with
    | zero=>simp at hi; subst hi; exact ⟨x,rfl,hf⟩
    | succ i=>simp at hi ⊢; exact h2 i z hi
structure Rel0 (P:Program) (N:Nat) (ops:Array Oper) (o:Oper) (x:AOper):Prop where
 op:compOp P o = some x.op
 dst:x.dst = o.dst
 guard:compGuard ops o = some x.guard
 lt:∀ k,x.dst = some k -> k < N
theorem compOper_rel {ops:Array Oper} {o:Oper} {x:AOper} (h:compOper P N ops o = some x):Rel0 P N ops o x:=by
 unfold compOper at h
 simp only [Option.bind_eq_some_iff] at h
 obtain ⟨op,hop,g,hg,h⟩:=h
 split at h
 ·rename_i hlt
  simp only [Option.some.injEq] at h
  subst h
  refine ⟨hop,rfl,hg,fun k hk=>?_⟩
  simp only at hk
  rw [hk] at hlt
  simpa using hlt
 ·cases h
theorem retell {ops:Array Oper} {o:Oper} {x:AOper} (h:Rel0 P N ops o x) (l1 l2:List AOper) (bef:List Nat) (i j:Nat) :
  Rel P N ops o (avoiding l2 bef j (based l1 bef i (pureCall x))):=by
 obtain ⟨dst,op,g⟩:=x
 have hop:=h.op
 simp only at hop
 have hd:(avoiding l2 bef j (based l1 bef i (pureCall ⟨dst,op,g⟩))).dst = dst /\ (avoiding l2 bef j (based l1 bef i (pureCall ⟨dst,op,g⟩))).guard = g /\
   CompAs P o (avoiding l2 bef j (based l1 bef i (pureCall ⟨dst,op,g⟩))).op:=by
  cases op <;> try (exact ⟨rfl,rfl,.inl hop⟩)
  case call f l=>exact ⟨rfl,rfl,.inr (.inl ⟨f,l,rfl,hop⟩)⟩
  case calla av f l=>exact ⟨rfl,rfl,.inr (.inr (.inr (.inr (.inr ⟨_,f,l,rfl,.inr ⟨_,hop⟩⟩))))⟩
  case ld n x =>
   have hb:based l1 bef i (pureCall ⟨dst,.ld n x,g⟩) = ⟨dst,.ldb (baseOf l1 20 x) n x,g⟩ ∨ based l1 bef i (pureCall ⟨dst,.ld n x,g⟩) = ⟨dst,.ld n x,g⟩:=by
    simp only [pureCall,based]
    split
    ·exact .inl rfl
    ·exact .inr rfl
   rcases hb with hb | hb <;> rw [hb]
   ·exact ⟨rfl,rfl,.inr (.inr (.inr (.inl ⟨_,n,x,rfl,hop⟩)))⟩
   ·exact ⟨rfl,rfl,.inl hop⟩
  case app e sz by' z av s x=>exact ⟨rfl,rfl,.inr (.inr (.inl ⟨e,sz,by',z,_,av,s,x,rfl,hop⟩))⟩
  case st n a x =>
   simp only [pureCall,based,avoiding]
   split
   ·exact ⟨rfl,rfl,.inl hop⟩
   ·exact ⟨rfl,rfl,.inr (.inr (.inr (.inr (.inl ⟨_,n,a,x,rfl,hop⟩))))⟩
 exact ⟨hd.2.2,hd.1.trans h.dst,by rw [hd.2.1]; exact h.guard,fun k hk=>h.lt k (by rw [hd.1] at hk; exact hk)⟩
theorem retellM {ops:Array Oper} {o:Oper} {x:AOper} (h:Rel0 P N ops o x) (m:Bool) (l0 l1 l2:List AOper) (bef:List Nat) (k i j:Nat) :
  Rel P N ops o (avoiding l2 bef j (based l1 bef i (callAs P m l0 bef k x))):=by
 have hp:=retell h l1 l2 bef i j
 unfold callAs
 split
 ·obtain ⟨dst,op,g⟩:=x
  cases op <;> try exact hp
  case call f l=>exact ⟨.inl h.op,h.dst,h.guard,h.lt⟩
 ·obtain ⟨dst,op,g⟩:=x
  cases op <;> try exact hp
  case call f l =>
   simp only [apartCall]
   split
   ·exact ⟨.inr (.inr (.inr (.inr (.inr ⟨_,f,l,rfl,.inl h.op⟩)))),h.dst,h.guard,h.lt⟩
   ·exact ⟨.inr (.inl ⟨f,l,rfl,h.op⟩),h.dst,h.guard,h.lt⟩
theorem seq_sound {ops:Array Oper} {l:List AOper} (hl:Told P N ops l) (hll:l.length = ops.size) {K:T -> H -> Prop} {Q:Exit -> Act -> World -> Prop} (hQ:∀ a w,St B w0 N K a w -> Q .normal a w) :
  ∀ (n k:Nat),k + n = ops.size -> ∀ {t:T} {h:H} {a:Act} {w:World},aops P (l.drop k) K t h -> TR N t a -> Sat B w0 w h -> wpOps P ops Q (List.range' k n) a w
 | 0,k,hk,t,h,a,w,hK,ht,hw=>by
  have:l.drop k = []:=List.drop_eq_nil_of_le (by omega)
  rw [this] at hK
  exact hQ _ _ ⟨t,h,ht,hw,hK⟩
 | n + 1,k,hk,t,h,a,w,hK,ht,hw=>by
  have hlt:k < l.length:=by omega
  rw [List.drop_eq_getElem_cons hlt] at hK
  obtain ⟨o,ho,hr⟩:=hl k l[k] (List.getElem?_eq_getElem hlt)
  rw [List.range'_succ,wpOps_cons]
  refine wpOp_mono ?_ (step_sound ho hr hK ht hw)
  rintro a' w' ⟨t',h',ht',hw',hK'⟩
  exact seq_sound hl hll hQ n (k + 1) (by omega) hK' ht' hw'
theorem nodup_len:∀ (n:Nat) (c:List Nat),c.Nodup -> (∀ x ∈ c,x < n) -> c.length <= n
 | 0,c,_,h=>by
  cases c with
  | nil=>simp
  | cons x c=>have:=h x (List.mem_cons_self ..); omega
 | n + 1,c,hn,h=>by
  have h1:=nodup_len n (c.erase n) (hn.erase n) (fun x hx=>by
   have hx1:=h x (List.mem_of_mem_erase hx)
   have hx2:x ≠ n:=by
    rintro rfl
    exact (List.Nodup.mem_erase_iff hn).1 hx |>.1 rfl
   omega)
  have h2:c.length <= (c.erase n).length + 1:=by
   rw [List.length_erase]; split <;> omega
  omega
theorem reg_sound {id:Nat} {ops:Array Oper} {draw:Bool} {l:List AOper} (hc:compReg P N ops draw = some l) {K:T -> H -> Prop} {Q:Exit -> Act -> World -> Prop} (hQ:∀ a w,St B w0 N K a w -> Q .normal a w)
  {t:T} {h:H} (hK:aops P l K t h) {a:Act} {w:World} (ht:TR N t a) (hw:Sat B w0 w h):(Code.region id ops draw).wp P Q a w:=by
 unfold compReg at hc
 cases hm:ops.toList.mapM (compOper P N ops) with
 | none=>simp [hm] at hc
 | some l0 =>
  simp only [hm,Option.bind_some] at hc
  obtain ⟨hlen,hget⟩:=mapM_get hm
  have hl0:∀ (i:Nat) (x:AOper),l0[i]? = some x -> ∃ o,ops[i]? = some o /\ Rel0 P N ops o x:=fun i x hx=>by
   obtain ⟨o,ho,hc⟩:=hget i x hx
   exact ⟨o,by simpa using ho,compOper_rel hc⟩
  cases draw with
  | false =>
   simp only [Bool.false_eq_true,if_false,Option.some.injEq] at hc
   subst hc
   refine wp_region ?_
   rw [List.range_eq_range']
   refine seq_sound (B:=B) (w0:=w0) (N:=N) (l:=l0) (fun i x hx=>?_) (by simpa using hlen) hQ ops.size 0 (by omega) (by simpa using hK) ht hw
   obtain ⟨o,ho,hr⟩:=hl0 i x hx
   exact ⟨o,ho,.inl hr.op,hr.dst,hr.guard,hr.lt⟩
  | true =>
   simp only [if_true] at hc
   obtain ⟨m,hc⟩:∃ m,compRegD P ops l0 m = some l:=by
    cases hd:compRegD P ops l0 true with
    | some r=>rw [hd] at hc; exact ⟨true,by rw [hd]; exact hc⟩
    | none=>rw [hd] at hc; exact ⟨false,hc⟩
   unfold compRegD at hc
   simp only at hc
   split at hc
   ·rename_i hcond
    obtain ⟨hfol,hclen,hclt,hnd,htu,hbe,hto⟩:=hcond
    have hl:Told P N ops (retold P m l0 (Region.before ops).toList):=fun i y hy=>by
     unfold retold at hy
     simp only [List.getElem?_map,List.getElem?_zipIdx,Option.map_map,Option.map_eq_some_iff] at hy
     obtain ⟨x,hx,rfl⟩:=hy
     obtain ⟨o,ho,hr⟩:=hl0 i x hx
     exact ⟨o,ho,retellM hr _ _ _ _ _ _ _ _⟩
    have hll:(retold P m l0 (Region.before ops).toList).length = ops.size:=by simp [retold,hlen]
    generalize retold P m l0 (Region.before ops).toList = lr at *
    generalize hcdef:canon lr (Region.before ops).toList ops.size (List.range ops.size) [] = c at *
    obtain ⟨_,hcget⟩:=mapM_get hc
    have hpick:pickAll lr c = l:=by
     have:∀ (c:List Nat) (l:List AOper),c.mapM (lr[·]?) = some l -> pickAll lr c = l:=by
      intro c
      induction c with
      | nil=>intro l h; simp at h; simp [pickAll,h]
      | cons i c ih =>
       intro l h
       rw [List.mapM_cons] at h
       cases hi:lr[i]? with
       | none=>simp [hi] at h
       | some x =>
        cases hr:c.mapM (lr[·]?) with
        | none=>simp [hi,hr] at h
        | some r =>
         simp [hi,hr] at h
         subst h
         have:=ih r hr
         simp only [pickAll] at this ⊢
         simp [hi,this]
     exact this c l hc
    rw [<-hpick] at hK
    refine wp_region_any hfol ?_
    have hclt':∀ i ∈ c,i < ops.size:=fun i hi=>by simpa using List.all_eq_true.1 hclt i hi
    have hall:∀ i,i < ops.size -> i ∈ c:=fun i hi=>by
     -- as many different numbers below the size as the size
     refine Classical.byContradiction fun hni=>?_
     have:=nodup_len ops.size (i :: c) (List.nodup_cons.2 ⟨hni,hnd⟩) (fun x hx=>by
      rcases List.mem_cons.1 hx with rfl | hx
      ·exact hi
      ·exact hclt' x hx)
     simp only [List.length_cons] at this
     omega
    refine any_sound hl hll hbe hQ ops.size c (Array.replicate ops.size false) t h a _ (by omega) hnd (by simp) (fun i hi=>?_) hclt' (fun j i hj hjn _ _=>absurd (hall j hj) hjn) htu hto hK ht hw.drew
    simp [hall i hi,hi]
   ·cases hc
def Post (B:Bd) (w0:World) (N:Nat) (n:T -> H -> Prop) (e:Nat -> T -> H -> Prop) (r:T -> H -> Prop):Exit -> Act -> World -> Prop
 | .normal,a,w=>St B w0 N n a w
 | .exit i,a,w=>St B w0 N (e i) a w
 | .ret,a,w=>St B w0 N r a w
 | _,_,_=>False
theorem code_sound:∀ (c:Code) {ac:ACode},compC P N c = some ac -> ∀ {n:T -> H -> Prop} {e:Nat -> T -> H -> Prop} {r:T -> H -> Prop} {t:T} {h:H},awp P ac n e r t h ->
  ∀ {a:Act} {w:World},TR N t a -> Sat B w0 w h -> c.wp P (Post B w0 N n e r) a w
 | .skip,ac,hc,n,e,r,t,h,hK,a,w,ht,hw=>by
  simp only [compC,Option.some.injEq] at hc; subst hc
  exact wp_skip ⟨t,h,ht,hw,hK⟩
 | .label l,ac,hc,n,e,r,t,h,hK,a,w,ht,hw=>by
  simp only [compC,Option.some.injEq] at hc; subst hc
  exact wp_label ⟨t,h,ht,hw,hK⟩
 | .region id ops draw,ac,hc,n,e,r,t,h,hK,a,w,ht,hw=>by
  simp only [compC,Option.map_eq_some_iff] at hc
  obtain ⟨l,hl,rfl⟩:=hc
  exact reg_sound hl (fun a w hs=>hs) hK ht hw
 | .seq x y,ac,hc,n,e,r,t,h,hK,a,w,ht,hw=>by
  simp only [compC,Option.bind_eq_some_iff,Option.map_eq_some_iff] at hc
  obtain ⟨x',hx,y',hy,rfl⟩:=hc
  refine wp_seq (wp_mono (code_sound x hx hK ht hw) ?_)
  intro ex a' w' hp
  cases ex with
  | normal=>obtain ⟨t',h',ht',hw',hK'⟩:=hp; exact code_sound y hy hK' ht' hw'
  | exit i=>exact hp
  | ret=>exact hp
  | goto l=>exact hp
  | panic c=>exact hp
  | outgrown=>exact hp
 | .cond c x y,ac,hc,n,e,r,t,h,hK,a,w,ht,hw=>by
  simp only [compC,Option.bind_eq_some_iff,Option.map_eq_some_iff] at hc
  obtain ⟨x',hx,y',hy,rfl⟩:=hc
  simp only [awp] at hK
  split at hK
  ·rename_i v hv
   refine wp_cond_split (t:=v) (by rw [ht.eval]; exact hv) (fun hv=>?_) (fun hv=>?_)
   ·exact code_sound x hx (hK.1 hv) ht hw
   ·exact code_sound y hy (hK.2 hv) ht hw
  ·exact hK.elim
 | .block id b,ac,hc,n,e,r,t,h,hK,a,w,ht,hw=>by
  simp only [compC,Option.map_eq_some_iff] at hc
  obtain ⟨b',hb,rfl⟩:=hc
  refine wp_block (wp_mono (code_sound b hb hK ht hw) ?_)
  intro ex a' w' hp
  cases ex with
  | exit i =>
   obtain ⟨t',h',ht',hw',hK'⟩:=hp
   simp only [Exit.inBlock]
   by_cases hi:i = id
   ·rw [if_pos hi] at hK' ⊢; exact ⟨t',h',ht',hw',hK'⟩
   ·rw [if_neg hi] at hK' ⊢; exact ⟨t',h',ht',hw',hK'⟩
  | _=>exact hp
 | .loop b,ac,hc,n,e,r,t,h,hK,a,w,ht,hw=>by
  simp only [compC,Option.map_eq_some_iff] at hc
  obtain ⟨b',hb,rfl⟩:=hc
  obtain ⟨I,k,hI,hround⟩:=hK
  refine wp_loop_ghost (fun k a w=>St B w0 N (I k) a w) k ⟨t,h,ht,hw,hI⟩ ?_
  rintro k a w ⟨t,h,ht,hw,hI⟩
  refine wp_mono (code_sound b hb (hround k t h hI) ht hw) ?_
  intro ex a' w' hp
  cases ex with
  | normal=>obtain ⟨t',h',ht',hw',k',hk',hI'⟩:=hp; exact ⟨k',hk',t',h',ht',hw',hI'⟩
  | _=>exact hp
 | .exit id,ac,hc,n,e,r,t,h,hK,a,w,ht,hw=>by
  simp only [compC,Option.some.injEq] at hc; subst hc
  exact wp_exit ⟨t,h,ht,hw,hK⟩
 | .ret,ac,hc,n,e,r,t,h,hK,a,w,ht,hw=>by
  simp only [compC,Option.some.injEq] at hc; subst hc
  exact wp_ret ⟨t,h,ht,hw,hK⟩
 | .rangeFunc ..,ac,hc,_,_,_,_,_,_,_,_,_,_ | .scope ..,ac,hc,_,_,_,_,_,_,_,_,_,_ | .goto ..,ac,hc,_,_,_,_,_,_,_,_,_,_ | .refuse ..,ac,hc,_,_,_,_,_,_,_,_,_,_=>by cases hc
end
end
section
set_option linter.constructorNameAsVariable false
inductive ARes where
 | tmp (k:Nat)
 | cell (n:Option Nat) (k:Nat)
def compRes (P:Program):ResultVar -> Option ARes
 | .tmp t=>some (.tmp t)
 | .cell a ty=>(nOf P ty).map fun n=>.cell n a
def resV (t:T) (h:H):ARes -> Option Value
 | .tmp k=>some (t k)
 | .cell n k=>ald h n (t k)
def resAll (t:T) (h:H):List ARes -> Option (List Value)
 | []=>some []
 | r :: rs=>(resV t h r).bind fun v=>(resAll t h rs).bind fun vs=>some (v :: vs)
def resJoin:List Value -> Value
 | [v]=>v
 | vs=>.tuple vs.toArray
structure AFun where
 code:ACode
 res:List ARes
 n:Nat
def compF (P:Program) (fn:Func):Option AFun :=
 fn.body.bind fun c=>(compC P fn.ntmps c).bind fun ac=>(fn.results.toList.mapM (compRes P)).map fun rs=>⟨ac,rs,fn.ntmps⟩
def argT (args:List Value):T:=fun k=>args.getD k undef
def Ret (rs:List ARes) (R:Value -> H -> Prop) (t:T) (h:H):Prop:=OK (resAll t h rs) fun vs=>R (resJoin vs) h
section
variable {P:Program}
def resRun (tmps:Array Value):ResultVar -> Sem Value
 | .tmp k=>pure (tmps.getD k undef)
 | .cell k ty=>do loadVar ty (<-asAddr (tmps.getD k undef))
theorem resV_run {B:Bd} {w0 w:World} {N:Nat} {t:T} {h:H} {a:Act} (ht:TR N t a) (hw:Sat B w0 w h) {r:ResultVar} {r':ARes} (hr:compRes P r = some r') {v:Value} (hv:resV t h r' = some v) :
  (resRun a.tmps r).run P w = .ok v w:=by
 cases r with
 | tmp k =>
  simp only [compRes,Option.some.injEq] at hr
  subst hr
  simp only [resV,Option.some.injEq] at hv
  have:=ht.get k
  simp only [resRun,Sem.run_pure,this,hv]
 | cell k ty =>
  simp only [compRes,Option.map_eq_some_iff] at hr
  obtain ⟨n,hn,rfl⟩:=hr
  simp only [resV] at hv
  have hg:=ht.get k
  have hl:=ald_run (P:=P) hw (fun _ _ h=>h) hn hv
  unfold ald at hv
  split at hv
  ·rename_i b off hx
   rw [hx] at hl hg
   simp only [Instr.loadAt,Instr.sureAddr,Sem.run_bind,Sem.run_pure,Result.andThen_ok] at hl
   simp only [resRun,Sem.run_bind,hg,asAddr,Sem.run_pure,Result.andThen_ok,hl]
  ·cases hv
theorem resAll_run {B:Bd} {w0 w:World} {N:Nat} {t:T} {h:H} {a:Act} (ht:TR N t a) (hw:Sat B w0 w h):∀ (rv:List ResultVar) (rs:List ARes) (vs:List Value),
  rv.mapM (compRes P) = some rs -> resAll t h rs = some vs -> (rv.mapM (resRun a.tmps)).run P w = .ok vs w
 | [],rs,vs,h1,h2=>by
  simp at h1; subst h1
  simp [resAll] at h2; subst h2
  simp
 | r :: rv,rs,vs,h1,h2=>by
  rw [List.mapM_cons] at h1
  cases hr:compRes P r with
  | none=>simp [hr] at h1
  | some r' =>
   cases hm:rv.mapM (compRes P) with
   | none=>simp [hr,hm] at h1
   | some rs' =>
    simp [hr,hm] at h1
    subst h1
    simp only [resAll] at h2
    cases hv:resV t h r' with
    | none=>simp [hv] at h2
    | some v =>
     cases hvs:resAll t h rs' with
     | none=>simp [hv,hvs] at h2
     | some vs' =>
      simp [hv,hvs] at h2
      subst h2
      have ih:=resAll_run ht hw rv rs' vs' hm hvs
      rw [List.mapM_cons]
      simp only [Sem.run_bind,resV_run ht hw hr hv,Result.andThen_ok,ih,Sem.run_pure]
theorem results_run {B:Bd} {w0 w:World} {N:Nat} {t:T} {h:H} {a:Act} (ht:TR N t a) (hw:Sat B w0 w h) {fn:Func} {rs:List ARes} (hrs:fn.results.toList.mapM (compRes P) = some rs)
  {vs:List Value} (hvs:resAll t h rs = some vs):(results fn a.tmps).run P w = .ok (resJoin vs) w:=by
 have h1:=resAll_run (P:=P) ht hw _ _ _ hrs hvs
 have he:results fn a.tmps = (do let vs <-fn.results.mapM (resRun a.tmps); pure (if h:vs.size = 1 then vs[0] else .tuple vs)):=by
  unfold results
  congr 1
  first
  | done
  | (congr 1; funext x; cases x <;> rfl)
 rw [he]
 simp only [Array.mapM_eq_mapM_toList,Sem.run_bind,Sem.run_map,h1,Result.andThen_ok,Sem.run_pure]
 congr 1
 match vs with
 | []=>rfl
 | [v]=>rfl
 | _ :: _ :: _=>rfl
theorem TR.start {fn:Func} {args:List Value} (hn:args.length <= fn.ntmps) :
  TR fn.ntmps (argT args) { tmps:=args.toArray ++ Array.replicate (fn.ntmps - args.toArray.size) undef,defers:=[] }:=by
 refine ⟨by simp; omega,fun k=>?_,rfl⟩
 simp only [argT,Array.getD_eq_getD_getElem?,List.getD,Array.getElem?_append,List.size_toArray,List.getElem?_toArray]
 split
 ·rfl
 ·rename_i hk
  rw [List.getElem?_eq_none (by omega)]
  by_cases h2:k - args.length < fn.ntmps - args.length
  ·rw [Array.getElem?_replicate,if_pos h2]; rfl
  ·rw [Array.getElem?_replicate,if_neg h2]
theorem body_calls {f:FuncId} {fn:Func} (hf:P.funcs[f]? = some fn) {af:AFun} (hc:compF P fn = some af) {args:List Value} (hn:args.length <= af.n)
  {R:Value -> H -> Prop} {h:H} (hbody:awp P af.code (Ret af.res R) (fun _ _ _=>False) (Ret af.res R) (argT args) h) {B:Bd} {w0 w:World} (hw:Sat B w0 w h) :
  Calls P f args.toArray w fun e w'=>∃ r h',e = .returned r /\ R r h' /\ Sat B w0 w' h':=by
 unfold compF at hc
 simp only [Option.bind_eq_some_iff,Option.map_eq_some_iff] at hc
 obtain ⟨c,hb,ac,hac,rs,hrs,rfl⟩:=hc
 refine calls_of_wp hf hb ?_
 refine wp_mono (code_sound c hac hbody (TR.start hn) hw) ?_
 have hret:∀ a' w',St B w0 fn.ntmps (Ret rs R) a' w' -> a'.defers = [] /\ ∃ v,(results fn a'.tmps).run P w' = .ok v w' /\ ∃ r h',Ending.returned v = .returned r /\ R r h' /\ Sat B w0 w' h':=by
  rintro a' w' ⟨t,h',ht,hw',vs,hvs,hR⟩
  exact ⟨ht.defers,_,results_run ht hw' hrs hvs,_,h',rfl,hR,hw'⟩
 intro ex a' w' hp
 cases ex with
 | normal=>exact hret a' w' hp
 | ret=>exact hret a' w' hp
 | exit i=>obtain ⟨_,_,_,_,hf⟩:=hp; exact hf.elim
 | goto l=>exact hp.elim
 | panic c=>exact hp.elim
 | outgrown=>exact hp.elim
def Grew (h:H) (d h':H):Prop:=Dis h d /\ Le (join h d) h'
theorem Sat.mono {B:Bd} {w0 w:World} {h h':H} (hs:Sat B w0 w h') (hle:Le h h'):Sat B w0 w h:=⟨hs.below,hs.base,fun b k hb=>hs.blk b k (hle b k hb),hs.grow,fun b hb=>hs.old b (by
 obtain ⟨k,hk⟩:=Option.isSome_iff_exists.1 hb
 rw [hle b k hk]; rfl)⟩
theorem spec_of {f:FuncId} {fn:Func} (hf:P.funcs[f]? = some fn) {af:AFun} (hc:compF P fn = some af) {args:List Value} (hn:args.length <= af.n) {h:H} {Φ:Value -> H -> Prop}
  (hbody:∀ hr,Le h hr -> awp P af.code (Ret af.res fun r h'=>∃ d,Φ r d /\ Grew hr d h') (fun _ _ _=>False) (Ret af.res fun r h'=>∃ d,Φ r d /\ Grew hr d h') (argT args) hr):Spec P f args h Φ :=
 fun hr hle B w0 w hw=>(body_calls hf hc hn (hbody hr hle) hw).mono fun e w'=>by
  rintro ⟨r,h',rfl,⟨d,hΦ,hd,hl⟩,hw'⟩
  exact ⟨r,d,rfl,hΦ,hd,hw'.mono hl⟩
theorem specW_of {f:FuncId} {fn:Func} (hf:P.funcs[f]? = some fn) {af:AFun} (hc:compF P fn = some af) {args:List Value} (hn:args.length <= af.n) {h:H} {Φ:Value -> H -> Prop}
  (hbody:awp P af.code (Ret af.res Φ) (fun _ _ _=>False) (Ret af.res Φ) (argT args) h):SpecW P f args h Φ :=
 fun B w0 w hw=>body_calls hf hc hn hbody hw
def dstsOk (m:Nat -> Bool):ACode -> Bool
 | .reg ops=>ops.all fun o=>o.dst.all m
 | .seq a b | .cond _ a b=>dstsOk m a && dstsOk m b
 | .block _ b | .loop b=>dstsOk m b
 | _=>true
theorem aops_agree {m:Nat -> Bool} {t0:T}:∀ {ops:List AOper},(ops.all fun o=>o.dst.all m) = true -> ∀ {n:T -> H -> Prop} {t:T} {h:H},(∀ j,m j = false -> t j = t0 j) ->
  aops P ops (fun t h=>(∀ j,m j = false -> t j = t0 j) -> n t h) t h -> aops P ops n t h
 | [],_,n,t,h,hag,hs=>hs hag
 | o :: r,hm,n,t,h,hag,hs=>by
  simp only [List.all_cons,Bool.and_eq_true] at hm
  have hput:∀ v j,m j = false -> puto t o.dst v j = t0 j:=fun v j hj=>by
   cases hd:o.dst with
   | none=>exact hag j hj
   | some d =>
    have hmd:m d = true:=by have:=hm.1; rw [hd] at this; simpa using this
    have:j ≠ d:=fun e=>by rw [e,hmd] at hj; cases hj
    simp [puto,put,this,hag j hj]
  have hs':step P o (aops P r fun t h=>(∀ j,m j = false -> t j = t0 j) -> n t h) t h:=hs
  show step P o (aops P r n) t h
  rw [step_def] at hs' ⊢
  split
  ·rename_i hg; rw [if_pos hg] at hs'
   exact aop_mono (fun v e hve hok=>aops_agree hm.2 (hput v) (hve hok)) hs'
  ·rename_i hg; rw [if_neg hg] at hs'
   exact aops_agree hm.2 (hput undef) hs'
theorem awp_agree {m:Nat -> Bool} {t0:T}:∀ {b:ACode},dstsOk m b = true -> ∀ {n:T -> H -> Prop} {e:Nat -> T -> H -> Prop} {r:T -> H -> Prop} {t:T} {h:H},(∀ j,m j = false -> t j = t0 j) ->
  awp P b (fun t h=>(∀ j,m j = false -> t j = t0 j) -> n t h) (fun i t h=>(∀ j,m j = false -> t j = t0 j) -> e i t h) (fun t h=>(∀ j,m j = false -> t j = t0 j) -> r t h) t h -> awp P b n e r t h
 | .skip,_,n,e,r,t,h,hag,hs=>hs hag
 | .reg ops,hm,n,e,r,t,h,hag,hs=>aops_agree hm hag hs
 | .seq a b,hm,n,e,r,t,h,hag,hs=>by
  simp only [dstsOk,Bool.and_eq_true] at hm
  refine awp_agree hm.1 hag ?_
  exact awp_mono (fun t h hb hag'=>awp_agree hm.2 hag' hb) (fun _ _ _ h=>h) (fun _ _ h=>h) hs
 | .cond c a b,hm,n,e,r,t,h,hag,hs=>by
  simp only [dstsOk,Bool.and_eq_true] at hm
  simp only [awp] at hs ⊢
  split at hs
  ·exact ⟨fun hv=>awp_agree hm.1 hag (hs.1 hv),fun hv=>awp_agree hm.2 hag (hs.2 hv)⟩
  ·exact hs
 | .block id b,hm,n,e,r,t,h,hag,hs=>by
  refine awp_agree (b:=b) hm hag ?_
  refine awp_mono (fun _ _ h=>h) (fun i t h hi hag'=>?_) (fun _ _ h=>h) hs
  split
  ·rename_i hid; rw [if_pos hid] at hi; exact hi hag'
  ·rename_i hid; rw [if_neg hid] at hi; exact hi hag'
 | .loop b,hm,n,e,r,t,h,hag,hs=>by
  obtain ⟨I,k,hI,hround⟩:=hs
  refine ⟨fun k t h=>(∀ j,m j = false -> t j = t0 j) /\ I k t h,k,⟨hag,hI⟩,fun k t h ⟨hag',hI'⟩=>?_⟩
  refine awp_agree (b:=b) hm hag' ?_
  exact awp_mono (fun t h ⟨k',hk',hI''⟩ hag''=>⟨k',hk',hag'',hI''⟩) (fun _ _ _ h=>h) (fun _ _ h=>h) (hround k t h hI')
 | .exit id,_,n,e,r,t,h,hag,hs=>hs hag
 | .ret,_,n,e,r,t,h,hag,hs=>hs hag
where
 aops_mono {P:Program}:∀ {ops:List AOper} {n n':T -> H -> Prop},(∀ t h,n t h -> n' t h) -> ∀ {t:T} {h:H},aops P ops n t h -> aops P ops n' t h
  | [],_,_,hn,_,_,hs=>hn _ _ hs
  | o :: r,n,n',hn,t,h,hs=>step_mono (fun t h hs=>aops_mono hn hs) (show step P o (aops P r n) t h from hs)
 awp_mono {P:Program}:∀ {b:ACode} {n n':T -> H -> Prop} {e e':Nat -> T -> H -> Prop} {r r':T -> H -> Prop},(∀ t h,n t h -> n' t h) -> (∀ i t h,e i t h -> e' i t h) -> (∀ t h,r t h -> r' t h) ->
   ∀ {t:T} {h:H},awp P b n e r t h -> awp P b n' e' r' t h
  | .skip,_,_,_,_,_,_,hn,he,hr,_,_,hs=>hn _ _ hs
  | .reg ops,_,_,_,_,_,_,hn,he,hr,_,_,hs=>aops_mono hn hs
  | .seq a b,_,_,_,_,_,_,hn,he,hr,_,_,hs=>awp_mono (b:=a) (fun t h hb=>awp_mono (b:=b) hn he hr hb) he hr hs
  | .cond c a b,_,_,_,_,_,_,hn,he,hr,_,_,hs=>by
   simp only [awp] at hs ⊢
   split at hs
   ·exact ⟨fun hv=>awp_mono hn he hr (hs.1 hv),fun hv=>awp_mono hn he hr (hs.2 hv)⟩
   ·exact hs
  | .block id b,_,_,_,_,_,_,hn,he,hr,_,_,hs=>by
   refine awp_mono (b:=b) hn (fun i t h hi=>?_) hr hs
   split
   ·rename_i hid; rw [if_pos hid] at hi; exact hn _ _ hi
   ·rename_i hid; rw [if_neg hid] at hi; exact he _ _ _ hi
  | .loop b,_,_,_,_,_,_,hn,he,hr,_,_,hs=>by
   obtain ⟨I,k,hI,hround⟩:=hs
   exact ⟨I,k,hI,fun k t h hI'=>awp_mono (b:=b) (fun t h h=>h) he hr (hround k t h hI')⟩
  | .exit id,_,_,_,_,_,_,hn,he,hr,_,_,hs=>he _ _ _ hs
  | .ret,_,_,_,_,_,_,hn,he,hr,_,_,hs=>hr _ _ hs
end
end
section
set_option linter.constructorNameAsVariable false
inductive V where
 | und
 | int (k:IntKind) (n:Int)
 | bool (b:Bool)
 | str (s:List UInt8)
 | agg (l:List V)
 | tup (l:List V)
 | ptr (b off:Nat)
 | nilp
 | pf (l:List V) (off:Nat)
 | sl (n:Nat) (l:List V)
 | rf (b off n:Nat)
 | nils
 | own (e:TypeId) (sz n:Nat) (l:List V)
 | fn (f:FuncId) (l:List V)
 | fz (x:Value) (l:List Int)
 deriving Inhabited
inductive Slot where
 | free
 | dead
 | row (e:TypeId) (sz:Nat) (cs:List V)
abbrev Hp:=Nat -> Slot
abbrev Tp:=Nat -> V
def hput (h:Hp) (b:Nat) (s:Slot):Hp:=fun x=>if x = b then s else h x
def hnil:Hp:=fun _=>.free
def tput (t:Tp) (d:Nat) (v:V):Tp:=fun x=>if x = d then v else t x
def tputo (t:Tp):Option Nat -> V -> Tp
 | some d,v=>tput t d v
 | none,_=>t
def tund:Tp:=fun _=>.und
abbrev Iota:=Nat -> Option (Nat × Nat × Nat)
def Dj (d e:H):Prop:=∀ x,d x = none ∨ e x = none
def FZ (F:H) (l:List Int) (v:Value):Prop:=(l = [] /\ (v = .slice none 0 0 ∨ ∃ a c,v = .slice (some a) 0 c)) ∨
 ∃ b o c,v = .slice (some ⟨b,o,none⟩) l.length c /\ l.length <= c /\ (l = [] ∨ ∃ own e cs ex,F b = some (.row own e cs ex) /\ o + l.length <= cs.length /\ (cs.drop o).take l.length = l.map (Value.int .u8))
mutual
def R (ι:Iota) (F:H):V -> Value -> Prop
 | .und,_=>True
 | .int k n,v=>v = .int k n
 | .bool b,v=>v = .bool b
 | .str s,v=>v = .string ⟨s.toArray⟩
 | .agg l,v=>∃ cs:List Value,v = .agg cs.toArray /\ RL ι F l cs
 | .tup l,v=>∃ cs:List Value,v = .tuple cs.toArray /\ RL ι F l cs
 | .ptr b off,v=>∃ b' tot sz,ι b = some (b',tot,sz) /\ v = .pointer (some ⟨b',off,none⟩)
 | .nilp,v=>v = .pointer none
 | .pf l off,v=>∃ b o own e cs ex,v = .pointer (some ⟨b,o + off,none⟩) /\ F b = some (.row own e cs ex) /\ o + l.length <= cs.length /\ RL ι F l ((cs.drop o).take l.length)
 | .sl n l,v=>(n = 0 /\ l = [] /\ (v = .slice none 0 0 ∨ ∃ a c,v = .slice (some a) 0 c)) ∨
   ∃ b o c,v = .slice (some ⟨b,o,none⟩) n c /\ n <= c /\ (l = [] ∨ ∃ own e cs ex,F b = some (.row own e cs ex) /\ o + l.length <= cs.length /\ RL ι F l ((cs.drop o).take l.length))
 | .rf b off n,v=>∃ b' tot sz off' c,ι b = some (b',tot,sz) /\ v = .slice (some ⟨b',off',none⟩) n c /\ (n ≠ 0 ∨ off = 0 -> off' = off) /\ n <= c /\ c <= maxLen /\ (off = 0 -> c * sz = tot /\ (sz = 0 -> c = 0))
 | .nils,v=>v = .slice none 0 0
 | .own ..,_=>False
 | .fn f l,v=>∃ cs:List Value,v = .func (.func f) #[] cs.toArray /\ RL ι F l cs
 | .fz x l,v=>v = x /\ FZ F l v
def RL (ι:Iota) (F:H):List V -> List Value -> Prop
 | [],r=>r = []
 | a :: l,r=>∃ v r',r = v :: r' /\ R ι F a v /\ RL ι F l r'
end
mutual
def OV (ι:Iota) (F:H):V -> Value -> H -> Prop
 | .own e sz n l,v,d=>∃ b c rcs ex d',v = .slice (some ⟨b,0,none⟩) n c /\ n <= c /\ c <= maxLen /\ c * sz = rcs.length + ex /\ (sz = 0 -> c = 0) /\ l.length <= rcs.length /\
   d = join (single b (.row true e rcs ex)) d' /\ d' b = none /\ OL ι F l (rcs.take l.length) d'
 | .agg l,v,d=>∃ cs:List Value,v = .agg cs.toArray /\ OL ι F l cs d
 | .tup l,v,d=>∃ cs:List Value,v = .tuple cs.toArray /\ OL ι F l cs d
 | .und,v,d=>d = emp /\ R ι F .und v
 | .int k n,v,d=>d = emp /\ R ι F (.int k n) v
 | .bool b,v,d=>d = emp /\ R ι F (.bool b) v
 | .str s,v,d=>d = emp /\ R ι F (.str s) v
 | .ptr b o,v,d=>d = emp /\ R ι F (.ptr b o) v
 | .nilp,v,d=>d = emp /\ R ι F .nilp v
 | .pf l o,v,d=>d = emp /\ R ι F (.pf l o) v
 | .sl n l,v,d=>d = emp /\ R ι F (.sl n l) v
 | .rf b o n,v,d=>d = emp /\ R ι F (.rf b o n) v
 | .nils,v,d=>d = emp /\ R ι F .nils v
 | .fn f l,v,d=>d = emp /\ R ι F (.fn f l) v
 | .fz x l,v,d=>d = emp /\ R ι F (.fz x l) v
def OL (ι:Iota) (F:H):List V -> List Value -> H -> Prop
 | [],r,d=>r = [] /\ d = emp
 | a :: l,r,d=>∃ v r' d1 d2,r = v :: r' /\ d = join d1 d2 /\ Dj d1 d2 /\ OV ι F a v d1 /\ OL ι F l r' d2
end
def LiveB (ι:Iota) (F:H) (b:Nat) (e:TypeId) (sz:Nat) (cs:List V) (d:H):Prop :=
 ∃ b' rcs ex d',ι b = some (b',rcs.length + ex,sz) /\ d = join (single b' (.row true e rcs ex)) d' /\ d' b' = none /\ cs.length <= rcs.length /\ OL ι F cs (rcs.take cs.length) d'
structure Hold (ι:Iota) (F:H) (h:Hp) (D:Nat -> H) (g:H):Prop where
 live:∀ b e sz cs,h b = .row e sz cs -> LiveB ι F b e sz cs (D b)
 idle:∀ b,(∀ e sz cs,h b ≠ .row e sz cs) -> D b = emp
 sub:∀ b,Le (D b) g
 dj:∀ b b2,b ≠ b2 -> Dj (D b) (D b2)
 djF:∀ b,Dj (D b) F
 dom:∀ b,64 <= b -> h b = .free -> ι b = .none
 leF:Le F g
def iext (ι ι':Iota):Prop:=∀ b p,ι b = some p -> ι' b = some p
structure Fr where
 F:H
 ι:Iota
 lt:∀ b p,ι b = some p -> b < 64
def Sim (F0:Fr) (t:Tp) (h:Hp) (u:T) (g:H):Prop :=
 ∃ ι F D,(Le F0.F F /\ iext F0.ι ι) /\ Hold ι F h D g /\ ∀ k,R ι F (t k) (u k)
mutual
def ofVal:Value -> V
 | .int k n=>.int k n
 | .bool b=>.bool b
 | .string s=>.str s.data.toList
 | .slice none 0 0=>.nils
 | .pointer none=>.nilp
 | .agg ⟨l⟩=>.agg (ofVals l)
 | .func (.func f) ⟨[]⟩ ⟨[]⟩=>.fn f []
 | _=>.und
def ofVals:List Value -> List V
 | []=>[]
 | v :: l=>ofVal v :: ofVals l
end
def toVal:V -> Option Value
 | .int k n=>some (.int k n)
 | .bool b=>some (.bool b)
 | .str s=>some (.string ⟨s.toArray⟩)
 | _=>none
def pev (t:Tp):Operand -> V
 | .tmp k=>t k
 | .const v=>ofVal v
 | .global _=>.und
 | .func f=>.fn f []
mutual
def vw:V -> V
 | .own _ _ n l=>.sl n (vws l)
 | .agg l=>.agg (vws l)
 | .tup l=>.tup (vws l)
 | .ptr .. => .und
 | .rf .. => .und
 | .fn f l=>.fn f (vws l)
 | .fz x l=>.fz x l
 | .pf l o=>.pf (vws l) o
 | .sl n l=>.sl n (vws l)
 | .und=>.und
 | .int k n=>.int k n
 | .bool b=>.bool b
 | .str s=>.str s
 | .nilp=>.nilp
 | .nils=>.nils
def vws:List V -> List V
 | []=>[]
 | v :: l=>vw v :: vws l
end
mutual
def dv (h:Hp):V -> V
 | .rf b off n=>match h b with
  | .row _ sz cs=>.sl n (vws ((cs.drop off).take (n * sz)))
  | _=>.und
 | .agg l=>.agg (dvs h l)
 | .tup l=>.tup (dvs h l)
 | .fn f l=>.fn f (dvs h l)
 | .fz x l=>.fz x l
 | .own e sz n l=>vw (.own e sz n l)
 | .ptr b off=>match h b with
  | .row _ _ cs=>.pf (vws cs) off
  | _=>.und
 | .pf l o=>.pf (vws l) o
 | .sl n l=>.sl n (vws l)
 | .und=>.und
 | .int k n=>.int k n
 | .bool b=>.bool b
 | .str s=>.str s
 | .nilp=>.nilp
 | .nils=>.nils
def dvs (h:Hp):List V -> List V
 | []=>[]
 | v :: l=>dv h v :: dvs h l
end
def plain1:V -> Bool
 | .own .. | .agg _ | .tup _=>false
 | _=>true
def noOwn (l:List V):Bool:=l.all plain1
def cell1:V -> Bool
 | .und | .agg _ | .tup _ | .own .. => false
 | _=>true
def cellsV:V -> List V
 | .agg l=>l
 | v=>[v]
def cellOk:V -> Bool
 | .agg _=>true
 | v=>cell1 v
def vcellsAt (cs:List V) (off:Nat):Option Nat -> Option V
 | none=>grd (off < cs.length) (some (cs.getD off .und))
 | some n=>grd (off + n <= cs.length) (some (.agg ((cs.drop off).take n)))
def vfill:List V -> List (Nat × Nat × V) -> Option (List V)
 | cs,[]=>some cs
 | cs,(off,n,v) :: r=>grd (cellOk v = true /\ (cellsV v).length = n /\ off + n <= cs.length) (vfill (cs.take off ++ cellsV v ++ cs.drop (off + n)) r)
def setV (cs:List V) (off:Nat):List V -> List V
 | [v]=>cs.set off v
 | vs=>cs.take off ++ vs ++ cs.drop (off + vs.length)
def lift1 (f:Value -> Option Value) (x:V):Option V:=(toVal x).bind fun a=>(f a).map ofVal
def lift2 (f:Value -> Value -> Option Value) (x y:V):Option V:=(toVal x).bind fun a=>(toVal y).bind fun b=>(f a b).map ofVal
def vveq (s:Sg) (x y:V):Option Bool:=(toVal x).bind fun a=>(toVal y).bind fun b=>veq s a b
def vleq:List Sg -> List V -> List V -> Option Bool
 | [],[],[]=>some true
 | s :: ss,x :: xs,y :: ys=>(vveq s x y).bind fun b=>if b then vleq ss xs ys else (vleq ss xs ys).bind fun _=>some false
 | _,_,_=>none
def isAggP:V -> Bool
 | .agg _=>true
 | _=>false
def veqa (neg ag:Bool) (sg:List Sg) (x y:V):Option V :=
 grd (cellOk x = true /\ cellOk y = true /\ isAggP x = ag /\ isAggP y = ag) ((vleq sg (cellsV x) (cellsV y)).bind fun b=>some (.bool (if neg then !b else b)))
def vpick:V -> V -> V -> Option V
 | .bool c,a,b=>some (if c then a else b)
 | _,_,_=>none
def vfa (off:Nat):V -> Option V
 | .ptr b o=>some (.ptr b (o + off))
 | .pf l o=>some (.pf l (o + off))
 | _=>none
def vfd (n:Option Nat) (off:Nat):V -> Option V
 | .agg l=>vcellsAt l off n
 | _=>none
def vixA (len sz:Nat):V -> V -> Option V
 | .ptr b o,.int _ i=>grd (0 <= i /\ i < len) (some (.ptr b (o + i.toNat * sz)))
 | .pf l o,.int _ i=>grd (0 <= i /\ i < len) (some (.pf l (o + i.toNat * sz)))
 | _,_=>none
def vixS (sz:Nat):V -> V -> Option V
 | .rf b o n,.int _ i=>grd (0 <= i /\ i < n) (some (.ptr b (o + i.toNat * sz)))
 | .sl n l,.int _ i=>grd (0 <= i /\ i < n /\ i.toNat * sz < l.length) (some (.pf l (i.toNat * sz)))
 | .fz _ l,.int _ i=>grd (0 <= i /\ i < l.length /\ sz = 1) (some (.pf (l.map (V.int .u8)) i.toNat))
 | _,_=>none
def vixV (len sz:Nat) (n:Option Nat):V -> V -> Option V
 | .agg l,.int _ i=>grd (0 <= i /\ i < len) (vcellsAt l (i.toNat * sz) n)
 | _,_=>none
def vixT:V -> V -> Option V
 | .str s,.int _ i=>grd (0 <= i /\ i < s.length) (some (.int .u8 (s.getD i.toNat 0).toNat))
 | _,_=>none
def vext (i:Nat):V -> Option V
 | .tup l=>l[i]?
 | _=>none
def vlenS:V -> Option V
 | .rf _ _ n=>some (.int .i64 n)
 | .sl n _=>some (.int .i64 n)
 | .fz _ l=>some (.int .i64 l.length)
 | .nils=>some (.int .i64 0)
 | _=>none
def vlenT:V -> Option V
 | .str s=>some (.int .i64 s.length)
 | _=>none
def vnilS (neg:Bool):V -> Option V
 | .nils=>some (.bool !neg)
 | .rf .. => some (.bool neg)
 | .sl (_ + 1) _=>some (.bool neg)
 | _=>none
def vbnd (dflt:Nat):Option V -> Option Int
 | none=>some dflt
 | some (.int _ i)=>some i
 | _=>none
def vslS (sz:Nat):V -> Option V -> Option V -> Option V
 | .sl n l,lo,hi=>(vbnd 0 lo).bind fun a=>(vbnd n hi).bind fun m =>
   grd (0 < n /\ 0 <= a /\ a <= m /\ m <= n /\ n * sz <= l.length) (some (.sl (m.toNat - a.toNat) ((l.drop (a.toNat * sz)).take ((m.toNat - a.toNat) * sz))))
 | .rf b o n,lo,hi=>(vbnd 0 lo).bind fun a=>(vbnd n hi).bind fun m =>
   grd (0 <= a /\ a <= m /\ m <= n /\ (0 < sz ∨ a = 0)) (some (.rf b (o + a.toNat * sz) (m.toNat - a.toNat)))
 | .nils,lo,hi=>(vbnd 0 lo).bind fun a=>(vbnd 0 hi).bind fun m=>grd (a = 0 /\ m = 0) (some .nils)
 | _,_,_=>none
def vslT:V -> Option V -> Option V -> Option V
 | .str s,lo,hi=>(vbnd 0 lo).bind fun a=>(vbnd s.length hi).bind fun m =>
   grd (0 <= a /\ a <= m /\ m <= s.length) (some (.str ((s.drop a.toNat).take (m.toNat - a.toNat))))
 | _,_,_=>none
def vbytes:List V -> Option (List UInt8)
 | []=>some []
 | .int .u8 n :: r=>(vbytes r).bind fun l=>some (UInt8.ofNat n.toNat :: l)
 | _=>none
def vb2s (h:Hp):V -> Option V
 | .nils=>some (.str [])
 | .sl n l=>grd (0 < n /\ n <= l.length) ((vbytes (l.take n)).bind fun s=>some (.str s))
 | .rf b o n=>match h b with
  | .row _ _ cs=>grd ((0 < n ∨ o = 0) /\ o + n <= cs.length) ((vbytes ((cs.drop o).take n)).bind fun s=>some (.str s))
  | _=>none
 | _=>none
def vmkf (fn:Fn) (first cap:List V):Option V :=
 match fn,first with
 | .func f,[]=>some (.fn f cap)
 | _,_=>none
def vdet (h:Hp) (ρ:Operand -> V):AOp -> Option V
 | .mv x=>some (ρ x)
 | .pick c a b=>vpick (ρ c) (ρ a) (ρ b)
 | .bld zero parts=>(vfill (ofVals zero) (parts.map fun p=>(p.1,p.2.1,ρ p.2.2))).bind fun cs=>some (.agg cs)
 | .bin op x y=>lift2 (abin op) (ρ x) (ρ y)
 | .eqa neg ag sg x y=>veqa neg ag sg (ρ x) (ρ y)
 | .un op x=>lift1 (aun op) (ρ x)
 | .cvi k x=>lift1 (acvi k) (ρ x)
 | .slS sz x lo hi=>vslS sz (ρ x) (lo.map ρ) (hi.map ρ)
 | .slT x lo hi=>vslT (ρ x) (lo.map ρ) (hi.map ρ)
 | .fa off x=>vfa off (ρ x)
 | .fd n off x=>vfd n off (ρ x)
 | .ixA len sz x i=>vixA len sz (ρ x) (ρ i)
 | .ixS sz x i=>vixS sz (ρ x) (ρ i)
 | .ixV len sz n x i=>vixV len sz n (ρ x) (ρ i)
 | .ixT x i=>vixT (ρ x) (ρ i)
 | .ext x i=>vext i (ρ x)
 | .lenS x=>vlenS (ρ x)
 | .lenT x=>vlenT (ρ x)
 | .nilS neg x=>vnilS neg (ρ x)
 | .max x y=>lift2 amax (ρ x) (ρ y)
 | .min x y=>lift2 amin (ρ x) (ρ y)
 | .mkf fn first cap=>vmkf fn (first.map ρ) (cap.map ρ)
 | .b2s x=>vb2s h (ρ x)
 | .cvs x=>lift1 acvs (ρ x)
 | _=>none
def ldc (h:Hp) (b:Nat) (e:TypeId) (sz:Nat) (cs:List V) (off:Nat) (K:V -> Hp -> Prop):V -> Prop
 | .own e2 sz2 n l=>K (.sl n (vws l)) (hput h b (.row e sz (cs.set off (.sl n (vws l))))) ∨
   ∃ d,(64 <= d /\ h d = .free) /\ K (.rf d 0 n) (hput (hput h b (.row e sz (cs.set off (.rf d 0 n)))) d (.row e2 sz2 l))
 | .agg _ | .tup _=>False
 | v=>K v h
def Rq (c X:Prop):Prop:=c /\ X
def pldB (h:Hp) (b off:Nat) (n:Option Nat) (K:V -> Hp -> Prop):Slot -> Prop
 | .row e sz cs=>match n with
  | none=>Rq (off < cs.length) (ldc h b e sz cs off K (cs.getD off .und))
  | some m=>Rq (off + m <= cs.length /\ noOwn ((cs.drop off).take m) = true) (K (.agg ((cs.drop off).take m)) h)
 | _=>False
def pld (h:Hp) (n:Option Nat) (K:V -> Hp -> Prop):V -> Prop
 | .ptr b off=>pldB h b off n K (h b)
 | .pf l off=>OK (vcellsAt l off n) fun v=>K v h
 | _=>False
def sameB:V -> V -> Prop
 | .ptr b _,.ptr b2 _=>b = b2
 | .ptr b _,.rf b2 _ _=>b = b2
 | _,_=>False
def pstB (h:Hp) (b off m:Nat) (vs:List V) (K:V -> Hp -> Prop):Slot -> Prop
 | .row e sz cs=>Rq (vs.length = m /\ off + m <= cs.length /\ vs.all cell1 = true) (K .und (hput h b (.row e sz (setV cs off vs))))
 | _=>False
def pst (h:Hp) (m:Nat) (vs:List V) (K:V -> Hp -> Prop):V -> Prop
 | .ptr b off=>pstB h b off m vs K (h b)
 | _=>False
def preadB (sz o n:Nat):Slot -> Option (Nat × List V)
 | .row _ _ cs=>grd (o + n * sz <= cs.length /\ noOwn ((cs.drop o).take (n * sz)) = true) (some (n,(cs.drop o).take (n * sz)))
 | _=>none
def preadS (sz:Nat) (h:Hp):V -> Option (Nat × List V)
 | .nils=>some (0,[])
 | .sl n l=>grd (0 < sz /\ n * sz <= l.length) (some (n,l.take (n * sz)))
 | .rf b o n=>preadB sz o n (h b)
 | .fz _ l=>grd (sz = 1) (some (l.length,l.map (V.int .u8)))
 | _=>none
def pcpyV (sz:Nat) (h:Hp) (K:V -> Hp -> Prop) (m:Nat) (news:List V):V -> Prop
 | .rf b off n=>if min m n = 0 then K (.int .i64 0) h else pst h (min m n * sz) (news.take (min m n * sz)) (fun _ h=>K (.int .i64 (min m n:Nat)) h) (.ptr b off)
 | .nils=>K (.int .i64 0) h
 | _=>False
def pclrV (z:List V) (h:Hp) (K:V -> Hp -> Prop):V -> Prop
 | .rf b off n=>if n = 0 then K (.tup []) h else pst h (n * z.length) (List.replicate n z).flatten (fun _ h=>K (.tup []) h) (.ptr b off)
 | .nils=>K (.tup []) h
 | _=>False
def papB (e:TypeId) (sz bytes d:Nat) (h:Hp) (K:V -> Hp -> Prop) (b n m:Nat) (news:List V):Slot -> Prop
 | .row e' sz' cs=>Rq (e' = e /\ (sz' = sz ∨ sz' = 0) /\ 0 < sz /\ n * sz <= cs.length /\ n + m <= maxLen /\ (n + m) * bytes <= 140737488355328 /\ h d = .free)
   (K (.rf d 0 (n + m)) (hput (hput h b .dead) d (.row e sz (cs.take (n * sz) ++ news))))
 | _=>False
def papV (e:TypeId) (sz bytes d:Nat) (h:Hp) (K:V -> Hp -> Prop) (m:Nat) (news:List V):V -> Prop
 | .rf b 0 n=>papB e sz bytes d h K b n m news (h b)
 | .nils=>(m = 0 -> K .nils h) /\ (0 < m -> Rq (0 < sz /\ m <= maxLen /\ m * bytes <= 140737488355328 /\ h d = .free) (K (.rf d 0 m) (hput h d (.row e sz news))))
 | _=>False
def isRow:Slot -> Prop
 | .row .. => True
 | _=>False
def pavoid (h:Hp) (s:V):V -> Prop
 | .ptr b _=>match s with
  | .rf b2 _ _=>b ≠ b2 /\ isRow (h b)
  | .nils=>True
  | _=>False
 | .rf b _ _=>match s with
  | .rf b2 _ _=>b ≠ b2 /\ isRow (h b)
  | .nils=>True
  | _=>False
 | .sl _ l=>l ≠ []
 | .int .. | .bool _ | .str _ | .agg _ | .nilp | .nils | .pf .. => True
 | _=>False
def pavoidP (h:Hp) (a y:V):Prop:=match a with
 | .ptr b o=>pavoid h (.rf b o 0) y
 | _=>False
mutual
def mat:V -> Nat -> V × List (Nat × TypeId × Nat × List V) × Nat
 | .own e sz n l,c=>(.rf c 0 n,[(c,e,sz,l)],c + 1000)
 | .agg l,c=>let r:=mats l c; (.agg r.1,r.2)
 | .tup l,c=>let r:=mats l c; (.tup r.1,r.2)
 | .und,c=>(.und,[],c)
 | .int k n,c=>(.int k n,[],c)
 | .bool b,c=>(.bool b,[],c)
 | .str s,c=>(.str s,[],c)
 | .ptr b o,c=>(.ptr b o,[],c)
 | .nilp,c=>(.nilp,[],c)
 | .pf l o,c=>(.pf l o,[],c)
 | .sl n l,c=>(.sl n l,[],c)
 | .rf b o n,c=>(.rf b o n,[],c)
 | .nils,c=>(.nils,[],c)
 | .fn f l,c=>(.fn f l,[],c)
 | .fz x l,c=>(.fz x l,[],c)
def mats:List V -> Nat -> List V × List (Nat × TypeId × Nat × List V) × Nat
 | [],c=>([],[],c)
 | v :: l,c=>let r:=mat v c; let q:=mats l r.2.2; (r.1 :: q.1,r.2.1 ++ q.2.1,q.2.2)
end
def hputs (h:Hp):List (Nat × TypeId × Nat × List V) -> Hp
 | []=>h
 | p :: l=>hputs (hput h p.1 (.row p.2.1 p.2.2.1 p.2.2.2)) l
def allFree (h:Hp):List (Nat × TypeId × Nat × List V) -> Prop
 | []=>True
 | p :: l=>h p.1 = .free /\ allFree (hput h p.1 (.row p.2.1 p.2.2.1 p.2.2.2)) l
def folds (f:Hp -> V -> Option (V × Hp)):Hp -> List V -> Option (List V × Hp)
 | h,[]=>some ([],h)
 | h,v :: l=>(f h v).bind fun p=>(folds f p.2 l).map fun q=>(p.1 :: q.1,q.2)
def fin:Nat -> Hp -> V -> Option (V × Hp)
 | 0,_,_=>none
 | n + 1,h,.rf b o k=>match h b with
  | .row e sz cs=>grd (o = 0 /\ k * sz <= cs.length /\ (sz = 0 -> cs = [])) ((folds (fin n) (hput h b .dead) (cs.take (k * sz))).map fun p=>(.own e sz k p.1,p.2))
  | _=>none
 | n + 1,h,.agg l=>(folds (fin n) h l).map fun p=>(.agg p.1,p.2)
 | n + 1,h,.tup l=>(folds (fin n) h l).map fun p=>(.tup p.1,p.2)
 | _ + 1,_,.ptr .. => none
 | _ + 1,h,v=>some (v,h)
def closeB (h:Hp) (b:Nat):Option Hp:=match h b with
 | .row e sz cs=>(folds (fin 4) (hput h b .dead) cs).map fun p=>hput p.2 b (.row e sz p.1)
 | _=>none
def closeAll:Hp -> List Nat -> Option Hp
 | h,[]=>some h
 | h,b :: l=>(closeB h b).bind fun h'=>closeAll h' l
def boxesOf (h:Hp):List (Nat × TypeId × Nat) -> Option (List (List V))
 | []=>some []
 | p :: l=>match h p.1 with
  | .row e sz cs=>grd (e = p.2.1 /\ sz = p.2.2) ((boxesOf h l).map fun r=>cs :: r)
  | _=>none
def hputb (h:Hp):List (Nat × TypeId × Nat) -> List (List V) -> Hp
 | p :: l,cs :: r=>hput (hputb h l r) p.1 (.row p.2.1 p.2.2 cs)
 | _,_=>h
def names (bx:List (Nat × TypeId × Nat)):List Nat:=bx.map (·.1)
def ι0:Iota:=fun _=>none
def PSpec (P:Program) (f:FuncId) (vs:List V) (Φ:V -> Prop):Prop :=
 ∀ (F:H) (rs:List Value),RL ι0 F vs rs -> Spec P f rs F fun r d=>∃ v,Φ v /\ OV ι0 emp v r d
def PSpecV (P:Program) (f:FuncId) (vs:List V) (Φ:V -> Prop):Prop :=
 ∀ (F:H) (rs:List Value),RL ι0 F vs rs -> Spec P f rs F fun r d=>∃ v d1 d2,Φ v /\ d = join d1 d2 /\ Dj d1 d2 /\ OV ι0 (join F d1) v r d2
mutual
def clo:V -> Bool
 | .own _ _ _ l=>clos l
 | .agg l=>clos l
 | .tup l=>clos l
 | .int .. | .bool _ | .str _ | .nilp | .nils | .und=>true
 | _=>false
def clos:List V -> Bool
 | []=>true
 | v :: l=>clo v && clos l
end
def closs:List (List V) -> Bool
 | []=>true
 | l :: r=>clos l && closs r
def fzH:List V -> List V -> Prop
 | .fz x l :: _,.fz y m :: r=>(y = x /\ m = l) /\ clos r = true
 | _,_=>False
def closK:List (List V) -> List (List V) -> Prop
 | _,[]=>True
 | [],c :: r=>clos c = true /\ closK [] r
 | a :: k,c :: r=>(clos c = true ∨ fzH a c) /\ closK k r
mutual
def nrf:V -> Bool
 | .own _ _ _ l=>nrfs l
 | .agg l=>nrfs l
 | .tup l=>nrfs l
 | .fn _ l=>nrfs l
 | .sl _ l=>nrfs l
 | .pf l _=>nrfs l
 | .ptr .. | .rf .. => false
 | .int .. | .bool _ | .str _ | .nilp | .nils | .und | .fz .. => true
def nrfs:List V -> Bool
 | []=>true
 | v :: l=>nrf v && nrfs l
end
def Pure (P:Program) (f:FuncId) (vs:List V) (d:Nat) (h:Hp) (K:V -> Hp -> Prop):Prop :=
 (∃ Φ,PSpec P f (dvs h vs) Φ /\ ((∀ v,Φ v -> K (vw v) h) ∨ (∀ v,Φ v -> Rq (allFree h (mat v d).2.1) (K (mat v d).1 (hputs h (mat v d).2.1))))) ∨
  (nrfs vs = true /\ ∃ Φ,PSpecV P f vs Φ /\ ((∀ v,Φ v -> K (vw v) h) ∨ (∀ v,Φ v -> Rq (allFree h (mat v d).2.1) (K (mat v d).1 (hputs h (mat v d).2.1)))))
def nrfss:List (List V) -> Bool
 | []=>true
 | l :: r=>nrfs l && nrfss r
def PSpecM (P:Program) (f:FuncId) (vs:List V) (bx:List (Nat × TypeId × Nat)) (cells:List (List V)) (Φ:V -> List (List V) -> Prop):Prop :=
 ∀ ι F D rs g,Hold ι F (hputb hnil bx cells) D g -> RL ι F vs rs -> SpecW P f rs g fun r g'=>∃ v cs,Φ v cs /\ closK cells cs /\ cs.length = bx.length /\
  ∃ F' D' d,Le F F' /\ Hold ι F' (hputb hnil bx cs) D' g' /\ OV ι0 emp v r d /\ Le d g' /\ Dj d F' /\ ∀ b,Dj d (D' b)
def PSpecMR (P:Program) (f:FuncId) (vs:List V) (bx:List (Nat × TypeId × Nat)) (cells:List (List V)) (Φ:Nat -> Nat -> Nat -> List (List V) -> Prop):Prop :=
 ∀ ι F D rs g,Hold ι F (hputb hnil bx cells) D g -> RL ι F vs rs -> SpecW P f rs g fun r g'=>∃ j o n cs,Φ j o n cs /\ closK cells cs /\ cs.length = bx.length /\
  ∃ F' D',Le F F' /\ Hold ι F' (hputb hnil bx cs) D' g' /\ R ι F' (.rf j o n) r
def keepV (vs:List V) (v:V):Prop:=(clo v = true /\ plain1 v = true) ∨ ∃ x l,v = .fz x l /\ v ∈ vs
def PSpecB (P:Program) (f:FuncId) (vs:List V) (Φ:TypeId -> List V -> Prop):Prop :=
 ∀ (F:H) (rs:List Value),RL ι0 F vs rs -> Spec P f rs F fun r d=>∃ e cells b rcs ex,Φ e cells /\ r = .pointer (some ⟨b,0,none⟩) /\ d = single b (.row true e rcs ex) /\ cells.length <= rcs.length /\ RL ι0 F cells (rcs.take cells.length)
def PNewA (P:Program) (f:FuncId) (vs:List V) (d:Nat) (h:Hp) (K:V -> Hp -> Prop):Prop :=
 nrfs vs = true /\ ∃ Φ,PSpecB P f vs Φ /\ ∀ e cells,Φ e cells -> Rq (h d = .free) (K (.ptr d 0) (hput h d (.row e 1 cells)))
def PNewF (P:Program) (f:FuncId) (vs:List V) (d:Nat) (h:Hp) (K:V -> Hp -> Prop):Prop :=
 ∃ b e l,vs = [.rf b 0 l.length] /\ h b = .row e 1 (l.map (V.int .u8)) /\ ∀ x,∃ Φ,PSpecB P f [.fz x l] Φ /\ ∀ e' cells,Φ e' cells -> Rq (h d = .free) (K (.ptr d 0) (hput (hput h b .dead) d (.row e' 1 cells)))
def PNew (P:Program) (f:FuncId) (vs:List V) (d:Nat) (h:Hp) (K:V -> Hp -> Prop):Prop:=PNewA P f vs d h K ∨ PNewF P f vs d h K
def nm:List Nat -> Nat -> Option Nat
 | [],_=>none
 | b :: l,x=>if x = b then some 0 else (nm l x).map (· + 1)
def mvR (h:Hp) (b off n:Nat):Option Nat -> V
 | some j=>.rf j off n
 | none=>dv h (.rf b off n)
def mvP (h:Hp) (b off:Nat):Option Nat -> V
 | some j=>.ptr j off
 | none=>dv h (.ptr b off)
mutual
def mv (bs:List Nat) (h:Hp):V -> V
 | .rf b off n=>mvR h b off n (nm bs b)
 | .ptr b off=>mvP h b off (nm bs b)
 | .agg l=>.agg (mvs bs h l)
 | .tup l=>.tup (mvs bs h l)
 | .fn f l=>.fn f (mvs bs h l)
 | .fz x l=>.fz x l
 | .own e sz n l=>vw (.own e sz n l)
 | .pf l o=>.pf (vws l) o
 | .sl n l=>.sl n (vws l)
 | .und=>.und
 | .int k n=>.int k n
 | .bool b=>.bool b
 | .str s=>.str s
 | .nilp=>.nilp
 | .nils=>.nils
def mvs (bs:List Nat) (h:Hp):List V -> List V
 | []=>[]
 | v :: l=>mv bs h v :: mvs bs h l
end
def handB (h:Hp):List Nat -> Nat -> Option (List (Nat × TypeId × Nat) × List (List V))
 | [],_=>some ([],[])
 | b :: l,j=>match h b with
  | .row e sz cs=>(handB h l (j + 1)).map fun p=>((j,e,sz) :: p.1,cs :: p.2)
  | _=>none
def hputs2 (h:Hp):List Nat -> List (Nat × TypeId × Nat) -> List (List V) -> Hp
 | b :: l,p :: bx,cs :: r=>hputs2 (hput h b (.row p.2.1 p.2.2 cs)) l bx r
 | _,_,_=>h
def CallM (P:Program) (f:FuncId) (d:Nat) (h:Hp) (K:V -> Hp -> Prop) (bs:List Nat) (bx:List (Nat × TypeId × Nat)) (cells:List (List V)) (ws:List V):Prop :=
 ∃ Φ,PSpecM P f ws bx cells Φ /\ ((∀ v cs,Φ v cs -> K (vw v) (hputs2 h bs bx cs)) ∨
  (∀ v cs,Φ v cs -> Rq (allFree (hputs2 h bs bx cs) (mat v d).2.1) (K (mat v d).1 (hputs (hputs2 h bs bx cs) (mat v d).2.1))))
def CallMR (P:Program) (f:FuncId) (h:Hp) (K:V -> Hp -> Prop) (bs:List Nat) (bx:List (Nat × TypeId × Nat)) (cells:List (List V)) (ws:List V):Prop :=
 ∃ Φ,PSpecMR P f ws bx cells Φ /\ ∀ j o n cs,Φ j o n cs -> ∀ b,bs[j]? = some b -> K (.rf b o n) (hputs2 h bs bx cs)
def TurnsR (P:Program) (f:FuncId) (vs:List V) (h:Hp) (K:V -> Hp -> Prop):Prop :=
 ∃ bs:List Nat,(decide bs.Nodup && decide (bs.length <= 64)) = true /\ OK (closeAll h bs) fun h1=>OK (handB h1 bs 0) fun q=>Rq (nrfss q.2 = true) (CallMR P f h1 K bs q.1 q.2 (mvs bs h1 vs))
def TurnsA (P:Program) (f:FuncId) (vs:List V) (d:Nat) (h:Hp) (K:V -> Hp -> Prop):Prop :=
 ∃ bs:List Nat,(decide bs.Nodup && decide (bs.length <= 64)) = true /\ OK (closeAll h bs) fun h1=>OK (handB h1 bs 0) fun q=>Rq (nrfss q.2 = true) (CallM P f d h1 K bs q.1 q.2 (mvs bs h1 vs))
def avB (h:Hp) (bs:List Nat):List V -> Prop
 | []=>True
 | .ptr b _ :: l=>(b ∉ bs /\ isRow (h b)) /\ avB h bs l
 | _=>False
def TurnsV (P:Program) (f:FuncId) (vs avs:List V) (d:Nat) (h:Hp) (K:V -> Hp -> Prop):Prop :=
 ∃ bs:List Nat,(decide bs.Nodup && decide (bs.length <= 64)) = true /\ OK (closeAll h bs) fun h1=>OK (handB h1 bs 0) fun q=>Rq (nrfss q.2 = true /\ avB h1 bs avs) (CallM P f d h1 K bs q.1 q.2 (mvs bs h1 vs))
def pcalla (P:Program) (f:FuncId) (vs avs:List V) (d:Nat) (h:Hp) (K:V -> Hp -> Prop):Prop:=Pure P f vs d h K ∨ TurnsV P f vs avs d h K
def Turns (P:Program) (f:FuncId) (vs:List V) (d:Nat) (h:Hp) (K:V -> Hp -> Prop):Prop:=TurnsA P f vs d h K ∨ TurnsR P f vs h K
def pcall (P:Program) (f:FuncId) (vs:List V) (d:Nat) (h:Hp) (K:V -> Hp -> Prop):Prop:=Pure P f vs d h K ∨ (Turns P f vs d h K ∨ PNew P f vs d h K)
def pcallv (P:Program) (args:List V) (d:Nat) (h:Hp) (K:V -> Hp -> Prop):V -> Prop
 | .fn f cap=>Rq (isFn P f = true) (pcall P f (args ++ cap) d h K)
 | _=>False
def pop (P:Program) (d:Nat) (op:AOp) (ρ:Operand -> V) (h:Hp) (K:V -> Hp -> Prop):Prop :=
 match op with
 | .ld n x=>pld h n K (ρ x)
 | .ldb base n x=>Rq (sameB (ρ x) (ρ base)) (pld h n K (ρ x))
 | .alloc e zero=>Rq (h d = .free) (K (.ptr d 0) (hput h d (.row e 1 (ofVals zero))))
 | .box e x=>Rq (h d = .free /\ (cellsV (ρ x)).all cell1 = true) (K (.ptr d 0) (hput h d (.row e 1 (cellsV (ρ x)))))
 | .mks e zero len parts=>OK (vfill (ofVals zero) (parts.map fun p=>(p.1,p.2.1,ρ p.2.2))) fun cs =>
   Rq (h d = .free /\ cs.all cell1 = true /\ len <= maxLen /\ (zero.length = if len = 0 then 0 else len * (zero.length / len)) /\ (len = 0 ∨ zero.length ≠ 0))
    (K (.rf d 0 len) (hput h d (.row e (if len = 0 then 0 else zero.length / len) cs)))
 | .mk e bytes zero l c=>match ρ l,ρ c with
  | .int _ l,.int _ c=>Rq (h d = .free /\ 0 <= l /\ l <= c /\ (bytes:Int) * c <= 281474976710656 /\ c <= maxLen /\ zero ≠ []) (K (.rf d 0 l.toNat) (hput h d (.row e zero.length ((List.replicate c.toNat (ofVals zero)).flatten))))
  | _,_=>False
 | .app e sz bytes zero av s x=>OK (preadS sz h (ρ x)) fun r=>Rq (r.2.all cell1 = true /\ ∀ y ∈ av,pavoid h (ρ s) (ρ y)) (papV e sz bytes d h K r.1 r.2 (ρ s))
 | .st n a x=>pst h n (cellsV (ρ x)) K (ρ a)
 | .cpy sz x y=>OK (preadS sz h (ρ y)) fun r=>pcpyV sz h K r.1 r.2 (ρ x)
 | .clr z x=>pclrV (ofVals z) h K (ρ x)
 | .sta av n a x=>Rq (∀ y ∈ av,pavoidP h (ρ a) (ρ y)) (pst h n (cellsV (ρ x)) K (ρ a))
 | .call f args=>pcall P f (args.map ρ) d h K
 | .callp f args=>Pure P f (args.map ρ) d h K
 | .calla av f args=>pcalla P f (args.map ρ) (av.map ρ) d h K
 | .callv fv args=>pcallv P (args.map ρ) d h K (ρ fv)
 | op=>OK (vdet h ρ op) fun v=>K v h
def pgoes (t:Tp) (A B:Prop):Option (Nat × Bool) -> Prop
 | none=>A
 | some (d,want)=>match t d with
  | .bool b=>if b = want then A else B
  | .tup []=>B
  | _=>False
def pstep (P:Program) (o:AOper) (K:Tp -> Hp -> Prop) (t:Tp) (h:Hp):Prop :=
 pgoes t (pop P (o.dst.getD 0 + 64) o.op (pev t) h fun v h=>K (tputo t o.dst v) h) (K (tputo t o.dst (.tup [])) h) o.guard
def pops (P:Program):List AOper -> (Tp -> Hp -> Prop) -> Tp -> Hp -> Prop
 | [],K=>K
 | o :: r,K=>pstep P o (pops P r K)
end
section
set_option linter.constructorNameAsVariable false
theorem iext_refl (ι:Iota):iext ι ι:=fun _ _ h=>h
theorem le_rfl' (F:H):Le F F:=fun _ _ h=>h
theorem le_trans' {a b c:H} (h1:Le a b) (h2:Le b c):Le a c:=fun x k h=>h2 x k (h1 x k h)
theorem FZ_mono {F F':H} (hF:Le F F') {l:List Int} {v:Value} (h:FZ F l v):FZ F' l v:=by
 rcases h with h | ⟨b,o,c,h1,h2,h3⟩
 ·exact .inl h
 ·refine .inr ⟨b,o,c,h1,h2,?_⟩
  rcases h3 with h3 | ⟨own,e,cs,ex,h3,h4⟩
  ·exact .inl h3
  ·exact .inr ⟨own,e,cs,ex,hF _ _ h3,h4⟩
theorem FZ_like {F F':H} (hF:∀ b own e cs ex,F b = some (.row own e cs ex) -> ∃ own2,F' b = some (.row own2 e cs ex)) {l:List Int} {v:Value} (h:FZ F l v):FZ F' l v:=by
 rcases h with h | ⟨b,o,c,h1,h2,h3⟩
 ·exact .inl h
 ·refine .inr ⟨b,o,c,h1,h2,?_⟩
  rcases h3 with h3 | ⟨own,e,cs,ex,h3,h4⟩
  ·exact .inl h3
  ·obtain ⟨own2,h3'⟩:=hF _ _ _ _ _ h3; exact .inr ⟨own2,e,cs,ex,h3',h4⟩
mutual
theorem R_mono {ι ι':Iota} {F F':H} (hi:iext ι ι') (hF:Le F F'):∀ (v:V) {r:Value},R ι F v r -> R ι' F' v r
 | .und,_,h=>by simp [R]
 | .int _ _,_,h=>by simpa [R] using h
 | .bool _,_,h=>by simpa [R] using h
 | .str _,_,h=>by simpa [R] using h
 | .agg l,_,h=>by
  simp only [R] at h ⊢; obtain ⟨cs,h1,h2⟩:=h; exact ⟨cs,h1,RL_mono hi hF l h2⟩
 | .tup l,_,h=>by
  simp only [R] at h ⊢; obtain ⟨cs,h1,h2⟩:=h; exact ⟨cs,h1,RL_mono hi hF l h2⟩
 | .ptr b off,_,h=>by
  simp only [R] at h ⊢; obtain ⟨b',tot,sz,h1,h2⟩:=h; exact ⟨b',tot,sz,hi _ _ h1,h2⟩
 | .nilp,_,h=>by simpa [R] using h
 | .pf l off,_,h=>by
  simp only [R] at h ⊢; obtain ⟨b,o,own,e,cs,ex,h1,h2,h3,h4⟩:=h; exact ⟨b,o,own,e,cs,ex,h1,hF _ _ h2,h3,RL_mono hi hF l h4⟩
 | .sl n l,_,h=>by
  simp only [R] at h ⊢
  rcases h with h | ⟨b,o,c,h1,h2,h3⟩
  ·exact .inl h
  ·refine .inr ⟨b,o,c,h1,h2,?_⟩
   rcases h3 with h3 | ⟨own,e,cs,ex,h3,h4,h5⟩
   ·exact .inl h3
   ·exact .inr ⟨own,e,cs,ex,hF _ _ h3,h4,RL_mono hi hF l h5⟩
 | .rf b off n,_,h=>by
  simp only [R] at h ⊢; obtain ⟨b',tot,sz,o,c,h1,h2⟩:=h; exact ⟨b',tot,sz,o,c,hi _ _ h1,h2⟩
 | .nils,_,h=>by simpa [R] using h
 | .own ..,_,h=>by simp [R] at h
 | .fn f l,_,h=>by
  simp only [R] at h ⊢; obtain ⟨cs,h1,h2⟩:=h; exact ⟨cs,h1,RL_mono hi hF l h2⟩
 | .fz x l,_,h=>by simp only [R] at h ⊢; exact ⟨h.1,FZ_mono hF h.2⟩
theorem RL_mono {ι ι':Iota} {F F':H} (hi:iext ι ι') (hF:Le F F'):∀ (l:List V) {r:List Value},RL ι F l r -> RL ι' F' l r
 | [],_,h=>by simpa [RL] using h
 | a :: l,_,h=>by
  simp only [RL] at h ⊢; obtain ⟨v,r',h1,h2,h3⟩:=h; exact ⟨v,r',h1,R_mono hi hF a h2,RL_mono hi hF l h3⟩
end
mutual
theorem R_like {ι ι':Iota} {F F':H} (hi:iext ι ι') (hF:∀ b own e cs ex,F b = some (.row own e cs ex) -> ∃ own2,F' b = some (.row own2 e cs ex)):∀ (v:V) {r:Value},R ι F v r -> R ι' F' v r
 | .und,_,h=>by simp [R]
 | .int _ _,_,h=>by simpa [R] using h
 | .bool _,_,h=>by simpa [R] using h
 | .str _,_,h=>by simpa [R] using h
 | .agg l,_,h=>by
  simp only [R] at h ⊢; obtain ⟨cs,h1,h2⟩:=h; exact ⟨cs,h1,RL_like hi hF l h2⟩
 | .tup l,_,h=>by
  simp only [R] at h ⊢; obtain ⟨cs,h1,h2⟩:=h; exact ⟨cs,h1,RL_like hi hF l h2⟩
 | .ptr b off,_,h=>by
  simp only [R] at h ⊢; obtain ⟨b',tot,sz,h1,h2⟩:=h; exact ⟨b',tot,sz,hi _ _ h1,h2⟩
 | .nilp,_,h=>by simpa [R] using h
 | .pf l off,_,h=>by
  simp only [R] at h ⊢; obtain ⟨b,o,own,e,cs,ex,h1,h2,h3,h4⟩:=h; obtain ⟨own2,h2'⟩:=hF _ _ _ _ _ h2; exact ⟨b,o,own2,e,cs,ex,h1,h2',h3,RL_like hi hF l h4⟩
 | .sl n l,_,h=>by
  simp only [R] at h ⊢
  rcases h with h | ⟨b,o,c,h1,h2,h3⟩
  ·exact .inl h
  ·refine .inr ⟨b,o,c,h1,h2,?_⟩
   rcases h3 with h3 | ⟨own,e,cs,ex,h3,h4,h5⟩
   ·exact .inl h3
   ·obtain ⟨own2,h3'⟩:=hF _ _ _ _ _ h3; exact .inr ⟨own2,e,cs,ex,h3',h4,RL_like hi hF l h5⟩
 | .rf b off n,_,h=>by
  simp only [R] at h ⊢; obtain ⟨b',tot,sz,o,c,h1,h2⟩:=h; exact ⟨b',tot,sz,o,c,hi _ _ h1,h2⟩
 | .nils,_,h=>by simpa [R] using h
 | .own ..,_,h=>by simp [R] at h
 | .fn f l,_,h=>by
  simp only [R] at h ⊢; obtain ⟨cs,h1,h2⟩:=h; exact ⟨cs,h1,RL_like hi hF l h2⟩
 | .fz x l,_,h=>by simp only [R] at h ⊢; exact ⟨h.1,FZ_like hF h.2⟩
theorem RL_like {ι ι':Iota} {F F':H} (hi:iext ι ι') (hF:∀ b own e cs ex,F b = some (.row own e cs ex) -> ∃ own2,F' b = some (.row own2 e cs ex)):∀ (l:List V) {r:List Value},RL ι F l r -> RL ι' F' l r
 | [],_,h=>by simpa [RL] using h
 | a :: l,_,h=>by
  simp only [RL] at h ⊢; obtain ⟨v,r',h1,h2,h3⟩:=h; exact ⟨v,r',h1,R_like hi hF a h2,RL_like hi hF l h3⟩
end
mutual
theorem OV_mono {ι ι':Iota} {F F':H} (hi:iext ι ι') (hF:Le F F'):∀ (v:V) {r:Value} {d:H},OV ι F v r d -> OV ι' F' v r d
 | .own e sz n l,_,_,h=>by
  simp only [OV] at h ⊢
  obtain ⟨b,c,rcs,ex,d',h1,h2,h3,h4,h5,h6,h7,h8,h9⟩:=h
  exact ⟨b,c,rcs,ex,d',h1,h2,h3,h4,h5,h6,h7,h8,OL_mono hi hF l h9⟩
 | .agg l,_,_,h=>by
  simp only [OV] at h ⊢; obtain ⟨cs,h1,h2⟩:=h; exact ⟨cs,h1,OL_mono hi hF l h2⟩
 | .tup l,_,_,h=>by
  simp only [OV] at h ⊢; obtain ⟨cs,h1,h2⟩:=h; exact ⟨cs,h1,OL_mono hi hF l h2⟩
 | .und,_,_,h=>by simp only [OV] at h ⊢; exact ⟨h.1,R_mono hi hF _ h.2⟩
 | .int _ _,_,_,h=>by simp only [OV] at h ⊢; exact ⟨h.1,R_mono hi hF _ h.2⟩
 | .bool _,_,_,h=>by simp only [OV] at h ⊢; exact ⟨h.1,R_mono hi hF _ h.2⟩
 | .str _,_,_,h=>by simp only [OV] at h ⊢; exact ⟨h.1,R_mono hi hF _ h.2⟩
 | .ptr _ _,_,_,h=>by simp only [OV] at h ⊢; exact ⟨h.1,R_mono hi hF _ h.2⟩
 | .nilp,_,_,h=>by simp only [OV] at h ⊢; exact ⟨h.1,R_mono hi hF _ h.2⟩
 | .pf _ _,_,_,h=>by simp only [OV] at h ⊢; exact ⟨h.1,R_mono hi hF _ h.2⟩
 | .sl _ _,_,_,h=>by simp only [OV] at h ⊢; exact ⟨h.1,R_mono hi hF _ h.2⟩
 | .rf _ _ _,_,_,h=>by simp only [OV] at h ⊢; exact ⟨h.1,R_mono hi hF _ h.2⟩
 | .nils,_,_,h=>by simp only [OV] at h ⊢; exact ⟨h.1,R_mono hi hF _ h.2⟩
 | .fn _ _,_,_,h=>by simp only [OV] at h ⊢; exact ⟨h.1,R_mono hi hF _ h.2⟩
 | .fz _ _,_,_,h=>by simp only [OV] at h ⊢; exact ⟨h.1,R_mono hi hF _ h.2⟩
theorem OL_mono {ι ι':Iota} {F F':H} (hi:iext ι ι') (hF:Le F F'):∀ (l:List V) {r:List Value} {d:H},OL ι F l r d -> OL ι' F' l r d
 | [],_,_,h=>by simpa [OL] using h
 | a :: l,_,_,h=>by
  simp only [OL] at h ⊢
  obtain ⟨v,r',d1,d2,h1,h2,h3,h4,h5⟩:=h
  exact ⟨v,r',d1,d2,h1,h2,h3,OV_mono hi hF a h4,OL_mono hi hF l h5⟩
end
mutual
theorem OV_like {ι ι':Iota} {F F':H} (hi:iext ι ι') (hF:∀ b own e cs ex,F b = some (.row own e cs ex) -> ∃ own2,F' b = some (.row own2 e cs ex)):∀ (v:V) {r:Value} {d:H},OV ι F v r d -> OV ι' F' v r d
 | .own e sz n l,_,_,h=>by
  simp only [OV] at h ⊢
  obtain ⟨b,c,rcs,ex,d',h1,h2,h3,h4,h5,h6,h7,h8,h9⟩:=h
  exact ⟨b,c,rcs,ex,d',h1,h2,h3,h4,h5,h6,h7,h8,OL_like hi hF l h9⟩
 | .agg l,_,_,h=>by
  simp only [OV] at h ⊢; obtain ⟨cs,h1,h2⟩:=h; exact ⟨cs,h1,OL_like hi hF l h2⟩
 | .tup l,_,_,h=>by
  simp only [OV] at h ⊢; obtain ⟨cs,h1,h2⟩:=h; exact ⟨cs,h1,OL_like hi hF l h2⟩
 | .und,_,_,h=>by simp only [OV] at h ⊢; exact ⟨h.1,R_like hi hF _ h.2⟩
 | .int _ _,_,_,h=>by simp only [OV] at h ⊢; exact ⟨h.1,R_like hi hF _ h.2⟩
 | .bool _,_,_,h=>by simp only [OV] at h ⊢; exact ⟨h.1,R_like hi hF _ h.2⟩
 | .str _,_,_,h=>by simp only [OV] at h ⊢; exact ⟨h.1,R_like hi hF _ h.2⟩
 | .ptr _ _,_,_,h=>by simp only [OV] at h ⊢; exact ⟨h.1,R_like hi hF _ h.2⟩
 | .nilp,_,_,h=>by simp only [OV] at h ⊢; exact ⟨h.1,R_like hi hF _ h.2⟩
 | .pf _ _,_,_,h=>by simp only [OV] at h ⊢; exact ⟨h.1,R_like hi hF _ h.2⟩
 | .sl _ _,_,_,h=>by simp only [OV] at h ⊢; exact ⟨h.1,R_like hi hF _ h.2⟩
 | .rf _ _ _,_,_,h=>by simp only [OV] at h ⊢; exact ⟨h.1,R_like hi hF _ h.2⟩
 | .nils,_,_,h=>by simp only [OV] at h ⊢; exact ⟨h.1,R_like hi hF _ h.2⟩
 | .fn _ _,_,_,h=>by simp only [OV] at h ⊢; exact ⟨h.1,R_like hi hF _ h.2⟩
 | .fz _ _,_,_,h=>by simp only [OV] at h ⊢; exact ⟨h.1,R_like hi hF _ h.2⟩
theorem OL_like {ι ι':Iota} {F F':H} (hi:iext ι ι') (hF:∀ b own e cs ex,F b = some (.row own e cs ex) -> ∃ own2,F' b = some (.row own2 e cs ex)):∀ (l:List V) {r:List Value} {d:H},OL ι F l r d -> OL ι' F' l r d
 | [],_,_,h=>by simpa [OL] using h
 | a :: l,_,_,h=>by
  simp only [OL] at h ⊢
  obtain ⟨v,r',d1,d2,h1,h2,h3,h4,h5⟩:=h
  exact ⟨v,r',d1,d2,h1,h2,h3,OV_like hi hF a h4,OL_like hi hF l h5⟩
end
section
variable {ι:Iota} {F:H}
theorem join_emp_r (d:H):join d emp = d:=by funext x; simp [join,emp]
theorem join_emp_l (d:H):join emp d = d:=by funext x; simp [join,emp]
theorem Dj.symm {d e:H} (h:Dj d e):Dj e d:=fun x=>(h x).symm
theorem dj_emp_r (d:H):Dj d emp:=fun _=>.inr rfl
theorem dj_emp_l (d:H):Dj emp d:=fun _=>.inl rfl
theorem join_comm {d e:H} (h:Dj d e):join d e = join e d:=by
 funext x; simp only [join]; rcases h x with h | h <;> simp [h]
theorem join_assoc (a b c:H):join (join a b) c = join a (join b c):=by
 funext x; simp only [join]; cases c x <;> simp
theorem dj_join_l {a b c:H}:Dj (join a b) c ↔ Dj a c /\ Dj b c:=by
 constructor
 ·intro h
  refine ⟨fun x=>?_,fun x=>?_⟩
  ·rcases h x with h | h
   ·simp only [join,Option.or_eq_none_iff] at h; exact .inl h.2
   ·exact .inr h
  ·rcases h x with h | h
   ·simp only [join,Option.or_eq_none_iff] at h; exact .inl h.1
   ·exact .inr h
 ·rintro ⟨h1,h2⟩ x
  rcases h1 x with h | h
  ·rcases h2 x with h' | h'
   ·exact .inl (by simp [join,h,h'])
   ·exact .inr h'
  ·exact .inr h
theorem dj_join_r {a b c:H}:Dj c (join a b) ↔ Dj c a /\ Dj c b:=by
 constructor
 ·intro h; have:=dj_join_l.1 h.symm; exact ⟨this.1.symm,this.2.symm⟩
 ·rintro ⟨h1,h2⟩; exact (dj_join_l.2 ⟨h1.symm,h2.symm⟩).symm
theorem le_join_r (a b:H):Le b (join a b):=fun x k h=>by simp [join,h]
theorem le_join_l {a b:H} (h:Dj a b):Le a (join a b):=fun x k hk=>by
 rcases h x with h | h
 ·rw [h] at hk; cases hk
 ·simp [join,h,hk]
theorem le_join_of {a b g:H} (h1:Le a g) (h2:Le b g):Le (join a b) g:=fun x k hk=>by
 simp only [join] at hk
 cases hb:b x with
 | none=>rw [hb] at hk; exact h1 x k (by simpa using hk)
 | some k'=>rw [hb] at hk; simp at hk; subst hk; exact h2 x _ hb
theorem join_le_iff {a b g:H} (hd:Dj a b):Le (join a b) g ↔ Le a g /\ Le b g :=
 ⟨fun h=>⟨le_trans' (le_join_l hd) h,le_trans' (le_join_r a b) h⟩,fun h=>le_join_of h.1 h.2⟩
theorem dis_dj {g d:H} (h:Dis g d):Dj g d:=fun x=>by
 cases hd:d x with
 | none=>exact .inr rfl
 | some k=>exact .inl (h x (by simp [hd]))
theorem dj_le {a b c:H} (h:Dj a b) (hl:∀ x,(c x).isSome = true -> (a x).isSome = true):Dj c b:=fun x=>by
 rcases h x with h | h
 ·left
  cases hc:c x with
  | none=>rfl
  | some k=>have:=hl x (by simp [hc]); rw [h] at this; cases this
 ·exact .inr h
theorem dj_of_le {a b c:H} (h:Dj a b) (hl:Le c a):Dj c b:=dj_le h fun x hx=>by
 cases hc:c x with
 | none=>rw [hc] at hx; cases hx
 | some k=>simp [hl x k hc]
theorem R_und {v:Value}:R ι F .und v:=by simp [R]
mutual
theorem R_OV:∀ (v:V) {r:Value},R ι F v r -> OV ι F v r emp
 | .und,_,h=>by simp only [OV]; exact ⟨trivial,h⟩
 | .int _ _,_,h=>by simp only [OV]; exact ⟨trivial,h⟩
 | .bool _,_,h=>by simp only [OV]; exact ⟨trivial,h⟩
 | .str _,_,h=>by simp only [OV]; exact ⟨trivial,h⟩
 | .agg l,_,h=>by
  simp only [R] at h; simp only [OV]; obtain ⟨cs,h1,h2⟩:=h; exact ⟨cs,h1,RL_OL l h2⟩
 | .tup l,_,h=>by
  simp only [R] at h; simp only [OV]; obtain ⟨cs,h1,h2⟩:=h; exact ⟨cs,h1,RL_OL l h2⟩
 | .ptr b off,_,h=>by simp only [OV]; exact ⟨trivial,h⟩
 | .nilp,_,h=>by simp only [OV]; exact ⟨trivial,h⟩
 | .pf l off,_,h=>by simp only [OV]; exact ⟨trivial,h⟩
 | .sl n l,_,h=>by simp only [OV]; exact ⟨trivial,h⟩
 | .rf b off n,_,h=>by simp only [OV]; exact ⟨trivial,h⟩
 | .nils,_,h=>by simp only [OV]; exact ⟨trivial,h⟩
 | .own ..,_,h=>by simp [R] at h
 | .fn f l,_,h=>by simp only [OV]; exact ⟨trivial,h⟩
 | .fz x l,_,h=>by simp only [OV]; exact ⟨trivial,h⟩
theorem RL_OL:∀ (l:List V) {r:List Value},RL ι F l r -> OL ι F l r emp
 | [],_,h=>by simp only [RL] at h; simp only [OL]; exact ⟨h,trivial⟩
 | a :: l,_,h=>by
  simp only [RL] at h; simp only [OL]
  obtain ⟨v,r',h1,h2,h3⟩:=h
  exact ⟨v,r',emp,emp,h1,by rw [join_emp_r],dj_emp_r _,R_OV a h2,RL_OL l h3⟩
end
theorem OV_plain {v:V} (hp:plain1 v = true) {r:Value} {d:H} (h:OV ι F v r d):d = emp /\ R ι F v r:=by
 cases v <;> simp only [plain1,Bool.false_eq_true] at hp <;> simpa only [OV] using h
theorem OL_plain:∀ {l:List V} (hp:noOwn l = true) {r:List Value} {d:H},OL ι F l r d -> d = emp /\ RL ι F l r
 | [],_,_,_,h=>by simp only [OL] at h; simp only [RL]; exact ⟨h.2,h.1⟩
 | a :: l,hp,_,_,h=>by
  simp only [noOwn,List.all_cons,Bool.and_eq_true] at hp
  simp only [OL] at h
  obtain ⟨v,r',d1,d2,h1,h2,h3,h4,h5⟩:=h
  obtain ⟨e1,q1⟩:=OV_plain hp.1 h4
  obtain ⟨e2,q2⟩:=OL_plain (l:=l) hp.2 h5
  subst e1; subst e2
  simp only [RL]
  exact ⟨by rw [h2,join_emp_r],v,r',h1,q1,q2⟩
theorem RL_len:∀ {l:List V} {r:List Value},RL ι F l r -> r.length = l.length
 | [],_,h=>by simp only [RL] at h; simp [h]
 | a :: l,_,h=>by
  simp only [RL] at h; obtain ⟨v,r',h1,_,h3⟩:=h; simp [h1,RL_len h3]
theorem OL_len:∀ {l:List V} {r:List Value} {d:H},OL ι F l r d -> r.length = l.length
 | [],_,_,h=>by simp only [OL] at h; simp [h.1]
 | a :: l,_,_,h=>by
  simp only [OL] at h; obtain ⟨v,r',d1,d2,h1,_,_,_,h3⟩:=h; simp [h1,OL_len h3]
theorem RL_get:∀ {l:List V} {r:List Value},RL ι F l r -> ∀ (i:Nat),R ι F (l.getD i .und) (r.getD i undef)
 | [],_,h,i=>by simp [R]
 | a :: l,_,h,i=>by
  simp only [RL] at h; obtain ⟨v,r',h1,h2,h3⟩:=h
  subst h1
  cases i with
  | zero=>simpa using h2
  | succ i=>simpa using RL_get h3 i
theorem RL_get? {l:List V} {r:List Value} (h:RL ι F l r) {i:Nat} {v:V} (hv:l[i]? = some v):∃ x,r[i]? = some x /\ R ι F v x:=by
 have hi:i < l.length:=by
  rcases Nat.lt_or_ge i l.length with h | h
  ·exact h
  ·rw [List.getElem?_eq_none h] at hv; cases hv
 have hl:=RL_len h
 have:=RL_get h i
 refine ⟨r[i]'(by omega),List.getElem?_eq_getElem (by omega),?_⟩
 rw [List.getElem?_eq_getElem hi] at hv
 cases hv
 simpa [List.getD,List.getElem?_eq_getElem hi,List.getElem?_eq_getElem (show i < r.length by omega)] using this
theorem RL_append:∀ {l m:List V} {r s:List Value},RL ι F l r -> RL ι F m s -> RL ι F (l ++ m) (r ++ s)
 | [],m,r,s,h1,h2=>by simp only [RL] at h1; simpa [h1] using h2
 | a :: l,m,r,s,h1,h2=>by
  simp only [RL] at h1; obtain ⟨v,r',e,ha,hl⟩:=h1
  subst e
  simp only [List.cons_append,RL]
  exact ⟨v,r' ++ s,rfl,ha,RL_append hl h2⟩
theorem RL_take:∀ {l:List V} {r:List Value} (n:Nat),RL ι F l r -> RL ι F (l.take n) (r.take n)
 | l,r,0,h=>by simp [RL]
 | [],r,n + 1,h=>by simp only [RL] at h; simp [h,RL]
 | a :: l,r,n + 1,h=>by
  simp only [RL] at h; obtain ⟨v,r',e,ha,hl⟩:=h
  subst e
  simp only [List.take_succ_cons,RL]
  exact ⟨v,_,rfl,ha,RL_take n hl⟩
theorem RL_drop:∀ {l:List V} {r:List Value} (n:Nat),RL ι F l r -> RL ι F (l.drop n) (r.drop n)
 | l,r,0,h=>by simpa using h
 | [],r,n + 1,h=>by simp only [RL] at h; simp [h,RL]
 | a :: l,r,n + 1,h=>by
  simp only [RL] at h; obtain ⟨v,r',e,ha,hl⟩:=h
  subst e
  simpa using RL_drop n hl
theorem RL_flat:∀ (n:Nat) {l:List V} {r:List Value},RL ι F l r -> RL ι F (List.replicate n l).flatten (List.replicate n r).flatten
 | 0,l,r,h=>by simp [RL]
 | n + 1,l,r,h=>by simp only [List.replicate_succ,List.flatten_cons]; exact RL_append h (RL_flat n h)
theorem OL_append:∀ {l m:List V} {r s:List Value} {d1 d2:H},OL ι F l r d1 -> OL ι F m s d2 -> Dj d1 d2 -> OL ι F (l ++ m) (r ++ s) (join d1 d2)
 | [],m,r,s,d1,d2,h1,h2,hd=>by
  simp only [OL] at h1; obtain ⟨e1,e2⟩:=h1; subst e1; subst e2; simpa [join_emp_l] using h2
 | a :: l,m,r,s,d1,d2,h1,h2,hd=>by
  simp only [OL] at h1
  obtain ⟨v,r',da,dl,e,e2,hdj,ha,hl⟩:=h1
  subst e; subst e2
  rw [dj_join_l] at hd
  simp only [List.cons_append,OL]
  exact ⟨v,r' ++ s,da,join dl d2,rfl,join_assoc _ _ _,dj_join_r.2 ⟨hdj,hd.1⟩,ha,OL_append hl h2 hd.2⟩
theorem OL_split:∀ {l m:List V} {r:List Value} {d:H},OL ι F (l ++ m) r d -> ∃ r1 r2 d1 d2,r = r1 ++ r2 /\ r1.length = l.length /\ d = join d1 d2 /\ Dj d1 d2 /\ OL ι F l r1 d1 /\ OL ι F m r2 d2
 | [],m,r,d,h=>⟨[],r,emp,d,rfl,rfl,(join_emp_l d).symm,dj_emp_l _,by simp [OL],h⟩
 | a :: l,m,r,d,h=>by
  simp only [List.cons_append,OL] at h
  obtain ⟨v,r',da,dl,e,e2,hdj,ha,hl⟩:=h
  obtain ⟨r1,r2,d1,d2,e3,e4,e5,hdj2,h1,h2⟩:=OL_split hl
  subst e; subst e2; subst e3; subst e5
  rw [dj_join_r] at hdj
  refine ⟨v :: r1,r2,join da d1,d2,rfl,by simp [e4],(join_assoc _ _ _).symm,dj_join_l.2 ⟨hdj.2,hdj2⟩,?_,h2⟩
  simp only [OL]
  exact ⟨v,r1,da,d1,rfl,rfl,hdj.1,ha,h1⟩
theorem OL_take {l:List V} {r:List Value} {d:H} (n:Nat) (h:OL ι F l r d):∃ d1,OL ι F (l.take n) (r.take n) d1 /\ Le d1 d:=by
 have hl:=OL_len h
 rw [<-List.take_append_drop n l] at h
 obtain ⟨r1,r2,d1,d2,e3,e4,e5,hdj,h1,h2⟩:=OL_split h
 refine ⟨d1,?_,e5 ▸ le_join_l hdj⟩
 have:r.take n = r1:=by
  subst e3
  rw [List.length_take] at e4
  rcases Nat.le_total n l.length with h3 | h3
  ·rw [List.take_append_of_le_length (by omega),List.take_of_length_le (by omega)]
  ·have:r2.length = 0:=by simp only [List.length_append] at hl; omega
   rw [List.length_eq_zero_iff] at this
   subst this
   rw [List.append_nil,List.take_of_length_le (by omega)]
 rw [this]; exact h1
theorem OL_seg {l:List V} {r:List Value} {d:H} (o n:Nat) (h:OL ι F l r d):∃ d1,OL ι F ((l.drop o).take n) ((r.drop o).take n) d1 /\ Le d1 d:=by
 have hl:=OL_len h
 rw [<-List.take_append_drop o l] at h
 obtain ⟨r1,r2,d1,d2,e3,e4,e5,hdj,h1,h2⟩:=OL_split h
 obtain ⟨d3,h3,h4⟩:=OL_take n h2
 refine ⟨d3,?_,le_trans' h4 (e5 ▸ le_join_r _ _)⟩
 have:r.drop o = r2:=by
  subst e3
  rw [List.length_take] at e4
  rcases Nat.le_total o l.length with h5 | h5
  ·rw [List.drop_append,List.drop_of_length_le (by omega)]; simp; rw [show o - r1.length = 0 by omega]; rfl
  ·have:r2.length = 0:=by simp only [List.length_append] at hl; omega
   rw [List.length_eq_zero_iff] at this
   subst this
   rw [List.append_nil,List.drop_of_length_le (by omega)]
 rw [this]; exact h3
theorem OL_get:∀ {l:List V} {r:List Value} {d:H} (i:Nat),OL ι F l r d -> i < l.length -> ∃ d1,OV ι F (l.getD i .und) (r.getD i undef) d1 /\ Le d1 d
 | [],_,_,i,h,hi=>by simp at hi
 | a :: l,_,_,i,h,hi=>by
  simp only [OL] at h
  obtain ⟨v,r',da,dl,e,e2,hdj,ha,hl⟩:=h
  subst e; subst e2
  cases i with
  | zero=>exact ⟨da,by simpa using ha,le_join_l hdj⟩
  | succ i =>
   obtain ⟨d1,h1,h2⟩:=OL_get i hl (by simpa using hi)
   exact ⟨d1,by simpa using h1,le_trans' h2 (le_join_r _ _)⟩
theorem OL_seg_set {l:List V} {r:List Value} {d:H} (o:Nat) {vs:List V} {xs:List Value} (h:OL ι F l r d) (hv:RL ι F vs xs) (ho:o + vs.length <= l.length) :
  ∃ d2,OL ι F (l.take o ++ vs ++ l.drop (o + vs.length)) (r.take o ++ xs ++ r.drop (o + xs.length)) d2 /\ Le d2 d:=by
 have hl:=OL_len h
 have hvl:=RL_len hv
 have h':=h
 rw [<-List.take_append_drop o l] at h'
 obtain ⟨r1,r2,d1,d2,e3,e4,e5,hdj,h1,h2⟩:=OL_split h'
 rw [<-List.take_append_drop vs.length (l.drop o)] at h2
 obtain ⟨r3,r4,d3,d4,e6,e7,e8,hdj2,h3,h4⟩:=OL_split h2
 subst e3; subst e5; subst e6; subst e8
 rw [List.length_take] at e4 e7
 rw [List.length_drop] at e7
 rw [dj_join_r] at hdj
 refine ⟨join d1 d4,?_,le_join_of (le_join_l (dj_join_r.2 hdj)) (le_trans' (le_join_r _ _) (le_join_r _ _))⟩
 have e9:(r1 ++ (r3 ++ r4)).take o = r1:=by
  rw [List.take_append_of_le_length (by omega),List.take_of_length_le (by omega)]
 have e10:(r1 ++ (r3 ++ r4)).drop (o + xs.length) = r4:=by
  rw [<-List.append_assoc,List.drop_append,List.drop_of_length_le (by simp; omega)]
  simp only [List.nil_append,List.length_append]
  rw [show o + xs.length - (r1.length + r3.length) = 0 by omega]; rfl
 rw [e9,e10]
 have h5:=OL_append h1 (RL_OL vs hv) (dj_emp_r _)
 rw [join_emp_r] at h5
 rw [List.drop_drop] at h4
 exact OL_append h5 h4 hdj.2
end
end
section
set_option linter.constructorNameAsVariable false
section
variable {ι ι':Iota} {F g:H}
theorem vws_length:∀ (l:List V),(vws l).length = l.length
 | []=>rfl
 | a :: l=>by simp [vws,vws_length l]
mutual
theorem vw_R (hF:Le F g):∀ (v:V) {r:Value},R ι F v r -> R ι' g (vw v) r
 | .und,_,h=>by simp [vw,R]
 | .int _ _,_,h=>by simpa [vw,R] using h
 | .bool _,_,h=>by simpa [vw,R] using h
 | .str _,_,h=>by simpa [vw,R] using h
 | .agg l,_,h=>by
  simp only [R] at h; simp only [vw,R]; obtain ⟨cs,h1,h2⟩:=h; exact ⟨cs,h1,vws_RL hF l h2⟩
 | .tup l,_,h=>by
  simp only [R] at h; simp only [vw,R]; obtain ⟨cs,h1,h2⟩:=h; exact ⟨cs,h1,vws_RL hF l h2⟩
 | .ptr b off,_,h=>by simp [vw,R]
 | .nilp,_,h=>by simpa [vw,R] using h
 | .pf l off,_,h=>by
  simp only [R] at h; simp only [vw,R,vws_length]; obtain ⟨b,o,own,e,cs,ex,h1,h2,h3,h4⟩:=h; exact ⟨b,o,own,e,cs,ex,h1,hF _ _ h2,h3,vws_RL hF l h4⟩
 | .sl n l,_,h=>by
  simp only [R] at h; simp only [vw,R,vws_length]
  rcases h with ⟨h1,h2,h3⟩ | ⟨b,o,c,h1,h2,h3⟩
  ·exact .inl ⟨h1,by simp [h2,vws],h3⟩
  ·refine .inr ⟨b,o,c,h1,h2,?_⟩
   rcases h3 with h3 | ⟨own,e,cs,ex,h3,h4,h5⟩
   ·exact .inl (by simp [h3,vws])
   ·exact .inr ⟨own,e,cs,ex,hF _ _ h3,h4,vws_RL hF l h5⟩
 | .rf b off n,_,h=>by simp [vw,R]
 | .nils,_,h=>by simpa [vw,R] using h
 | .own ..,_,h=>by simp [R] at h
 | .fn f l,_,h=>by
  simp only [R] at h; simp only [vw,R]; obtain ⟨cs,h1,h2⟩:=h; exact ⟨cs,h1,vws_RL hF l h2⟩
 | .fz x l,_,h=>by simp only [R] at h; simp only [vw,R]; exact ⟨h.1,FZ_mono hF h.2⟩
theorem vws_RL (hF:Le F g):∀ (l:List V) {r:List Value},RL ι F l r -> RL ι' g (vws l) r
 | [],_,h=>by simpa [vws,RL] using h
 | a :: l,_,h=>by
  simp only [RL] at h; simp only [vws,RL]; obtain ⟨v,r',h1,h2,h3⟩:=h; exact ⟨v,r',h1,vw_R hF a h2,vws_RL hF l h3⟩
end
mutual
theorem vw_OV (hF:Le F g):∀ (v:V) {r:Value} {d:H},OV ι F v r d -> Le d g -> R ι' g (vw v) r
 | .own e sz n l,_,_,h,hd=>by
  simp only [OV] at h
  obtain ⟨b,c,rcs,ex,d',h1,h2,h3,h4,h5,h6,h7,h8,h9⟩:=h
  subst h7
  have hdj:Dj (single b (.row true e rcs ex)) d':=fun x=>by
   by_cases hx:x = b
   ·subst hx; exact .inr h8
   ·exact .inl (by simp [single,hx])
  rw [join_le_iff hdj] at hd
  simp only [vw,R,vws_length]
  refine .inr ⟨b,0,c,h1,h2,.inr ⟨true,e,rcs,ex,hd.1 b _ (by simp [single]),by omega,?_⟩⟩
  exact vws_OL hF l h9 hd.2
 | .agg l,_,_,h,hd=>by
  simp only [OV] at h; simp only [vw,R]; obtain ⟨cs,h1,h2⟩:=h; exact ⟨cs,h1,vws_OL hF l h2 hd⟩
 | .tup l,_,_,h,hd=>by
  simp only [OV] at h; simp only [vw,R]; obtain ⟨cs,h1,h2⟩:=h; exact ⟨cs,h1,vws_OL hF l h2 hd⟩
 | .und,_,_,h,hd=>by simp only [OV] at h; exact vw_R hF _ h.2
 | .int _ _,_,_,h,hd=>by simp only [OV] at h; exact vw_R hF _ h.2
 | .bool _,_,_,h,hd=>by simp only [OV] at h; exact vw_R hF _ h.2
 | .str _,_,_,h,hd=>by simp only [OV] at h; exact vw_R hF _ h.2
 | .ptr _ _,_,_,h,hd=>by simp only [OV] at h; exact vw_R hF _ h.2
 | .nilp,_,_,h,hd=>by simp only [OV] at h; exact vw_R hF _ h.2
 | .pf _ _,_,_,h,hd=>by simp only [OV] at h; exact vw_R hF _ h.2
 | .sl _ _,_,_,h,hd=>by simp only [OV] at h; exact vw_R hF _ h.2
 | .rf _ _ _,_,_,h,hd=>by simp only [OV] at h; exact vw_R hF _ h.2
 | .nils,_,_,h,hd=>by simp only [OV] at h; exact vw_R hF _ h.2
 | .fn _ _,_,_,h,hd=>by simp only [OV] at h; exact vw_R hF _ h.2
 | .fz _ _,_,_,h,hd=>by simp only [OV] at h; exact vw_R hF _ h.2
theorem vws_OL (hF:Le F g):∀ (l:List V) {r:List Value} {d:H},OL ι F l r d -> Le d g -> RL ι' g (vws l) r
 | [],_,_,h,hd=>by simp only [OL] at h; simp [vws,RL,h.1]
 | a :: l,_,_,h,hd=>by
  simp only [OL] at h; simp only [vws,RL]
  obtain ⟨v,r',d1,d2,h1,h2,h3,h4,h5⟩:=h
  subst h2
  rw [join_le_iff h3] at hd
  exact ⟨v,r',h1,vw_OV hF a h4 hd.1,vws_OL hF l h5 hd.2⟩
end
theorem single_dj {b:Nat} {k:Blk} {d:H} (h:d b = Option.none):Dj (single b k) d:=fun x=>by
 by_cases hx:x = b
 ·subst hx; exact .inr h
 ·exact .inl (by simp [single,hx])
theorem Hold.blk {h:Hp} {D:Nat -> H} (hh:Hold ι F h D g) {b:Nat} {e:TypeId} {sz:Nat} {cs:List V} (hb:h b = .row e sz cs) :
  ∃ b' rcs ex d',ι b = some (b',rcs.length + ex,sz) /\ D b = join (single b' (.row true e rcs ex)) d' /\ d' b' = Option.none /\ cs.length <= rcs.length /\ OL ι F cs (rcs.take cs.length) d' /\
   g b' = some (.row true e rcs ex) /\ Le d' g:=by
 obtain ⟨b',rcs,ex,d',h1,h2,h3,h4,h5⟩:=hh.live b e sz cs hb
 have:=hh.sub b
 rw [h2,join_le_iff (single_dj h3)] at this
 exact ⟨b',rcs,ex,d',h1,h2,h3,h4,h5,this.1 b' _ (by simp [single]),this.2⟩
mutual
theorem dv_R {h:Hp} {D:Nat -> H} (hh:Hold ι F h D g):∀ (v:V) {r:Value},R ι F v r -> R ι' g (dv h v) r
 | .und,_,hr=>by simp [dv,R]
 | .int _ _,_,hr=>by simpa [dv,R] using hr
 | .bool _,_,hr=>by simpa [dv,R] using hr
 | .str _,_,hr=>by simpa [dv,R] using hr
 | .agg l,_,hr=>by
  simp only [R] at hr; simp only [dv,R]; obtain ⟨cs,h1,h2⟩:=hr; exact ⟨cs,h1,dvs_RL hh l h2⟩
 | .tup l,_,hr=>by
  simp only [R] at hr; simp only [dv,R]; obtain ⟨cs,h1,h2⟩:=hr; exact ⟨cs,h1,dvs_RL hh l h2⟩
 | .ptr b off,r,hr=>by
  simp only [dv]
  cases hb:h b with
  | free=>simp [R]
  | dead=>simp [R]
  | row e sz cs =>
   obtain ⟨b',rcs,ex,d',h1,h2,h3,h4,h5,h6,h7⟩:=hh.blk hb
   simp only [R] at hr
   obtain ⟨b2,tot,sz2,q1,q2⟩:=hr
   rw [h1] at q1
   cases q1
   simp only [R,vws_length]
   refine ⟨b',0,true,e,rcs,ex,by rw [q2,Nat.zero_add],h6,by omega,?_⟩
   rw [List.drop_zero]
   exact vws_OL (ι':=ι') (g:=g) hh.leF _ h5 h7
 | .nilp,_,hr=>by simpa [dv,R] using hr
 | .pf l off,_,hr=>by
  have:=vw_R (ι':=ι') hh.leF _ hr; simpa only [dv,vw] using this
 | .sl n l,_,hr=>by
  have:=vw_R (ι':=ι') hh.leF _ hr; simpa only [dv,vw] using this
 | .rf b off n,r,hr=>by
  simp only [dv]
  cases hb:h b with
  | free=>simp [R]
  | dead=>simp [R]
  | row e sz cs =>
   obtain ⟨b',rcs,ex,d',h1,h2,h3,h4,h5,h6,h7⟩:=hh.blk hb
   simp only [R] at hr
   obtain ⟨b2,tot,sz2,off',c,q1,q2,q3,q4,q5,q6⟩:=hr
   rw [h1] at q1
   cases q1
   simp only [R,vws_length]
   refine .inr ⟨b',off',c,q2,q4,?_⟩
   by_cases h0:(cs.drop off).take (n * sz) = []
   ·left; rw [h0]; simp [vws]
   ·right
    have hn:n ≠ 0:=fun hn=>h0 (by simp [hn])
    have:off' = off:=q3 (.inl hn)
    subst this
    have ho:off' <= cs.length:=by
     rcases Nat.lt_or_ge cs.length off' with h | h
     ·exact absurd (by rw [List.drop_eq_nil_of_le (by omega)]; simp) h0
     ·exact h
    refine ⟨true,e,rcs,ex,h6,by simp; omega,?_⟩
    obtain ⟨d1,h8,h9⟩:=OL_seg off' (n * sz) h5
    have h10:=vws_OL (ι':=ι') (g:=g) hh.leF _ h8 (le_trans' h9 h7)
    have:List.take ((cs.drop off').take (n * sz)).length (rcs.drop off') = List.take (n * sz) (List.drop off' (rcs.take cs.length)):=by
     rw [List.drop_take,List.take_take,List.length_take,List.length_drop]
    rw [this]
    exact h10
 | .nils,_,hr=>by simpa [dv,R] using hr
 | .own ..,_,hr=>by simp [R] at hr
 | .fn f l,_,hr=>by
  simp only [R] at hr; simp only [dv,R]; obtain ⟨cs,h1,h2⟩:=hr; exact ⟨cs,h1,dvs_RL hh l h2⟩
 | .fz x l,_,hr=>by simp only [R] at hr; simp only [dv,R]; exact ⟨hr.1,FZ_mono hh.leF hr.2⟩
theorem dvs_RL {h:Hp} {D:Nat -> H} (hh:Hold ι F h D g):∀ (l:List V) {r:List Value},RL ι F l r -> RL ι' g (dvs h l) r
 | [],_,hr=>by simpa [dvs,RL] using hr
 | a :: l,_,hr=>by
  simp only [RL] at hr; simp only [dvs,RL]; obtain ⟨v,r',h1,h2,h3⟩:=hr; exact ⟨v,r',h1,dv_R hh a h2,dvs_RL hh l h3⟩
end
end
end
end Go.Proofs.YtbjbpmicnmjbfaaGreat.Sep

/- From the model's operations to the lean ones, and that the ones which only yield a value are told truly. -/
import Derived.Test.YtjklebickfcddaaDoorSepA
namespace Go.Proofs.YtjklebickfcddaaDoor.Sep
open Go.RowKit
set_option linter.unusedVariables false
set_option linter.unusedSimpArgs false

def zc (P : Program) (e : TypeId) : Option (List Value) :=
  (P.info? e).bind fun i => i.zero.bind fun z => if z.cells.all (·.oneCell') && z.cells.size == i.size then some z.cells.toList else none
def szOf (P : Program) (t : TypeId) : Option Nat := (P.info? t).map (·.size)
def aggT (P : Program) (t : TypeId) : Option Bool :=
  match P.underlying t with
  | some (.struct _) | some (.array _ _) => some true
  | some _ => some false
  | none => none
/-- How a value of a type lies in cells: one cell, or an aggregate of so many. -/
def nOf (P : Program) (t : TypeId) : Option (Option Nat) :=
  match aggT P t with
  | some true => (szOf P t).map some
  | some false => some none
  | none => none

/-- Where the parts of a value lie: the cell at which each begins, and how many it has. -/
def placeOf (P : Program) (t : TypeId) : Option (Nat → Option (Nat × Nat)) :=
  match P.underlying t with
  | some (.struct fs) => (fs.toList.mapM fun f => (P.info? f.type).map fun i => (f.offset, i.size)).map fun l => (l.toArray[·]?)
  | some (.array _ e) | some (.slice e) => (P.info? e).map fun i => fun k => some (k * i.size, i.size)
  | _ => none

def partsOf {α : Type} (place : Nat → Option (Nat × Nat)) (parts : List (Nat × α)) : Option (List (Nat × Nat × α)) :=
  parts.mapM fun p => (place p.1).map fun q => (q.1, q.2, p.2)

def sgRow (P : Program) (sub : TypeId → Option (List Sg)) : List Field → Nat → Option (List Sg)
  | [], _ => some []
  | f :: r, off => if f.offset = off ∧ f.name ≠ "_" then (sub f.type).bind fun l =>
      if szOf P f.type = some l.length then (sgRow P sub r (off + l.length)).map (l ++ ·) else none else none

/-- What the cells of a type's values hold, where they can be told equal cell by cell. -/
def sigOf (P : Program) : Nat → TypeId → Option (List Sg)
  | 0, _ => none
  | d + 1, t =>
    match P.underlying t with
    | some (.int k) => if szOf P t = some 1 then some [.i k] else none
    | some .bool => if szOf P t = some 1 then some [.b] else none
    | some .string => if szOf P t = some 1 then some [.s] else none
    | some (.struct fs) => if P.stoodInHeld t then none else
        (sgRow P (sigOf P d) fs.toList 0).bind fun l => if szOf P t = some l.length then some l else none
    | some (.array n e) => (sigOf P d e).bind fun l => if szOf P e = some l.length ∧ szOf P t = some (n * l.length) then some (List.replicate n l).flatten else none
    | _ => none

def eqaOf (P : Program) (op : BinOp) (t : TypeId) (x y : Operand) : Option AOp :=
  if P.eqGuardType P.depth t then none else
    (sigOf P 20 t).bind fun sg => (aggT P t).bind fun ag => match op with
    | .eql => some (.eqa false ag sg x y)
    | .neq => some (.eqa true ag sg x y)
    | _ => none

def binOf (P : Program) (op : BinOp) (t : TypeId) (x y : Operand) : Option AOp :=
  match P.underlying t with
  | some (.int _) | some .string => some (.bin op x y)
  | _ => none

def cvOf (P : Program) (src dst : TypeId) (x : Operand) : Option AOp :=
  match P.underlying src, P.underlying dst with
  | some (.int _), some (.int k) => some (.cvi k x)
  | some .string, some .string => some (.cvs x)
  | some .string, some (.slice e) => match P.underlying e with
    | some (.int .u8) => some (.s2b e x)
    | _ => none
  | some (.slice e), some .string => match P.underlying e with
    | some (.int .u8) => some (.b2s x)
    | _ => none
  | _, _ => none

def callOf (P : Program) (c : Call) : Option AOp :=
  match c.callee with
  | .value (.func f) => match P.funcs[f]? with
    | some fn => if fn.name == "runtime.NumGoroutine" || fn.body.isNone then none else some (.call f c.args.toList)
    | none => none
  | .value x => some (.callv x c.args.toList)
  | .builtin .len => match (c.argTypes[0]?).bind P.underlying, c.args.toList with
    | some .string, [x] => some (.lenT x)
    | some (.slice _), [x] => some (.lenS x)
    | some (.array n _), [_] => some (.mv (.const (.int .i64 n)))
    | some (.map _ _), [x] => some (.lenM x)
    | _, _ => none
  | .builtin .max => match c.args.toList with
    | [x, y] => some (.max x y)
    | _ => none
  | .builtin .min => match c.args.toList with
    | [x, y] => some (.min x y)
    | _ => none
  | .builtin .append => match c.argTypes.toList, c.args.toList with
    | [t, u], [s, x] => match P.underlying t with
      | some (.slice e) => (zc P e).bind fun z => (P.info? e).bind fun i =>
          if u = t then (if 0 < i.size then some (.app e i.size i.bytes z [] s x) else none)
          else match P.underlying u, P.underlying e with
            | some .string, some (.int .u8) => if i.size = 1 ∧ i.bytes = 1 then some (.appT e s x) else none
            | _, _ => none
      | _ => none
    | _, _ => none
  | .builtin .copy => match (c.argTypes[0]?).bind P.underlying, (c.argTypes[1]?).bind P.underlying, c.args.toList with
    | some (.slice e), some (.slice _), [d, s] => (szOf P e).map fun n => .cpy n d s
    | some (.slice e), some .string, [d, s] => if szOf P e = some 1 then some (.cpyT d s) else none
    | _, _, _ => none
  | .builtin .clear => match (c.argTypes[0]?).bind P.underlying, c.args.toList with
    | some (.slice e), [x] => (zc P e).map fun z => .clr z x
    | _, _ => none
  | _ => none

def compOp (P : Program) (o : Oper) : Option AOp :=
  match o.op with
  | .move x | .assign x => some (.mv x)
  | .nilCheck x => some (.fa 0 x)
  | .pick c a b => some (.pick c a b)
  | .alloc e => (zc P e).map fun z => .alloc e z
  | .box e x => some (.box e x)
  | .build t parts => (zc P t).bind fun z => match P.underlying t with
    | some (.slice _) => none
    | _ => (placeOf P t).bind fun pl => (partsOf pl parts.toList).map fun ps => .bld z ps
  | .buildSlice t len parts => match P.underlying t with
    | some (.slice e) => (zc P e).bind fun z => (placeOf P t).bind fun pl => (partsOf pl parts.toList).bind fun ps =>
        if len * z.length ≤ 2 ^ 24 then some (.mks e ((List.range (len * z.length)).map fun k => z.getD (k % z.length) undef) len ps) else none
    | _ => none
  | .load t a => (nOf P t).map fun n => .ld n a
  | .store t a x => (szOf P t).map fun n => .st n a x
  | .binOp op t x y _ => match P.underlying t with
    | some (.struct _) | some (.array _ _) | some .bool => eqaOf P op t x y
    | some (.slice _) => match y with
      | .const (.slice none 0 0) => match op with
        | .eql => some (.nilS false x)
        | .neq => some (.nilS true x)
        | _ => none
      | _ => none
    | _ => binOf P op t x y
  | .unOp op _ x => some (.un op x)
  | .convert src dst x => cvOf P src dst x
  | .makeFunc fn first cap => some (.mkf fn first.toList cap.toList)
  | .makeSlice t l c => match P.underlying t with
    | some (.slice e) => (zc P e).bind fun z => (P.info? e).map fun i => .mk e i.bytes z l c
    | _ => none
  | .slice t x lo hi none => match P.underlying t with
    | some (.array n e) => (szOf P e).map fun s => .slA n s x lo hi
    | some (.slice e) => (szOf P e).map fun s => .slS s x lo hi
    | some .string => some (.slT x lo hi)
    | _ => none
  | .fieldAddr s x f => match P.underlying s with
    | some (.struct fs) => (fs[f]?).bind fun g => (szOf P g.type).bind fun n => if n = 0 then none else some (.fa g.offset x)
    | _ => none
  | .field t x f => match P.underlying t with
    | some (.struct fs) => (fs[f]?).bind fun g => (nOf P g.type).map fun n => .fd n g.offset x
    | _ => none
  | .indexAddr t x i => match P.underlying t with
    | some (.array n e) => (szOf P e).map fun s => .ixA n s x i
    | some (.slice e) => (szOf P e).map fun s => .ixS s x i
    | _ => none
  | .index t x i => match P.underlying t with
    | some (.array n e) => (szOf P e).bind fun s => (nOf P e).map fun m => .ixV n s m x i
    | some .string => some (.ixT x i)
    | _ => none
  | .extract x i => some (.ext x i)
  | .call c => callOf P c
  | .makeMap _ none => some .mkm
  | .panic _ => some .bad
  | .makeInterface _ _ => some .bad
  | _ => none

/-! ### What is read of memory -/

theorem Sat.cell {B : Bd} {w0 w : World} {h : H} (hs : Sat B w0 w h) {b i : Nat} {own : Bool} {e : TypeId} {cs : List Value} {ex : Nat}
    (hb : h b = some (.row own e cs ex)) (hi : i < cs.length) : w.cell? ⟨b, i, none⟩ = some (cs.getD i undef) := by
  obtain ⟨⟨o, ho, c, fr, rfl, hsz, htk, _⟩, _⟩ := hs.blk b _ hb
  rw [cell_of_row w b i c e fr ho]
  have h1 : c.toList[i]? = cs[i]? := by rw [← htk, List.getElem?_take, if_pos hi]; 
  rw [← Array.getElem?_toList, h1, List.getElem?_eq_getElem hi]
  simp [List.getD, List.getElem?_eq_getElem hi]

theorem run_isAgg {P : Program} {t : TypeId} {b : Bool} (h : aggT P t = some b) (w : World) : (isAgg t).run P w = .ok b w := by
  unfold aggT at h
  cases hu : P.underlying t with
  | none => simp [hu] at h
  | some d => cases d <;> simp [hu] at h <;> subst h <;> simp [isAgg, run_underlying hu]

theorem run_sizeOf {P : Program} {t : TypeId} {n : Nat} (h : szOf P t = some n) (w : World) : (sizeOf t).run P w = .ok n w := by
  unfold szOf at h
  cases hi : P.info? t with
  | none => simp [hi] at h
  | some i => simp [hi] at h; simp [sizeOf, typeInfo, hi, h]

theorem nOf_none {P : Program} {t : TypeId} (h : nOf P t = some none) : aggT P t = some false := by
  unfold nOf at h; split at h <;> simp_all
theorem nOf_some {P : Program} {t : TypeId} {n : Nat} (h : nOf P t = some (some n)) : aggT P t = some true ∧ szOf P t = some n := by
  unfold nOf at h; split at h <;> simp_all

theorem addr_add (b off j : Nat) : (⟨b, off, none⟩ : Addr).add j = ⟨b, off + j, none⟩ := by unfold Addr.add; split <;> simp_all

theorem cellsAt_run {P : Program} {B : Bd} {w0 w : World} {h : H} (hs : Sat B w0 w h) {b off : Nat} {own : Bool} {e : TypeId} {cs : List Value} {ex : Nat}
    (hb : h b = some (.row own e cs ex)) {t : TypeId} {n : Option Nat} (hn : nOf P t = some n) {v : Value} (hv : cellsAt cs off n = some v) :
    (loadVar t ⟨b, off, none⟩).run P w = .ok v w := by
  cases n with
  | none =>
    simp only [cellsAt, grd] at hv
    split at hv
    · rename_i hlt
      simp only [Option.some.injEq] at hv
      subst hv
      have hc := hs.cell hb hlt
      simp [loadVar, run_isAgg (nOf_none hn), load, Sem.run, hc]
    · simp at hv
  | some m =>
    obtain ⟨ha, hsz⟩ := nOf_some hn
    simp only [cellsAt, grd] at hv
    split at hv
    · rename_i hle
      simp only [Option.some.injEq] at hv
      subst hv
      have hl : ((cs.drop off).take m).length = m := by simp; omega
      have hr := run_loadCells_list (P := P) w ⟨b, off, none⟩ ((cs.drop off).take m) (fun j v hj => by
        have hj1 := hj
        rw [List.getElem?_take] at hj1
        split at hj1
        · rw [List.getElem?_drop] at hj1
          have hlt : off + j < cs.length := by omega
          have hc := hs.cell hb hlt
          rw [addr_add, hc]
          rw [List.getD, hj1]; rfl
        · simp at hj1)
      rw [hl] at hr
      simp [loadVar, run_isAgg ha, run_sizeOf hsz, hr]
    · simp at hv

theorem ald_run {P : Program} {B : Bd} {w0 w : World} {h hr : H} (hs : Sat B w0 w hr) (hle : Le h hr) {t : TypeId} {n : Option Nat} (hn : nOf P t = some n)
    {x v : Value} (hv : ald h n x = some v) : (Instr.loadAt t x).run P w = .ok v w := by
  unfold ald at hv
  split at hv
  · rename_i b off
    unfold ldB at hv
    split at hv
    · rename_i own e cs ex hb
      simp only [Instr.loadAt, Instr.sureAddr]
      simpa using cellsAt_run hs (hle _ _ hb) hn hv
    · simp at hv
  · simp at hv

end Go.Proofs.YtjklebickfcddaaDoor.Sep

/- The operations that turn memory; the transformer of one operation, and that it is sound. -/
import Derived.Test.YtjklebickfcddaaDoorSepD
namespace Go.Proofs.YtjklebickfcddaaDoor.Sep
open Go.RowKit
set_option linter.unusedVariables false
set_option linter.unusedSimpArgs false
set_option linter.constructorNameAsVariable false

def all1 (cs : List Value) : Bool := cs.all Value.oneCell'
/-- So many copies of a row of cells. -/
def reps (zero : List Value) (n : Nat) : List Value := (List.replicate n zero).flatten
/-- Cells stored over others. -/
def setL (cs : List Value) (off : Nat) : List Value → List Value
  | [v] => cs.set off v
  | vs => cs.take off ++ vs ++ cs.drop (off + vs.length)

/-- A call, pure or not. -/
def acall (P : Program) (f : FuncId) (args : List Value) (h : H) (K : Value → Eff → Prop) : Prop :=
  (∃ Φ, Spec P f args h Φ ∧ ∀ r d, Φ r d → K r (.new d)) ∨ (∃ Φ, SpecW P f args h Φ ∧ ∀ r h', Φ r h' → K r (.set h'))

/-- A pure call. -/
def acallp (P : Program) (f : FuncId) (args : List Value) (h : H) (K : Value → Eff → Prop) : Prop :=
  ∃ Φ, Spec P f args h Φ ∧ ∀ r d, Φ r d → K r (.new d)

/-- A function of the program that has a body. -/
def isFn (P : Program) (f : FuncId) : Bool :=
  match P.funcs[f]? with
  | some fn => !(fn.name == "runtime.NumGoroutine") && !fn.body.isNone
  | none => false

def acallv (P : Program) (h : H) (K : Value → Eff → Prop) (args : List Value) : Value → Prop
  | .func (.func f) first cap => isFn P f = true ∧ acall P f (first.toList ++ args ++ cap.toList) h K
  | _ => False

def anew (h : H) (k : Blk) (K : Nat → Eff → Prop) : Prop := ∀ b, New h b → K b (.new (single b k))

def aboxV (e : TypeId) (v : Value) (h : H) (K : Value → Eff → Prop) : Prop :=
  all1 v.cells.toList = true ∧ anew h (.row true e v.cells.toList 0) fun b e => K (.pointer (some ⟨b, 0, none⟩)) e

def amksV (e : TypeId) (len : Nat) (cs : List Value) (h : H) (K : Value → Eff → Prop) : Prop :=
  all1 cs = true ∧ anew h (.row true e cs 0) fun b e => K (.slice (some ⟨b, 0, none⟩) len len) e

def amkV (e : TypeId) (bytes : Nat) (zero : List Value) (h : H) (K : Value → Eff → Prop) : Value → Value → Prop
  | .int _ l, .int _ c => (0 ≤ l ∧ l ≤ c ∧ (bytes : Int) * c ≤ 281474976710656 ∧ c ≤ 9223372036854775807) ∧
      anew h (.row true e (reps zero c.toNat) 0) fun b e => K (.slice (some ⟨b, 0, none⟩) l.toNat c.toNat) e
  | _, _ => False

/-- The cells of a slice that is read. -/
def readB (sz o n : Nat) : Option Blk → Option (Nat × List Value)
  | some (.row _ _ cs _) => grd (o + n * sz ≤ cs.length) (some (n, (cs.drop o).take (n * sz)))
  | _ => none

def readS (sz : Nat) (h : H) : Value → Option (Nat × List Value)
  | .slice none 0 0 => some (0, [])
  | .slice (some ⟨b, o, sp⟩) n _ => if n = 0 then some (0, []) else if sp = none then readB sz o n (h b) else none
  | _ => none

def appB (e : TypeId) (sz bytes : Nat) (h : H) (K : Value → Eff → Prop) (b n cap m : Nat) (news : List Value) : Option Blk → Prop
  | some (.row true e' cs ex) => (e' = e ∧ n * sz ≤ cs.length ∧ n ≤ cap ∧ cap ≤ maxLen ∧ cap * sz = cs.length + ex ∧ n + m ≤ maxLen ∧ (n + m) * bytes ≤ 140737488355328) ∧
      ∀ b' cap' ex', New (erase h b) b' → n + m ≤ cap' → cap' ≤ maxLen → cap' * sz = (n + m) * sz + ex' →
        K (.slice (some ⟨b', 0, none⟩) (n + m) cap') (.set (upd (erase h b) b' (.row true e (cs.take (n * sz) ++ news) ex')))
  | _ => False

def appV (e : TypeId) (sz bytes : Nat) (h : H) (K : Value → Eff → Prop) (m : Nat) (news : List Value) : Value → Prop
  | .slice (some ⟨b, 0, none⟩) n cap => appB e sz bytes h K b n cap m news (h b)
  | .slice none 0 0 => if m = 0 then K (.slice none 0 0) .keep else (m ≤ maxLen ∧ m * bytes ≤ 140737488355328) ∧
      ∀ b' cap' ex', New h b' → m ≤ cap' → cap' ≤ maxLen → cap' * sz = m * sz + ex' →
        K (.slice (some ⟨b', 0, none⟩) m cap') (.new (single b' (.row true e news ex')))
  | _ => False

def acpyB (b off k : Nat) (vs : List Value) (K : Value → Eff → Prop) : Option Blk → Prop
  | some (.row true e cs ex) => (off + vs.length ≤ cs.length ∧ all1 vs = true) ∧ K (.int .i64 k) (.ovr b (.row true e (setL cs off vs) ex))
  | _ => False

def acpyV (sz : Nat) (h : H) (K : Value → Eff → Prop) (m : Nat) (news : List Value) : Value → Prop
  | .slice (some ⟨b, off, none⟩) n _ => if min m n = 0 then K (.int .i64 0) .keep else acpyB b off (min m n) (news.take (min m n * sz)) K (h b)
  | .slice none 0 0 => K (.int .i64 0) .keep
  | _ => False

def aclrB (b off : Nat) (vs : List Value) (K : Value → Eff → Prop) : Option Blk → Prop
  | some (.row true e cs ex) => (off + vs.length ≤ cs.length ∧ all1 vs = true) ∧ K (.tuple #[]) (.ovr b (.row true e (setL cs off vs) ex))
  | _ => False

def aclrV (zero : List Value) (h : H) (K : Value → Eff → Prop) : Value → Prop
  | .slice (some ⟨b, off, none⟩) n _ => if n = 0 then K (.tuple #[]) .keep else aclrB b off (reps zero n) K (h b)
  | .slice none 0 0 => K (.tuple #[]) .keep
  | _ => False

def astB (b off n : Nat) (v : List Value) (K : Value → Eff → Prop) : Option Blk → Prop
  | some (.row true e cs ex) => (v.length = n ∧ off + n ≤ cs.length ∧ all1 v = true) ∧ K undef (.ovr b (.row true e (setL cs off v) ex))
  | _ => False

def astV (n : Nat) (v : List Value) (h : H) (K : Value → Eff → Prop) : Value → Prop
  | .pointer (some ⟨b, off, none⟩) => astB b off n v K (h b)
  | _ => False

/-- None of these lies in the block of 's'. -/
def avoids (av : List Value) (s : Value) : Bool := av.all fun x => match blockOf s with
  | none => true
  | some b => match blockOf x with
    | some b' => decide (b' ≠ b)
    | none => true

/-- What one operation does: 'K' is to hold of each of its outcomes. -/
def aop (P : Program) (op : AOp) (ρ : Operand → Value) (h : H) (K : Value → Eff → Prop) : Prop :=
  match op with
  | .alloc e zero => anew h (.row true e zero 0) fun b e => K (.pointer (some ⟨b, 0, none⟩)) e
  | .box e x => aboxV e (ρ x) h K
  | .mks e zero len parts => OK (fillL zero (parts.map fun p => (p.1, p.2.1, ρ p.2.2))) fun cs => amksV e len cs h K
  | .mk e bytes zero l c => amkV e bytes zero h K (ρ l) (ρ c)
  | .app e sz bytes zero av s x => OK (readS sz h (ρ x)) fun r => (all1 r.2 = true ∧ avoids (av.map ρ) (ρ s) = true) ∧ appV e sz bytes h K r.1 r.2 (ρ s)
  | .st n a x => astV n (ρ x).cells.toList h K (ρ a)
  | .sta av n a x => avoids (av.map ρ) (ρ a) = true ∧ astV n (ρ x).cells.toList h K (ρ a)
  | .call f args => acall P f (args.map ρ) h K
  | .callp f args => acallp P f (args.map ρ) h K
  | .callv fv args => acallv P h K (args.map ρ) (ρ fv)
  | .mkm => anew h (.obj true (.map #[] 0)) fun b e => K (.map (some b)) e
  | .cpy sz d s => OK (readS sz h (ρ s)) fun r => acpyV sz h K r.1 r.2 (ρ d)
  | .clr zero x => aclrV zero h K (ρ x)
  | .appT .. | .s2b .. | .cpyT .. | .bad => False
  | op => OK (adet h ρ op) fun v => K v .keep

def Eff.ok : Eff → H → Prop
  | .new d, h => Dis h d
  | _, _ => True

section
variable {P : Program} {w : World}

theorem Sat.lt {B : Bd} {w0 w : World} {h : H} (hs : Sat B w0 w h) {b : Nat} (hb : (h b).isSome = true) : b < w.heap.size := by
  obtain ⟨k, hk⟩ := Option.isSome_iff_exists.1 hb
  obtain ⟨⟨o, ho, _⟩, _⟩ := hs.blk b k hk
  exact (Array.getElem?_eq_some_iff.1 ho).1

theorem Sat.new {B : Bd} {w0 w : World} {h : H} (hs : Sat B w0 w h) : New h w.heap.size := fun x hx => by
  have := hs.lt hx; omega

theorem Sat.drew {B : Bd} {w0 w : World} {h : H} (hs : Sat B w0 w h) : Sat B w0 w.drew h := ⟨hs.below.drew, hs.base, hs.blk, hs.grow, hs.old⟩

theorem New.none {h : H} {b : Nat} (hn : New h b) : h b = none := by
  cases hb : h b with
  | none => rfl
  | some k => exact absurd rfl (hn b (by simp [hb])).1

theorem join_single (h : H) (b : Nat) (k : Blk) : join h (single b k) = upd h b k := by
  funext x; simp only [join, single, upd]; split <;> simp

theorem dis_single {h : H} {b : Nat} (k : Blk) (hn : New h b) : Dis h (single b k) := fun x hx => by
  simp only [single] at hx
  split at hx
  · rename_i e; subst e; exact hn.none
  · simp at hx

/-- A new block. -/
theorem Sat.alloc {B : Bd} {w0 w : World} {h : H} (hs : Sat B w0 w h) {o : Obj} {k : Blk} (hk : k.ok o) : Sat B w0 (w.alloc o) (upd h w.heap.size k) := by
  refine ⟨hs.below.alloc hs.base o, by simp; have := hs.base; omega, fun b k' hb => ?_, by simp; have := hs.grow; omega, fun b hb => ?_⟩
  rotate_left
  · simp only [upd] at hb
    split at hb
    · rename_i e; subst e; exact .inr hs.grow
    · exact hs.old b hb
  simp only [upd] at hb
  split at hb
  · rename_i e
    subst e
    simp only [Option.some.injEq] at hb
    subst hb
    exact ⟨⟨o, heap_alloc_new w o, hk⟩, fun _ => hs.base⟩
  · obtain ⟨⟨o', ho', hok⟩, hown⟩ := hs.blk b k' hb
    have hlt := (Array.getElem?_eq_some_iff.1 ho').1
    exact ⟨⟨o', by rw [Below.heap_alloc w o b hlt]; exact ho', hok⟩, hown⟩

theorem rowOk {e : TypeId} {cs : List Value} (h1 : all1 cs = true) : (Blk.row true e cs 0).ok (.cells cs.toArray e) :=
  ⟨cs.toArray, (0, 0), rfl, by simp, by simp, fun _ => rfl, fun _ v hv => by simpa [all1] using List.all_eq_true.1 h1 v hv⟩

theorem newRow_run (e : TypeId) (cs : Array Value) : (newRow e cs).run P w = .ok ⟨w.heap.size, 0, none⟩ (w.alloc (.cells cs e)) := by
  simp [newRow, newObj, Sem.run]

/-- What a step of the machine owes. -/
abbrev Out (B : Bd) (w0 : World) (o : Oper) (h : H) (K : Value → Eff → Prop) (a : Act) : Act → World → Prop :=
  fun a' w' => ∃ v e, K v e ∧ a' = a.put o.dst v ∧ e.ok h ∧ Sat B w0 w' (e.app h)

theorem out_value {B : Bd} {w0 : World} {o : Oper} {h : H} {K : Value → Eff → Prop} {a : Act} {Q : Exit → Act → World → Prop} {v : Value} {w' : World}
    (hr : (execOp a.eval o).run P w = .ok (.value v) w') (e : Eff) (hK : K v e) (hok : e.ok h) (hs : Sat B w0 w' (e.app h)) : o.wp P a w (Out B w0 o h K a) Q := by
  unfold Oper.wp
  rw [hr]
  exact ⟨v, e, hK, rfl, hok, hs⟩

theorem out_new {B : Bd} {w0 : World} {o : Oper} {h : H} {K : Value → Eff → Prop} {a : Act} {Q : Exit → Act → World → Prop} {v : Value} {ob : Obj} {k : Blk}
    (hr : (execOp a.eval o).run P w = .ok (.value v) (w.alloc ob)) (hs : Sat B w0 w h) (hk : k.ok ob) (hK : K v (.new (single w.heap.size k))) : o.wp P a w (Out B w0 o h K a) Q :=
  out_value hr _ hK (dis_single k hs.new) (by simp only [Eff.app, join_single]; exact hs.alloc hk)

theorem fillL_len : ∀ (ps : List (Nat × Nat × Value)) (cs r : List Value), fillL cs ps = some r → r.length = cs.length
  | [], cs, r, h => by simp [fillL] at h; rw [h]
  | (off, n, v) :: ps, cs, r, h => by
    simp only [fillL] at h
    obtain ⟨⟨h1, h2⟩, h⟩ := grd_some h
    rw [fillL_len ps _ r h]
    simp; omega

theorem mks_run {t e : TypeId} {z : List Value} (hu : P.underlying t = some (.slice e)) (hz : zc P e = some z) {pl : Nat → Option (Nat × Nat)} (hpl : placeOf P t = some pl)
    {len : Nat} (hlen : len * z.length ≤ 2 ^ 24) {parts : Array (Nat × Value)} {ps : List (Nat × Nat × Value)} (hp : partsOf pl parts.toList = some ps)
    {cs : List Value} (hf : fillL ((List.range (len * z.length)).map fun k => z.getD (k % z.length) undef) ps = some cs) :
    (Instr.buildSlice t len parts).run P w = .ok (.slice (some ⟨w.heap.size, 0, none⟩) len len) (w.alloc (.cells cs.toArray e)) := by
  obtain ⟨i, zv, hi, hzz, hzc, hsz, _⟩ := zc_spec hz
  have hcells : zv.cells = z.toArray := by rw [← hzc]
  have hpl2 : pl = fun k => some (k * i.size, i.size) := by
    unfold placeOf at hpl; simp [hu, hi] at hpl; exact hpl.symm
  have hfl := bld_fill pl parts.toList ps _ cs hp hf
  rw [hpl2] at hfl
  have h24 : ¬ (len * i.size > 2 ^ 24) := by rw [hsz]; omega
  by_cases h0 : len * i.size = 0
  · have h0' : len * z.length = 0 := by rw [← hsz]; exact h0
    rw [h0'] at hfl
    simp only [List.range_zero, List.map_nil] at hfl
    have hr0 : (Array.range (len * i.size)) = #[] := by rw [h0]; rfl
    simp only [Instr.buildSlice, Sem.run_bind, run_underlying hu, Result.andThen_ok, run_sizeOf (show szOf P e = some i.size by simp [szOf, hi]), if_neg h24, Sem.run_pure, if_pos h0, hr0]
    simp only [Array.map_empty]
    rw [show (#[] : Array Value) = ([] : List Value).toArray from rfl, hfl]
    simp [newRow_run]
  · have hm : (Array.range (len * i.size)).map (fun x => zv.cells[x % zv.cells.size]!) = ((List.range (len * z.length)).map fun k => z.getD (k % z.length) undef).toArray := by
      apply Array.ext'
      simp only [Array.toList_map, Array.toList_range, hsz]
      apply List.map_congr_left
      intro k hk
      have hz0 : 0 < z.length := by rcases Nat.eq_zero_or_pos z.length with h | h; (exfalso; rw [hsz, h] at h0; simp at h0); exact h
      have hlt : k % z.length < z.length := Nat.mod_lt _ hz0
      simp [hcells, hlt]
    simp only [Instr.buildSlice, Sem.run_bind, run_underlying hu, Result.andThen_ok, run_sizeOf (show szOf P e = some i.size by simp [szOf, hi]), if_neg h24, Sem.run_pure, if_neg h0]
    simp only [zeroValue, typeInfo, Sem.run_bind, run_program, Result.andThen_ok, hi, hzz, Sem.run_pure]
    rw [hm, hfl]
    simp [newRow_run]

theorem madeCells_reps {zv : Value} {z : List Value} (hz : zv.cells.toList = z) (n : Nat) : (madeCells zv.cells (n * z.length)).toList = reps z n := by
  have hcells : zv.cells = z.toArray := by rw [← hz]
  unfold madeCells reps
  simp only [Array.toList_map, Array.toList_range, hcells]
  induction n with
  | zero => simp
  | succ n ih =>
    rw [List.replicate_succ', List.flatten_append, ← ih, Nat.add_mul, Nat.one_mul, List.range_add, List.map_append]
    congr 1
    apply List.ext_getElem?
    intro i
    simp only [List.map_map, List.getElem?_map, List.flatten_cons, List.flatten_nil, List.append_nil]
    by_cases hi : i < z.length
    · have hm : (n * z.length + i) % z.length = i := by rw [Nat.mul_add_mod_self_right]; exact Nat.mod_eq_of_lt hi
      simp [List.getElem?_range hi, hm, hi]
    · rw [List.getElem?_eq_none (by simpa using hi), List.getElem?_eq_none (by simpa using hi)]; rfl

theorem all1_reps {z : List Value} (h : ∀ v ∈ z, v.oneCell' = true) (n : Nat) : all1 (reps z n) = true := by
  simp only [all1, reps, List.all_eq_true, List.mem_flatten, List.mem_replicate]
  rintro v ⟨l, ⟨_, rfl⟩, hv⟩
  exact h v hv

theorem st_run {t : TypeId} {n : Nat} (hn : szOf P t = some n) {B : Bd} {w0 : World} {h : H} (hs : Sat B w0 w h) {b off : Nat} {e : TypeId} {cs : List Value} {ex : Nat}
    (hb : h b = some (.row true e cs ex)) {x : Value} (hx : x.cells.toList.length = n) (hoff : off + n ≤ cs.length) (h1 : all1 x.cells.toList = true) :
    ∃ w', (Instr.storeAt t (.pointer (some ⟨b, off, none⟩)) x).run P w = .ok () w' ∧ Sat B w0 w' (upd h b (.row true e (setL cs off x.cells.toList) ex)) := by
  obtain ⟨⟨o, ho, c, fr, rfl, hsz, htk, hfr, hone⟩, hown⟩ := hs.blk b _ hb
  obtain rfl := hfr rfl
  have hst := run_storeCells_at P b off e x.cells.toList 0 c w ho (by simp only [Nat.add_zero]; omega) (fun v hv => by simpa [all1] using List.all_eq_true.1 h1 v hv)
  refine ⟨w.setRow b (c.toList.take (off + 0) ++ x.cells.toList ++ c.toList.drop (off + 0 + x.cells.toList.length)).toArray, ?_, ?_⟩
  · have : x.cells.size = n := by simpa using hx
    simp only [Instr.storeAt, Instr.sureAddr, Sem.run_bind, Sem.run_pure, Result.andThen_ok, storeVar, run_sizeOf hn, this]
    simp only [ne_eq, not_true_eq_false, if_false]
    exact hst
  · have hset : setL cs off x.cells.toList = cs.take off ++ x.cells.toList ++ cs.drop (off + n) := by
      unfold setL
      split
      · rename_i v hv
        rw [hv] at hx; simp at hx; subst hx
        rw [hv]
        apply List.ext_getElem?
        intro i
        simp only [List.getElem?_append, List.getElem?_take, List.getElem?_drop, List.getElem?_set, List.length_append, List.length_take, List.length_cons, List.getElem?_cons, List.length_drop, List.length_nil]
        grind
      · rw [hx]
    have hown' := hown rfl
    refine ⟨?_, by simp; exact hs.base, fun b' k' hb' => ?_, by simp; exact hs.grow, fun b' hb' => by
      simp only [upd] at hb'
      split at hb'
      · rename_i e1; subst e1; exact hs.old b' (by rw [hb]; rfl)
      · exact hs.old b' hb'⟩
    · exact hs.below.trans ⟨rfl, rfl, rfl, by simp, fun k hk => setRow_other w b k _ (by omega)⟩
    · simp only [upd] at hb'
      split at hb'
      · rename_i e1
        subst e1
        simp only [Option.some.injEq] at hb'
        subst hb'
        refine ⟨⟨_, setRow_heap w b' c _ e _ ho, ⟨_, (0, 0), rfl, ?_, ?_, fun _ => rfl, ?_⟩⟩, fun _ => hown'⟩
        · simp only [Nat.add_zero, List.size_toArray, List.length_append, List.length_take, List.length_drop, Array.length_toList, hset, hx]
          omega
        · rw [hset]
          simp only [Nat.add_zero, List.length_append, List.length_take, List.length_drop, hx]
          rw [← htk]
          apply List.ext_getElem?
          intro i
          simp only [List.getElem?_append, List.getElem?_take, List.getElem?_drop, List.length_append, List.length_take, List.length_drop, hx, Array.length_toList]
          grind
        · rw [hset]
          intro _ v hv
          simp only [List.mem_append] at hv
          rcases hv with (hv | hv) | hv
          · exact hone rfl v (List.mem_of_mem_take hv)
          · simpa [all1] using List.all_eq_true.1 h1 v hv
          · exact hone rfl v (List.mem_of_mem_drop hv)
      · rename_i hne
        obtain ⟨⟨o', ho', hok⟩, hown2⟩ := hs.blk b' k' hb'
        exact ⟨⟨o', by rw [setRow_other w b b' _ hne]; exact ho', hok⟩, hown2⟩

theorem stc_run {B : Bd} {w0 : World} {h : H} (hs : Sat B w0 w h) {b off n : Nat} {e : TypeId} {cs : List Value} {ex : Nat}
    (hb : h b = some (.row true e cs ex)) {vs : List Value} (hx : vs.length = n) (hoff : off + n ≤ cs.length) (h1 : all1 vs = true) :
    ∃ w', (storeCells ⟨b, off, none⟩ vs).run P w = .ok () w' ∧ Sat B w0 w' (upd h b (.row true e (setL cs off vs) ex)) := by
  obtain ⟨⟨o, ho, c, fr, rfl, hsz, htk, hfr, hone⟩, hown⟩ := hs.blk b _ hb
  obtain rfl := hfr rfl
  have hst := run_storeCells_at P b off e vs 0 c w ho (by simp only [Nat.add_zero]; omega) (fun v hv => by simpa [all1] using List.all_eq_true.1 h1 v hv)
  refine ⟨w.setRow b (c.toList.take (off + 0) ++ vs ++ c.toList.drop (off + 0 + vs.length)).toArray, ?_, ?_⟩
  · exact hst
  · have hset : setL cs off vs = cs.take off ++ vs ++ cs.drop (off + n) := by
      unfold setL
      split
      · rename_i v
        simp at hx; subst hx
        apply List.ext_getElem?
        intro i
        simp only [List.getElem?_append, List.getElem?_take, List.getElem?_drop, List.getElem?_set, List.length_append, List.length_take, List.length_cons, List.getElem?_cons, List.length_drop, List.length_nil]
        grind
      · rw [hx]
    have hown' := hown rfl
    refine ⟨?_, by simp; exact hs.base, fun b' k' hb' => ?_, by simp; exact hs.grow, fun b' hb' => by
      simp only [upd] at hb'
      split at hb'
      · rename_i e1; subst e1; exact hs.old b' (by rw [hb]; rfl)
      · exact hs.old b' hb'⟩
    · exact hs.below.trans ⟨rfl, rfl, rfl, by simp, fun k hk => setRow_other w b k _ (by omega)⟩
    · simp only [upd] at hb'
      split at hb'
      · rename_i e1
        subst e1
        simp only [Option.some.injEq] at hb'
        subst hb'
        refine ⟨⟨_, setRow_heap w b' c _ e _ ho, ⟨_, (0, 0), rfl, ?_, ?_, fun _ => rfl, ?_⟩⟩, fun _ => hown'⟩
        · simp only [Nat.add_zero, List.size_toArray, List.length_append, List.length_take, List.length_drop, Array.length_toList, hset, hx]
          omega
        · rw [hset]
          simp only [Nat.add_zero, List.length_append, List.length_take, List.length_drop, hx]
          rw [← htk]
          apply List.ext_getElem?
          intro i
          simp only [List.getElem?_append, List.getElem?_take, List.getElem?_drop, List.length_append, List.length_take, List.length_drop, hx, Array.length_toList]
          grind
        · rw [hset]
          intro _ v hv
          simp only [List.mem_append] at hv
          rcases hv with (hv | hv) | hv
          · exact hone rfl v (List.mem_of_mem_take hv)
          · simpa [all1] using List.all_eq_true.1 h1 v hv
          · exact hone rfl v (List.mem_of_mem_drop hv)
      · rename_i hne
        obtain ⟨⟨o', ho', hok⟩, hown2⟩ := hs.blk b' k' hb'
        exact ⟨⟨o', by rw [setRow_other w b b' _ hne]; exact ho', hok⟩, hown2⟩

end
end Go.Proofs.YtjklebickfcddaaDoor.Sep

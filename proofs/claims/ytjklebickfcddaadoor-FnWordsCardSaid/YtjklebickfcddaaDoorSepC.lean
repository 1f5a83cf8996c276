/- The operations that only yield a value are told truly. -/
import Derived.Test.YtjklebickfcddaaDoorSepB
import Derived.WalkLawsBesides
namespace Go.Proofs.YtjklebickfcddaaDoor.Sep
open Go.RowKit
set_option linter.unusedVariables false
set_option linter.unusedSimpArgs false
set_option linter.constructorNameAsVariable false

theorem grd_some {α : Type} {c : Prop} [Decidable c] {x : Option α} {v : α} (h : grd c x = some v) : c ∧ x = some v := by
  unfold grd at h; split at h
  · exact ⟨by assumption, h⟩
  · cases h

section
variable {P : Program} {w : World}

theorem afa_run {s : TypeId} {f : Nat} {fs : Array Field} {g : Field} (hu : P.underlying s = some (.struct fs)) (hg : fs[f]? = some g)
    {n : Nat} (hn : szOf P g.type = some n) (h0 : n ≠ 0) {x v : Value} (hv : afa g.offset x = some v) : (Instr.fieldAt s x f).run P w = .ok v w := by
  unfold afa at hv
  split at hv
  · simp only [Option.some.injEq] at hv
    subst hv
    simp [Instr.fieldAt, run_underlying hu, hg, Instr.sureAddr, fieldPlace, run_sizeOf hn, h0, addr_add]
  · cases hv

theorem run_part {t : TypeId} {n : Option Nat} (hn : nOf P t = some n) {cs : Array Value} {off : Nat} {v : Value} (hv : cellsAt cs.toList off n = some v) :
    (part t cs off).run P w = .ok v w := by
  cases n with
  | none =>
    obtain ⟨hlt, hv⟩ := grd_some hv
    simp only [Option.some.injEq] at hv
    subst hv
    have hlt' : off < cs.size := by simpa using hlt
    simp [part, run_isAgg (nOf_none hn), hlt']
  | some m =>
    obtain ⟨ha, hsz⟩ := nOf_some hn
    obtain ⟨hle, hv⟩ := grd_some hv
    simp only [Option.some.injEq] at hv
    subst hv
    have : cs.extract off (off + m) = (List.take m (List.drop off cs.toList)).toArray := by
      apply Array.ext'
      simp [List.extract_eq_take_drop]
    simp [part, run_isAgg ha, run_sizeOf hsz, this]

theorem afd_run {t : TypeId} {f : Nat} {fs : Array Field} {g : Field} (hu : P.underlying t = some (.struct fs)) (hg : fs[f]? = some g)
    {n : Option Nat} (hn : nOf P g.type = some n) {x v : Value} (hv : afd n g.offset x = some v) : (Instr.field t x f).run P w = .ok v w := by
  unfold afd at hv
  split at hv
  · simp [Instr.field, run_underlying hu, hg, asAgg, run_part hn hv]
  · cases hv

theorem aixA_run {t e : TypeId} {len sz : Nat} (hu : P.underlying t = some (.array len e)) (hs : szOf P e = some sz) {x i v : Value}
    (hv : aixA len sz x i = some v) : (Instr.indexAt t x i).run P w = .ok v w := by
  unfold aixA at hv
  split at hv
  · obtain ⟨⟨h0, h1⟩, hv⟩ := grd_some hv
    simp only [Option.some.injEq] at hv
    subst hv
    simp [Instr.indexAt, asIntOf, run_underlying hu, Instr.sureAddr, h0, h1, run_sizeOf hs, addr_add]
  · cases hv

theorem aixS_run {t e : TypeId} {sz : Nat} (hu : P.underlying t = some (.slice e)) (hs : szOf P e = some sz) {x i v : Value}
    (hv : aixS sz x i = some v) : (Instr.indexAt t x i).run P w = .ok v w := by
  unfold aixS at hv
  split at hv
  · obtain ⟨⟨h0, h1⟩, hv⟩ := grd_some hv
    simp only [Option.some.injEq] at hv
    subst hv
    simp [Instr.indexAt, asIntOf, run_underlying hu, h0, h1, run_sizeOf hs, addr_add]
  · cases hv

theorem aixV_run {t e : TypeId} {len sz : Nat} {n : Option Nat} (hu : P.underlying t = some (.array len e)) (hs : szOf P e = some sz) (hn : nOf P e = some n) {x i v : Value}
    (hv : aixV len sz n x i = some v) : (Instr.index t x i).run P w = .ok v w := by
  unfold aixV at hv
  split at hv
  · obtain ⟨⟨h0, h1⟩, hv⟩ := grd_some hv
    simp [Instr.index, asIntOf, run_underlying hu, h0, h1, run_sizeOf hs, run_part hn hv]
  · cases hv

theorem aixT_run {t : TypeId} (hu : P.underlying t = some .string) {x i v : Value} (hv : aixT x i = some v) : (Instr.index t x i).run P w = .ok v w := by
  unfold aixT at hv
  split at hv
  · rename_i s k i
    obtain ⟨⟨h0, h1⟩, hv⟩ := grd_some hv
    simp only [Option.some.injEq] at hv
    subst hv
    have hlt : i.toNat < s.size := by omega
    have hlt' : i.toNat < s.data.size := hlt
    have he : (s[i.toNat]? : Option UInt8) = some (s.data.toList.getD i.toNat 0) := by
      rw [show (s[i.toNat]? : Option UInt8) = some s[i.toNat] from by simp [hlt]]
      simp only [List.getD, Array.getElem?_toList, Array.getElem?_eq_getElem hlt', Option.getD_some]; rfl
    simp [Instr.index, asIntOf, run_underlying hu, h0, he]
  · cases hv

theorem aext_run {i : Nat} {x v : Value} (hv : aext i x = some v) : (Instr.extract x i).run P w = .ok v w := by
  unfold aext at hv
  split at hv
  · simp [Instr.extract, hv]
  · cases hv

theorem aun_run {op : UnOp} {x v : Value} (hv : aun op x = some v) : (Op.unary op x).run P w = .ok v w := by
  unfold aun at hv
  split at hv
  · simp only [Option.some.injEq] at hv
    subst hv
    simp [Op.unary, Op.intArith]
  · simp only [Option.some.injEq] at hv
    subst hv
    simp [Op.unary]
  · cases hv

theorem wrap_in {n : Int} (h : inI64 n) : IntKind.i64.wrap n = n := by
  obtain ⟨h0, h1⟩ := h; simp only [IntKind.wrap_i64, wrap64]; omega

theorem aint_run (t : TypeId) {op : BinOp} {k : IntKind} {a b : Int} {v : Value} (hs : isSh op = false) (hv : aint op k a b = some v) :
    (binOp op t (.int k a) (.int k b)).run P w = .ok v w := by
  cases op <;> simp only [isSh, Bool.true_eq_false] at hs
  all_goals
    first
    | (simp only [aint, Option.some.injEq] at hv
       subst hv
       simp [binOp, Op.intArith, Op.intBits, Op.intCmp])
    | (simp only [aint] at hv
       obtain ⟨hb, hv⟩ := grd_some hv
       simp only [Option.some.injEq] at hv
       subst hv
       simp [binOp, Op.intDiv, hb])
    | cases hv

theorem ashift_run (t : TypeId) {op : BinOp} {k k' : IntKind} {a b : Int} {v : Value} (hv : ashift op k a b = some v) :
    (binOp op t (.int k a) (.int k' b)).run P w = .ok v w := by
  cases op <;> simp only [ashift] at hv <;> first | (cases hv; done) | skip
  all_goals
    obtain ⟨hb, hv⟩ := grd_some hv
    simp only [Option.some.injEq] at hv
    subst hv
    have : ¬ b < 0 := by omega
    simp [binOp, Op.shift, this]
    try rfl

theorem astr_run (t : TypeId) {op : BinOp} {a b : ByteArray} {v : Value} (hv : astr op a b = some v) :
    (binOp op t (.string a) (.string b)).run P w = .ok v w := by
  cases op <;> simp only [astr] at hv <;> first | (cases hv; done) | skip
  case add =>
    obtain ⟨hb, hv⟩ := grd_some hv
    simp only [Option.some.injEq] at hv
    subst hv
    have : ¬ (((a.size + b.size : Nat) : Int) > IntKind.i64.max) := by simp [IntKind.max, IntKind.signed, IntKind.bits]; omega
    simp only [binOp, Op.stringOp, if_neg this, Sem.run_pure]
  all_goals
    simp only [Option.some.injEq] at hv
    subst hv
    simp [binOp, Op.stringOp]

theorem abin_run {op : BinOp} {t : TypeId} {x y : Operand} {a b v : Value} (hv : abin op a b = some v) :
    (do eqGuard op t x y a b; binOp op t a b : Sem Value).run P w = .ok v w := by
  unfold abin at hv
  split at hv
  · rename_i k a k' b
    have h1 : (binOp op t (.int k a) (.int k' b)).run P w = .ok v w := by
      split at hv
      · exact ashift_run t hv
      · rename_i hsh
        obtain ⟨hk, hv2⟩ := grd_some hv
        subst hk
        exact aint_run t (by simpa using hsh) hv2
    have h2 : (eqGuard op t x y (.int k a) (.int k' b)).run P w = .ok () w := by unfold eqGuard; cases op <;> simp
    simp [h1, h2]
  · rename_i a b
    have h1 := astr_run (P := P) (w := w) t hv
    have h2 : (eqGuard op t x y (.string a) (.string b)).run P w = .ok () w := by unfold eqGuard; cases op <;> simp
    simp [h1, h2]
  · cases hv

theorem bound_run {y : Nat} {c : BoundsCode} {k : IntKind} {i : Int} (h0 : 0 ≤ i) (h1 : i ≤ y) : (Instr.sliceBound (.int k i) y c).run P w = .ok i.toNat w := by
  simp [Instr.sliceBound, asIntOf, h0, h1]

theorem abnd_none {d : Nat} {l : Int} (h : abnd d none = some l) : l = d := by simp [abnd] at h; omega

theorem abnd_some {d : Nat} {x : Value} {l : Int} (h : abnd d (some x) = some l) : ∃ k, x = .int k l := by
  unfold abnd at h; split at h
  · rename_i he; cases he
  · rename_i k i he; cases he; exact ⟨k, by simp at h; rw [h]⟩
  · cases h

theorem bounds_run {isS : Bool} {len cap : Nat} {lo hi : Option Value} {l m : Int} (hl : abnd 0 lo = some l) (hm : abnd len hi = some m)
    (h0 : 0 ≤ l) (h1 : l ≤ m) (h2 : m ≤ cap) (hlen : len ≤ cap ∨ hi ≠ none) :
    (Instr.sliceBounds isS len cap lo hi none).run P w = .ok (l.toNat, m.toNat, cap) w := by
  have hm' : (m.toNat : Int) = m := by omega
  cases hi with
  | none =>
    have := abnd_none hm; subst this
    cases lo with
    | none => have := abnd_none hl; subst this; simp [Instr.sliceBounds]
    | some x =>
      obtain ⟨k, rfl⟩ := abnd_some hl
      have hb := bound_run (P := P) (w := w) (c := .sliceB) (k := k) h0 h1
      simp [Instr.sliceBounds, hb]
  | some y =>
    obtain ⟨k, rfl⟩ := abnd_some hm
    have hb := fun c => bound_run (P := P) (w := w) (c := c) (k := k) (y := cap) (by omega : 0 ≤ m) h2
    cases lo with
    | none => have := abnd_none hl; subst this; simp [Instr.sliceBounds, hb]
    | some x =>
      obtain ⟨k', rfl⟩ := abnd_some hl
      have hb2 := bound_run (P := P) (w := w) (c := .sliceB) (k := k') (y := m.toNat) h0 (by omega)
      simp [Instr.sliceBounds, hb, hb2]

theorem aslS_run {t e : TypeId} {sz : Nat} (hu : P.underlying t = some (.slice e)) (hs : szOf P e = some sz) {x v : Value} {lo hi : Option Value}
    (hv : aslS sz x lo hi = some v) : (Instr.sliceAt t x lo hi none).run P w = .ok v w := by
  unfold aslS at hv
  split at hv
  · rename_i b o n c
    cases hl : abnd 0 lo with
    | none => simp [hl] at hv
    | some l =>
      cases hm : abnd n hi with
      | none => simp [hl, hm] at hv
      | some m =>
        simp only [hl, hm, Option.bind_some] at hv
        obtain ⟨⟨h0, h1, h2⟩, hv⟩ := grd_some hv
        simp only [Option.some.injEq] at hv
        subst hv
        have hb := bounds_run (P := P) (w := w) (isS := true) hl hm h0 h1 h2 (by by_cases hh : hi = none; (left; subst hh; have := abnd_none hm; omega); exact .inr hh)
        by_cases hc : (c : Int) = l
        · have this : ∀ {α : Type} (x y : α), (if c = l.toNat then x else y) = x := fun _ _ => if_pos (by omega)
          simp [Instr.sliceAt, Instr.slice, run_underlying hu, hb, run_sizeOf hs, if_pos hc, this]
        · have : ¬ c = l.toNat := by omega
          simp [Instr.sliceAt, Instr.slice, run_underlying hu, hb, run_sizeOf hs, hc, this, addr_add]
  · rename_i n c
    cases hl : abnd 0 lo with
    | none => simp [hl] at hv
    | some l =>
      cases hm : abnd n hi with
      | none => simp [hl, hm] at hv
      | some m =>
        simp only [hl, hm, Option.bind_some] at hv
        obtain ⟨⟨h0, h1, h2⟩, hv⟩ := grd_some hv
        simp only [Option.some.injEq] at hv
        subst hv
        have hb := bounds_run (P := P) (w := w) (isS := true) hl hm h0 h1 h2 (by by_cases hh : hi = none; (left; subst hh; have := abnd_none hm; omega); exact .inr hh)
        simp [Instr.sliceAt, Instr.slice, run_underlying hu, hb, run_sizeOf hs]
  · cases hv

theorem aslA_run {t e : TypeId} {n sz : Nat} (hu : P.underlying t = some (.array n e)) (hs : szOf P e = some sz) {x v : Value} {lo hi : Option Value}
    (hv : aslA n sz x lo hi = some v) : (Instr.sliceAt t x lo hi none).run P w = .ok v w := by
  unfold aslA at hv
  split at hv
  · rename_i b o
    cases hl : abnd 0 lo with
    | none => simp [hl] at hv
    | some l =>
      cases hm : abnd n hi with
      | none => simp [hl, hm] at hv
      | some m =>
        simp only [hl, hm, Option.bind_some] at hv
        obtain ⟨⟨h0, h1, h2⟩, hv⟩ := grd_some hv
        simp only [Option.some.injEq] at hv
        subst hv
        have hb := bounds_run (P := P) (w := w) (isS := false) hl hm h0 h1 h2 (by left; omega)
        by_cases hc : (n : Int) = l
        · have this : ∀ {α : Type} (x y : α), (if n = l.toNat then x else y) = x := fun _ _ => if_pos (by omega)
          simp [Instr.sliceAt, Instr.sureAddr, run_underlying hu, hb, run_sizeOf hs, if_pos hc, this]
        · have : ¬ n = l.toNat := by omega
          simp [Instr.sliceAt, Instr.sureAddr, run_underlying hu, hb, run_sizeOf hs, hc, this, addr_add]
  · cases hv

theorem aslT_run {t : TypeId} (hu : P.underlying t = some .string) {x v : Value} {lo hi : Option Value}
    (hv : aslT x lo hi = some v) : (Instr.sliceAt t x lo hi none).run P w = .ok v w := by
  unfold aslT at hv
  split at hv
  · rename_i s
    cases hl : abnd 0 lo with
    | none => simp [hl] at hv
    | some l =>
      cases hm : abnd s.size hi with
      | none => simp [hl, hm] at hv
      | some m =>
        simp only [hl, hm, Option.bind_some] at hv
        obtain ⟨⟨h0, h1, h2⟩, hv⟩ := grd_some hv
        simp only [Option.some.injEq] at hv
        subst hv
        have hb := bounds_run (P := P) (w := w) (isS := false) hl hm h0 h1 h2 (by left; omega)
        simp [Instr.sliceAt, Instr.slice, run_underlying hu, hb]
  · cases hv

theorem bytesOf_some : ∀ (cs : List Value) (l : List UInt8), bytesOf cs = some l → ∃ ns : List Int, cs = ns.map (Value.int .u8) ∧ l = ns.map fun n => UInt8.ofNat n.toNat
  | [], l, h => by simp [bytesOf] at h; exact ⟨[], rfl, by simp [h]⟩
  | c :: cs, l, h => by
    unfold bytesOf at h
    split at h
    · cases ‹c :: cs = []›
    · rename_i n r he
      simp only [List.cons.injEq] at he
      obtain ⟨rfl, rfl⟩ := he
      cases hb : bytesOf cs with
      | none => simp [hb] at h
      | some l' =>
        simp [hb] at h
        obtain ⟨ns, h1, h2⟩ := bytesOf_some _ _ hb
        exact ⟨n :: ns, by simp [h1], by simp [← h, h2]⟩
    · cases h

theorem foldl_push : ∀ (ns : List Int) (s : ByteArray), ns.foldl (fun r n => r.push (UInt8.ofNat n.toNat)) s = ⟨(s.data.toList ++ ns.map fun n => UInt8.ofNat n.toNat).toArray⟩
  | [], s => by simp
  | n :: ns, s => by
    rw [List.foldl_cons, foldl_push ns]
    congr 1
    simp [ByteArray.push]

theorem ab2s_run {B : Bd} {w0 : World} {h hr : H} (hs : Sat B w0 w hr) (hle : Le h hr) {x v : Value} (hv : ab2s h x = some v) :
    (Conv.bytesToString x).run P w = .ok v w := by
  unfold ab2s at hv
  split at hv
  · simp only [Option.some.injEq] at hv
    subst hv
    simp [Conv.bytesToString]
  · rename_i b o n c
    split at hv
    · rename_i own e cs ex hb
      obtain ⟨hle2, hv⟩ := grd_some hv
      cases hy : bytesOf ((cs.drop o).take n) with
      | none => simp [hy] at hv
      | some l =>
        simp [hy] at hv
        subst hv
        obtain ⟨ns, h1, rfl⟩ := bytesOf_some _ _ hy
        have hl : ((cs.drop o).take n).length = n := by simp; omega
        have hrr := run_loadCells_list (P := P) w ⟨b, o, none⟩ ((cs.drop o).take n) (fun j v hj => by
          have hj1 := hj
          rw [List.getElem?_take] at hj1
          split at hj1
          · rw [List.getElem?_drop] at hj1
            have hlt : o + j < cs.length := by omega
            have hc := hs.cell (hle _ _ hb) hlt
            rw [addr_add, hc]
            rw [List.getD, hj1]; rfl
          · simp at hj1)
        rw [hl, h1] at hrr
        rw [run_bytesToString w _ n c ns hrr, foldl_push]
        simp
    · cases hv
  · cases hv

theorem fold_set (off : Nat) : ∀ (l : List Value) (k : Nat) (cs : List Value), off + k + l.length ≤ cs.length →
    (l.zipIdx k).foldl (fun (acc : Array Value) p => acc.setIfInBounds (off + p.2) p.1) cs.toArray = (cs.take (off + k) ++ l ++ cs.drop (off + k + l.length)).toArray
  | [], k, cs, h => by simp
  | v :: l, k, cs, h => by
    simp only [List.length_cons] at h
    rw [List.zipIdx_cons, List.foldl_cons]
    simp only [List.setIfInBounds_toArray]
    rw [fold_set off l (k + 1) (cs.set (off + k) v) (by simp; omega)]
    congr 1
    apply List.ext_getElem?
    intro i
    simp only [List.getElem?_append, List.getElem?_take, List.getElem?_drop, List.getElem?_set, List.length_append, List.length_take, List.length_set, List.length_cons, List.getElem?_cons, List.length_drop]
    grind

theorem bld_fill (place : Nat → Option (Nat × Nat)) : ∀ (parts : List (Nat × Value)) (ps : List (Nat × Nat × Value)) (cs r : List Value),
    partsOf place parts = some ps → fillL cs ps = some r → Instr.fill place cs.toArray parts = some r.toArray
  | [], ps, cs, r, h1, h2 => by
    simp [partsOf] at h1
    subst h1
    simp [fillL] at h2
    simp [Instr.fill, h2]
  | (i, v) :: rest, ps, cs, r, h1, h2 => by
    rw [partsOf, List.mapM_cons] at h1
    cases hp : place i with
    | none => simp [hp] at h1
    | some q =>
      obtain ⟨off, n⟩ := q
      cases hm : rest.mapM (fun p => (place p.1).map fun q => (q.1, q.2, p.2)) with
      | none => simp [hp, hm] at h1
      | some ps' =>
        simp [hp, hm] at h1
        subst h1
        simp only [fillL] at h2
        obtain ⟨⟨h3, h4⟩, h5⟩ := grd_some h2
        have hfold : v.cells.zipIdx.foldl (fun cs (c, j) => cs.setIfInBounds (off + j) c) cs.toArray = (cs.take off ++ v.cells.toList ++ cs.drop (off + n)).toArray := by
          have := fold_set off v.cells.toList 0 cs (by simp; omega)
          simp only [Nat.add_zero, Array.length_toList, h3] at this
          rw [← this, ← Array.foldl_toList, Array.toList_zipIdx]
        have ih := bld_fill place rest ps' _ r hm h5
        simp only [Instr.fill, hp]
        rw [if_neg (by simp; omega)]
        rw [hfold]
        exact ih

/-! ### Equality cell by cell -/

theorem leq_append : ∀ (s t : List Sg) (a b c d : List Value) (r : Bool), s.length = a.length → a.length = b.length → leq (s ++ t) (a ++ c) (b ++ d) = some r →
    ∃ r1 r2, leq s a b = some r1 ∧ leq t c d = some r2 ∧ r = (r1 && r2)
  | [], t, [], [], c, d, r, _, _, h => ⟨true, r, rfl, h, by simp⟩
  | s :: ss, t, x :: a, y :: b, c, d, r, hl1, hl, h => by
    simp only [List.cons_append, leq] at h ⊢
    simp only [List.length_cons, Nat.add_right_cancel_iff] at hl hl1
    cases hv : veq s x y with
    | none => simp [hv] at h
    | some q =>
      simp only [hv, Option.bind_some] at h ⊢
      cases q with
      | true =>
        simp only [if_true] at h
        obtain ⟨r1, r2, h1, h2, rfl⟩ := leq_append ss t a b c d r hl1 hl h
        exact ⟨r1, r2, by simp [h1], h2, rfl⟩
      | false =>
        simp only [Bool.false_eq_true, if_false] at h
        cases hq : leq (ss ++ t) (a ++ c) (b ++ d) with
        | none => simp [hq] at h
        | some q' =>
          simp [hq] at h
          subst h
          obtain ⟨r1, r2, h1, h2, _⟩ := leq_append ss t a b c d q' hl1 hl hq
          exact ⟨false, r2, by simp [h1], h2, by simp⟩
  | [], _, [], _ :: _, _, _, _, _, hl, _ => by simp at hl
  | [], _, _ :: _, _, _, _, _, hl, _, _ => by simp at hl
  | _ :: _, _, [], _, _, _, _, hl, _, _ => by simp at hl
  | _ :: _, _, _ :: _, [], _, _, _, _, hl, _ => by simp at hl

theorem leq_len : ∀ (s : List Sg) (a b : List Value) (r : Bool), leq s a b = some r → a.length = s.length ∧ b.length = s.length
  | [], [], [], _, _ => ⟨rfl, rfl⟩
  | s :: ss, x :: a, y :: b, r, h => by
    simp only [leq] at h
    cases hv : veq s x y with
    | none => simp [hv] at h
    | some q =>
      simp only [hv, Option.bind_some] at h
      have : ∃ r', leq ss a b = some r' := by
        cases q
        · simp only [Bool.false_eq_true, if_false] at h
          cases hq : leq ss a b with
          | none => simp [hq] at h
          | some q' => exact ⟨q', rfl⟩
        · exact ⟨r, by simpa using h⟩
      obtain ⟨r', h'⟩ := this
      have := leq_len ss a b r' h'
      simp [this]
  | [], [], _ :: _, _, h | [], _ :: _, _, _, h | _ :: _, [], _, _, h | _ :: _, _ :: _, [], _, h => by simp [leq] at h

theorem cellsAt_seg {cs : List Value} {off n : Nat} {m : Option Nat} (hm : m = none ∧ n = 1 ∨ m = some n) : cellsAt cs off m = cellsAt ((cs.drop off).take n) 0 m ∨ cs.length < off + n := by
  by_cases h : off + n ≤ cs.length
  · left
    rcases hm with ⟨rfl, rfl⟩ | rfl
    · unfold cellsAt grd
      have h0 : off < cs.length := by omega
      rw [if_pos h0, if_pos (by simp; omega)]
      congr 1
      simp [List.getD, List.getElem?_take, List.getElem?_drop]
    · simp only [cellsAt, grd]
      rw [if_pos h, if_pos (by simp; omega)]
      simp [List.take_take]
  · right; omega

theorem sig_nOf {d : Nat} {t : TypeId} {l : List Sg} (h : sigOf P d t = some l) : szOf P t = some l.length ∧ ∃ m, nOf P t = some m ∧ (m = none ∧ l.length = 1 ∨ m = some l.length) := by
  cases d with
  | zero => simp [sigOf] at h
  | succ d =>
    unfold sigOf at h
    split at h
    · rename_i hu
      split at h
      · rename_i h1; simp only [Option.some.injEq] at h; subst h; exact ⟨h1, none, by simp [nOf, aggT, hu], .inl ⟨rfl, rfl⟩⟩
      · cases h
    · rename_i hu
      split at h
      · rename_i h1; simp only [Option.some.injEq] at h; subst h; exact ⟨h1, none, by simp [nOf, aggT, hu], .inl ⟨rfl, rfl⟩⟩
      · cases h
    · rename_i hu
      split at h
      · rename_i h1; simp only [Option.some.injEq] at h; subst h; exact ⟨h1, none, by simp [nOf, aggT, hu], .inl ⟨rfl, rfl⟩⟩
      · cases h
    · rename_i fs hu
      split at h
      · cases h
      · cases hr : sgRow P (sigOf P d) fs.toList 0 with
        | none => simp [hr] at h
        | some l' =>
          simp only [hr, Option.bind_some] at h
          split at h
          · rename_i h1; simp only [Option.some.injEq] at h; subst h; exact ⟨h1, some _, by simp [nOf, aggT, hu, h1], .inr rfl⟩
          · cases h
    · rename_i n e hu
      cases hr : sigOf P d e with
      | none => simp [hr] at h
      | some l' =>
        simp only [hr, Option.bind_some] at h
        split at h
        · rename_i h1
          simp only [Option.some.injEq] at h
          have hl : l.length = n * l'.length := by rw [← h]; simp [List.length_flatten]
          exact ⟨by rw [h1.2, hl], some (n * l'.length), by simp [nOf, aggT, hu, h1.2], .inr (by rw [hl])⟩
        · cases h
    · cases h

theorem cellsOf_of {t : TypeId} {n : Nat} (h : szOf P t = some n) : P.cellsOf t = n := by
  unfold szOf at h; simp [Program.cellsOf, h]

theorem cells_ex {c : List Value} {n : Nat} {m : Option Nat} (hc : c.length = n) (hnm : m = none ∧ n = 1 ∨ m = some n) : ∃ v, cellsAt c 0 m = some v := by
  rcases hnm with ⟨rfl, rfl⟩ | rfl <;> simp only [cellsAt, grd] <;> rw [if_pos (by omega)] <;> exact ⟨_, rfl⟩

/-- What is known of a part's equality. -/
def EqP (P : Program) (w : World) (D : Nat) (t : TypeId) (sg : List Sg) : Prop :=
  ∀ (m : Option Nat) (x y : List Value) (vx vy : Value) (r : Bool), nOf P t = some m → leq sg x y = some r → cellsAt x 0 m = some vx → cellsAt y 0 m = some vy → (Op.equalIn D t vx vy).run P w = .ok r w

theorem eqFields_flat {D d : Nat} (IH : ∀ t sg, sigOf P d t = some sg → EqP P w D t sg) :
    ∀ (fs : List Field) (off : Nat) (sg : List Sg) (xs ys : Array Value) (r : Bool), sgRow P (sigOf P d) fs off = some sg →
      off + sg.length ≤ xs.size → off + sg.length ≤ ys.size → leq sg ((xs.toList.drop off).take sg.length) ((ys.toList.drop off).take sg.length) = some r →
      (Op.eqFields D xs ys fs).run P w = .ok r w
  | [], off, sg, xs, ys, r, h1, hx, hy, hl => by
    simp only [sgRow, Option.some.injEq] at h1
    subst h1
    simp [leq] at hl
    subst hl
    simp [Op.eqFields]
  | f :: fs, off, sg, xs, ys, r, h1, hx, hy, hl => by
    simp only [sgRow] at h1
    split at h1
    · rename_i hoff
      cases hn : sigOf P d f.type with
      | none => simp [hn] at h1
      | some l =>
        simp only [hn, Option.bind_some] at h1
        split at h1
        · cases hr : sgRow P (sigOf P d) fs (off + l.length) with
          | none => simp [hr] at h1
          | some l2 =>
            simp only [hr, Option.map_some, Option.some.injEq] at h1
            subst h1
            obtain ⟨hsz, m, hm, hnm⟩ := sig_nOf hn
            simp only [List.length_append] at hx hy hl
            rw [List.take_add, List.take_add, List.drop_drop, List.drop_drop] at hl
            have lx : ((xs.toList.drop off).take l.length).length = l.length := by simp; omega
            have ly : ((ys.toList.drop off).take l.length).length = l.length := by simp; omega
            obtain ⟨r1, r2, e1, e2, rfl⟩ := leq_append _ _ _ _ _ _ r lx.symm (by rw [lx, ly]) hl
            obtain ⟨vx, cx⟩ := cells_ex lx hnm
            obtain ⟨vy, cy⟩ := cells_ex ly hnm
            have px : (part f.type xs f.offset).run P w = .ok vx w := run_part hm (by
              rcases cellsAt_seg (cs := xs.toList) (off := off) hnm with h | h
              · rw [hoff.1, h]; exact cx
              · simp at h; omega)
            have py : (part f.type ys f.offset).run P w = .ok vy w := run_part hm (by
              rcases cellsAt_seg (cs := ys.toList) (off := off) hnm with h | h
              · rw [hoff.1, h]; exact cy
              · simp at h; omega)
            have he := IH f.type l hn m _ _ vx vy r1 hm e1 cx cy
            have hr := eqFields_flat IH fs (off + l.length) l2 xs ys r2 hr (by omega) (by omega) e2
            cases r1 <;> simp [Op.eqFields, hoff.2, px, py, he, hr]
        · cases h1
    · cases h1

theorem eqItems_flat {D : Nat} {e : TypeId} {l : List Sg} {m : Option Nat} (hn : szOf P e = some l.length) (hm : nOf P e = some m) (hnm : m = none ∧ l.length = 1 ∨ m = some l.length)
    (IH : EqP P w D e l) :
    ∀ (k i : Nat) (xs ys : Array Value) (r : Bool), (i + k) * l.length ≤ xs.size → (i + k) * l.length ≤ ys.size →
      leq (List.replicate k l).flatten ((xs.toList.drop (i * l.length)).take (k * l.length)) ((ys.toList.drop (i * l.length)).take (k * l.length)) = some r →
      (Op.eqItems D e (P.cellsOf e) xs ys (List.range' i k)).run P w = .ok r w
  | 0, i, xs, ys, r, hx, hy, hl => by
    simp [leq] at hl
    subst hl
    simp [Op.eqItems]
  | k + 1, i, xs, ys, r, hx, hy, hl => by
    have hk : (i + (k + 1)) * l.length = i * l.length + l.length + k * l.length := by rw [Nat.add_mul, Nat.add_mul]; omega
    have hi1 : (i + 1) * l.length = i * l.length + l.length := by rw [Nat.add_mul]; omega
    have hs : ∀ zs : List Value, (zs.drop (i * l.length)).take ((k + 1) * l.length) = (zs.drop (i * l.length)).take l.length ++ (zs.drop ((i + 1) * l.length)).take (k * l.length) := fun zs => by
      rw [show (k + 1) * l.length = l.length + k * l.length by rw [Nat.add_mul]; omega, List.take_add, List.drop_drop, hi1]
    rw [hs, hs, List.replicate_succ, List.flatten_cons] at hl
    have lx : ((xs.toList.drop (i * l.length)).take l.length).length = l.length := by simp; omega
    have ly : ((ys.toList.drop (i * l.length)).take l.length).length = l.length := by simp; omega
    obtain ⟨r1, r2, e1, e2, rfl⟩ := leq_append _ _ _ _ _ _ r lx.symm (by rw [lx, ly]) hl
    obtain ⟨vx, cx⟩ := cells_ex lx hnm
    obtain ⟨vy, cy⟩ := cells_ex ly hnm
    have px : (part e xs (i * l.length)).run P w = .ok vx w := run_part hm (by
      rcases cellsAt_seg (cs := xs.toList) (off := i * l.length) hnm with h | h
      · rw [h]; exact cx
      · simp at h; omega)
    have py : (part e ys (i * l.length)).run P w = .ok vy w := run_part hm (by
      rcases cellsAt_seg (cs := ys.toList) (off := i * l.length) hnm with h | h
      · rw [h]; exact cy
      · simp at h; omega)
    have he := IH m _ _ vx vy r1 hm e1 cx cy
    have hr := eqItems_flat hn hm hnm IH k (i + 1) xs ys r2 (by rw [show i + 1 + k = i + (k + 1) by omega]; exact hx) (by rw [show i + 1 + k = i + (k + 1) by omega]; exact hy) e2
    rw [List.range'_succ]
    rw [cellsOf_of hn] at hr ⊢
    cases r1 <;> simp [Op.eqItems, px, py, he, hr]

theorem one_cells {s : Sg} {x y : List Value} {r : Bool} {vx vy : Value} (hl : leq [s] x y = some r) (hx : cellsAt x 0 none = some vx) (hy : cellsAt y 0 none = some vy) : veq s vx vy = some r := by
  obtain ⟨h1, h2⟩ := leq_len _ _ _ _ hl
  match x, y, h1, h2 with
  | [a], [b], _, _ =>
    simp [cellsAt, grd] at hx hy
    subst hx; subst hy
    simp only [leq] at hl
    cases hv : veq s a b with
    | none => simp [hv] at hl
    | some q => simp [hv, leq] at hl; cases q <;> simp_all

theorem flat_eq : ∀ (d D : Nat) (t : TypeId) (sg : List Sg), d ≤ D → sigOf P d t = some sg → EqP P w D t sg
  | 0, _, _, _, _, h => by simp [sigOf] at h
  | d + 1, 0, _, _, h, _ => by omega
  | d + 1, D + 1, t, sg, hd, hf => by
    intro m x y vx vy r hm hl hx hy
    obtain ⟨hsz, m', hm', hnm⟩ := sig_nOf hf
    rw [hm] at hm'
    simp only [Option.some.injEq] at hm'
    subst hm'
    obtain ⟨l1, l2⟩ := leq_len _ _ _ _ hl
    unfold sigOf at hf
    split at hf
    · rename_i k hu
      split at hf
      · simp only [Option.some.injEq] at hf
        subst hf
        obtain rfl : m = none := by have := hm; simp [nOf, aggT, hu] at this; exact this.symm
        have hv := one_cells hl hx hy
        unfold veq at hv
        split at hv
        · rename_i he; obtain ⟨⟨hk1, hk2⟩, hv2⟩ := grd_some hv; simp only [Option.some.injEq] at hv2; rw [hk1, hk2, ← hv2]; simp [Op.equalIn, run_underlying hu]
        · rename_i he; cases he
        · rename_i he; cases he
        · cases hv
      · cases hf
    · rename_i hu
      split at hf
      · simp only [Option.some.injEq] at hf
        subst hf
        obtain rfl : m = none := by have := hm; simp [nOf, aggT, hu] at this; exact this.symm
        have hv := one_cells hl hx hy
        unfold veq at hv
        split at hv
        · rename_i he; cases he
        · simp only [Option.some.injEq] at hv; subst hv; simp [Op.equalIn, run_underlying hu]
        · rename_i he; cases he
        · cases hv
      · cases hf
    · rename_i hu
      split at hf
      · simp only [Option.some.injEq] at hf
        subst hf
        obtain rfl : m = none := by have := hm; simp [nOf, aggT, hu] at this; exact this.symm
        have hv := one_cells hl hx hy
        unfold veq at hv
        split at hv
        · rename_i he; cases he
        · rename_i he; cases he
        · simp only [Option.some.injEq] at hv; subst hv; simp [Op.equalIn, run_underlying hu]
        · cases hv
      · cases hf
    · rename_i fs hu
      split at hf
      · cases hf
      · rename_i hst
        cases hr : sgRow P (sigOf P d) fs.toList 0 with
        | none => simp [hr] at hf
        | some l' =>
          simp only [hr, Option.bind_some] at hf
          split at hf
          · simp only [Option.some.injEq] at hf
            subst hf
            rename_i h1
            obtain rfl : m = some l'.length := by have := hm; simp [nOf, aggT, hu, h1] at this; exact this.symm
            simp only [cellsAt] at hx hy
            obtain ⟨_, hx⟩ := grd_some hx
            obtain ⟨_, hy⟩ := grd_some hy
            simp only [Option.some.injEq] at hx hy
            have ex : vx = .agg x.toArray := by rw [← hx, ← l1]; simp
            have ey : vy = .agg y.toArray := by rw [← hy, ← l2]; simp
            rw [ex, ey]
            have hfs : P.fieldsOf t = fs := by simp [Program.fieldsOf, hu]
            rw [run_equalIn_struct w D t x.toArray y.toArray (by rw [hfs]; exact hu) (by simpa using hst), hfs]
            refine eqFields_flat (fun t sg h => flat_eq d D t sg (by omega) h) fs.toList 0 l' _ _ r hr (by simp; omega) (by simp; omega) ?_
            simp only [List.drop_zero]
            rw [show (x.toArray.toList.take l'.length) = x by rw [← l1]; simp, show (y.toArray.toList.take l'.length) = y by rw [← l2]; simp]
            exact hl
          · cases hf
    · rename_i n e hu
      cases hr : sigOf P d e with
      | none => simp [hr] at hf
      | some l' =>
        simp only [hr, Option.bind_some] at hf
        split at hf
        · rename_i h1
          simp only [Option.some.injEq] at hf
          have hlen : sg.length = n * l'.length := by rw [← hf]; simp [List.length_flatten]
          obtain rfl : m = some (n * l'.length) := by have := hm; simp [nOf, aggT, hu, h1.2] at this; exact this.symm
          simp only [cellsAt] at hx hy
          obtain ⟨_, hx⟩ := grd_some hx
          obtain ⟨_, hy⟩ := grd_some hy
          simp only [Option.some.injEq] at hx hy
          have ex : vx = .agg x.toArray := by rw [← hx, ← hlen, ← l1]; simp
          have ey : vy = .agg y.toArray := by rw [← hy, ← hlen, ← l2]; simp
          rw [ex, ey]
          obtain ⟨hsz', m2, hm2, hnm2⟩ := sig_nOf hr
          have hi : ∃ i, P.info? e = some i := by unfold szOf at hsz'; cases hi : P.info? e with
            | none => simp [hi] at hsz'
            | some i => exact ⟨i, rfl⟩
          obtain ⟨i, hi⟩ := hi
          rw [run_equalIn_array w D x.toArray y.toArray hu hi, List.range_eq_range']
          refine eqItems_flat hsz' hm2 hnm2 (flat_eq d D e l' (by omega) hr) n 0 _ _ r (by simp; omega) (by simp; omega) ?_
          rw [hf]
          simp only [Nat.zero_mul, List.drop_zero, ← hlen]
          rw [show (x.toArray.toList.take sg.length) = x by rw [← l1]; simp, show (y.toArray.toList.take sg.length) = y by rw [← l2]; simp]
          exact hl
        · cases hf
    · cases hf

theorem aeqa_run {op : BinOp} {t : TypeId} {x y : Operand} {sg : List Sg} {neg agg : Bool} (hop : op = if neg then .neq else .eql) (hg : P.eqGuardType P.depth t = false)
    (hs : sigOf P 20 t = some sg) (hag : aggT P t = some agg) (hbool : agg = false → P.underlying t = some .bool) {a b v : Value} (ha : isAggV a = agg) (hb : isAggV b = agg) (hv : aeqa neg sg a b = some v) :
    (do eqGuard op t x y a b; binOp op t a b : Sem Value).run P w = .ok v w := by
  unfold aeqa at hv
  cases hl : leq sg a.cells.toList b.cells.toList with
  | none => simp [hl] at hv
  | some r =>
    simp [hl] at hv
    subst hv
    obtain ⟨hsz, m, hm, hnm⟩ := sig_nOf hs
    obtain ⟨l1, l2⟩ := leq_len _ _ _ _ hl
    have cx : cellsAt a.cells.toList 0 m = some a := by
      cases agg with
      | true =>
        obtain rfl : m = some sg.length := by have := hm; simp [nOf, hag, hsz] at this; exact this.symm
        cases a <;> simp [isAggV] at ha
        simp only [cellsAt, grd]; rw [if_pos (by omega), ← l1]; simp only [Value.cells, List.drop_zero, List.take_length]
      | false =>
        obtain rfl : m = none := by have := hm; simp [nOf, hag] at this; exact this.symm
        have : a.cells = #[a] := by cases a <;> simp [isAggV] at ha <;> rfl
        simp [cellsAt, grd, this]
    have cy : cellsAt b.cells.toList 0 m = some b := by
      cases agg with
      | true =>
        obtain rfl : m = some sg.length := by have := hm; simp [nOf, hag, hsz] at this; exact this.symm
        cases b <;> simp [isAggV] at hb
        simp only [cellsAt, grd]; rw [if_pos (by omega), ← l2]; simp only [Value.cells, List.drop_zero, List.take_length]
      | false =>
        obtain rfl : m = none := by have := hm; simp [nOf, hag] at this; exact this.symm
        have : b.cells = #[b] := by cases b <;> simp [isAggV] at hb <;> rfl
        simp [cellsAt, grd, this]
    have he : (Op.equal t a b).run P w = .ok r w := flat_eq 20 10000 t sg (by omega) hs m _ _ a b r hm hl cx cy
    have hgb : (eqGuard op t x y a b).run P w = .ok () w ∧ (binOp op t a b).run P w = .ok (.bool (if neg then !r else r)) w := by
      cases agg with
      | true =>
        cases a <;> simp [isAggV] at ha
        cases b <;> simp [isAggV] at hb
        refine ⟨run_eqGuard_agg w op t x y _ _ hg, ?_⟩
        subst hop
        cases neg <;> simp [binOp, he]
      | false =>
        have hu := hbool rfl
        have hsg : sg = [.b] := by
          unfold sigOf at hs; simp only [hu] at hs; split at hs
          · simpa using hs.symm
          · cases hs
        subst hsg
        obtain rfl : m = none := by have := hm; simp [nOf, hag] at this; exact this.symm
        have hv := one_cells hl cx cy
        unfold veq at hv
        split at hv
        · rename_i hq; cases hq
        · subst hop
          refine ⟨by unfold eqGuard; cases neg <;> simp, ?_⟩
          cases neg <;> simp [binOp, he]
        · rename_i hq; cases hq
        · cases hv
    obtain ⟨hgd, hbin⟩ := hgb
    simp [hgd, hbin]

end
end Go.Proofs.YtjklebickfcddaaDoor.Sep

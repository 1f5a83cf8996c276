/- The lean operations are sound. -/
import Derived.Test.YtjklebickfcddaaDoorSepC
import Derived.Laws.Cover3
namespace Go.Proofs.YtjklebickfcddaaDoor.Sep
open Go.RowKit
set_option linter.unusedVariables false
set_option linter.unusedSimpArgs false
set_option linter.constructorNameAsVariable false

section
variable {P : Program} {w : World}

theorem TR.eval {N : Nat} {t : T} {a : Act} (h : TR N t a) : a.eval = ev t := by
  funext x
  cases x with
  | tmp k => exact h.get k
  | const v => rfl
  | global g => rfl
  | func f => rfl

theorem TR.put {N : Nat} {t : T} {a : Act} (h : TR N t a) {d : Option Nat} (hd : ∀ k, d = some k → k < N) (v : Value) : TR N (puto t d v) (a.put d v) := by
  cases d with
  | none => exact h
  | some k =>
    have hk := hd k rfl
    refine ⟨by simp [Act.put, h.size], fun j => ?_, h.defers⟩
    simp only [Act.put, puto, Sep.put]
    have hg := h.get j
    by_cases hj : j = k
    · subst hj
      simp [h.size, hk]
    · rw [if_neg hj, ← hg]
      simp [Array.getElem?_setIfInBounds_ne (Ne.symm hj)]

theorem partsOf_map {α β : Type} (f : α → β) (place : Nat → Option (Nat × Nat)) : ∀ (parts : List (Nat × α)) (ps : List (Nat × Nat × α)), partsOf place parts = some ps →
    partsOf place (parts.map fun p => (p.1, f p.2)) = some (ps.map fun p => (p.1, p.2.1, f p.2.2))
  | [], ps, h => by simp [partsOf] at h; subst h; simp [partsOf]
  | p :: r, ps, h => by
    simp only [partsOf, List.mapM_cons] at h
    cases hp : place p.1 with
    | none => simp [hp] at h
    | some q =>
      cases hr : r.mapM (fun p => (place p.1).map fun q => (q.1, q.2, p.2)) with
      | none => simp [hp, hr] at h
      | some r' =>
        simp [hp, hr] at h
        subst h
        have ih := partsOf_map f place r r' hr
        simp only [partsOf] at ih
        simp only [partsOf, List.map_cons, List.mapM_cons, hp, Option.map_some, ih]
        simp

theorem zc_spec {e : TypeId} {z : List Value} (h : zc P e = some z) : ∃ i zv, P.info? e = some i ∧ i.zero = some zv ∧ zv.cells.toList = z ∧ i.size = z.length ∧ ∀ v ∈ z, v.oneCell' = true := by
  unfold zc at h
  cases hi : P.info? e with
  | none => simp [hi] at h
  | some i =>
    cases hz : i.zero with
    | none => simp [hi, hz] at h
    | some zv =>
      simp only [hi, hz, Option.bind_some] at h
      split at h
      · rename_i hc
        simp only [Option.some.injEq] at h
        simp only [Bool.and_eq_true, beq_iff_eq] at hc
        refine ⟨i, zv, rfl, hz, h, by rw [← h]; simp [hc.2], fun v hv => ?_⟩
        rw [← h] at hv
        exact Array.all_eq_true_iff_forall_mem.1 hc.1 v (Array.mem_toList_iff.1 hv)
      · cases h

theorem abld_run {t : TypeId} {z : List Value} (hz : zc P t = some z) {pl : Nat → Option (Nat × Nat)} (hpl : placeOf P t = some pl) (hns : ∀ e, P.underlying t ≠ some (.slice e))
    {parts : Array (Nat × Value)} {ps : List (Nat × Nat × Value)} (hp : partsOf pl parts.toList = some ps) {v : Value} (hv : abld z ps = some v) :
    (Instr.build t parts).run P w = .ok v w := by
  unfold abld at hv
  cases hf : fillL z ps with
  | none => simp [hf] at hv
  | some r =>
    simp [hf] at hv
    subst hv
    obtain ⟨i, zv, hi, hzz, hzc, _, _⟩ := zc_spec hz
    refine run_build w t parts r.toArray ?_
    have hfl := bld_fill pl parts.toList ps z r hp hf
    have hcells : zv.cells = z.toArray := by rw [← hzc]
    unfold Program.built
    unfold placeOf at hpl
    cases hu : P.underlying t with
    | none => simp [hu] at hpl
    | some d =>
      cases d <;> simp [hu] at hpl
      case array n e =>
        obtain ⟨ie, hie, rfl⟩ := hpl
        simp [hi, hzz, hie, hcells, hfl]
      case slice e => exact absurd hu (hns e)
      case struct fs =>
        obtain ⟨l, hl, rfl⟩ := hpl
        simp [hi, hzz, hl, hcells, hfl]

theorem run_v {s : Sem Value} {v : Value} (h : s.run P w = .ok v w) : (do pure (Next.value (← s)) : Sem Next).run P w = .ok (.value v) w := by
  simp [h]

theorem binOf_run {o : Oper} {op : BinOp} {t yt : TypeId} {x y : Operand} (ho : o.op = .binOp op t x y yt) {ao : AOp} (hb : binOf P op t x y = some ao) {h : H} {ρ : Operand → Value} {v : Value}
    (hv : adet h ρ ao = some v) : (execOp ρ o).run P w = .ok (.value v) w := by
  unfold binOf at hb
  unfold execOp
  simp only [ho]
  split at hb
  · simp only [Option.some.injEq] at hb; subst hb; exact run_v (abin_run hv)
  · simp only [Option.some.injEq] at hb; subst hb; exact run_v (abin_run hv)
  · cases hb

theorem eqaOf_run {o : Oper} {op : BinOp} {t yt : TypeId} {x y : Operand} (ho : o.op = .binOp op t x y yt) {ao : AOp} (hb : eqaOf P op t x y = some ao) (hbool : aggT P t = some false → P.underlying t = some .bool)
    {h : H} {ρ : Operand → Value} {v : Value} (hv : adet h ρ ao = some v) : (execOp ρ o).run P w = .ok (.value v) w := by
  unfold eqaOf at hb
  unfold execOp
  simp only [ho]
  split at hb
  · cases hb
  · rename_i hg
    cases hs : sigOf P 20 t with
    | none => simp [hs] at hb
    | some sg =>
      cases ha : aggT P t with
      | none => simp [hs, ha] at hb
      | some ag =>
        simp only [hs, ha, Option.bind_some] at hb
        split at hb
        · simp only [Option.some.injEq] at hb; subst hb
          obtain ⟨⟨h1, h2⟩, hv⟩ := grd_some hv
          exact run_v (aeqa_run (by simp) (by simpa using hg) hs ha (fun e => hbool (by rw [ha, e])) h1 h2 hv)
        · simp only [Option.some.injEq] at hb; subst hb
          obtain ⟨⟨h1, h2⟩, hv⟩ := grd_some hv
          exact run_v (aeqa_run (by simp) (by simpa using hg) hs ha (fun e => hbool (by rw [ha, e])) h1 h2 hv)
        · cases hb

theorem cvOf_run {o : Oper} {src dst : TypeId} {x : Operand} (ho : o.op = .convert src dst x) {ao : AOp} (hb : cvOf P src dst x = some ao)
    {B : Bd} {w0 : World} {h hr : H} (hs : Sat B w0 w hr) (hle : Le h hr) {ρ : Operand → Value} {v : Value} (hv : adet h ρ ao = some v) : (execOp ρ o).run P w = .ok (.value v) w := by
  unfold cvOf at hb
  unfold execOp
  simp only [ho]
  split at hb
  · rename_i k1 k2 h1 h2
    simp only [Option.some.injEq] at hb; subst hb
    refine run_v ?_
    simp only [adet] at hv
    unfold acvi at hv
    split at hv
    · rename_i he
      simp only [Option.some.injEq] at hv; subst hv
      simp [convert, run_underlying h1, run_underlying h2, he, Conv.intToInt]
    · cases hv
  · rename_i h1 h2
    simp only [Option.some.injEq] at hb; subst hb
    refine run_v ?_
    simp only [adet] at hv
    unfold acvs at hv
    split at hv
    · rename_i he
      simp only [Option.some.injEq] at hv; subst hv
      simp [convert, run_underlying h1, run_underlying h2, he]
    · cases hv
  · rename_i e h1 h2
    split at hb
    · simp only [Option.some.injEq] at hb; subst hb; simp [adet] at hv
    · cases hb
  · rename_i e h1 h2
    split at hb
    · rename_i h3
      simp only [Option.some.injEq] at hb; subst hb
      refine run_v ?_
      simp only [adet] at hv
      have hr := ab2s_run (P := P) hs hle hv
      unfold ab2s at hv
      split at hv
      · rename_i he; rw [he] at hr ⊢; simpa [convert, run_underlying h1, run_underlying h2, run_underlying h3] using hr
      · rename_i he; rw [he] at hr ⊢; simpa [convert, run_underlying h1, run_underlying h2, run_underlying h3] using hr
      · cases hv
    · cases hb
  · cases hb

theorem max_run {x y v : Value} (hv : amax x y = some v) : (Builtin.max2 x y).run P w = .ok v w := by
  unfold amax at hv
  split at hv
  · simp only [Option.some.injEq] at hv; subst hv; simp [Builtin.max2]
  · cases hv
theorem min_run {x y v : Value} (hv : amin x y = some v) : (Builtin.min2 x y).run P w = .ok v w := by
  unfold amin at hv
  split at hv
  · simp only [Option.some.injEq] at hv; subst hv; simp [Builtin.min2]
  · cases hv

theorem callOf_run {o : Oper} {c : Call} (ho : o.op = .call c) {ao : AOp} (hb : callOf P c = some ao)
    {B : Bd} {w0 : World} {h hr : H} (hs : Sat B w0 w hr) (hle : Le h hr) {ρ : Operand → Value} (hρ : ∀ v, ρ (.const v) = v) {v : Value} (hv : adet h ρ ao = some v) : (execOp ρ o).run P w = .ok (.value v) w := by
  obtain ⟨callee, args, argTypes⟩ := c
  unfold callOf at hb
  unfold execOp
  simp only [ho]
  cases callee with
  | invoke r m => simp at hb
  | value f =>
    cases f with
    | func f =>
      simp only at hb
      split at hb
      · split at hb
        · cases hb
        · simp only [Option.some.injEq] at hb; subst hb; simp [adet] at hv
      · cases hb
    | _ => simp only [Option.some.injEq] at hb; subst hb; simp [adet] at hv
  | builtin b =>
    cases b <;> simp only at hb <;> try (cases hb; done)
    case len =>
      cases ht : argTypes[0]? with
      | none => simp [ht] at hb
      | some t =>
        simp only [ht, Option.bind_some] at hb
        split at hb
        · rename_i x hu ha
          simp only [Option.some.injEq] at hb; subst hb
          obtain rfl : args = #[x] := by cases args; simp_all
          simp only [adet] at hv; unfold alenT at hv
          split at hv
          · rename_i he
            simp only [Option.some.injEq] at hv; subst hv
            simp [resolve, invoke, builtin, Builtin.len_, ht, he, run_underlying hu, goInt]
          · cases hv
        · rename_i e x hu ha
          simp only [Option.some.injEq] at hb; subst hb
          obtain rfl : args = #[x] := by cases args; simp_all
          simp only [adet] at hv; unfold alenS at hv
          split at hv
          · rename_i he
            simp only [Option.some.injEq] at hv; subst hv
            simp [resolve, invoke, builtin, Builtin.len_, ht, he, run_underlying hu, goInt]
          · cases hv
        · rename_i n e x hu ha
          simp only [Option.some.injEq] at hb; subst hb
          obtain rfl : args = #[x] := by cases args; simp_all
          simp only [adet, Option.some.injEq] at hv; subst hv
          simp [resolve, invoke, builtin, Builtin.len_, ht, run_underlying hu, goInt, hρ]
        · rename_i k e x hu ha
          simp only [Option.some.injEq] at hb; subst hb
          obtain rfl : args = #[x] := by cases args; simp_all
          simp only [adet] at hv; unfold alenM at hv
          split at hv
          · rename_i he
            simp only [Option.some.injEq] at hv; subst hv
            simp [resolve, invoke, builtin, Builtin.len_, ht, he, run_underlying hu, goInt]
          · rename_i b he
            split at hv
            · rename_i es cl hb2
              simp only [Option.some.injEq] at hv; subst hv
              obtain ⟨⟨o', ho', hok⟩, _⟩ := hs.blk b _ (hle _ _ hb2)
              obtain ⟨rfl, _⟩ := hok
              simp [resolve, invoke, builtin, Builtin.len_, ht, he, run_underlying hu, goInt, getObj, Sem.run, ho']
            · cases hv
          · cases hv
        · cases hb
    case max =>
      split at hb
      · rename_i x y ha
        simp only [Option.some.injEq] at hb; subst hb
        obtain rfl : args = #[x, y] := by cases args; simp_all
        have := max_run (P := P) (w := w) hv
        simp [resolve, invoke, builtin, Builtin.max_, this]
      · cases hb
    case min =>
      split at hb
      · rename_i x y ha
        simp only [Option.some.injEq] at hb; subst hb
        obtain rfl : args = #[x, y] := by cases args; simp_all
        have := min_run (P := P) (w := w) hv
        simp [resolve, invoke, builtin, Builtin.min_, this]
      · cases hb
    case append =>
      split at hb
      · split at hb
        · rename_i e _
          cases hz : zc P e with
          | none => simp [hz] at hb
          | some z =>
            cases hi : P.info? e with
            | none => simp [hz, hi] at hb
            | some i =>
              simp only [hz, hi, Option.bind_some] at hb
              split at hb
              · split at hb
                · simp only [Option.some.injEq] at hb; subst hb; simp [adet] at hv
                · cases hb
              · split at hb
                · split at hb
                  · simp only [Option.some.injEq] at hb; subst hb; simp [adet] at hv
                  · cases hb
                · cases hb
        · cases hb
      · cases hb
    case copy =>
      split at hb
      · rename_i e _ _ _ _ _ _
        cases hz : szOf P e with
        | none => simp [hz] at hb
        | some n => simp [hz] at hb; subst hb; simp [adet] at hv
      · split at hb
        · simp only [Option.some.injEq] at hb; subst hb; simp [adet] at hv
        · cases hb
      · cases hb
    case clear =>
      split at hb
      · rename_i e _ _ _
        cases hz : zc P e with
        | none => simp [hz] at hb
        | some n => simp [hz] at hb; subst hb; simp [adet] at hv
      · cases hb

/-- The operations of the model that only yield a value. -/
theorem det_run {B : Bd} {w0 : World} {h hr : H} (hs : Sat B w0 w hr) (hle : Le h hr) {o : Oper} {op : AOp} (hc : compOp P o = some op)
    {ρ : Operand → Value} (hρ : ∀ v, ρ (.const v) = v) {v : Value} (hv : adet h ρ op = some v) : (execOp ρ o).run P w = .ok (.value v) w := by
  unfold compOp at hc
  split at hc
  all_goals rename_i ho
  all_goals try (cases hc; done)
  -- move, assign
  · simp only [Option.some.injEq] at hc; subst hc; simp only [adet, Option.some.injEq] at hv; subst hv; simp [execOp, ho]
  · simp only [Option.some.injEq] at hc; subst hc; simp only [adet, Option.some.injEq] at hv; subst hv; simp [execOp, ho]
  -- nilCheck
  · simp only [Option.some.injEq] at hc; subst hc
    simp only [adet] at hv; unfold afa at hv
    split at hv
    · rename_i b o hx
      simp only [Option.some.injEq] at hv; subst hv
      unfold execOp; simp only [ho]; rw [hx]; simp
    · cases hv
  -- pick
  · simp only [Option.some.injEq] at hc; subst hc
    simp only [adet] at hv
    unfold apick at hv
    split at hv
    · simp only [Option.some.injEq] at hv; subst hv; rename_i he; simp [execOp, ho, he, asBool]
    · cases hv
  -- alloc
  · rename_i e
    cases hz : zc P e with
    | none => simp [hz] at hc
    | some z => simp [hz] at hc; subst hc; simp [adet] at hv
  -- box
  · simp only [Option.some.injEq] at hc; subst hc; simp [adet] at hv
  -- build
  · rename_i t parts
    cases hz : zc P t with
    | none => simp [hz] at hc
    | some z =>
      simp only [hz, Option.bind_some] at hc
      split at hc
      · cases hc
      · rename_i hns
        cases hpl : placeOf P t with
        | none => simp [hpl] at hc
        | some pl =>
          cases hp : partsOf pl parts.toList with
          | none => simp [hpl, hp] at hc
          | some ps =>
            simp [hpl, hp] at hc
            subst hc
            have hpm := partsOf_map ρ pl _ _ hp
            have hr := abld_run (P := P) (w := w) (parts := parts.map fun p => (p.1, ρ p.2)) hz hpl (fun e he => hns e he) (by rw [Array.toList_map]; exact hpm) hv
            simp [execOp, ho, hr]
  -- buildSlice
  · split at hc
    · rename_i e hu
      cases hz : zc P e with
      | none => simp [hz] at hc
      | some z =>
        rename_i t len parts _
        cases hpl : placeOf P t with
        | none => simp [hz, hpl] at hc
        | some pl =>
          cases hp : partsOf pl parts.toList with
          | none => simp [hz, hpl, hp] at hc
          | some ps => simp [hz, hpl, hp] at hc; rw [← hc.2] at hv; simp [adet] at hv
    · cases hc
  -- load
  · rename_i t a
    cases hn : nOf P t with
    | none => simp [hn] at hc
    | some n => simp [hn] at hc; subst hc; simp [execOp, ho, ald_run hs hle hn hv]
  -- store
  · rename_i t a x
    cases hn : szOf P t with
    | none => simp [hn] at hc
    | some n => simp [hn] at hc; subst hc; simp [adet] at hv
  -- binOp
  · rename_i op t x y yt
    split at hc
    · rename_i hu; exact eqaOf_run ho hc (fun e => by simp [aggT, hu] at e) hv
    · rename_i hu; exact eqaOf_run ho hc (fun e => by simp [aggT, hu] at e) hv
    · rename_i hu; exact eqaOf_run ho hc (fun _ => hu) hv
    · rename_i e hu
      have hg : ∀ op' (z : Value), (eqGuard op' t x (.const (.slice none 0 0)) z (.slice none 0 0)).run P w = .ok () w := fun op' z => by unfold eqGuard; cases op' <;> cases z <;> simp
      split at hc
      · have he : ∀ (a : Option Addr) (n c : Nat), (Op.equal t (.slice a n c) (.slice none 0 0)).run P w = .ok a.isNone w := fun a n c => run_equal_slice_nil w t e a n c hu
        split at hc
        · simp only [Option.some.injEq] at hc; subst hc
          simp only [adet] at hv; unfold anilS at hv
          split at hv
          · rename_i a n c hx
            simp only [Option.some.injEq] at hv; subst hv
            unfold execOp; simp only [ho]
            refine run_v ?_
            rw [hx, hρ]
            simp [hg, binOp, he]
          · cases hv
        · simp only [Option.some.injEq] at hc; subst hc
          simp only [adet] at hv; unfold anilS at hv
          split at hv
          · rename_i a n c hx
            simp only [Option.some.injEq] at hv; subst hv
            unfold execOp; simp only [ho]
            refine run_v ?_
            rw [hx, hρ]
            simp [hg, binOp, he]
          · cases hv
        · cases hc
      · cases hc
    · exact binOf_run ho hc hv
  -- unOp
  · simp only [Option.some.injEq] at hc; subst hc
    unfold execOp; simp only [ho]
    exact run_v (aun_run hv)
  -- convert
  · exact cvOf_run ho hc hs hle hv
  -- makeFunc
  · simp only [Option.some.injEq] at hc; subst hc
    simp only [adet, Option.some.injEq] at hv; subst hv
    unfold execOp; simp only [ho]
    refine run_v ?_
    have h1 : ∀ a : Array Operand, Array.map ρ a = (List.map ρ a.toList).toArray := fun a => by apply Array.ext'; simp
    simp [Instr.makeFunc, h1]
  -- makeSlice
  · split at hc
    · rename_i e hu
      cases hz : zc P e with
      | none => simp [hz] at hc
      | some z =>
        cases hi : P.info? e with
        | none => simp [hz, hi] at hc
        | some i => simp [hz, hi] at hc; subst hc; simp [adet] at hv
    · cases hc
  -- slice
  · rename_i t x lo hi
    unfold execOp; simp only [ho]
    split at hc
    · rename_i n e hu
      cases hz : szOf P e with
      | none => simp [hz] at hc
      | some s => simp [hz] at hc; subst hc; exact run_v (aslA_run hu hz hv)
    · rename_i e hu
      cases hz : szOf P e with
      | none => simp [hz] at hc
      | some s => simp [hz] at hc; subst hc; exact run_v (aslS_run hu hz hv)
    · rename_i hu
      simp only [Option.some.injEq] at hc; subst hc; exact run_v (aslT_run hu hv)
    · cases hc
  -- fieldAddr
  · unfold execOp; simp only [ho]
    split at hc
    · rename_i fs hu
      rename_i s x f _
      cases hg : fs[f]? with
      | none => simp [hg] at hc
      | some g =>
        cases hz : szOf P g.type with
        | none => simp [hg, hz] at hc
        | some n =>
          simp only [hg, hz, Option.bind_some] at hc
          split at hc
          · cases hc
          · rename_i h0
            simp only [Option.some.injEq] at hc; subst hc; exact run_v (afa_run hu hg hz h0 hv)
    · cases hc
  -- field
  · unfold execOp; simp only [ho]
    split at hc
    · rename_i fs hu
      rename_i s x f _
      cases hg : fs[f]? with
      | none => simp [hg] at hc
      | some g =>
        cases hz : nOf P g.type with
        | none => simp [hg, hz] at hc
        | some n => simp [hg, hz] at hc; subst hc; exact run_v (afd_run hu hg hz hv)
    · cases hc
  -- indexAddr
  · unfold execOp; simp only [ho]
    split at hc
    · rename_i n e hu
      cases hz : szOf P e with
      | none => simp [hz] at hc
      | some s => simp [hz] at hc; subst hc; exact run_v (aixA_run hu hz hv)
    · rename_i e hu
      cases hz : szOf P e with
      | none => simp [hz] at hc
      | some s => simp [hz] at hc; subst hc; exact run_v (aixS_run hu hz hv)
    · cases hc
  -- index
  · unfold execOp; simp only [ho]
    split at hc
    · rename_i n e hu
      cases hz : szOf P e with
      | none => simp [hz] at hc
      | some s =>
        cases hn : nOf P e with
        | none => simp [hz, hn] at hc
        | some m => simp [hz, hn] at hc; subst hc; exact run_v (aixV_run hu hz hn hv)
    · rename_i hu
      simp only [Option.some.injEq] at hc; subst hc; exact run_v (aixT_run hu hv)
    · cases hc
  -- extract
  · simp only [Option.some.injEq] at hc; subst hc
    unfold execOp; simp only [ho]
    exact run_v (aext_run hv)
  -- call
  · exact callOf_run ho hc hs hle hρ hv
  -- makeMap
  · simp only [Option.some.injEq] at hc; subst hc; simp [adet] at hv
  -- panic, makeInterface
  · simp only [Option.some.injEq] at hc; subst hc; simp [adet] at hv
  · simp only [Option.some.injEq] at hc; subst hc; simp [adet] at hv

end
end Go.Proofs.YtjklebickfcddaaDoor.Sep

/- Contracts out of bodies; loops; what the evaluation rewrites by. -/
import Derived.Test.YtjklebickfcddaaDoorSepK
namespace Go.Proofs.YtjklebickfcddaaDoor.Sep
open Go.RowKit
set_option linter.unusedVariables false
set_option linter.unusedSimpArgs false
set_option linter.constructorNameAsVariable false

/-- Where a result lies: in a temporary, or in memory. -/
inductive ARes where
  | tmp (k : Nat)
  | cell (n : Option Nat) (k : Nat)

def compRes (P : Program) : ResultVar → Option ARes
  | .tmp t => some (.tmp t)
  | .cell a ty => (nOf P ty).map fun n => .cell n a

def resV (t : T) (h : H) : ARes → Option Value
  | .tmp k => some (t k)
  | .cell n k => ald h n (t k)

def resAll (t : T) (h : H) : List ARes → Option (List Value)
  | [] => some []
  | r :: rs => (resV t h r).bind fun v => (resAll t h rs).bind fun vs => some (v :: vs)

def resJoin : List Value → Value
  | [v] => v
  | vs => .tuple vs.toArray

structure AFun where
  code : ACode
  res : List ARes
  n : Nat

def compF (P : Program) (fn : Func) : Option AFun :=
  fn.body.bind fun c => (compC P fn.ntmps c).bind fun ac => (fn.results.toList.mapM (compRes P)).map fun rs => ⟨ac, rs, fn.ntmps⟩

def argT (args : List Value) : T := fun k => args.getD k undef

/-- What a function owes where it returns. -/
def Ret (rs : List ARes) (R : Value → H → Prop) (t : T) (h : H) : Prop := OK (resAll t h rs) fun vs => R (resJoin vs) h

section
variable {P : Program}

def resRun (tmps : Array Value) : ResultVar → Sem Value
  | .tmp k => pure (tmps.getD k undef)
  | .cell k ty => do loadVar ty (← asAddr (tmps.getD k undef))

theorem resV_run {B : Bd} {w0 w : World} {N : Nat} {t : T} {h : H} {a : Act} (ht : TR N t a) (hw : Sat B w0 w h) {r : ResultVar} {r' : ARes} (hr : compRes P r = some r') {v : Value} (hv : resV t h r' = some v) :
    (resRun a.tmps r).run P w = .ok v w := by
  cases r with
  | tmp k =>
    simp only [compRes, Option.some.injEq] at hr
    subst hr
    simp only [resV, Option.some.injEq] at hv
    have := ht.get k
    simp only [resRun, Sem.run_pure, this, hv]
  | cell k ty =>
    simp only [compRes, Option.map_eq_some_iff] at hr
    obtain ⟨n, hn, rfl⟩ := hr
    simp only [resV] at hv
    have hg := ht.get k
    have hl := ald_run (P := P) hw (fun _ _ h => h) hn hv
    unfold ald at hv
    split at hv
    · rename_i b off hx
      rw [hx] at hl hg
      simp only [Instr.loadAt, Instr.sureAddr, Sem.run_bind, Sem.run_pure, Result.andThen_ok] at hl
      simp only [resRun, Sem.run_bind, hg, asAddr, Sem.run_pure, Result.andThen_ok, hl]
    · cases hv

theorem resAll_run {B : Bd} {w0 w : World} {N : Nat} {t : T} {h : H} {a : Act} (ht : TR N t a) (hw : Sat B w0 w h) : ∀ (rv : List ResultVar) (rs : List ARes) (vs : List Value),
    rv.mapM (compRes P) = some rs → resAll t h rs = some vs → (rv.mapM (resRun a.tmps)).run P w = .ok vs w
  | [], rs, vs, h1, h2 => by
    simp at h1; subst h1
    simp [resAll] at h2; subst h2
    simp
  | r :: rv, rs, vs, h1, h2 => by
    rw [List.mapM_cons] at h1
    cases hr : compRes P r with
    | none => simp [hr] at h1
    | some r' =>
      cases hm : rv.mapM (compRes P) with
      | none => simp [hr, hm] at h1
      | some rs' =>
        simp [hr, hm] at h1
        subst h1
        simp only [resAll] at h2
        cases hv : resV t h r' with
        | none => simp [hv] at h2
        | some v =>
          cases hvs : resAll t h rs' with
          | none => simp [hv, hvs] at h2
          | some vs' =>
            simp [hv, hvs] at h2
            subst h2
            have ih := resAll_run ht hw rv rs' vs' hm hvs
            rw [List.mapM_cons]
            simp only [Sem.run_bind, resV_run ht hw hr hv, Result.andThen_ok, ih, Sem.run_pure]

theorem results_run {B : Bd} {w0 w : World} {N : Nat} {t : T} {h : H} {a : Act} (ht : TR N t a) (hw : Sat B w0 w h) {fn : Func} {rs : List ARes} (hrs : fn.results.toList.mapM (compRes P) = some rs)
    {vs : List Value} (hvs : resAll t h rs = some vs) : (results fn a.tmps).run P w = .ok (resJoin vs) w := by
  have h1 := resAll_run (P := P) ht hw _ _ _ hrs hvs
  have he : results fn a.tmps = (do let vs ← fn.results.mapM (resRun a.tmps); pure (if h : vs.size = 1 then vs[0] else .tuple vs)) := by
    unfold results
    congr 1
    first
    | done
    | (congr 1; funext x; cases x <;> rfl)
  rw [he]
  simp only [Array.mapM_eq_mapM_toList, Sem.run_bind, Sem.run_map, h1, Result.andThen_ok, Sem.run_pure]
  congr 1
  match vs with
  | [] => rfl
  | [v] => rfl
  | _ :: _ :: _ => rfl

theorem TR.start {fn : Func} {args : List Value} (hn : args.length ≤ fn.ntmps) :
    TR fn.ntmps (argT args) { tmps := args.toArray ++ Array.replicate (fn.ntmps - args.toArray.size) undef, defers := [] } := by
  refine ⟨by simp; omega, fun k => ?_, rfl⟩
  simp only [argT, Array.getD_eq_getD_getElem?, List.getD, Array.getElem?_append, List.size_toArray, List.getElem?_toArray]
  split
  · rfl
  · rename_i hk
    rw [List.getElem?_eq_none (by omega)]
    by_cases h2 : k - args.length < fn.ntmps - args.length
    · rw [Array.getElem?_replicate, if_pos h2]; rfl
    · rw [Array.getElem?_replicate, if_neg h2]

theorem body_calls {f : FuncId} {fn : Func} (hf : P.funcs[f]? = some fn) {af : AFun} (hc : compF P fn = some af) {args : List Value} (hn : args.length ≤ af.n)
    {R : Value → H → Prop} {h : H} (hbody : awp P af.code (Ret af.res R) (fun _ _ _ => False) (Ret af.res R) (argT args) h) {B : Bd} {w0 w : World} (hw : Sat B w0 w h) :
    Calls P f args.toArray w fun e w' => ∃ r h', e = .returned r ∧ R r h' ∧ Sat B w0 w' h' := by
  unfold compF at hc
  simp only [Option.bind_eq_some_iff, Option.map_eq_some_iff] at hc
  obtain ⟨c, hb, ac, hac, rs, hrs, rfl⟩ := hc
  refine calls_of_wp hf hb ?_
  refine wp_mono (code_sound c hac hbody (TR.start hn) hw) ?_
  have hret : ∀ a' w', St B w0 fn.ntmps (Ret rs R) a' w' → a'.defers = [] ∧ ∃ v, (results fn a'.tmps).run P w' = .ok v w' ∧ ∃ r h', Ending.returned v = .returned r ∧ R r h' ∧ Sat B w0 w' h' := by
    rintro a' w' ⟨t, h', ht, hw', vs, hvs, hR⟩
    exact ⟨ht.defers, _, results_run ht hw' hrs hvs, _, h', rfl, hR, hw'⟩
  intro ex a' w' hp
  cases ex with
  | normal => exact hret a' w' hp
  | ret => exact hret a' w' hp
  | exit i => obtain ⟨_, _, _, _, hf⟩ := hp; exact hf.elim
  | goto l => exact hp.elim
  | panic c => exact hp.elim
  | outgrown => exact hp.elim

/-- The heap has grown by 'd' at least. -/
def Grew (h : H) (d h' : H) : Prop := Dis h d ∧ Le (join h d) h'

theorem Sat.mono {B : Bd} {w0 w : World} {h h' : H} (hs : Sat B w0 w h') (hle : Le h h') : Sat B w0 w h := ⟨hs.below, hs.base, fun b k hb => hs.blk b k (hle b k hb), hs.grow, fun b hb => hs.old b (by
  obtain ⟨k, hk⟩ := Option.isSome_iff_exists.1 hb
  rw [hle b k hk]; rfl)⟩

/-- A pure function's contract. -/
theorem spec_of {f : FuncId} {fn : Func} (hf : P.funcs[f]? = some fn) {af : AFun} (hc : compF P fn = some af) {args : List Value} (hn : args.length ≤ af.n) {h : H} {Φ : Value → H → Prop}
    (hbody : ∀ hr, Le h hr → awp P af.code (Ret af.res fun r h' => ∃ d, Φ r d ∧ Grew hr d h') (fun _ _ _ => False) (Ret af.res fun r h' => ∃ d, Φ r d ∧ Grew hr d h') (argT args) hr) : Spec P f args h Φ :=
  fun hr hle B w0 w hw => (body_calls hf hc hn (hbody hr hle) hw).mono fun e w' => by
    rintro ⟨r, h', rfl, ⟨d, hΦ, hd, hl⟩, hw'⟩
    exact ⟨r, d, rfl, hΦ, hd, hw'.mono hl⟩

/-- The contract of a pure function whose result holds no address. -/
theorem spec_val {f : FuncId} {fn : Func} (hf : P.funcs[f]? = some fn) {af : AFun} (hc : compF P fn = some af) {args : List Value} (hn : args.length ≤ af.n) {h : H} {φ : Value → Prop}
    (hbody : ∀ hr, Le h hr → awp P af.code (Ret af.res fun r h' => φ r ∧ Le hr h') (fun _ _ _ => False) (Ret af.res fun r h' => φ r ∧ Le hr h') (argT args) hr) : Spec P f args h fun r d => φ r ∧ d = emp :=
  fun hr hle B w0 w hw => (body_calls hf hc hn (hbody hr hle) hw).mono fun e w' => by
    rintro ⟨r, h', rfl, ⟨hφ, hl⟩, hw'⟩
    refine ⟨r, emp, rfl, ⟨hφ, rfl⟩, fun b hb => by simp [emp] at hb, hw'.mono fun b k hb => hl b k (by simpa [join, emp] using hb)⟩

/-- The contract of a function that turns memory. -/
theorem specW_of {f : FuncId} {fn : Func} (hf : P.funcs[f]? = some fn) {af : AFun} (hc : compF P fn = some af) {args : List Value} (hn : args.length ≤ af.n) {h : H} {Φ : Value → H → Prop}
    (hbody : awp P af.code (Ret af.res Φ) (fun _ _ _ => False) (Ret af.res Φ) (argT args) h) : SpecW P f args h Φ :=
  fun B w0 w hw => body_calls hf hc hn hbody hw

/-! ### Loops -/

def dstsOk (m : Nat → Bool) : ACode → Bool
  | .reg ops => ops.all fun o => o.dst.all m
  | .seq a b | .cond _ a b => dstsOk m a && dstsOk m b
  | .block _ b | .loop b => dstsOk m b
  | _ => true

theorem aops_agree {m : Nat → Bool} {t0 : T} : ∀ {ops : List AOper}, (ops.all fun o => o.dst.all m) = true → ∀ {n : T → H → Prop} {t : T} {h : H}, (∀ j, m j = false → t j = t0 j) →
    aops P ops (fun t h => (∀ j, m j = false → t j = t0 j) → n t h) t h → aops P ops n t h
  | [], _, n, t, h, hag, hs => hs hag
  | o :: r, hm, n, t, h, hag, hs => by
    simp only [List.all_cons, Bool.and_eq_true] at hm
    have hput : ∀ v j, m j = false → puto t o.dst v j = t0 j := fun v j hj => by
      cases hd : o.dst with
      | none => exact hag j hj
      | some d =>
        have hmd : m d = true := by have := hm.1; rw [hd] at this; simpa using this
        have : j ≠ d := fun e => by rw [e, hmd] at hj; cases hj
        simp [puto, put, this, hag j hj]
    have hs' : step P o (aops P r fun t h => (∀ j, m j = false → t j = t0 j) → n t h) t h := hs
    show step P o (aops P r n) t h
    rw [step_def] at hs' ⊢
    split
    · rename_i hg; rw [if_pos hg] at hs'
      exact aop_mono (fun v e hve hok => aops_agree hm.2 (hput v) (hve hok)) hs'
    · rename_i hg; rw [if_neg hg] at hs'
      exact aops_agree hm.2 (hput undef) hs'

theorem awp_agree {m : Nat → Bool} {t0 : T} : ∀ {b : ACode}, dstsOk m b = true → ∀ {n : T → H → Prop} {e : Nat → T → H → Prop} {r : T → H → Prop} {t : T} {h : H}, (∀ j, m j = false → t j = t0 j) →
    awp P b (fun t h => (∀ j, m j = false → t j = t0 j) → n t h) (fun i t h => (∀ j, m j = false → t j = t0 j) → e i t h) (fun t h => (∀ j, m j = false → t j = t0 j) → r t h) t h → awp P b n e r t h
  | .skip, _, n, e, r, t, h, hag, hs => hs hag
  | .reg ops, hm, n, e, r, t, h, hag, hs => aops_agree hm hag hs
  | .seq a b, hm, n, e, r, t, h, hag, hs => by
    simp only [dstsOk, Bool.and_eq_true] at hm
    refine awp_agree hm.1 hag ?_
    exact awp_mono (fun t h hb hag' => awp_agree hm.2 hag' hb) (fun _ _ _ h => h) (fun _ _ h => h) hs
  | .cond c a b, hm, n, e, r, t, h, hag, hs => by
    simp only [dstsOk, Bool.and_eq_true] at hm
    simp only [awp] at hs ⊢
    split at hs
    · exact ⟨fun hv => awp_agree hm.1 hag (hs.1 hv), fun hv => awp_agree hm.2 hag (hs.2 hv)⟩
    · exact hs
  | .block id b, hm, n, e, r, t, h, hag, hs => by
    refine awp_agree (b := b) hm hag ?_
    refine awp_mono (fun _ _ h => h) (fun i t h hi hag' => ?_) (fun _ _ h => h) hs
    split
    · rename_i hid; rw [if_pos hid] at hi; exact hi hag'
    · rename_i hid; rw [if_neg hid] at hi; exact hi hag'
  | .loop b, hm, n, e, r, t, h, hag, hs => by
    obtain ⟨I, k, hI, hround⟩ := hs
    refine ⟨fun k t h => (∀ j, m j = false → t j = t0 j) ∧ I k t h, k, ⟨hag, hI⟩, fun k t h ⟨hag', hI'⟩ => ?_⟩
    refine awp_agree (b := b) hm hag' ?_
    exact awp_mono (fun t h ⟨k', hk', hI''⟩ hag'' => ⟨k', hk', hag'', hI''⟩) (fun _ _ _ h => h) (fun _ _ h => h) (hround k t h hI')
  | .exit id, _, n, e, r, t, h, hag, hs => hs hag
  | .ret, _, n, e, r, t, h, hag, hs => hs hag
where
  aops_mono {P : Program} : ∀ {ops : List AOper} {n n' : T → H → Prop}, (∀ t h, n t h → n' t h) → ∀ {t : T} {h : H}, aops P ops n t h → aops P ops n' t h
    | [], _, _, hn, _, _, hs => hn _ _ hs
    | o :: r, n, n', hn, t, h, hs => step_mono (fun t h hs => aops_mono hn hs) (show step P o (aops P r n) t h from hs)
  awp_mono {P : Program} : ∀ {b : ACode} {n n' : T → H → Prop} {e e' : Nat → T → H → Prop} {r r' : T → H → Prop}, (∀ t h, n t h → n' t h) → (∀ i t h, e i t h → e' i t h) → (∀ t h, r t h → r' t h) →
      ∀ {t : T} {h : H}, awp P b n e r t h → awp P b n' e' r' t h
    | .skip, _, _, _, _, _, _, hn, he, hr, _, _, hs => hn _ _ hs
    | .reg ops, _, _, _, _, _, _, hn, he, hr, _, _, hs => aops_mono hn hs
    | .seq a b, _, _, _, _, _, _, hn, he, hr, _, _, hs => awp_mono (b := a) (fun t h hb => awp_mono (b := b) hn he hr hb) he hr hs
    | .cond c a b, _, _, _, _, _, _, hn, he, hr, _, _, hs => by
      simp only [awp] at hs ⊢
      split at hs
      · exact ⟨fun hv => awp_mono hn he hr (hs.1 hv), fun hv => awp_mono hn he hr (hs.2 hv)⟩
      · exact hs
    | .block id b, _, _, _, _, _, _, hn, he, hr, _, _, hs => by
      refine awp_mono (b := b) hn (fun i t h hi => ?_) hr hs
      split
      · rename_i hid; rw [if_pos hid] at hi; exact hn _ _ hi
      · rename_i hid; rw [if_neg hid] at hi; exact he _ _ _ hi
    | .loop b, _, _, _, _, _, _, hn, he, hr, _, _, hs => by
      obtain ⟨I, k, hI, hround⟩ := hs
      exact ⟨I, k, hI, fun k t h hI' => awp_mono (b := b) (fun t h h => h) he hr (hround k t h hI')⟩
    | .exit id, _, _, _, _, _, _, hn, he, hr, _, _, hs => he _ _ _ hs
    | .ret, _, _, _, _, _, _, hn, he, hr, _, _, hs => hr _ _ hs

/-- Temporaries that a loop may turn: those listed, and all from a number on. -/
def md (vars : List Nat) (lo : Nat) (j : Nat) : Bool := vars.contains j || decide (lo ≤ j)

/-- A loop: 'I t h k' holds at the head of a round, with 'k' falling; 't', 'h': as the loop begins. What the body does not put stays. -/
theorem loop_rule (vars : List Nat) (lo : Nat) {b : ACode} (I : T → H → Nat → T → H → Prop) (k : Nat) {n : T → H → Prop} {e : Nat → T → H → Prop} {r : T → H → Prop} {t : T} {h : H}
    (hm : dstsOk (md vars lo) b = true) (h0 : I t h k t h)
    (hround : ∀ k u g, (∀ j, md vars lo j = false → u j = t j) → I t h k u g → awp P b (fun u g => ∃ k', k' < k ∧ I t h k' u g) e r u g) : awp P (.loop b) n e r t h := by
  refine ⟨fun k u g => (∀ j, md vars lo j = false → u j = t j) ∧ I t h k u g, k, ⟨fun _ _ => rfl, h0⟩, fun k u g ⟨hag, hI⟩ => ?_⟩
  refine awp_agree (t0 := t) hm hag ?_
  refine awp_agree.awp_mono (fun t1 h1 hx => ?_) (fun _ _ _ hx => ?_) (fun _ _ hx => ?_) (hround k u g hag hI)
  · intro hag''; obtain ⟨k', hk', hI''⟩ := hx; exact ⟨k', hk', hag'', hI''⟩
  · exact fun _ => hx
  · exact fun _ => hx

theorem awp_seq_cut {a b : ACode} (M : T → H → Prop) {n : T → H → Prop} {e : Nat → T → H → Prop} {r : T → H → Prop} {t : T} {h : H} (h1 : awp P a M e r t h) (h2 : ∀ t h, M t h → awp P b n e r t h) : awp P (.seq a b) n e r t h :=
  awp_agree.awp_mono (b := a) h2 (fun _ _ _ h => h) (fun _ _ h => h) h1

end
end Go.Proofs.YtjklebickfcddaaDoor.Sep

/- Regions that draw their order: the lean copy stands for every order. -/
import Derived.Test.YtjklebickfcddaaDoorSepG
namespace Go.Proofs.YtjklebickfcddaaDoor.Sep
open Go.RowKit
set_option linter.unusedVariables false
set_option linter.unusedSimpArgs false
set_option linter.constructorNameAsVariable false

section
variable {P : Program}

theorem aop_det {op : AOp} {ρ : Operand → Value} {h : H} {K : Value → Eff → Prop} (hc : op.class ≤ 1) : aop P op ρ h K ↔ OK (adet h ρ op) fun v => K v .keep := by
  cases op <;> simp [AOp.class] at hc <;> rfl

def mkNew (e : TypeId) (bytes : Nat) (z : List Value) : Value → Value → Option ((Nat → Value) × Blk)
  | .int _ l, .int _ c => grd (0 ≤ l ∧ l ≤ c ∧ (bytes : Int) * c ≤ 281474976710656 ∧ c ≤ 9223372036854775807) (some (fun b => .slice (some ⟨b, 0, none⟩) l.toNat c.toNat, .row true e (reps z c.toNat) 0))
  | _, _ => none

/-- What a new block holds, and what points to it. -/
def new2 (ρ : Operand → Value) : AOp → Option ((Nat → Value) × Blk)
  | .alloc e z => some (fun b => .pointer (some ⟨b, 0, none⟩), .row true e z 0)
  | .box e x => grd (all1 (ρ x).cells.toList = true) (some (fun b => .pointer (some ⟨b, 0, none⟩), .row true e (ρ x).cells.toList 0))
  | .mks e z len ps => (fillL z (ps.map fun p => (p.1, p.2.1, ρ p.2.2))).bind fun cs => grd (all1 cs = true) (some (fun b => .slice (some ⟨b, 0, none⟩) len len, .row true e cs 0))
  | .mk e bytes z l c => mkNew e bytes z (ρ l) (ρ c)
  | .mkm => some (fun b => .map (some b), .obj true (.map #[] 0))
  | _ => none

theorem aop_new {op : AOp} {ρ : Operand → Value} {h : H} {K : Value → Eff → Prop} (hc : op.class = 2) :
    aop P op ρ h K ↔ ∃ p, new2 ρ op = some p ∧ ∀ b, New h b → K (p.1 b) (.new (single b p.2)) := by
  cases op <;> simp [AOp.class] at hc
  case alloc e z => simp [aop, new2, anew]
  case mkm => simp [aop, new2, anew]
  case box e x =>
    simp only [aop, new2, aboxV, anew, grd]
    constructor
    · rintro ⟨h1, h2⟩; exact ⟨_, by rw [if_pos h1], h2⟩
    · rintro ⟨p, h1, h2⟩; split at h1
      · simp only [Option.some.injEq] at h1; subst h1; exact ⟨by assumption, h2⟩
      · cases h1
  case mks e z len ps =>
    simp only [aop, new2, amksV, anew, grd, OK]
    constructor
    · rintro ⟨cs, hcs, h1, h2⟩; exact ⟨_, by rw [hcs, Option.bind_some, if_pos h1], h2⟩
    · rintro ⟨p, h1, h2⟩
      cases hf : fillL z (ps.map fun p => (p.1, p.2.1, ρ p.2.2)) with
      | none => simp [hf] at h1
      | some cs =>
        rw [hf, Option.bind_some] at h1
        split at h1
        · simp only [Option.some.injEq] at h1; subst h1; exact ⟨cs, rfl, by assumption, h2⟩
        · cases h1
  case mk e bytes z l c =>
    simp only [aop, new2]
    generalize ρ l = a
    generalize ρ c = b
    cases a <;> cases b <;> simp only [amkV, mkNew, anew, grd, reduceCtorEq, false_and, exists_false]
    constructor
    · rintro ⟨h1, h2⟩; exact ⟨_, by rw [if_pos h1], h2⟩
    · rintro ⟨p, h1, h2⟩; split at h1
      · simp only [Option.some.injEq] at h1; subst h1; exact ⟨by assumption, h2⟩
      · cases h1

theorem map_congr_mem {α β : Type} {f g : α → β} : ∀ {l : List α}, (∀ x ∈ l, f x = g x) → l.map f = l.map g := List.map_congr_left

theorem parts_congr {ρ ρ' : Operand → Value} {ps : List (Nat × Nat × Operand)} (h : ∀ x ∈ ps.map (·.2.2), ρ x = ρ' x) :
    (ps.map fun p => (p.1, p.2.1, ρ p.2.2)) = ps.map fun p => (p.1, p.2.1, ρ' p.2.2) := by
  apply List.map_congr_left
  intro p hp
  rw [h _ (List.mem_map_of_mem hp)]

theorem opt_congr {ρ ρ' : Operand → Value} {o : Option Operand} (h : ∀ x ∈ o.toList, ρ x = ρ' x) : o.map ρ = o.map ρ' := by
  cases o with
  | none => rfl
  | some x => simp [h x (by simp)]

theorem adet_congr {op : AOp} {ρ ρ' : Operand → Value} {h : H} (hr : ∀ x ∈ op.reads, ρ x = ρ' x) : adet h ρ op = adet h ρ' op := by
  cases op <;> simp only [AOp.reads, List.mem_cons, List.mem_append, List.not_mem_nil, or_false, forall_eq_or_imp, forall_eq] at hr <;> simp only [adet]
  all_goals try (simp only [hr]; done)
  case bld z ps => rw [parts_congr hr]
  case slS => rw [hr.1, opt_congr fun x hx => hr.2 x (.inl hx), opt_congr fun x hx => hr.2 x (.inr hx)]
  case slA => rw [hr.1, opt_congr fun x hx => hr.2 x (.inl hx), opt_congr fun x hx => hr.2 x (.inr hx)]
  case slT => rw [hr.1, opt_congr fun x hx => hr.2 x (.inl hx), opt_congr fun x hx => hr.2 x (.inr hx)]
  case mkf => rw [map_congr_mem fun x hx => hr x (.inl hx), map_congr_mem fun x hx => hr x (.inr hx)]

theorem aop_congr {op : AOp} {ρ ρ' : Operand → Value} {h : H} {K : Value → Eff → Prop} (hr : ∀ x ∈ op.reads, ρ x = ρ' x) : aop P op ρ h K = aop P op ρ' h K := by
  have hd := adet_congr (h := h) hr
  cases op <;> simp only [aop, hd] <;> simp only [AOp.reads, List.mem_cons, List.mem_append, List.not_mem_nil, or_false, forall_eq_or_imp, forall_eq] at hr
  case box => rw [hr]
  case mks => rw [parts_congr hr]
  case mk => rw [hr.1, hr.2]
  case app => rw [hr.1, hr.2.1, map_congr_mem hr.2.2]
  case st => rw [hr.1, hr.2]
  case sta => rw [hr.1, hr.2.1, map_congr_mem hr.2.2]
  case cpy => rw [hr.1, hr.2]
  case clr => rw [hr]
  case call => rw [map_congr_mem hr]
  case callp => rw [map_congr_mem hr]
  case callv => rw [hr.1, map_congr_mem hr.2]

theorem new2_congr {op : AOp} {ρ ρ' : Operand → Value} (hr : ∀ x ∈ op.reads, ρ x = ρ' x) : new2 ρ op = new2 ρ' op := by
  cases op <;> simp only [new2] <;> simp only [AOp.reads, List.mem_cons, List.mem_append, List.not_mem_nil, or_false, forall_eq_or_imp, forall_eq] at hr
  case box => rw [hr]
  case mks => rw [parts_congr hr]
  case mk => rw [hr.1, hr.2]

theorem aop_mono {op : AOp} {ρ : Operand → Value} {h : H} {K K' : Value → Eff → Prop} (hK : ∀ v e, K v e → K' v e) (ha : aop P op ρ h K) : aop P op ρ h K' := by
  have hacall : ∀ {f args}, acall P f args h K → acall P f args h K' := fun {f args} hx =>
    hx.imp (fun ⟨Φ, h1, h2⟩ => ⟨Φ, h1, fun r d hΦ => hK _ _ (h2 r d hΦ)⟩) (fun ⟨Φ, h1, h2⟩ => ⟨Φ, h1, fun r d hΦ => hK _ _ (h2 r d hΦ)⟩)
  cases hcl : decide (op.class ≤ 1) with
  | true => rw [aop_det (by simpa using hcl)] at ha ⊢; exact ha.imp fun v hv => ⟨hv.1, hK _ _ hv.2⟩
  | false =>
    cases op <;> simp [AOp.class] at hcl <;> simp only [aop] at ha ⊢
    case alloc => exact fun b hb => hK _ _ (ha b hb)
    case mkm => exact fun b hb => hK _ _ (ha b hb)
    case box => exact ⟨ha.1, fun b hb => hK _ _ (ha.2 b hb)⟩
    case mks => exact ha.imp fun cs hcs => ⟨hcs.1, hcs.2.1, fun b hb => hK _ _ (hcs.2.2 b hb)⟩
    case mk =>
      unfold amkV at ha ⊢
      split at ha
      · exact ⟨ha.1, fun b hb => hK _ _ (ha.2 b hb)⟩
      · exact ha.elim
    case app =>
      refine ha.imp fun r hr => ⟨hr.1, hr.2.1, ?_⟩
      have hx := hr.2.2
      unfold appV at hx ⊢
      split at hx
      · unfold appB at hx ⊢
        split at hx
        · exact ⟨hx.1, fun b c e h1 h2 h3 h4 => hK _ _ (hx.2 b c e h1 h2 h3 h4)⟩
        · exact hx.elim
      · split at hx
        · rename_i hm; rw [if_pos hm]; exact hK _ _ hx
        · rename_i hm; rw [if_neg hm]; exact ⟨hx.1, fun b c e h1 h2 h3 h4 => hK _ _ (hx.2 b c e h1 h2 h3 h4)⟩
      · exact hx.elim
    case st =>
      unfold astV at ha ⊢
      split at ha
      · unfold astB at ha ⊢
        split at ha
        · exact ⟨ha.1, hK _ _ ha.2⟩
        · exact ha.elim
      · exact ha.elim
    case cpy =>
      obtain ⟨r, h1, ha⟩ := ha
      refine ⟨r, h1, ?_⟩
      unfold acpyV at ha ⊢
      split at ha
      · split at ha
        · rename_i h0; rw [if_pos h0]; exact hK _ _ ha
        · rename_i h0
          rw [if_neg h0]
          unfold acpyB at ha ⊢
          split at ha
          · exact ⟨ha.1, hK _ _ ha.2⟩
          · exact ha.elim
      · exact hK _ _ ha
      · exact ha.elim
    case clr =>
      unfold aclrV at ha ⊢
      split at ha
      · split at ha
        · rename_i h0; rw [if_pos h0]; exact hK _ _ ha
        · rename_i h0
          rw [if_neg h0]
          unfold aclrB at ha ⊢
          split at ha
          · exact ⟨ha.1, hK _ _ ha.2⟩
          · exact ha.elim
      · exact hK _ _ ha
      · exact ha.elim
    case sta =>
      refine ⟨ha.1, ?_⟩
      replace ha := ha.2
      unfold astV at ha ⊢
      split at ha
      · unfold astB at ha ⊢
        split at ha
        · exact ⟨ha.1, hK _ _ ha.2⟩
        · exact ha.elim
      · exact ha.elim
    case call => exact hacall ha
    case callp => exact ha.imp fun Φ hΦ => ⟨hΦ.1, fun r d h => hK _ _ (hΦ.2 r d h)⟩
    case callv =>
      unfold acallv at ha ⊢
      split at ha
      · exact ⟨ha.1, hacall ha.2⟩
      · exact ha.elim

theorem step_mono {o : AOper} {K K' : T → H → Prop} (hK : ∀ t h, K t h → K' t h) {t : T} {h : H} (hs : step P o K t h) : step P o K' t h := by
  unfold step at hs ⊢
  split
  · rename_i hg; rw [if_pos hg] at hs; exact aop_mono (fun v e hx hok => hK _ _ (hx hok)) hs
  · rename_i hg; rw [if_neg hg] at hs; exact hK _ _ hs

theorem ev_put {t : T} {d : Nat} {v : Value} {x : Operand} (h : ∀ k, x = .tmp k → k ≠ d) : ev (put t d v) x = ev t x := by
  cases x with
  | tmp k => simp [ev, put, h k rfl]
  | _ => rfl

theorem mem_opsTmps {l : List Operand} {k : Nat} (h : Operand.tmp k ∈ l) : k ∈ opsTmps l := by
  unfold opsTmps
  exact List.mem_filterMap.2 ⟨_, h, rfl⟩

theorem ev_puto {o : AOper} {d : Option Nat} (hd : ∀ k, d = some k → k ∉ o.looks) {t : T} {v : Value} : ∀ x ∈ o.op.reads, ev (puto t d v) x = ev t x := fun x hx => by
  cases d with
  | none => rfl
  | some k =>
    refine ev_put fun j hj => ?_
    rintro rfl
    subst hj
    exact hd j rfl (by unfold AOper.looks; exact List.mem_append_left _ (mem_opsTmps hx))

theorem goes_puto {o : AOper} {d : Option Nat} (hd : ∀ k, d = some k → k ∉ o.looks) {t : T} {v : Value} : goes (puto t d v) o.guard = goes t o.guard := by
  cases d with
  | none => rfl
  | some k =>
    have := hd k rfl
    unfold goes
    cases hg : o.guard with
    | none => rfl
    | some p =>
      obtain ⟨g, want⟩ := p
      have hne : g ≠ k := fun e => this (by unfold AOper.looks; rw [hg, e]; simp)
      simp [puto, put, hne]

theorem puto_comm {t : T} {d d' : Option Nat} (hd : ∀ k, d = some k → d' ≠ some k) {v v' : Value} : puto (puto t d v) d' v' = puto (puto t d' v') d v := by
  cases d with
  | none => rfl
  | some k =>
    cases d' with
    | none => rfl
    | some k' =>
      have hne : k ≠ k' := fun e => hd k rfl (by rw [e])
      funext x
      simp only [puto, put]
      split <;> split <;> first | rfl | (rename_i h1 h2; omega)

/-- A temporary that 'o' neither looks at nor writes may be put before it or behind it. -/
theorem step_put {o : AOper} {K : T → H → Prop} {t : T} {h : H} {d : Option Nat} {v : Value} (hd : ∀ k, d = some k → k ∉ o.looks) (hne : ∀ k, d = some k → o.dst ≠ some k) :
    step P o K (puto t d v) h ↔ step P o (fun t' h' => K (puto t' d v) h') t h := by
  unfold step
  rw [goes_puto hd]
  split
  · rw [aop_congr (ev_puto hd)]
    have : ∀ u, puto (puto t d v) o.dst u = puto (puto t o.dst u) d v := fun u => puto_comm hne
    simp only [this]
  · have : ∀ u, puto (puto t d v) o.dst u = puto (puto t o.dst u) d v := fun u => puto_comm hne
    simp only [this]

theorem ald_mono {h h' : H} (hle : Le h h') {n : Option Nat} {x v : Value} (hv : ald h n x = some v) : ald h' n x = some v := by
  unfold ald at hv ⊢
  split at hv
  · rename_i b off
    unfold ldB at hv ⊢
    split at hv
    · rename_i hb; rw [hle _ _ hb]; exact hv
    · cases hv
  · cases hv

theorem adet_mono {h h' : H} (hle : Le h h') {op : AOp} {ρ : Operand → Value} {v : Value} (hv : adet h ρ op = some v) : adet h' ρ op = some v := by
  cases op <;> simp only [adet] at hv ⊢ <;> first | exact hv | skip
  case ld => exact ald_mono hle hv
  case ldb =>
    obtain ⟨h1, h2⟩ := grd_some hv
    simp only [grd]; rw [if_pos h1]; exact ald_mono hle h2
  case lenM =>
    unfold alenM at hv ⊢
    split at hv
    · exact hv
    · split at hv
      · rename_i hb; rw [hle _ _ hb]; exact hv
      · cases hv
    · cases hv
  case b2s =>
    unfold ab2s at hv ⊢
    split at hv
    · exact hv
    · split at hv
      · rename_i hb; rw [hle _ _ hb]; exact hv
      · cases hv
    · cases hv

theorem adet_pure {h h' : H} {op : AOp} (hc : op.class = 0) {ρ : Operand → Value} : adet h ρ op = adet h' ρ op := by
  cases op <;> simp [AOp.class] at hc <;> rfl

theorem le_join {h d : H} (hd : Dis h d) : Le h (join h d) := fun b k hb => by
  unfold join
  cases hdb : d b with
  | none => simpa using hb
  | some k' => have := hd b (by simp [hdb]); rw [hb] at this; cases this

theorem step_def (o : AOper) (K : T → H → Prop) (t : T) (h : H) :
    step P o K t h = if goes t o.guard = true then aop P o.op (ev t) h fun v e => e.ok h → K (puto t o.dst v) (e.app h) else K (puto t o.dst undef) h := rfl

/-- The value that a value-yielding operation puts. -/
def detV (t : T) (h : H) (o : AOper) : Option Value := if goes t o.guard = true then adet h (ev t) o.op else some undef

theorem step_det {o : AOper} {K : T → H → Prop} {t : T} {h : H} (hc : o.op.class ≤ 1) : step P o K t h ↔ ∃ v, detV t h o = some v ∧ K (puto t o.dst v) h := by
  unfold step detV
  split
  · rw [aop_det hc]
    constructor
    · rintro ⟨v, hv, hK⟩; exact ⟨v, hv, hK trivial⟩
    · rintro ⟨v, hv, hK⟩; exact ⟨v, hv, fun _ => hK⟩
  · constructor
    · intro hK; exact ⟨undef, rfl, hK⟩
    · rintro ⟨v, hv, hK⟩; simp only [Option.some.injEq] at hv; subst hv; exact hK

/-- Two operations of which neither looks at what the other puts. -/
structure Apart (x y : AOper) : Prop where
  xy : ∀ k, x.dst = some k → k ∉ y.looks
  ne : ∀ k, x.dst = some k → y.dst ≠ some k
  yx : ∀ k, y.dst = some k → k ∉ x.looks

theorem Apart.ne' {x y : AOper} (h : Apart x y) : ∀ k, y.dst = some k → x.dst ≠ some k := fun k hk hx => h.ne k hx hk

theorem detV_puto {o : AOper} {d : Option Nat} (hd : ∀ k, d = some k → k ∉ o.looks) {t : T} {v : Value} {h : H} : detV (puto t d v) h o = detV t h o := by
  unfold detV
  rw [goes_puto hd, adet_congr (ev_puto hd)]

theorem detV_mono {o : AOper} {t : T} {h h' : H} (hle : Le h h') {v : Value} (hv : detV t h o = some v) : detV t h' o = some v := by
  unfold detV at hv ⊢
  split
  · rename_i hg; rw [if_pos hg] at hv; exact adet_mono hle hv
  · rename_i hg; rw [if_neg hg] at hv; exact hv

/-- What becomes of memory under operations of the first classes. -/
theorem aop_grows {op : AOp} {ρ : Operand → Value} {h : H} {K : Value → Eff → Prop} (hc : op.class ≤ 3) (ha : aop P op ρ h K) : aop P op ρ h fun v e => K v e ∧ (e.ok h → Le h (e.app h)) := by
  cases hcl : decide (op.class ≤ 1) with
  | true => rw [aop_det (by simpa using hcl)] at ha ⊢; exact ha.imp fun v hv => ⟨hv.1, hv.2, fun _ _ _ h => h⟩
  | false =>
    have hcl' : ¬ op.class ≤ 1 := by simpa using hcl
    by_cases h2 : op.class = 2
    · rw [aop_new h2] at ha ⊢
      obtain ⟨p, hp, hK⟩ := ha
      exact ⟨p, hp, fun b hb => ⟨hK b hb, fun hok => le_join hok⟩⟩
    · cases op <;> simp [AOp.class] at hc hcl' h2
      case callp =>
        simp only [aop] at ha ⊢
        obtain ⟨Φ, h1, h2⟩ := ha
        exact ⟨Φ, h1, fun r d hΦ => ⟨h2 r d hΦ, fun hok => le_join hok⟩⟩

theorem step_grows {o : AOper} {K : T → H → Prop} {t : T} {h : H} (hc : o.op.class ≤ 3) (hs : step P o K t h) : step P o (fun t' h' => K t' h' ∧ Le h h') t h := by
  unfold step at hs ⊢
  split
  · rename_i hg; rw [if_pos hg] at hs
    exact aop_mono (fun v e hx hok => ⟨hx.1 hok, hx.2 hok⟩) (aop_grows hc hs)
  · rename_i hg; rw [if_neg hg] at hs; exact ⟨hs, fun _ _ h => h⟩

/-- 'x' yields a value; it may as well stand behind 'y', where what it yields is the same. -/
theorem turn_det {x y : AOper} (hx : x.op.class ≤ 1) (hap : Apart x y) {K : T → H → Prop} {t : T} {h : H}
    (hst : ∀ v, detV t h x = some v → ∀ K : T → H → Prop, step P y K t h → step P y (fun t' h' => K t' h' ∧ detV t h' x = some v) t h)
    (hs : step P x (step P y K) t h) : step P y (step P x K) t h := by
  rw [step_det hx] at hs
  obtain ⟨v, hv, hs⟩ := hs
  rw [step_put hap.xy (fun k hk => hap.ne k hk)] at hs
  have h1 := hst v hv _ hs
  -- the outcomes of 'y' put 'y.dst' alone
  rw [step_def y] at h1 ⊢
  split
  · rename_i hg
    rw [if_pos hg] at h1
    refine aop_mono (fun u e hue hok => ?_) h1
    obtain ⟨hK, hd⟩ := hue hok
    rw [step_det hx] 
    refine ⟨v, ?_, ?_⟩
    · rw [detV_puto hap.yx]; exact hd
    · exact hK
  · rename_i hg
    rw [if_neg hg] at h1
    obtain ⟨hK, hd⟩ := h1
    rw [step_det hx]
    exact ⟨v, by rw [detV_puto hap.yx]; exact hd, hK⟩

end
end Go.Proofs.YtjklebickfcddaaDoor.Sep

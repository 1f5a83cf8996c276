/- Regions in every order; the code; calls. -/
import Derived.Test.YtjklebickfcddaaDoorSepI
namespace Go.Proofs.YtjklebickfcddaaDoor.Sep
open Go.RowKit
set_option linter.unusedVariables false
set_option linter.unusedSimpArgs false
set_option linter.constructorNameAsVariable false

section
variable {P : Program} {B : Bd} {w0 : World} {N : Nat}

/-- The machine's state told by temporaries and a heap of which 'K' holds. -/
def St (B : Bd) (w0 : World) (N : Nat) (K : T → H → Prop) (a : Act) (w : World) : Prop := ∃ t h, TR N t a ∧ Sat B w0 w h ∧ K t h

/-- An operation in a region, and how it is told. -/
structure Rel (P : Program) (N : Nat) (ops : Array Oper) (o : Oper) (x : AOper) : Prop where
  op : CompAs P o x.op
  dst : x.dst = o.dst
  guard : compGuard ops o = some x.guard
  lt : ∀ k, x.dst = some k → k < N

theorem wanted_goes {ops : Array Oper} {o : Oper} {g : Option (Nat × Bool)} (hg : compGuard ops o = some g) {t : T} {a : Act} (ht : TR N t a) :
    Region.wanted o (yielded ops a.tmps) = goes t g := by
  unfold compGuard at hg
  unfold Region.wanted goes
  cases ho : o.guard with
  | none => simp [ho] at hg; subst hg; rfl
  | some p =>
    obtain ⟨j, want⟩ := p
    simp only [ho, Option.map_eq_some_iff] at hg
    obtain ⟨d, hd, rfl⟩ := hg
    simp only [yielded, hd, Option.bind_some]
    have := ht.get d
    cases hv : a.tmps[d]? with
    | none =>
      have ht' : t d = undef := by rw [← this]; simp [hv]
      simp [ht', undef]
    | some v =>
      have ht' : t d = v := by rw [← this]; simp [hv]
      rw [ht']
      cases v <;> simp

theorem wpOp_of_wp {ops : Array Oper} {Q : Exit → Act → World → Prop} {i : Nat} {o : Oper} (hi : ops[i]? = some o) {K : Act → World → Prop} {a : Act} {w : World}
    (h1 : Region.wanted o (yielded ops a.tmps) = true → o.wp P a w K Q) (h2 : Region.wanted o (yielded ops a.tmps) = false → K (a.put o.dst undef) w) : wpOp P ops Q i K a w := by
  unfold wpOp
  simp only [hi]
  cases hw : Region.wanted o (yielded ops a.tmps) with
  | true => simp only [if_true]; exact .inl (h1 hw)
  | false => simp only [Bool.false_eq_true, if_false]; exact h2 hw

theorem step_sound {ops : Array Oper} {i : Nat} {o : Oper} (hi : ops[i]? = some o) {x : AOper} (hx : Rel P N ops o x) {K : T → H → Prop} {t : T} {h : H} (hs : step P x K t h)
    {a : Act} {w : World} (ht : TR N t a) (hw : Sat B w0 w h) {Q : Exit → Act → World → Prop} : wpOp P ops Q i (St B w0 N K) a w := by
  refine wpOp_of_wp hi (fun hwt => ?_) (fun hwt => ?_)
  · rw [wanted_goes hx.guard ht] at hwt
    rw [step_def, if_pos hwt] at hs
    refine Oper.wp_mono ?_ (op_sound hw hx.op ht.eval hs)
    rintro a' w' ⟨v, e, hK, rfl, hok, hs'⟩
    refine ⟨puto t x.dst v, e.app h, ?_, hs', hK hok⟩
    rw [← hx.dst]
    exact ht.put hx.lt v
  · rw [wanted_goes hx.guard ht] at hwt
    rw [step_def, hwt] at hs
    simp only [Bool.false_eq_true, if_false] at hs
    refine ⟨puto t x.dst undef, h, ?_, hw, hs⟩
    rw [← hx.dst]
    exact ht.put hx.lt undef

theorem wpOp_exists {ops : Array Oper} {i : Nat} {K : Act → World → Prop} {a : Act} {w : World} (h : wpOp P ops (fun _ _ _ => False) i K a w) : ∃ a' w', K a' w' := by
  unfold wpOp at h
  split at h
  · exact ⟨_, _, h⟩
  · split at h
    · rcases h with h | ⟨_, _, _, h⟩
      · unfold Oper.wp at h
        generalize (execOp a.eval _).run P w = r at h
        cases r with
        | ok n w' =>
          cases n <;> simp only [Oper.upon] at h
          all_goals try (exact h.elim)
          · exact ⟨_, _, h⟩
          · exact ⟨_, _, h⟩
          · obtain ⟨e, w'', fr, hR, _⟩ := h []
            cases e with
            | returned v => exact ⟨_, _, hR⟩
            | panicked c => exact hR.elim
            | outgrown => obtain ⟨_, _, hf⟩ := hR; exact hf.elim
          · exact ⟨_, _, h⟩
          · obtain ⟨v, w'', hR, _⟩ := h default []
            exact ⟨_, _, hR⟩
        | halt x w' =>
          cases x <;> simp only [Oper.upon] at h
      · exact h.elim
    · exact ⟨_, _, h⟩

/-- How the region's operations are told, by number. -/
def Told (P : Program) (N : Nat) (ops : Array Oper) (l : List AOper) : Prop := ∀ (i : Nat) (x : AOper), l[i]? = some x → ∃ o, ops[i]? = some o ∧ Rel P N ops o x

/-- The operations of the numbers in a list. -/
def pickAll (l : List AOper) : List Nat → List AOper := fun c => c.filterMap (l[·]?)

/-- Behind the operations of a list, whatever came out, what the others look at is as it was. -/
theorem virt {ops : Array Oper} {l : List AOper} (hl : Told P N ops l) : ∀ (c : List Nat) {K : T → H → Prop} {t : T} {h : H}, aops P (pickAll l c) K t h →
    ∀ {a : Act} {w : World}, TR N t a → Sat B w0 w h → ∃ t' h', K t' h' ∧ ∀ k, (∀ i ∈ c, ∀ x, l[i]? = some x → x.dst ≠ some k) → t' k = t k
  | [], K, t, h, hK, a, w, ht, hw => ⟨t, h, hK, fun _ _ => rfl⟩
  | i :: c, K, t, h, hK, a, w, ht, hw => by
    cases hi : l[i]? with
    | none =>
      have : pickAll l (i :: c) = pickAll l c := by simp [pickAll, hi]
      rw [this] at hK
      obtain ⟨t', h', h1, h2⟩ := virt hl c hK ht hw
      exact ⟨t', h', h1, fun k hk => h2 k fun j hj => hk j (List.mem_cons_of_mem _ hj)⟩
    | some x =>
      have : pickAll l (i :: c) = x :: pickAll l c := by simp [pickAll, hi]
      rw [this] at hK
      obtain ⟨o, ho, hr⟩ := hl i x hi
      have h1 : step P x (fun t' h' => (∃ u, t' = puto t x.dst u) ∧ aops P (pickAll l c) K t' h') t h := by
        have hK' : step P x (aops P (pickAll l c) K) t h := hK
        rw [step_def] at hK' ⊢
        split
        · rename_i hg; rw [if_pos hg] at hK'; exact aop_mono (fun v e hve hok => ⟨⟨v, rfl⟩, hve hok⟩) hK'
        · rename_i hg; rw [if_neg hg] at hK'; exact ⟨⟨undef, rfl⟩, hK'⟩
      obtain ⟨a', w', t1, hh1, ht1, hw1, ⟨u, rfl⟩, hK1⟩ := wpOp_exists (step_sound ho hr h1 ht hw)
      obtain ⟨t', h', h3, h4⟩ := virt hl c hK1 ht1 hw1
      refine ⟨t', h', h3, fun k hk => ?_⟩
      rw [h4 k fun j hj => hk j (List.mem_cons_of_mem _ hj)]
      have := hk i (List.mem_cons_self ..) x hi
      cases hd : x.dst with
      | none => rfl
      | some d =>
        have hne : k ≠ d := fun e => this (by rw [hd, e])
        simp [puto, put, hne]

theorem looks_eq {y : AOper} {t t' : T} (h : ∀ k ∈ y.looks, t' k = t k) : goes t' y.guard = goes t y.guard ∧ new2 (ev t') y.op = new2 (ev t) y.op := by
  constructor
  · unfold goes
    cases hg : y.guard with
    | none => rfl
    | some p => obtain ⟨g, want⟩ := p; simp only [h g (by unfold AOper.looks; rw [hg]; simp)]
  · refine new2_congr fun x hx => ?_
    cases x with
    | tmp k => exact h k (by unfold AOper.looks; exact List.mem_append_left _ (mem_opsTmps hx))
    | _ => rfl

/-- An operation that may turn with all that stand ahead of it comes first. -/
theorem front {ops : Array Oper} {l : List AOper} (hl : Told P N ops l) {y : AOper} : ∀ (pre : List Nat) {K : T → H → Prop} {t : T} {h : H},
    (∀ i ∈ pre, ∀ x, l[i]? = some x → mayTurn x y = true) → (y.op.class = 2 → goes t y.guard = true → ∃ p, new2 (ev t) y.op = some p) →
    aops P (pickAll l pre) (step P y K) t h → step P y (aops P (pickAll l pre) K) t h
  | [], K, t, h, _, _, hs => hs
  | i :: pre, K, t, h, hm, hc, hs => by
    cases hi : l[i]? with
    | none =>
      have : pickAll l (i :: pre) = pickAll l pre := by simp [pickAll, hi]
      rw [this] at hs ⊢
      exact front hl pre (fun j hj => hm j (List.mem_cons_of_mem _ hj)) hc hs
    | some x =>
      have : pickAll l (i :: pre) = x :: pickAll l pre := by simp [pickAll, hi]
      rw [this] at hs ⊢
      have hmx := hm i (List.mem_cons_self ..) x hi
      have hap := apart_of hmx
      refine turn hmx hc ?_
      have hs' : step P x (aops P (pickAll l pre) (step P y K)) t h := hs
      have h1 : step P x (fun t' h' => (∃ u, t' = puto t x.dst u) ∧ aops P (pickAll l pre) (step P y K) t' h') t h := by
        rw [step_def] at hs' ⊢
        split
        · rename_i hg; rw [if_pos hg] at hs'; exact aop_mono (fun v e hve hok => ⟨⟨v, rfl⟩, hve hok⟩) hs'
        · rename_i hg; rw [if_neg hg] at hs'; exact ⟨⟨undef, rfl⟩, hs'⟩
      refine step_mono ?_ h1
      rintro t' h' ⟨⟨u, rfl⟩, hs2⟩
      refine front hl pre (fun j hj => hm j (List.mem_cons_of_mem _ hj)) (fun h2 hg => ?_) hs2
      rw [goes_puto hap.xy] at hg
      rw [new2_puto hap.xy]
      exact hc h2 hg

theorem aops_append {P : Program} : ∀ (l m : List AOper) (K : T → H → Prop), aops P (l ++ m) K = aops P l (aops P m K)
  | [], m, K => rfl
  | x :: l, m, K => by simp only [List.cons_append, aops, aops_append l m K]

theorem pickAll_append (l : List AOper) (a b : List Nat) : pickAll l (a ++ b) = pickAll l a ++ pickAll l b := by simp [pickAll]

theorem turnsOk_mem {l : List AOper} {bef : List Nat} : ∀ {c : List Nat}, turnsOk l bef c = true → ∀ {pre post : List Nat} {i : Nat}, c = pre ++ i :: post → ∀ j ∈ pre,
    (bef.getD i 0).testBit j = true ∨ ∃ x y, l[j]? = some x ∧ l[i]? = some y ∧ mayTurn x y = true
  | [], _, pre, post, i, he, j, hj => by simp at he
  | k :: c, h, pre, post, i, he, j, hj => by
    simp only [turnsOk, Bool.and_eq_true, List.all_eq_true, Bool.or_eq_true] at h
    cases pre with
    | nil => cases hj
    | cons p pre =>
      simp only [List.cons_append, List.cons.injEq] at he
      obtain ⟨rfl, rfl⟩ := he
      rcases List.mem_cons.1 hj with rfl | hj
      · rcases h.1 i (by simp) with h1 | h1
        · exact .inl h1
        · right
          split at h1
          · rename_i x y hx hy; exact ⟨x, y, hx, hy, h1⟩
          · cases h1
      · exact turnsOk_mem h.2 rfl j hj

theorem turnsOk_sub {l : List AOper} {bef : List Nat} {c c' : List Nat} (h : turnsOk l bef c = true) (hs : List.Sublist c' c) : turnsOk l bef c' = true := by
  induction hs with
  | slnil => exact h
  | cons a hs ih =>
    simp only [turnsOk, Bool.and_eq_true] at h
    exact ih h.2
  | cons_cons a hs ih =>
    simp only [turnsOk, Bool.and_eq_true, List.all_eq_true] at h ⊢
    exact ⟨fun x hx => h.1 x (hs.subset hx), ih h.2⟩

theorem topoOk_sub {ops : Array Oper} {c c' : List Nat} (h : topoOk ops c = true) (hs : List.Sublist c' c) : topoOk ops c' = true := by
  induction hs with
  | slnil => exact h
  | cons a hs ih =>
    simp only [topoOk, Bool.and_eq_true] at h
    exact ih h.2
  | cons_cons a hs ih =>
    simp only [topoOk, Bool.and_eq_true] at h ⊢
    refine ⟨?_, ih h.2⟩
    obtain ⟨h1, _⟩ := h
    cases ho : ops[a]? with
    | none => simp [ho] at h1
    | some o =>
      simp only [ho, Option.map_some, Option.getD_some, List.all_eq_true, Bool.or_eq_true, Bool.and_eq_true, Bool.not_eq_true', decide_eq_true_eq] at h1 ⊢
      intro e he
      rcases h1 e he with h2 | h2
      · exact .inl h2
      · refine .inr ⟨⟨h2.1.1, ?_⟩, h2.2⟩
        have := h2.1.2
        simp only [List.contains_eq_mem, decide_eq_false_iff_not] at this ⊢
        exact fun hm => this (hs.subset hm)

theorem any_sound {ops : Array Oper} {l : List AOper} (hl : Told P N ops l) (hll : l.length = ops.size) {bef : List Nat} (hbef : befOk ops bef = true) {K : T → H → Prop} {Q : Exit → Act → World → Prop}
    (hQ : ∀ a w, St B w0 N K a w → Q .normal a w) : ∀ (f : Nat) (c : List Nat) (listed : Array Bool) (t : T) (h : H) (a : Act) (w : World), c.length ≤ f → c.Nodup → listed.size = ops.size →
      (∀ i, i < ops.size → (i ∈ c ↔ listed.getD i true = false)) → (∀ i ∈ c, i < ops.size) → (∀ j i, j < ops.size → j ∉ c → i < ops.size → (bef.getD j 0).testBit i = true → i ∉ c) →
      turnsOk l bef c = true → topoOk ops c = true → aops P (pickAll l c) K t h → TR N t a → Sat B w0 w h → wpAny P .any ops Q f listed a w := by
  intro f
  induction f with
  | zero =>
    intro c listed t h a w hf hnd hsz hmem hlt hcl ht1 ht2 hK ht hw
    have : c = [] := List.eq_nil_of_length_eq_zero (by omega)
    subst this
    refine ⟨?_, hQ _ _ ⟨t, h, ht, hw, hK⟩⟩
    apply List.eq_nil_iff_forall_not_mem.2
    intro i hi
    obtain ⟨h0, o, ho, _⟩ := mem_ready.1 hi
    have := (hmem i (Array.getElem?_eq_some_iff.1 ho).1).2 h0
    cases this
  | succ f ih =>
    intro c listed t h a w hf hnd hsz hmem hlt hcl ht1 ht2 hK ht hw
    refine ⟨fun hr => ?_, fun i hi => ?_⟩
    · cases c with
      | nil => exact hQ _ _ ⟨t, h, ht, hw, hK⟩
      | cons k c =>
        exfalso
        have hk : k ∈ Region.ready .any ops listed := by
          refine mem_ready.2 ⟨(hmem k (hlt k (List.mem_cons_self ..))).1 (List.mem_cons_self ..), ?_⟩
          simp only [topoOk, Bool.and_eq_true] at ht2
          obtain ⟨ht2, _⟩ := ht2
          cases ho : ops[k]? with
          | none => simp [ho] at ht2
          | some o =>
            refine ⟨o, rfl, fun e he hb => ?_⟩
            simp only [ho, Option.map_some, Option.getD_some, List.all_eq_true, Bool.or_eq_true, Bool.and_eq_true, Bool.not_eq_true', decide_eq_true_eq] at ht2
            rcases ht2 e (by simpa using he) with h2 | h2
            · rw [hb] at h2; cases h2
            · have hnot : e.on ∉ k :: c := by
                have h3 := h2.1.2
                simp only [List.contains_eq_mem, decide_eq_false_iff_not] at h3
                have h4 := h2.2
                simp only [bne_iff_ne, ne_eq] at h4
                simp [h3, h4]
              have h5 := mt (hmem e.on h2.1.1).2 hnot
              have h6 : e.on < listed.size := by rw [hsz]; exact h2.1.1
              simp [h6] at h5 ⊢
              exact h5
        rw [hr] at hk
        cases hk
    · obtain ⟨h0, o, ho, hall⟩ := mem_ready.1 hi
      have hin : i < ops.size := (Array.getElem?_eq_some_iff.1 ho).1
      have hic := (hmem i hin).2 h0
      obtain ⟨pre, post, rfl⟩ := List.append_of_mem hic
      obtain ⟨y, hy⟩ : ∃ y, l[i]? = some y := ⟨l[i], List.getElem?_eq_getElem (by omega)⟩
      obtain ⟨o', ho', hrel⟩ := hl i y hy
      rw [ho] at ho'
      simp only [Option.some.injEq] at ho'
      subst ho'
      -- whatever 'i' waits for has come up
      have hwait : ∀ j, j < ops.size → (bef.getD i 0).testBit j = true → j ∉ pre ++ i :: post := fun j hj hb => by
        unfold befOk at hbef
        simp only [List.all_eq_true, List.mem_range] at hbef
        have h1 := hbef i hin
        simp only [ho, Option.map_some, Option.getD_some, List.all_eq_true, List.mem_range, decide_eq_true_eq] at h1
        have h2 := h1 j hj hb
        simp only [List.any_eq_true, Bool.and_eq_true, Bool.or_eq_true, beq_iff_eq] at h2
        obtain ⟨e, he, hbe, h3⟩ := h2
        have hle := hall e (by simpa using he) hbe
        have helt : e.on < ops.size := by
          rcases Nat.lt_or_ge e.on listed.size with h' | h'
          · rw [← hsz]; exact h'
          · simp [Array.getElem?_eq_none h'] at hle
        have hen : e.on ∉ pre ++ i :: post := fun hm => by
          have := (hmem e.on helt).1 hm
          have h6 : e.on < listed.size := by rw [hsz]; exact helt
          simp [h6] at this hle
          rw [hle] at this; cases this
        rcases h3 with h3 | h3
        · rw [← h3]; exact hen
        · exact hcl e.on j helt hen hj h3
      have hturn : ∀ j ∈ pre, ∀ x, l[j]? = some x → mayTurn x y = true := fun j hj x hx => by
        rcases turnsOk_mem ht1 rfl j hj with h1 | ⟨x', y', hx', hy', hm⟩
        · exact absurd (List.mem_append_left _ hj) (hwait j (hlt j (List.mem_append_left _ hj)) h1)
        · rw [hx] at hx'; rw [hy] at hy'
          simp only [Option.some.injEq] at hx' hy'
          subst hx'; subst hy'; exact hm
      have hpk : pickAll l (pre ++ i :: post) = pickAll l pre ++ y :: pickAll l post := by
        rw [pickAll_append]; simp [pickAll, hy]
      rw [hpk, aops_append] at hK
      have hK' : aops P (pickAll l pre) (step P y (aops P (pickAll l post) K)) t h := hK
      have hcond : y.op.class = 2 → goes t y.guard = true → ∃ p, new2 (ev t) y.op = some p := fun h2 hg => by
        obtain ⟨t', h', hs, heq⟩ := virt hl pre hK' ht hw
        have hl2 := looks_eq (y := y) (t := t) (t' := t') fun k hk => heq k fun j hj x hx hd => (apart_of (hturn j hj x hx)).xy k hd hk
        rw [step_def, hl2.1, if_pos hg, aop_new h2, hl2.2] at hs
        exact hs.imp fun p hp => hp.1
      have hfr := front hl pre hturn hcond hK'
      refine wpOp_mono ?_ (step_sound ho hrel hfr ht hw)
      rintro a' w' ⟨t', h', ht', hw', hK2⟩
      have hsub : (pre ++ post).Sublist (pre ++ i :: post) := List.Sublist.append (List.Sublist.refl _) (List.sublist_cons_self _ _)
      have hni : i ∉ pre ++ post := by
        have := List.nodup_append.1 hnd
        intro hm
        rcases List.mem_append.1 hm with hm | hm
        · exact this.2.2 i hm i (List.mem_cons_self ..) rfl
        · exact (List.nodup_cons.1 this.2.1).1 hm
      refine ih (pre ++ post) (listed.setIfInBounds i true) t' h' a' w' ?_ (hnd.sublist hsub) (by simp [hsz]) ?_ (fun j hj => hlt j (hsub.subset hj)) ?_ (turnsOk_sub ht1 hsub) (topoOk_sub ht2 hsub) ?_ ht' hw'
      · simp only [List.length_append, List.length_cons] at hf ⊢; omega
      · intro j hj
        by_cases hji : j = i
        · subst hji
          have : j < listed.size := by rw [hsz]; exact hj
          simp [hni, this]
        · rw [getD_set_ne true (Ne.symm hji), ← hmem j hj]
          simp [hji]
      · intro j k hj hjn hk hb
        by_cases hji : j = i
        · subst hji
          exact fun hm => hwait k hk hb (hsub.subset hm)
        · have : j ∉ pre ++ i :: post := by simp [hji] at hjn ⊢; exact hjn
          exact fun hm => hcl j k hj this hk hb (hsub.subset hm)
      · rw [pickAll_append, aops_append]; exact hK2

end
end Go.Proofs.YtjklebickfcddaaDoor.Sep

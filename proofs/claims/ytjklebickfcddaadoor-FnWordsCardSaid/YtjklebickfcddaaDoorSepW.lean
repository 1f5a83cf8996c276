/- Loops and contracts over trees. -/
import Derived.Test.YtjklebickfcddaaDoorSepV
namespace Go.Proofs.YtjklebickfcddaaDoor.Sep
open Go.RowKit
set_option linter.unusedVariables false
set_option linter.unusedSimpArgs false
set_option linter.constructorNameAsVariable false

def lpOk (t : Tp) : List (Nat × V) → Prop
  | [] => True
  | p :: l => t p.1 = p.2 ∧ lpOk t l
def tputl (t : Tp) : List (Nat × V) → Tp
  | [] => t
  | p :: l => tput (tputl t l) p.1 p.2
def tputz (t : Tp) : List Nat → List V → Tp
  | k :: l, v :: r => tput (tputz t l r) k v
  | _, _ => t

mutual
/-- Its named blocks are among these. -/
def scv (ns : List Nat) : V → Bool
  | .own _ _ _ l => scvs ns l
  | .agg l => scvs ns l
  | .tup l => scvs ns l
  | .fn _ l => scvs ns l
  | .sl _ l => nrfs l
  | .pf l _ => nrfs l
  | .ptr b _ => ns.contains b
  | .rf b _ _ => ns.contains b
  | .int .. | .bool _ | .str _ | .nilp | .nils | .und | .fz .. => true
def scvs (ns : List Nat) : List V → Bool
  | [] => true
  | v :: l => scv ns v && scvs ns l
end
def sclp (ns : List Nat) : List (Nat × V) → Bool
  | [] => true
  | p :: l => scv ns p.2 && sclp ns l

/-- What is fixed of a loop's frame: the named blocks are different ones, the values refer to them alone. -/
def frameOk (c0 : Nat) (lp : List (Nat × V)) (bx : List (Nat × TypeId × Nat)) : Bool :=
  decide (64 ≤ c0) && decide (names bx).Nodup && (names bx).all (fun b => decide (b < c0)) && sclp (names bx) lp

/-- The state, cut down to what a frame tells: the trees of some temporaries, the cells of some blocks. -/
def Col (vs : List Nat) (lp : List (Nat × V)) (bx : List (Nat × TypeId × Nat)) (t : Tp) (h : Hp) (K : List V → List (List V) → Prop) : Prop :=
  OK (folds (fin 4) h (vs.map t)) fun p => OK (closeAll p.2 (names bx)) fun h' => OK (boxesOf h' bx) fun cells => Rq (nrfs p.1 = true ∧ nrfss cells = true ∧ lpOk t lp) (K p.1 cells)

def ltmp (c0 : Nat) (vs : List Nat) (lp : List (Nat × V)) (vals : List V) : Tp := tputz (tputl tund lp) vs (mats vals c0).1
def lheap (c0 : Nat) (bx : List (Nat × TypeId × Nat)) (vals : List V) (cells : List (List V)) : Hp := hputs (hputb hnil bx cells) (mats vals c0).2.1

section
variable {ι : Iota} {F g : H}

mutual
theorem scv_R {ns : List Nat} {ι' : Iota} (hi : ∀ b ∈ ns, ι' b = ι b) : ∀ (v : V) {r : Value}, scv ns v = true → R ι F v r → R ι' F v r
  | .und, _, hn, h => by simp [R]
  | .int _ _, _, hn, h => by simpa [R] using h
  | .bool _, _, hn, h => by simpa [R] using h
  | .str _, _, hn, h => by simpa [R] using h
  | .agg l, _, hn, h => by
    simp only [scv] at hn; simp only [R] at h ⊢; obtain ⟨cs, h1, h2⟩ := h; exact ⟨cs, h1, scvs_R hi l hn h2⟩
  | .tup l, _, hn, h => by
    simp only [scv] at hn; simp only [R] at h ⊢; obtain ⟨cs, h1, h2⟩ := h; exact ⟨cs, h1, scvs_R hi l hn h2⟩
  | .ptr b off, _, hn, h => by
    simp only [scv, List.contains_iff_mem] at hn; simp only [R] at h ⊢; rw [hi b hn]; exact h
  | .nilp, _, hn, h => by simpa [R] using h
  | .pf l off, _, hn, h => nrf_R _ (by simpa only [scv, nrf] using hn) h
  | .sl n l, _, hn, h => nrf_R _ (by simpa only [scv, nrf] using hn) h
  | .rf b off n, _, hn, h => by
    simp only [scv, List.contains_iff_mem] at hn; simp only [R] at h ⊢; rw [hi b hn]; exact h
  | .nils, _, hn, h => by simpa [R] using h
  | .own .., _, hn, h => by simp [R] at h
  | .fn f l, _, hn, h => by
    simp only [scv] at hn; simp only [R] at h ⊢; obtain ⟨cs, h1, h2⟩ := h; exact ⟨cs, h1, scvs_R hi l hn h2⟩
  | .fz x l, _, hn, h => by simpa only [R] using h
theorem scvs_R {ns : List Nat} {ι' : Iota} (hi : ∀ b ∈ ns, ι' b = ι b) : ∀ (l : List V) {r : List Value}, scvs ns l = true → RL ι F l r → RL ι' F l r
  | [], _, hn, h => by simpa [RL] using h
  | a :: l, _, hn, h => by
    simp only [scvs, Bool.and_eq_true] at hn
    simp only [RL] at h ⊢; obtain ⟨v, r', h1, h2, h3⟩ := h; exact ⟨v, r', h1, scv_R hi a hn.1 h2, scvs_R hi l hn.2 h3⟩
end

mutual
theorem mat_free : ∀ (v : V) (c : Nat) {h : Hp}, (∀ x, c ≤ x → h x = .free) → allFree h (mat v c).2.1 ∧ c ≤ (mat v c).2.2 ∧ ∀ x, (mat v c).2.2 ≤ x → hputs h (mat v c).2.1 x = .free
  | .own e sz n l, c, h, hx => by
    simp only [mat, allFree, hputs, and_true]
    refine ⟨hx c (Nat.le_refl _), by omega, fun x hxc => ?_⟩
    simp only [hput]
    rw [if_neg (by omega)]
    exact hx x (by omega)
  | .agg l, c, h, hx => by simpa only [mat] using mats_free l c hx
  | .tup l, c, h, hx => by simpa only [mat] using mats_free l c hx
  | .und, c, h, hx => by simpa [mat, allFree, hputs] using hx
  | .int _ _, c, h, hx => by simpa [mat, allFree, hputs] using hx
  | .bool _, c, h, hx => by simpa [mat, allFree, hputs] using hx
  | .str _, c, h, hx => by simpa [mat, allFree, hputs] using hx
  | .ptr _ _, c, h, hx => by simpa [mat, allFree, hputs] using hx
  | .nilp, c, h, hx => by simpa [mat, allFree, hputs] using hx
  | .pf _ _, c, h, hx => by simpa [mat, allFree, hputs] using hx
  | .sl _ _, c, h, hx => by simpa [mat, allFree, hputs] using hx
  | .rf _ _ _, c, h, hx => by simpa [mat, allFree, hputs] using hx
  | .nils, c, h, hx => by simpa [mat, allFree, hputs] using hx
  | .fn _ _, c, h, hx => by simpa [mat, allFree, hputs] using hx
  | .fz _ _, c, h, hx => by simpa [mat, allFree, hputs] using hx
theorem mats_free : ∀ (l : List V) (c : Nat) {h : Hp}, (∀ x, c ≤ x → h x = .free) → allFree h (mats l c).2.1 ∧ c ≤ (mats l c).2.2 ∧ ∀ x, (mats l c).2.2 ≤ x → hputs h (mats l c).2.1 x = .free
  | [], c, h, hx => by simpa [mats, allFree, hputs] using hx
  | v :: l, c, h, hx => by
    obtain ⟨h1, h2, h3⟩ := mat_free v c hx
    obtain ⟨h4, h5, h6⟩ := mats_free l (mat v c).2.2 h3
    simp only [mats]
    exact ⟨(allFree_append _ _ _).2 ⟨h1, h4⟩, by omega, fun x hx => by rw [hputs_append]; exact h6 x hx⟩
end

theorem tputl_R {ι' : Iota} {t : Tp} {u : T} (hR : ∀ (v : V) (r : Value) , R ι F v r → R ι' F v r) : True := trivial

/-- An empty row of cells is one of elements of any size. -/
def rt1 (sz : Nat) : V → V
  | .own e 0 0 [] => .own e sz 0 []
  | v => v
def rts : List Nat → List V → List V
  | s :: ss, v :: vs => rt1 s v :: rts ss vs
  | _, vs => vs
theorem rt1_OV {sz : Nat} {v : V} {r : Value} {d : H} (h : OV ι F v r d) : OV ι F (rt1 sz v) r d := by
  unfold rt1
  split
  · simp only [OV] at h ⊢
    obtain ⟨b, c, rcs, ex, d', h1, h2, h3, h4, h5, h6⟩ := h
    have hc := h5 trivial
    subst hc
    exact ⟨b, 0, rcs, ex, d', h1, h2, h3, by omega, fun _ => rfl, h6⟩
  · exact h
theorem rts_nil {l : List V} : rts [] l = l := by cases l <;> rfl
theorem rts_OL : ∀ {ss : List Nat} {l : List V} {r : List Value} {d : H}, OL ι F l r d → OL ι F (rts ss l) r d
  | [], l, r, d, h => by cases l <;> exact h
  | s :: ss, [], r, d, h => h
  | s :: ss, v :: l, r, d, h => by
    simp only [OL] at h
    obtain ⟨x, r', d1, d2, h1, h2, h3, h4, h5⟩ := h
    simp only [rts, OL]
    exact ⟨x, r', d1, d2, h1, h2, h3, rt1_OV h4, rts_OL h5⟩
theorem rt1_nrf {sz : Nat} {v : V} (h : nrf v = true) : nrf (rt1 sz v) = true := by
  unfold rt1
  split
  · rfl
  · exact h
theorem rts_nrf : ∀ {ss : List Nat} {l : List V}, nrfs l = true → nrfs (rts ss l) = true
  | [], l, h => by cases l <;> exact h
  | s :: ss, [], h => h
  | s :: ss, v :: l, h => by
    simp only [nrfs, Bool.and_eq_true] at h
    simp only [rts, nrfs, Bool.and_eq_true]
    exact ⟨rt1_nrf h.1, rts_nrf h.2⟩

theorem frame_ent {c0 : Nat} (ss : List Nat) {vs : List Nat} {lp : List (Nat × V)} {bx : List (Nat × TypeId × Nat)} (hf : frameOk c0 lp bx = true) {t : Tp} {h : Hp} {J : List V → List (List V) → Prop}
    (hc : Col vs lp bx t h fun vals cells => J (rts ss vals) cells) : ∃ vals cells, J vals cells ∧ Ent t h (ltmp c0 vs lp vals) (lheap c0 bx vals cells) := by
  obtain ⟨⟨vals, h1⟩, hfin, h2, hcl, cells, hbx, ⟨hn1, hn2, hlp⟩, hJ⟩ := hc
  simp only at hcl hbx hn1 hJ
  refine ⟨rts ss vals, cells, hJ, ?_⟩
  simp only [frameOk, Bool.and_eq_true, decide_eq_true_eq, List.all_eq_true] at hf
  obtain ⟨⟨⟨hc0, hnd⟩, hlt⟩, hsc⟩ := hf
  rintro F0 u g ⟨ι, F, D, hF0, hh, ht⟩
  have hvs : RL ι F (vs.map t) (vs.map u) := by
    have : ∀ l : List Nat, RL ι F (l.map t) (l.map u) := by
      intro l
      induction l with
      | nil => simp [RL]
      | cons k l ih => simp only [List.map_cons, RL]; exact ⟨_, _, rfl, ht k, ih⟩
    exact this vs
  obtain ⟨hlen, d, D', hOL, hp⟩ := folds_ok (fin_ok 4) hfin hh (RL_OL _ hvs) (fun b => dj_emp_l _) (dj_emp_l _) (emp_le g)
  obtain ⟨D1, hcd, hsrc⟩ := hp.hold.closeAll hcl
  have hdj1 : ∀ x, Dj d (D1 x) := fun x y => by
    cases hy : D1 x y with
    | none => exact .inr rfl
    | some k =>
      left
      obtain ⟨z, hz⟩ := hsrc x y (by simp [hy])
      rcases hp.dj z y with h | h
      · exact h
      · rw [h] at hz; cases hz
  have hb := hcd.boxes (ι2 := fun x => if x ∈ names bx ∨ x < 64 then ι x else none) hbx hn2 (fun x hx => by simp [hx]) (fun x h64 hx => by
    have : ¬ (x ∈ names bx ∨ x < 64) := fun h => h.elim hx (by omega)
    simp only [if_neg this])
  have hfree : ∀ x, c0 ≤ x → hputb hnil bx cells x = .free := fun x hx => (hputb_at hbx hn2 x).1 fun hm => by
    have := hlt x hm; omega
  obtain ⟨ι2, D2, i2, hh2, hRL, _⟩ := mats_ok (F := F) (rts ss vals) c0 hc0 (nrfs_OL (ι' := ι0) _ (rts_nrf hn1) (rts_OL hOL)) hb (fun x => by
    by_cases hx : x ∈ names bx
    · simp only [if_pos hx]; exact (hdj1 x).symm
    · simp only [if_neg hx]; exact dj_emp_l _) hp.djF.symm (le_rfl' g) hp.le (mats_free (rts ss vals) c0 hfree).1
  refine ⟨ι2, F, D2, ⟨hF0.1, fun b p hb => i2 _ _ (by have := F0.lt _ _ hb; simp only [this, or_true, if_true]; exact hF0.2 _ _ hb)⟩, hh2, ?_⟩
  -- the temporaries
  have h2 : ∀ (l : List (Nat × V)), lpOk t l → sclp (names bx) l = true → ∀ k, R ι2 F (tputl tund l k) (u k) := by
    intro l
    induction l with
    | nil => intro _ _ k; exact R_und
    | cons p l ih =>
      intro h1 h2 k
      simp only [lpOk] at h1
      simp only [sclp, Bool.and_eq_true] at h2
      simp only [tputl, tput]
      split
      · rename_i hk; subst hk
        rw [← h1.1] at h2 ⊢
        exact R_mono i2 (le_rfl' F) _ (scv_R (fun b hb => by simp [hb]) _ h2.1 (ht p.1))
      · exact ih h1.2 h2.2 k
  have h3 : ∀ (l : List Nat) (m : List V), RL ι2 F m (l.map u) → ∀ k, R ι2 F (tputz (tputl tund lp) l m k) (u k) := by
    intro l
    induction l with
    | nil => intro m _ k; cases m <;> exact h2 lp hlp hsc k
    | cons a l ih =>
      intro m hm k
      cases m with
      | nil => exact h2 lp hlp hsc k
      | cons v m =>
        simp only [List.map_cons, RL, List.cons.injEq] at hm
        obtain ⟨_, _, ⟨rfl, rfl⟩, h4, h5⟩ := hm
        simp only [tputz, tput]
        split
        · rename_i hk; subst hk; exact h4
        · exact ih m h5 k
  exact h3 vs _ hRL
end

section
variable {P : Program} {n : Tp → Hp → Prop} {e : Nat → Tp → Hp → Prop} {r : Tp → Hp → Prop} {t : Tp} {h : Hp}

theorem W_of {c : ACode} (hp : pwp P c n e r t h) : W P c n e r t h := fun F0 u g hs => pwp_sound c hs hp

/-- A loop: 'I' holds of the trees of the temporaries 'vs' and of the cells of the blocks 'bx' at each round's head, with a number that falls. -/
theorem ploop (c0 : Nat) (vs : List Nat) (lp : List (Nat × V)) (bx : List (Nat × TypeId × Nat)) (I : Nat → List V → List (List V) → Prop) (ss : List Nat) {b : ACode} (hf : frameOk c0 lp bx = true)
    (h0 : Col vs lp bx t h fun vals cells => ∃ k, I k (rts ss vals) cells)
    (hround : ∀ k vals cells, I k vals cells → W P b (fun t h => Col vs lp bx t h fun vals cells => ∃ k', k' < k ∧ I k' vals cells) e r (ltmp c0 vs lp vals) (lheap c0 bx vals cells)) :
    pwp P (.loop b) n e r t h := by
  obtain ⟨vals, cells, ⟨k, hI⟩, hent⟩ := frame_ent ss (J := fun vals cells => ∃ k, I k vals cells) hf h0
  refine ⟨fun k t h => ∃ vals cells, t = ltmp c0 vs lp vals ∧ h = lheap c0 bx vals cells ∧ I k vals cells, k, _, _, hent, ⟨vals, cells, rfl, rfl, hI⟩, ?_⟩
  rintro k _ _ ⟨vals, cells, rfl, rfl, hI⟩ F0 u g hs
  refine awp_agree.awp_mono (fun u g hx => ?_) (fun _ _ _ h => h) (fun _ _ h => h) (hround k vals cells hI F0 u g hs)
  obtain ⟨t', h', hs', hcol⟩ := hx
  obtain ⟨vals', cells', ⟨k', hk, hI'⟩, hent'⟩ := frame_ent [] (J := fun vals cells => ∃ k', k' < k ∧ I k' vals cells) hf (by simpa only [rts_nil] using hcol)
  exact ⟨t', h', hs', k', _, _, hk, hent', vals', cells', rfl, rfl, hI'⟩

/-- Where ways meet. -/
theorem Wcut (c0 : Nat) (vs : List Nat) (lp : List (Nat × V)) (bx : List (Nat × TypeId × Nat)) (J : List V → List (List V) → Prop) {a b : ACode} (hf : frameOk c0 lp bx = true)
    (h1 : W P a (fun t h => Col vs lp bx t h J) e r t h) (h2 : ∀ vals cells, J vals cells → W P b n e r (ltmp c0 vs lp vals) (lheap c0 bx vals cells)) : W P (.seq a b) n e r t h := by
  intro F0 u g hs
  simp only [awp]
  refine awp_agree.awp_mono (fun u g hx => ?_) (fun _ _ _ h => h) (fun _ _ h => h) (h1 F0 u g hs)
  obtain ⟨t', h', hs', hcol⟩ := hx
  obtain ⟨vals, cells, hJ, hent⟩ := frame_ent [] (J := J) hf (by simpa only [rts_nil] using hcol)
  exact h2 vals cells hJ F0 u g (hent _ _ _ hs')
theorem Wseq {a b : ACode} (h1 : W P a (fun t h => W P b n e r t h) e r t h) : W P (.seq a b) n e r t h := by
  intro F0 u g hs
  simp only [awp]
  refine awp_agree.awp_mono (fun u g hx => ?_) (fun _ _ _ h => h) (fun _ _ h => h) (h1 F0 u g hs)
  obtain ⟨t', h', hs', hw⟩ := hx
  exact hw F0 u g hs'

/-! ### Contracts -/
def presV (t : Tp) (h : Hp) : ARes → Option V
  | .tmp k => some (t k)
  | .cell n k => match t k with
    | .ptr b off => match h b with
      | .row _ _ cs => grd (noOwn cs = true) (vcellsAt cs off n)
      | _ => none
    | _ => none
def presAll (t : Tp) (h : Hp) : List ARes → Option (List V)
  | [] => some []
  | r :: rs => (presV t h r).bind fun v => (presAll t h rs).bind fun vs => some (v :: vs)
def presJoin : List V → V
  | [v] => v
  | vs => .tup vs
def PRet (res : List ARes) (Φ : V → Prop) (t : Tp) (h : Hp) : Prop :=
  OK (presAll t h res) fun l => OK (fin 5 h (presJoin l)) fun p => Rq (clo p.1 = true) (Φ p.1)

/-- The end of a call that turns blocks. -/
def PRetM (k : List (List V)) (bx : List (Nat × TypeId × Nat)) (res : List ARes) (Φ : V → List (List V) → Prop) (t : Tp) (h : Hp) : Prop :=
  OK (presAll t h res) fun l => OK (fin 5 h (presJoin l)) fun p => OK (closeAll p.2 (names bx)) fun h' => OK (boxesOf h' bx) fun cells => Rq (clo p.1 = true ∧ closK k cells) (Φ p.1 cells)

/-- The same of a function that returns a slice of a block that it was handed. -/
def PRetMR (k : List (List V)) (bx : List (Nat × TypeId × Nat)) (res : List ARes) (Φ : Nat → Nat → Nat → List (List V) → Prop) (t : Tp) (h : Hp) : Prop :=
  OK (presAll t h res) fun l => ∃ j o n, presJoin l = .rf j o n ∧ OK (closeAll h (names bx)) fun h' => OK (boxesOf h' bx) fun cells => Rq (closK k cells ∧ (names bx).contains j = true) (Φ j o n cells)

def argV : List V → Tp := fun vs k => vs.getD k .und

theorem presV_R {ι : Iota} {F g : H} {D : Nat → H} {u : T} (hh : Hold ι F h D g) (ht : ∀ k, R ι F (t k) (u k)) {a : ARes} {v : V} (hv : presV t h a = some v) : ∃ x, resV u g a = some x ∧ R ι F v x := by
  cases a with
  | tmp k => simp only [presV, Option.some.injEq] at hv; subst hv; exact ⟨_, rfl, ht k⟩
  | cell n k =>
    simp only [presV] at hv
    have hk := ht k
    cases htk : t k <;> simp only [htk, reduceCtorEq] at hv
    rename_i b off
    rw [htk] at hk
    simp only [R] at hk
    obtain ⟨b', tot, sz0, h1, hk⟩ := hk
    cases hb : h b with
    | free => simp [hb] at hv
    | dead => simp [hb] at hv
    | row e sz cs =>
      simp only [hb] at hv
      obtain ⟨hn, hv⟩ := grd_some hv
      obtain ⟨b2, rcs, ex, d', q1, q2, q3, q4, q5, q6, q7⟩ := hh.blk hb
      rw [h1] at q1; cases q1
      have h5 := (OL_plain hn q5).2
      obtain ⟨rv, h6, h7⟩ := vcellsAt_R (o := 0) (cs := rcs) (by simpa using h5) (by omega) hv
      exact ⟨rv, by simp only [resV, hk, ald, q6, ldB]; simpa using h6, h7⟩
theorem presAll_R {ι : Iota} {F g : H} {D : Nat → H} {u : T} (hh : Hold ι F h D g) (ht : ∀ k, R ι F (t k) (u k)) : ∀ {as : List ARes} {l : List V}, presAll t h as = some l → ∃ xs, resAll u g as = some xs ∧ RL ι F l xs
  | [], l, hv => by simp only [presAll, Option.some.injEq] at hv; subst hv; exact ⟨[], rfl, by simp [RL]⟩
  | a :: as, l, hv => by
    simp only [presAll, Option.bind_eq_some_iff, Option.some.injEq] at hv
    obtain ⟨v, h1, vs, h2, rfl⟩ := hv
    obtain ⟨x, h3, h4⟩ := presV_R hh ht h1
    obtain ⟨xs, h5, h6⟩ := presAll_R hh ht h2
    exact ⟨x :: xs, by simp [resAll, h3, h5], by simp only [RL]; exact ⟨x, xs, rfl, h4, h6⟩⟩
theorem presJoin_R {ι : Iota} {F : H} {l : List V} {xs : List Value} (hl : RL ι F l xs) : R ι F (presJoin l) (resJoin xs) := by
  match l, xs, hl with
  | [], xs, hl => simp only [RL] at hl; subst hl; simp only [presJoin, resJoin, R]; exact ⟨[], rfl, by simp [RL]⟩
  | [v], xs, hl =>
    simp only [RL] at hl
    obtain ⟨x, r', rfl, h1, rfl⟩ := hl
    exact h1
  | v :: w :: l, xs, hl =>
    have hl' := hl
    simp only [RL] at hl
    obtain ⟨x, r', rfl, h1, y, r2, rfl, h2, h3⟩ := hl
    simp only [presJoin, resJoin, R]
    exact ⟨_, rfl, hl'⟩

theorem pret_sound {F0 : Fr} {res : List ARes} {Φ : V → Prop} {u : T} {g : H} (hs : SN F0 (PRet res Φ) u g) : Ret res (fun r h' => ∃ d, (∃ v, Φ v ∧ OV ι0 emp v r d) ∧ Grew F0.F d h') u g := by
  obtain ⟨t, h, ⟨ι, F, D, hF0, hh, ht⟩, l, hl, ⟨v, h'⟩, hfin, hclo, hΦ⟩ := hs
  obtain ⟨xs, h1, h2⟩ := presAll_R hh ht hl
  refine ⟨xs, h1, ?_⟩
  obtain ⟨d, D', hOV, hp⟩ := fin_ok 5 hfin hh (R_OV _ (presJoin_R h2)) (fun b => dj_emp_l _) (dj_emp_l _) (emp_le g)
  refine ⟨d, ⟨v, hΦ, clo_OV v hclo hOV⟩, ?_, ?_⟩
  · intro x hx
    rcases hp.djF x with h | h
    · rw [h] at hx; cases hx
    · cases h0 : F0.F x with
      | none => rfl
      | some k => rw [hF0.1 _ _ h0] at h; cases h
  · exact le_join_of (le_trans' hF0.1 hh.leF) hp.le

/-- The end of a call whose result may share memory with its arguments. -/
def PRetV (res : List ARes) (Φ : V → Prop) (t : Tp) (h : Hp) : Prop :=
  OK (presAll t h res) fun l => OK (fin 5 h (presJoin l)) fun p => Rq (nrf p.1 = true) (Φ p.1)
theorem pretV_sound {F0 : Fr} {res : List ARes} {Φ : V → Prop} {u : T} {g : H} (hs : SN F0 (PRetV res Φ) u g) : Ret res (fun r h' => ∃ v F' d, Φ v ∧ OV ι0 F' v r d ∧ Le F0.F F' ∧ Le F' h' ∧ Le d h' ∧ Dj d F') u g := by
  obtain ⟨t, h, ⟨ι, F, D, hF0, hh, ht⟩, l, hl, ⟨v, h'⟩, hfin, hn, hΦ⟩ := hs
  obtain ⟨xs, h1, h2⟩ := presAll_R hh ht hl
  refine ⟨xs, h1, ?_⟩
  obtain ⟨d, D', hOV, hp⟩ := fin_ok 5 hfin hh (R_OV _ (presJoin_R h2)) (fun b => dj_emp_l _) (dj_emp_l _) (emp_le g)
  exact ⟨v, F, d, hΦ, nrf_OV v hn hOV, hF0.1, hh.leF, hp.le, hp.djF⟩
def Blk.free : Blk → Blk
  | .row _ e cs ex => .row false e cs ex
  | .obj _ o => .obj false o
def hfree (F : H) : H := fun x => (F x).map Blk.free
theorem hfree_row {F : H} {b : Nat} {own : Bool} {e : TypeId} {cs : List Value} {ex : Nat} (h : hfree F b = some (.row own e cs ex)) : ∃ own2, F b = some (.row own2 e cs ex) := by
  simp only [hfree, Option.map_eq_some_iff] at h
  obtain ⟨k, h1, h2⟩ := h
  cases k with
  | row o2 e2 cs2 ex2 => simp only [Blk.free, Blk.row.injEq] at h2; obtain ⟨_, rfl, rfl, rfl⟩ := h2; exact ⟨o2, h1⟩
  | obj o2 x => simp [Blk.free] at h2
theorem hfree_to {F : H} {b : Nat} {own : Bool} {e : TypeId} {cs : List Value} {ex : Nat} (h : F b = some (.row own e cs ex)) : ∃ own2, hfree F b = some (.row own2 e cs ex) := ⟨false, by simp [hfree, h, Blk.free]⟩
theorem hfree_sat {B : Bd} {w0 w : World} {F : H} (hw : Sat B w0 w F) : Sat ⟨w.heap.size, fun b => (hfree F b).isSome = true, w.heap.size⟩ w w (hfree F) := by
  refine ⟨Below.refl _ _, Nat.le_refl _, fun b k hb => ?_, Nat.le_refl _, fun b hb => .inl hb⟩
  simp only [hfree, Option.map_eq_some_iff] at hb
  obtain ⟨k', h1, rfl⟩ := hb
  obtain ⟨⟨o, ho, hk⟩, _⟩ := hw.blk b k' h1
  cases k' with
  | row o2 e2 cs2 ex2 =>
    obtain ⟨c, fr, q1, q2, q3, q4, q5⟩ := hk
    exact ⟨⟨o, ho, c, fr, q1, q2, q3, (fun h => by cases h), (fun h => by cases h)⟩, fun h => by cases h⟩
  | obj o2 x => exact ⟨⟨o, ho, hk⟩, fun h => by cases h⟩

theorem pspecV_of {f : FuncId} {fn : Func} (hf : P.funcs[f]? = some fn) {af : AFun} (hc : compF P fn = some af) {vs : List V} (hn : vs.length ≤ af.n) {Φ : V → Prop}
    (hbody : W P af.code (PRetV af.res Φ) (fun _ _ _ => False) (PRetV af.res Φ) (argV vs) hnil) : PSpecV P f vs Φ := by
  intro F rs hrs hr hle B w0 w hw
  have hlen := RL_len hrs
  have hrs' : RL ι0 (hfree F) vs rs := RL_like (iext_refl ι0) (fun b own e cs ex h => hfree_to h) _ hrs
  have hsim : Sim ⟨hfree F, ι0, fun b p h => by simp [ι0] at h⟩ (argV vs) hnil (argT rs) (hfree F) := by
    refine ⟨ι0, hfree F, fun _ => emp, ⟨le_rfl' _, iext_refl ι0⟩, ⟨?_, ?_, ?_, ?_, ?_, ?_, le_rfl' _⟩, ?_⟩
    · intro b e sz cs h; simp [hnil] at h
    · intro b _; rfl
    · intro b; exact emp_le _
    · intro b b2 _; exact dj_emp_l _
    · intro b; exact dj_emp_l _
    · intro b _ _; rfl
    · intro k; exact RL_get hrs' k
  have h1 := awp_agree.awp_mono (fun u g hx => pretV_sound hx) (fun i u g hx => (show False by obtain ⟨_, _, _, hx⟩ := hx; exact hx)) (fun u g hx => pretV_sound hx) (hbody _ _ _ hsim)
  refine (body_calls hf hc (by omega) h1 (hfree_sat (hw.mono hle))).mono fun e w' => ?_
  rintro ⟨r, h', rfl, ⟨v, F', d2, hΦ, hR, hl1, hl2, hl3, hdj⟩, hw'⟩
  have hnew : ∀ x, (d2 x).isSome = true → w.heap.size ≤ x := fun x hx => by
    obtain ⟨k, hk⟩ := Option.isSome_iff_exists.1 hx
    rcases hw'.old x (by rw [hl3 _ _ hk]; rfl) with h | h
    · simp only at h
      obtain ⟨k2, hk2⟩ := Option.isSome_iff_exists.1 h
      have h3 := hl1 _ _ hk2
      rcases hdj x with h4 | h4
      · rw [hk] at h4; cases h4
      · rw [h3] at h4; cases h4
    · exact h
  refine ⟨r, fun x => if w.heap.size ≤ x then h' x else none, rfl, ⟨v, fun x => if w.heap.size ≤ x ∧ d2 x = none then h' x else none, d2, hΦ, ?_, ?_, OV_like (iext_refl ι0) (fun b own e cs ex hb => ?_) v hR⟩, fun b hb => ?_, ?_⟩
  · funext x
    simp only [join]
    cases hx : d2 x with
    | none => simp
    | some k => rw [if_pos (hnew x (by rw [hx]; rfl)), hl3 _ _ hx]; rfl
  · intro x
    cases hx : d2 x with
    | none => exact .inr rfl
    | some k => left; simp [hx]
  · have hb' := hl2 _ _ hb
    have hn2 : d2 b = none := by
      rcases hdj b with h4 | h4
      · exact h4
      · rw [hb] at h4; cases h4
    rcases hw'.old b (by rw [hb']; rfl) with h | h
    · simp only at h
      obtain ⟨k, hk⟩ := Option.isSome_iff_exists.1 h
      have := hl1 _ _ hk
      rw [hb] at this
      simp only [Option.some.injEq] at this
      subst this
      obtain ⟨own2, hF⟩ := hfree_row hk
      by_cases hlt : w.heap.size ≤ b
      · exact ⟨own, by simp only [join, if_pos (And.intro hlt hn2), hb']; rfl⟩
      · exact ⟨own2, by simp only [join, hlt, false_and, if_false]; simpa using hF⟩
    · simp only at h
      exact ⟨own, by simp only [join, if_pos (And.intro h hn2), hb']; rfl⟩
  · simp only at hb
    split at hb
    · cases hx : hr b with
      | none => rfl
      | some k => have := hw.lt (b := b) (by rw [hx]; rfl); omega
    · simp at hb
  · have hbel : Below w.heap.size w w' := hw'.below
    refine ⟨hw.below.trans (hbel.mono hw.base), Nat.le_trans hw.base hbel.size, fun b k hb => ?_, Nat.le_trans hw.grow hbel.size, fun b hb => ?_⟩
    · simp only [join] at hb
      by_cases hlt : w.heap.size ≤ b
      · rw [if_pos hlt] at hb
        cases hx : h' b with
        | none =>
          rw [hx] at hb
          have := hw.lt (b := b) (by rw [show hr b = some k from by simpa using hb]; rfl)
          omega
        | some k' =>
          rw [hx] at hb
          simp only [Option.some_or, Option.some.injEq] at hb
          subst hb
          obtain ⟨h1, h2⟩ := hw'.blk b k' hx
          exact ⟨h1, fun _ => Nat.le_trans hw.base hlt⟩
      · rw [if_neg hlt] at hb
        obtain ⟨⟨o, ho, hk⟩, h2⟩ := hw.blk b k (by simpa using hb)
        exact ⟨⟨o, by rw [hbel.block b (by omega)]; exact ho, hk⟩, h2⟩
    · by_cases hlt : w.heap.size ≤ b
      · exact .inr (Nat.le_trans hw.grow hlt)
      · simp only [join, if_neg hlt] at hb
        exact hw.old b (by simpa using hb)

theorem pspec_of {f : FuncId} {fn : Func} (hf : P.funcs[f]? = some fn) {af : AFun} (hc : compF P fn = some af) {vs : List V} (hn : vs.length ≤ af.n) {Φ : V → Prop}
    (hbody : W P af.code (PRet af.res Φ) (fun _ _ _ => False) (PRet af.res Φ) (argV vs) hnil) : PSpec P f vs Φ := by
  intro F rs hrs
  have hlen := RL_len hrs
  refine spec_of hf hc (by omega) fun hr hle => ?_
  have hsim : Sim ⟨hr, ι0, fun b p h => by simp [ι0] at h⟩ (argV vs) hnil (argT rs) hr := by
    refine ⟨ι0, hr, fun _ => emp, ⟨le_rfl' hr, iext_refl ι0⟩, ⟨?_, ?_, ?_, ?_, ?_, ?_, le_rfl' hr⟩, ?_⟩
    · intro b e sz cs h; simp [hnil] at h
    · intro b _; rfl
    · intro b; exact emp_le hr
    · intro b b2 _; exact dj_emp_l _
    · intro b; exact dj_emp_l _
    · intro b _ _; rfl
    · intro k; exact R_mono (iext_refl ι0) hle _ (RL_get hrs k)
  refine awp_agree.awp_mono (fun u g hx => pret_sound hx) (fun i u g hx => ?_) (fun u g hx => pret_sound hx) (hbody _ _ _ hsim)
  obtain ⟨_, _, _, hx⟩ := hx
  exact hx.elim

mutual
theorem clo_nrf : ∀ (v : V), clo v = true → nrf v = true
  | .own _ _ _ l, h => by simp only [clo] at h; simp only [nrf]; exact clos_nrfs l h
  | .agg l, h => by simp only [clo] at h; simp only [nrf]; exact clos_nrfs l h
  | .tup l, h => by simp only [clo] at h; simp only [nrf]; exact clos_nrfs l h
  | .und, _ => rfl
  | .int _ _, _ => rfl
  | .bool _, _ => rfl
  | .str _, _ => rfl
  | .nilp, _ => rfl
  | .nils, _ => rfl
  | .ptr _ _, h => by simp [clo] at h
  | .pf _ _, h => by simp [clo] at h
  | .sl _ _, h => by simp [clo] at h
  | .rf _ _ _, h => by simp [clo] at h
  | .fn _ _, h => by simp [clo] at h
  | .fz _ _, h => by simp [clo] at h
theorem clos_nrfs : ∀ (l : List V), clos l = true → nrfs l = true
  | [], _ => rfl
  | v :: l, h => by simp only [clos, Bool.and_eq_true] at h; simp only [nrfs, Bool.and_eq_true]; exact ⟨clo_nrf v h.1, clos_nrfs l h.2⟩
end
theorem closs_nrfss : ∀ (l : List (List V)), closs l = true → nrfss l = true
  | [], _ => rfl
  | v :: l, h => by simp only [closs, Bool.and_eq_true] at h; simp only [nrfss, Bool.and_eq_true]; exact ⟨clos_nrfs v h.1, closs_nrfss l h.2⟩

theorem closK_nrfss : ∀ (k l : List (List V)), closK k l → nrfss l = true
  | _, [], _ => by simp [nrfss]
  | [], v :: l, h => by simp only [closK] at h; simp only [nrfss, Bool.and_eq_true]; exact ⟨clos_nrfs v h.1, closK_nrfss [] l h.2⟩
  | a :: k, v :: l, h => by
    simp only [closK] at h; simp only [nrfss, Bool.and_eq_true]
    refine ⟨?_, closK_nrfss k l h.2⟩
    rcases h.1 with h1 | h1
    · exact clos_nrfs v h1
    · match a, v, h1 with
      | .fz _ _ :: _, .fz _ _ :: r, h1 => simp only [nrfs, nrf, Bool.true_and]; exact clos_nrfs r h1.2

theorem hputb_mem : ∀ {bx : List (Nat × TypeId × Nat)} {cells : List (List V)} {x : Nat}, cells.length = bx.length →
    (x ∈ names bx → ∃ e sz cs, hputb hnil bx cells x = .row e sz cs) ∧ (x ∉ names bx → hputb hnil bx cells x = .free)
  | [], cells, x, hl => by simp [names, hputb, hnil]
  | p :: bx, [], x, hl => by simp at hl
  | p :: bx, c :: cells, x, hl => by
    obtain ⟨h1, h2⟩ := hputb_mem (bx := bx) (cells := cells) (x := x) (by simpa using hl)
    simp only [hputb, hput, names, List.map_cons, List.mem_cons] at h1 h2 ⊢
    by_cases hx : x = p.1
    · subst hx; simp
    · simp only [if_neg hx, hx, false_or]; exact ⟨h1, h2⟩

theorem pretM_sound {k : List (List V)} {F0 : Fr} {ι2 : Iota} {bx : List (Nat × TypeId × Nat)} {res : List ARes} {Φ : V → List (List V) → Prop} (hi : ∀ x, x ∈ names bx → ∃ p, F0.ι x = some p ∧ ι2 x = some p) (hi2 : ∀ x, 64 ≤ x → ι2 x = none)
    {u : T} {g : H} (hs : SN F0 (PRetM k bx res Φ) u g) : Ret res (fun r g' => ∃ v cs, Φ v cs ∧ closK k cs ∧ cs.length = bx.length ∧
      ∃ F' D' d, Le F0.F F' ∧ Hold ι2 F' (hputb hnil bx cs) D' g' ∧ OV ι0 emp v r d ∧ Le d g' ∧ Dj d F' ∧ ∀ b, Dj d (D' b)) u g := by
  obtain ⟨t, h, ⟨ι, F, D, hF0, hh, ht⟩, l, hl, ⟨v, h1⟩, hfin, h2, hcl, cells, hbx, ⟨hclo, hclos⟩, hΦ⟩ := hs
  simp only at hcl hclo hΦ
  obtain ⟨xs, g1, g2⟩ := presAll_R hh ht hl
  refine ⟨xs, g1, ?_⟩
  obtain ⟨d, D1, hOV, hp⟩ := fin_ok 5 hfin hh (R_OV _ (presJoin_R g2)) (fun b => dj_emp_l _) (dj_emp_l _) (emp_le g)
  obtain ⟨D2, hcd, hsrc⟩ := hp.hold.closeAll hcl
  have hdj1 : ∀ x, Dj d (D2 x) := fun x y => by
    cases hy : D2 x y with
    | none => exact .inr rfl
    | some k =>
      left
      obtain ⟨z, hz⟩ := hsrc x y (by simp [hy])
      rcases hp.dj z y with h | h
      · exact h
      · rw [h] at hz; cases hz
  have hb := hcd.boxes (ι2 := ι2) hbx (closK_nrfss _ _ hclos) (fun x hx => by
    obtain ⟨p, k1, k2⟩ := hi x hx
    rw [k2, hF0.2 _ _ k1]) (fun x h64 _ => hi2 x h64)
  refine ⟨v, cells, hΦ, hclos, boxes_len hbx, F, _, d, hF0.1, hb, clo_OV v hclo hOV, hp.le, hp.djF, fun x => ?_⟩
  by_cases hx : x ∈ names bx
  · simp only [if_pos hx]; exact hdj1 x
  · simp only [if_neg hx]; exact dj_emp_r _

theorem pspecM_of {f : FuncId} {fn : Func} (hf : P.funcs[f]? = some fn) {af : AFun} (hc : compF P fn = some af) {vs : List V} (hn : vs.length ≤ af.n) {bx : List (Nat × TypeId × Nat)} {cells : List (List V)} {Φ : V → List (List V) → Prop}
    (hlen : cells.length = bx.length) (h64 : (names bx).all (fun x => decide (x < 64)) = true)
    (hbody : W P af.code (PRetM cells bx af.res Φ) (fun _ _ _ => False) (PRetM cells bx af.res Φ) (argV vs) (hputb hnil bx cells)) : PSpecM P f vs bx cells Φ := by
  intro ι F D rs g hh hrs
  have hl := RL_len hrs
  have h64' : ∀ x, x ∈ names bx → x < 64 := fun x hx => by
    have := List.all_eq_true.1 h64 x hx
    simpa using this
  have hdom : ∀ x, 64 ≤ x → ι x = none := fun x hx => hh.dom x hx ((hputb_mem hlen).2 fun hm => by have := h64' x hm; omega)
  let F0 : Fr := ⟨F, ι, fun b p hb => by
    by_cases h : b < 64
    · exact h
    · rw [hdom b (by omega)] at hb; cases hb⟩
  have hι : ∀ x, x ∈ names bx → ∃ p, F0.ι x = some p ∧ ι x = some p := fun x hx => by
    obtain ⟨e, sz, cs, hr⟩ := (hputb_mem hlen).1 hx
    obtain ⟨b', rcs, ex, d', q1, _⟩ := hh.live x e sz cs hr
    exact ⟨_, q1, q1⟩
  refine specW_of hf hc (by omega) ?_
  have hsim : Sim F0 (argV vs) (hputb hnil bx cells) (argT rs) g := ⟨ι, F, D, ⟨le_rfl' F, iext_refl ι⟩, hh, fun k => RL_get hrs k⟩
  refine awp_agree.awp_mono (fun u g hx => pretM_sound hι hdom hx) (fun i u g hx => ?_) (fun u g hx => pretM_sound hι hdom hx) (hbody F0 _ _ hsim)
  obtain ⟨_, _, _, hx⟩ := hx
  exact hx.elim

theorem pretMR_sound {k : List (List V)} {F0 : Fr} {ι2 : Iota} {bx : List (Nat × TypeId × Nat)} {res : List ARes} {Φ : Nat → Nat → Nat → List (List V) → Prop} (hi : ∀ x, x ∈ names bx → ∃ p, F0.ι x = some p ∧ ι2 x = some p) (hi2 : ∀ x, 64 ≤ x → ι2 x = none)
    {u : T} {g : H} (hs : SN F0 (PRetMR k bx res Φ) u g) : Ret res (fun r g' => ∃ j o n cs, Φ j o n cs ∧ closK k cs ∧ cs.length = bx.length ∧
      ∃ F' D', Le F0.F F' ∧ Hold ι2 F' (hputb hnil bx cs) D' g' ∧ R ι2 F' (.rf j o n) r) u g := by
  obtain ⟨t, h, ⟨ι, F, D, hF0, hh, ht⟩, l, hl, j, o, n, hj, h2, hcl, cells, hbx, ⟨hclos, hmem⟩, hΦ⟩ := hs
  obtain ⟨xs, g1, g2⟩ := presAll_R hh ht hl
  refine ⟨xs, g1, ?_⟩
  obtain ⟨D2, hcd, hsrc⟩ := hh.closeAll hcl
  have hb := hcd.boxes (ι2 := ι2) hbx (closK_nrfss _ _ hclos) (fun x hx => by
    obtain ⟨p, k1, k2⟩ := hi x hx
    rw [k2, hF0.2 _ _ k1]) (fun x h64 _ => hi2 x h64)
  have hr := presJoin_R g2
  rw [hj] at hr
  refine ⟨j, o, n, cells, hΦ, hclos, boxes_len hbx, F, _, hF0.1, hb, ?_⟩
  simp only [R] at hr ⊢
  obtain ⟨b', tot, sz, off', c, k1, k2, k3⟩ := hr
  obtain ⟨p, k4, k5⟩ := hi j (by simpa using hmem)
  rw [hF0.2 _ _ k4] at k1
  exact ⟨b', tot, sz, off', c, by rw [k5, k1], k2, k3⟩

theorem pspecMR_of {f : FuncId} {fn : Func} (hf : P.funcs[f]? = some fn) {af : AFun} (hc : compF P fn = some af) {vs : List V} (hn : vs.length ≤ af.n) {bx : List (Nat × TypeId × Nat)} {cells : List (List V)} {Φ : Nat → Nat → Nat → List (List V) → Prop}
    (hlen : cells.length = bx.length) (h64 : (names bx).all (fun x => decide (x < 64)) = true)
    (hbody : W P af.code (PRetMR cells bx af.res Φ) (fun _ _ _ => False) (PRetMR cells bx af.res Φ) (argV vs) (hputb hnil bx cells)) : PSpecMR P f vs bx cells Φ := by
  intro ι F D rs g hh hrs
  have hl := RL_len hrs
  have h64' : ∀ x, x ∈ names bx → x < 64 := fun x hx => by
    have := List.all_eq_true.1 h64 x hx
    simpa using this
  have hdom : ∀ x, 64 ≤ x → ι x = none := fun x hx => hh.dom x hx ((hputb_mem hlen).2 fun hm => by have := h64' x hm; omega)
  let F0 : Fr := ⟨F, ι, fun b p hb => by
    by_cases h : b < 64
    · exact h
    · rw [hdom b (by omega)] at hb; cases hb⟩
  have hι : ∀ x, x ∈ names bx → ∃ p, F0.ι x = some p ∧ ι x = some p := fun x hx => by
    obtain ⟨e, sz, cs, hr⟩ := (hputb_mem hlen).1 hx
    obtain ⟨b', rcs, ex, d', q1, _⟩ := hh.live x e sz cs hr
    exact ⟨_, q1, q1⟩
  refine specW_of hf hc (by omega) ?_
  have hsim : Sim F0 (argV vs) (hputb hnil bx cells) (argT rs) g := ⟨ι, F, D, ⟨le_rfl' F, iext_refl ι⟩, hh, fun k => RL_get hrs k⟩
  refine awp_agree.awp_mono (fun u g hx => pretMR_sound hι hdom hx) (fun i u g hx => ?_) (fun u g hx => pretMR_sound hι hdom hx) (hbody F0 _ _ hsim)
  obtain ⟨_, _, _, hx⟩ := hx
  exact hx.elim

/-- The end of a call that returns the address of a new block. -/
def PRetB (vs : List V) (res : List ARes) (Φ : TypeId → List V → Prop) (t : Tp) (h : Hp) : Prop :=
  OK (presAll t h res) fun l => ∃ b e cs, presJoin l = .ptr b 0 ∧ h b = .row e 1 cs ∧ (∀ v ∈ cs, keepV vs v) ∧ Φ e cs
theorem keep_RL {ι : Iota} {F F0 : H} {vs : List V} {rs : List Value} (hv : RL ι0 F0 vs rs) : ∀ {cs : List V} {r : List Value}, (∀ v ∈ cs, keepV vs v) → RL ι F cs r → RL ι0 F0 cs r
  | [], _, _, h => by simpa [RL] using h
  | a :: l, _, hk, h => by
    simp only [RL] at h ⊢
    obtain ⟨v, r', h1, h2, h3⟩ := h
    refine ⟨v, r', h1, ?_, keep_RL hv (fun v hx => hk v (by simp [hx])) h3⟩
    rcases hk a (by simp) with ⟨h4, h5⟩ | ⟨x, m, rfl, h4⟩
    · have h6 := clo_OV (ι' := ι0) (F' := F0) a h4 (R_OV a h2)
      have h7 : OL ι0 F0 [a] [v] emp := by simp only [OL]; exact ⟨v, [], emp, emp, rfl, by funext y; rfl, dj_emp_l _, h6, rfl, rfl⟩
      have := (OL_plain (by simpa [noOwn] using h5) h7).2
      simp only [RL] at this
      obtain ⟨v2, r2, e1, e2, _⟩ := this
      simp only [List.cons.injEq] at e1
      rw [e1.1]; exact e2
    · obtain ⟨j, hj1, hj2⟩ := List.mem_iff_getElem.1 h4
      have h6 := RL_get hv j
      rw [List.getD, List.getElem?_eq_getElem hj1, hj2] at h6
      simp only [Option.getD_some, R] at h2 h6 ⊢
      exact ⟨h2.1, by rw [h2.1, ← h6.1]; exact h6.2⟩
theorem pretB_sound {F0 : Fr} {vs : List V} {rs : List Value} {F1 : H} (hv : RL ι0 F1 vs rs) {res : List ARes} {Φ : TypeId → List V → Prop} {u : T} {g : H} (hs : SN F0 (PRetB vs res Φ) u g) :
    Ret res (fun r h' => ∃ d, (∃ e cells b rcs ex, Φ e cells ∧ r = .pointer (some ⟨b, 0, none⟩) ∧ d = single b (.row true e rcs ex) ∧ cells.length ≤ rcs.length ∧ RL ι0 F1 cells (rcs.take cells.length)) ∧ Grew F0.F d h') u g := by
  obtain ⟨t, h, ⟨ι, F, D, hF0, hh, ht⟩, l, hl, b, e, cs, hj, hb, hk, hΦ⟩ := hs
  obtain ⟨xs, h1, h2⟩ := presAll_R hh ht hl
  refine ⟨xs, h1, ?_⟩
  have h3 := presJoin_R h2
  rw [hj] at h3
  simp only [R] at h3
  obtain ⟨b', tot, sz, h4, h5⟩ := h3
  obtain ⟨b2, rcs, ex, d', q1, q2, q3, q4, q5⟩ := hh.live b _ _ _ hb
  rw [h4] at q1; cases q1
  have hno : noOwn cs = true := by
    simp only [noOwn, List.all_eq_true]
    intro v hv2
    rcases hk v hv2 with h6 | ⟨x, m, rfl, _⟩
    · exact h6.2
    · rfl
  obtain ⟨rfl, q6⟩ := OL_plain hno q5
  rw [join_emp_r] at q2
  refine ⟨_, ⟨e, cs, b', rcs, ex, hΦ, h5, rfl, q4, keep_RL hv hk q6⟩, ?_, ?_⟩
  · intro x hx
    rcases hh.djF b x with h | h
    · rw [q2] at h; rw [h] at hx; cases hx
    · cases h0 : F0.F x with
      | none => rfl
      | some k => rw [hF0.1 _ _ h0] at h; cases h
  · refine le_join_of (le_trans' hF0.1 hh.leF) ?_
    rw [← q2]; exact hh.sub b
theorem pspecB_of {f : FuncId} {fn : Func} (hf : P.funcs[f]? = some fn) {af : AFun} (hc : compF P fn = some af) {vs : List V} (hn : vs.length ≤ af.n) {Φ : TypeId → List V → Prop}
    (hbody : W P af.code (PRetB vs af.res Φ) (fun _ _ _ => False) (PRetB vs af.res Φ) (argV vs) hnil) : PSpecB P f vs Φ := by
  intro F rs hrs
  have hlen := RL_len hrs
  refine spec_of hf hc (by omega) fun hr hle => ?_
  have hsim : Sim ⟨hr, ι0, fun b p h => by simp [ι0] at h⟩ (argV vs) hnil (argT rs) hr := by
    refine ⟨ι0, hr, fun _ => emp, ⟨le_rfl' hr, iext_refl ι0⟩, ⟨?_, ?_, ?_, ?_, ?_, ?_, le_rfl' hr⟩, ?_⟩
    · intro b e sz cs h; simp [hnil] at h
    · intro b _; rfl
    · intro b; exact emp_le hr
    · intro b b2 _; exact dj_emp_l _
    · intro b; exact dj_emp_l _
    · intro b _ _; rfl
    · intro k; exact R_mono (iext_refl ι0) hle _ (RL_get hrs k)
  refine awp_agree.awp_mono (fun u g hx => pretB_sound hrs hx) (fun i u g hx => ?_) (fun u g hx => pretB_sound hrs hx) (hbody _ _ _ hsim)
  obtain ⟨_, _, _, hx⟩ := hx
  exact hx.elim
/-- A slice of bytes that comes in: the very slice. -/
theorem pspec_fz {f : FuncId} {l : List Int} {Φ : V → Prop} (h : ∀ x, PSpec P f [.fz x l] Φ) : PSpec P f [.sl l.length (l.map (V.int .u8))] Φ := by
  intro F rs hR
  simp only [RL] at hR
  obtain ⟨v, r, rfl, h1, rfl⟩ := hR
  refine h v F [v] ?_
  simp only [RL]
  refine ⟨v, [], rfl, ?_, rfl⟩
  simp only [R] at h1 ⊢
  refine ⟨trivial, ?_⟩
  rcases h1 with ⟨h1, h2, h3⟩ | ⟨b, o, c, h1, h2, h3⟩
  · exact .inl ⟨by simpa using h2, h3⟩
  · refine .inr ⟨b, o, c, h1, h2, ?_⟩
    rcases h3 with h3 | ⟨own, e, cs, ex, h3, h4, h5⟩
    · exact .inl (by simpa using h3)
    · refine .inr ⟨own, e, cs, ex, h3, by simpa using h4, ?_⟩
      rw [List.length_map] at h5
      exact RL_bytes_eq h5

/-- A contract serves where its result does. -/
theorem PSpec.mono {f : FuncId} {vs : List V} {Φ Ψ : V → Prop} (hs : PSpec P f vs Φ) (h : ∀ v, Φ v → Ψ v) : PSpec P f vs Ψ := fun F rs hrs hr hle B w0 w hw =>
  (hs F rs hrs hr hle B w0 w hw).mono fun e w' ⟨r, d, h1, ⟨v, hv, ho⟩, h3⟩ => ⟨r, d, h1, ⟨v, h v hv, ho⟩, h3⟩
end
end Go.Proofs.YtjklebickfcddaaDoor.Sep

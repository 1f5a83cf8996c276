/- Loops and contracts over trees. -/
import Derived.Test.YtbjmdjnopgojdaaSepV
namespace Go.Proofs.Ytbjmdjnopgojdaa.Sep
open Go.RowKit
set_option linter.unusedVariables false
set_option linter.unusedSimpArgs false
set_option linter.constructorNameAsVariable false

/-- The cells of named blocks. -/
def boxesOf (h : Hp) : List (Nat × TypeId × Nat) → Option (List (List V))
  | [] => some []
  | p :: l => match h p.1 with
    | .row e sz cs => grd (e = p.2.1 ∧ sz = p.2.2) ((boxesOf h l).map (cs :: ·))
    | _ => none
def hputb (h : Hp) : List (Nat × TypeId × Nat) → List (List V) → Hp
  | p :: l, cs :: r => hput (hputb h l r) p.1 (.row p.2.1 p.2.2 cs)
  | _, _ => h
def nrfss : List (List V) → Bool
  | [] => true
  | l :: r => nrfs l && nrfss r
def lpOk (t : Tp) : List (Nat × V) → Prop
  | [] => True
  | p :: l => t p.1 = p.2 ∧ lpOk t l
def tputl (t : Tp) : List (Nat × V) → Tp
  | [] => t
  | p :: l => tput (tputl t l) p.1 p.2
def tputz (t : Tp) : List Nat → List V → Tp
  | k :: l, v :: r => tput (tputz t l r) k v
  | _, _ => t

mutual
/-- Its named blocks are among these. -/
def scv (ns : List Nat) : V → Bool
  | .own _ _ _ l => scvs ns l
  | .agg l => scvs ns l
  | .tup l => scvs ns l
  | .fn _ l => scvs ns l
  | .sl _ l => nrfs l
  | .pf l _ => nrfs l
  | .ptr b _ => ns.contains b
  | .rf b _ _ => ns.contains b
  | .int .. | .bool _ | .str _ | .nilp | .nils | .und => true
def scvs (ns : List Nat) : List V → Bool
  | [] => true
  | v :: l => scv ns v && scvs ns l
end
def sclp (ns : List Nat) : List (Nat × V) → Bool
  | [] => true
  | p :: l => scv ns p.2 && sclp ns l

def names (bx : List (Nat × TypeId × Nat)) : List Nat := bx.map (·.1)
/-- What is fixed of a loop's frame: the named blocks are different ones, the values refer to them alone. -/
def frameOk (c0 : Nat) (lp : List (Nat × V)) (bx : List (Nat × TypeId × Nat)) : Bool :=
  decide (names bx).Nodup && (names bx).all (fun b => decide (b < c0)) && sclp (names bx) lp

/-- The state, cut down to what a frame tells: the trees of some temporaries, the cells of some blocks. -/
def Col (vs : List Nat) (lp : List (Nat × V)) (bx : List (Nat × TypeId × Nat)) (t : Tp) (h : Hp) (K : List V → List (List V) → Prop) : Prop :=
  OK (folds (fin 4) h (vs.map t)) fun p => OK (boxesOf p.2 bx) fun cells => Rq (nrfs p.1 = true ∧ nrfss cells = true ∧ lpOk t lp) (K p.1 cells)

def ltmp (c0 : Nat) (vs : List Nat) (lp : List (Nat × V)) (vals : List V) : Tp := tputz (tputl tund lp) vs (mats vals c0).1
def lheap (c0 : Nat) (bx : List (Nat × TypeId × Nat)) (vals : List V) (cells : List (List V)) : Hp := hputs (hputb hnil bx cells) (mats vals c0).2.1

section
variable {ι : Iota} {F g : H}

mutual
theorem scv_R {ns : List Nat} {ι' : Iota} (hi : ∀ b ∈ ns, ι' b = ι b) : ∀ (v : V) {r : Value}, scv ns v = true → R ι F v r → R ι' F v r
  | .und, _, hn, h => by simp [R]
  | .int _ _, _, hn, h => by simpa [R] using h
  | .bool _, _, hn, h => by simpa [R] using h
  | .str _, _, hn, h => by simpa [R] using h
  | .agg l, _, hn, h => by
    simp only [scv] at hn; simp only [R] at h ⊢; obtain ⟨cs, h1, h2⟩ := h; exact ⟨cs, h1, scvs_R hi l hn h2⟩
  | .tup l, _, hn, h => by
    simp only [scv] at hn; simp only [R] at h ⊢; obtain ⟨cs, h1, h2⟩ := h; exact ⟨cs, h1, scvs_R hi l hn h2⟩
  | .ptr b off, _, hn, h => by
    simp only [scv, List.contains_iff_mem] at hn; simp only [R] at h ⊢; rw [hi b hn]; exact h
  | .nilp, _, hn, h => by simpa [R] using h
  | .pf l off, _, hn, h => nrf_R _ (by simpa only [scv, nrf] using hn) h
  | .sl n l, _, hn, h => nrf_R _ (by simpa only [scv, nrf] using hn) h
  | .rf b off n, _, hn, h => by
    simp only [scv, List.contains_iff_mem] at hn; simp only [R] at h ⊢; rw [hi b hn]; exact h
  | .nils, _, hn, h => by simpa [R] using h
  | .own .., _, hn, h => by simp [R] at h
  | .fn f l, _, hn, h => by
    simp only [scv] at hn; simp only [R] at h ⊢; obtain ⟨cs, h1, h2⟩ := h; exact ⟨cs, h1, scvs_R hi l hn h2⟩
theorem scvs_R {ns : List Nat} {ι' : Iota} (hi : ∀ b ∈ ns, ι' b = ι b) : ∀ (l : List V) {r : List Value}, scvs ns l = true → RL ι F l r → RL ι' F l r
  | [], _, hn, h => by simpa [RL] using h
  | a :: l, _, hn, h => by
    simp only [scvs, Bool.and_eq_true] at hn
    simp only [RL] at h ⊢; obtain ⟨v, r', h1, h2, h3⟩ := h; exact ⟨v, r', h1, scv_R hi a hn.1 h2, scvs_R hi l hn.2 h3⟩
end

theorem boxes_len {h : Hp} : ∀ {bx : List (Nat × TypeId × Nat)} {cells : List (List V)}, boxesOf h bx = some cells → cells.length = bx.length
  | [], cells, hb => by simp [boxesOf] at hb; subst hb; rfl
  | p :: l, cells, hb => by
    simp only [boxesOf] at hb
    split at hb
    · obtain ⟨_, hb⟩ := grd_some hb
      simp only [Option.map_eq_some_iff] at hb
      obtain ⟨r, hr, rfl⟩ := hb
      simp [boxes_len hr]
    · cases hb

/-- A block of the frame. -/
theorem hputb_at {h : Hp} : ∀ {bx : List (Nat × TypeId × Nat)} {cells : List (List V)}, boxesOf h bx = some cells → nrfss cells = true → ∀ (b : Nat),
    (b ∉ names bx → hputb hnil bx cells b = .free) ∧ (b ∈ names bx → ∃ e sz cs, hputb hnil bx cells b = .row e sz cs) ∧
    ∀ e sz cs, hputb hnil bx cells b = .row e sz cs → b ∈ names bx ∧ h b = .row e sz cs ∧ nrfs cs = true
  | [], cells, hb, hn, b => by
    simp only [boxesOf, Option.some.injEq] at hb
    subst hb
    simp [hputb, hnil, names]
  | p :: l, cells, hb, hn, b => by
    simp only [boxesOf] at hb
    split at hb
    · rename_i e sz cs hp
      have hg := grd_some hb
      clear hb
      obtain ⟨⟨he, hz⟩, hb⟩ := hg
      subst he; subst hz
      simp only [Option.map_eq_some_iff] at hb
      obtain ⟨r, hr, rfl⟩ := hb
      simp only [nrfss, Bool.and_eq_true] at hn
      obtain ⟨h1, h2, h3⟩ := hputb_at hr hn.2 b
      simp only [hputb, hput, names, List.map_cons, List.mem_cons]
      by_cases hbp : b = p.1
      · subst hbp
        simp only [if_true, true_or, not_true, false_implies, true_implies, true_and, Slot.row.injEq]
        exact ⟨⟨_, _, _, rfl, rfl, rfl⟩, fun e sz cs ⟨h1, h2, h3⟩ => ⟨by rw [← h1, ← h2, ← h3]; exact hp, h3 ▸ hn.1⟩⟩
      · simp only [if_neg hbp, hbp, false_or]
        exact ⟨h1, h2, h3⟩
    · cases hb

theorem Hold.boxes {h : Hp} {D : Nat → H} (hh : Hold ι F h D g) {bx : List (Nat × TypeId × Nat)} {cells : List (List V)} (hb : boxesOf h bx = some cells) (hn : nrfss cells = true) :
    Hold (fun x => if x ∈ names bx then ι x else none) F (hputb hnil bx cells) (fun x => if x ∈ names bx then D x else emp) g := by
  have hat := hputb_at hb hn
  constructor
  · intro b e sz cs hx
    obtain ⟨h1, h2, h3⟩ := (hat b).2.2 e sz cs hx
    obtain ⟨b', rcs, ex, d', q1, q2, q3, q4, q5⟩ := hh.live b e sz cs h2
    simp only [if_pos h1]
    exact ⟨b', rcs, ex, d', by simp only [if_pos h1]; exact q1, q2, q3, q4, nrfs_OL _ h3 q5⟩
  · intro b hx
    by_cases hbn : b ∈ names bx
    · obtain ⟨e, sz, cs, h1⟩ := (hat b).2.1 hbn
      exact absurd h1 (hx e sz cs)
    · simp [hbn]
  · intro b
    by_cases hbn : b ∈ names bx
    · simp only [if_pos hbn]; exact hh.sub b
    · simp only [if_neg hbn]; exact emp_le g
  · intro b b2 hne
    by_cases hbn : b ∈ names bx
    · by_cases hbn2 : b2 ∈ names bx
      · simp only [if_pos hbn, if_pos hbn2]; exact hh.dj b b2 hne
      · simp only [if_neg hbn2]; exact dj_emp_r _
    · simp only [if_neg hbn]; exact dj_emp_l _
  · intro b
    by_cases hbn : b ∈ names bx
    · simp only [if_pos hbn]; exact hh.djF b
    · simp only [if_neg hbn]; exact dj_emp_l _
  · intro b hx
    by_cases hbn : b ∈ names bx
    · obtain ⟨e, sz, cs, h1⟩ := (hat b).2.1 hbn
      rw [h1] at hx; cases hx
    · simp [hbn]
  · exact hh.leF

mutual
theorem mat_free : ∀ (v : V) (c : Nat) {h : Hp}, (∀ x, c ≤ x → h x = .free) → allFree h (mat v c).2.1 ∧ c ≤ (mat v c).2.2 ∧ ∀ x, (mat v c).2.2 ≤ x → hputs h (mat v c).2.1 x = .free
  | .own e sz n l, c, h, hx => by
    simp only [mat, allFree, hputs, and_true]
    refine ⟨hx c (Nat.le_refl _), by omega, fun x hxc => ?_⟩
    simp only [hput]
    rw [if_neg (by omega)]
    exact hx x (by omega)
  | .agg l, c, h, hx => by simpa only [mat] using mats_free l c hx
  | .tup l, c, h, hx => by simpa only [mat] using mats_free l c hx
  | .und, c, h, hx => by simpa [mat, allFree, hputs] using hx
  | .int _ _, c, h, hx => by simpa [mat, allFree, hputs] using hx
  | .bool _, c, h, hx => by simpa [mat, allFree, hputs] using hx
  | .str _, c, h, hx => by simpa [mat, allFree, hputs] using hx
  | .ptr _ _, c, h, hx => by simpa [mat, allFree, hputs] using hx
  | .nilp, c, h, hx => by simpa [mat, allFree, hputs] using hx
  | .pf _ _, c, h, hx => by simpa [mat, allFree, hputs] using hx
  | .sl _ _, c, h, hx => by simpa [mat, allFree, hputs] using hx
  | .rf _ _ _, c, h, hx => by simpa [mat, allFree, hputs] using hx
  | .nils, c, h, hx => by simpa [mat, allFree, hputs] using hx
  | .fn _ _, c, h, hx => by simpa [mat, allFree, hputs] using hx
theorem mats_free : ∀ (l : List V) (c : Nat) {h : Hp}, (∀ x, c ≤ x → h x = .free) → allFree h (mats l c).2.1 ∧ c ≤ (mats l c).2.2 ∧ ∀ x, (mats l c).2.2 ≤ x → hputs h (mats l c).2.1 x = .free
  | [], c, h, hx => by simpa [mats, allFree, hputs] using hx
  | v :: l, c, h, hx => by
    obtain ⟨h1, h2, h3⟩ := mat_free v c hx
    obtain ⟨h4, h5, h6⟩ := mats_free l (mat v c).2.2 h3
    simp only [mats]
    exact ⟨(allFree_append _ _ _).2 ⟨h1, h4⟩, by omega, fun x hx => by rw [hputs_append]; exact h6 x hx⟩
end

theorem tputl_R {ι' : Iota} {t : Tp} {u : T} (hR : ∀ (v : V) (r : Value) , R ι F v r → R ι' F v r) : True := trivial

theorem frame_ent {c0 : Nat} {vs : List Nat} {lp : List (Nat × V)} {bx : List (Nat × TypeId × Nat)} (hf : frameOk c0 lp bx = true) {t : Tp} {h : Hp} {J : List V → List (List V) → Prop}
    (hc : Col vs lp bx t h J) : ∃ vals cells, J vals cells ∧ Ent t h (ltmp c0 vs lp vals) (lheap c0 bx vals cells) := by
  obtain ⟨⟨vals, h1⟩, hfin, cells, hbx, ⟨hn1, hn2, hlp⟩, hJ⟩ := hc
  simp only at hbx hn1 hJ
  refine ⟨vals, cells, hJ, ?_⟩
  simp only [frameOk, Bool.and_eq_true, decide_eq_true_eq, List.all_eq_true] at hf
  obtain ⟨⟨hnd, hlt⟩, hsc⟩ := hf
  rintro F0 u g ⟨ι, F, D, hF0, hh, ht⟩
  have hvs : RL ι F (vs.map t) (vs.map u) := by
    have : ∀ l : List Nat, RL ι F (l.map t) (l.map u) := by
      intro l
      induction l with
      | nil => simp [RL]
      | cons k l ih => simp only [List.map_cons, RL]; exact ⟨_, _, rfl, ht k, ih⟩
    exact this vs
  obtain ⟨hlen, d, D', hOL, hp⟩ := folds_ok (fin_ok 4) hfin hh (RL_OL _ hvs) (fun b => dj_emp_l _) (dj_emp_l _) (emp_le g)
  have hb := hp.hold.boxes hbx hn2
  have hfree : ∀ x, c0 ≤ x → hputb hnil bx cells x = .free := fun x hx => (hputb_at hbx hn2 x).1 fun hm => by
    have := hlt x hm; omega
  obtain ⟨ι2, D2, i2, hh2, hRL, _⟩ := mats_ok (F := F) vals c0 (nrfs_OL (ι' := ι0) _ hn1 hOL) hb (fun x => by
    by_cases hx : x ∈ names bx
    · simp only [if_pos hx]; exact (hp.dj x).symm
    · simp only [if_neg hx]; exact dj_emp_l _) hp.djF.symm (le_rfl' g) hp.le (mats_free vals c0 hfree).1
  refine ⟨ι2, F, D2, hF0, hh2, ?_⟩
  -- the temporaries
  have h2 : ∀ (l : List (Nat × V)), lpOk t l → sclp (names bx) l = true → ∀ k, R ι2 F (tputl tund l k) (u k) := by
    intro l
    induction l with
    | nil => intro _ _ k; exact R_und
    | cons p l ih =>
      intro h1 h2 k
      simp only [lpOk] at h1
      simp only [sclp, Bool.and_eq_true] at h2
      simp only [tputl, tput]
      split
      · rename_i hk; subst hk
        rw [← h1.1] at h2 ⊢
        exact R_mono i2 (le_rfl' F) _ (scv_R (fun b hb => by simp [hb]) _ h2.1 (ht p.1))
      · exact ih h1.2 h2.2 k
  have h3 : ∀ (l : List Nat) (m : List V), RL ι2 F m (l.map u) → ∀ k, R ι2 F (tputz (tputl tund lp) l m k) (u k) := by
    intro l
    induction l with
    | nil => intro m _ k; cases m <;> exact h2 lp hlp hsc k
    | cons a l ih =>
      intro m hm k
      cases m with
      | nil => exact h2 lp hlp hsc k
      | cons v m =>
        simp only [List.map_cons, RL, List.cons.injEq] at hm
        obtain ⟨_, _, ⟨rfl, rfl⟩, h4, h5⟩ := hm
        simp only [tputz, tput]
        split
        · rename_i hk; subst hk; exact h4
        · exact ih m h5 k
  exact h3 vs _ hRL
end

section
variable {P : Program} {n : Tp → Hp → Prop} {e : Nat → Tp → Hp → Prop} {r : Tp → Hp → Prop} {t : Tp} {h : Hp}

theorem W_of {c : ACode} (hp : pwp P c n e r t h) : W P c n e r t h := fun F0 u g hs => pwp_sound c hs hp

/-- A loop: 'I' holds of the trees of the temporaries 'vs' and of the cells of the blocks 'bx' at each round's head, with a number that falls. -/
theorem ploop (c0 : Nat) (vs : List Nat) (lp : List (Nat × V)) (bx : List (Nat × TypeId × Nat)) (I : Nat → List V → List (List V) → Prop) {b : ACode} (hf : frameOk c0 lp bx = true)
    (h0 : Col vs lp bx t h fun vals cells => ∃ k, I k vals cells)
    (hround : ∀ k vals cells, I k vals cells → W P b (fun t h => Col vs lp bx t h fun vals cells => ∃ k', k' < k ∧ I k' vals cells) e r (ltmp c0 vs lp vals) (lheap c0 bx vals cells)) :
    pwp P (.loop b) n e r t h := by
  obtain ⟨vals, cells, ⟨k, hI⟩, hent⟩ := frame_ent hf h0
  refine ⟨fun k t h => ∃ vals cells, t = ltmp c0 vs lp vals ∧ h = lheap c0 bx vals cells ∧ I k vals cells, k, _, _, hent, ⟨vals, cells, rfl, rfl, hI⟩, ?_⟩
  rintro k _ _ ⟨vals, cells, rfl, rfl, hI⟩ F0 u g hs
  refine awp_agree.awp_mono (fun u g hx => ?_) (fun _ _ _ h => h) (fun _ _ h => h) (hround k vals cells hI F0 u g hs)
  obtain ⟨t', h', hs', hcol⟩ := hx
  obtain ⟨vals', cells', ⟨k', hk, hI'⟩, hent'⟩ := frame_ent hf hcol
  exact ⟨t', h', hs', k', _, _, hk, hent', vals', cells', rfl, rfl, hI'⟩

/-- Where ways meet. -/
theorem Wcut (c0 : Nat) (vs : List Nat) (lp : List (Nat × V)) (bx : List (Nat × TypeId × Nat)) (J : List V → List (List V) → Prop) {a b : ACode} (hf : frameOk c0 lp bx = true)
    (h1 : W P a (fun t h => Col vs lp bx t h J) e r t h) (h2 : ∀ vals cells, J vals cells → W P b n e r (ltmp c0 vs lp vals) (lheap c0 bx vals cells)) : W P (.seq a b) n e r t h := by
  intro F0 u g hs
  simp only [awp]
  refine awp_agree.awp_mono (fun u g hx => ?_) (fun _ _ _ h => h) (fun _ _ h => h) (h1 F0 u g hs)
  obtain ⟨t', h', hs', hcol⟩ := hx
  obtain ⟨vals, cells, hJ, hent⟩ := frame_ent hf hcol
  exact h2 vals cells hJ F0 u g (hent _ _ _ hs')
theorem Wseq {a b : ACode} (h1 : W P a (fun t h => W P b n e r t h) e r t h) : W P (.seq a b) n e r t h := by
  intro F0 u g hs
  simp only [awp]
  refine awp_agree.awp_mono (fun u g hx => ?_) (fun _ _ _ h => h) (fun _ _ h => h) (h1 F0 u g hs)
  obtain ⟨t', h', hs', hw⟩ := hx
  exact hw F0 u g hs'

/-! ### Contracts -/
def presV (t : Tp) (h : Hp) : ARes → Option V
  | .tmp k => some (t k)
  | .cell n k => match t k with
    | .ptr b off => match h b with
      | .row _ _ cs => grd (noOwn cs = true) (vcellsAt cs off n)
      | _ => none
    | _ => none
def presAll (t : Tp) (h : Hp) : List ARes → Option (List V)
  | [] => some []
  | r :: rs => (presV t h r).bind fun v => (presAll t h rs).bind fun vs => some (v :: vs)
def presJoin : List V → V
  | [v] => v
  | vs => .tup vs
def PRet (res : List ARes) (Φ : V → Prop) (t : Tp) (h : Hp) : Prop :=
  OK (presAll t h res) fun l => OK (fin 5 h (presJoin l)) fun p => Rq (clo p.1 = true) (Φ p.1)

def argV : List V → Tp := fun vs k => vs.getD k .und

theorem presV_R {ι : Iota} {F g : H} {D : Nat → H} {u : T} (hh : Hold ι F h D g) (ht : ∀ k, R ι F (t k) (u k)) {a : ARes} {v : V} (hv : presV t h a = some v) : ∃ x, resV u g a = some x ∧ R ι F v x := by
  cases a with
  | tmp k => simp only [presV, Option.some.injEq] at hv; subst hv; exact ⟨_, rfl, ht k⟩
  | cell n k =>
    simp only [presV] at hv
    have hk := ht k
    cases htk : t k <;> simp only [htk, reduceCtorEq] at hv
    rename_i b off
    rw [htk] at hk
    simp only [R] at hk
    obtain ⟨b', tot, sz0, h1, hk⟩ := hk
    cases hb : h b with
    | free => simp [hb] at hv
    | dead => simp [hb] at hv
    | row e sz cs =>
      simp only [hb] at hv
      obtain ⟨hn, hv⟩ := grd_some hv
      obtain ⟨b2, rcs, ex, d', q1, q2, q3, q4, q5, q6, q7⟩ := hh.blk hb
      rw [h1] at q1; cases q1
      have h5 := (OL_plain hn q5).2
      obtain ⟨rv, h6, h7⟩ := vcellsAt_R (o := 0) (cs := rcs) (by simpa using h5) (by omega) hv
      exact ⟨rv, by simp only [resV, hk, ald, q6, ldB]; simpa using h6, h7⟩
theorem presAll_R {ι : Iota} {F g : H} {D : Nat → H} {u : T} (hh : Hold ι F h D g) (ht : ∀ k, R ι F (t k) (u k)) : ∀ {as : List ARes} {l : List V}, presAll t h as = some l → ∃ xs, resAll u g as = some xs ∧ RL ι F l xs
  | [], l, hv => by simp only [presAll, Option.some.injEq] at hv; subst hv; exact ⟨[], rfl, by simp [RL]⟩
  | a :: as, l, hv => by
    simp only [presAll, Option.bind_eq_some_iff, Option.some.injEq] at hv
    obtain ⟨v, h1, vs, h2, rfl⟩ := hv
    obtain ⟨x, h3, h4⟩ := presV_R hh ht h1
    obtain ⟨xs, h5, h6⟩ := presAll_R hh ht h2
    exact ⟨x :: xs, by simp [resAll, h3, h5], by simp only [RL]; exact ⟨x, xs, rfl, h4, h6⟩⟩
theorem presJoin_R {ι : Iota} {F : H} {l : List V} {xs : List Value} (hl : RL ι F l xs) : R ι F (presJoin l) (resJoin xs) := by
  match l, xs, hl with
  | [], xs, hl => simp only [RL] at hl; subst hl; simp only [presJoin, resJoin, R]; exact ⟨[], rfl, by simp [RL]⟩
  | [v], xs, hl =>
    simp only [RL] at hl
    obtain ⟨x, r', rfl, h1, rfl⟩ := hl
    exact h1
  | v :: w :: l, xs, hl =>
    have hl' := hl
    simp only [RL] at hl
    obtain ⟨x, r', rfl, h1, y, r2, rfl, h2, h3⟩ := hl
    simp only [presJoin, resJoin, R]
    exact ⟨_, rfl, hl'⟩

theorem pret_sound {F0 : H} {res : List ARes} {Φ : V → Prop} {u : T} {g : H} (hs : SN F0 (PRet res Φ) u g) : Ret res (fun r h' => ∃ d, (∃ v, Φ v ∧ OV ι0 emp v r d) ∧ Grew F0 d h') u g := by
  obtain ⟨t, h, ⟨ι, F, D, hF0, hh, ht⟩, l, hl, ⟨v, h'⟩, hfin, hclo, hΦ⟩ := hs
  obtain ⟨xs, h1, h2⟩ := presAll_R hh ht hl
  refine ⟨xs, h1, ?_⟩
  obtain ⟨d, D', hOV, hp⟩ := fin_ok 5 hfin hh (R_OV _ (presJoin_R h2)) (fun b => dj_emp_l _) (dj_emp_l _) (emp_le g)
  refine ⟨d, ⟨v, hΦ, clo_OV v hclo hOV⟩, ?_, ?_⟩
  · intro x hx
    rcases hp.djF x with h | h
    · rw [h] at hx; cases hx
    · cases h0 : F0 x with
      | none => rfl
      | some k => rw [hF0 _ _ h0] at h; cases h
  · exact le_join_of (le_trans' hF0 hh.leF) hp.le

theorem pspec_of {f : FuncId} {fn : Func} (hf : P.funcs[f]? = some fn) {af : AFun} (hc : compF P fn = some af) {vs : List V} (hn : vs.length ≤ af.n) {Φ : V → Prop}
    (hbody : W P af.code (PRet af.res Φ) (fun _ _ _ => False) (PRet af.res Φ) (argV vs) hnil) : PSpec P f vs Φ := by
  intro F rs hrs
  have hlen := RL_len hrs
  refine spec_of hf hc (by omega) fun hr hle => ?_
  have hsim : Sim hr (argV vs) hnil (argT rs) hr := by
    refine ⟨ι0, hr, fun _ => emp, le_rfl' hr, ⟨?_, ?_, ?_, ?_, ?_, ?_, le_rfl' hr⟩, ?_⟩
    · intro b e sz cs h; simp [hnil] at h
    · intro b _; rfl
    · intro b; exact emp_le hr
    · intro b b2 _; exact dj_emp_l _
    · intro b; exact dj_emp_l _
    · intro b _; rfl
    · intro k; exact R_mono (iext_refl ι0) hle _ (RL_get hrs k)
  refine awp_agree.awp_mono (fun u g hx => pret_sound hx) (fun i u g hx => ?_) (fun u g hx => pret_sound hx) (hbody hr _ _ hsim)
  obtain ⟨_, _, _, hx⟩ := hx
  exact hx.elim

/-- A contract serves where its result does. -/
theorem PSpec.mono {f : FuncId} {vs : List V} {Φ Ψ : V → Prop} (hs : PSpec P f vs Φ) (h : ∀ v, Φ v → Ψ v) : PSpec P f vs Ψ := fun F rs hrs hr hle B w0 w hw =>
  (hs F rs hrs hr hle B w0 w hw).mono fun e w' ⟨r, d, h1, ⟨v, hv, ho⟩, h3⟩ => ⟨r, d, h1, ⟨v, h v hv, ho⟩, h3⟩
end
end Go.Proofs.Ytbjmdjnopgojdaa.Sep

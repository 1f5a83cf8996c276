/- The code's transformer over trees is sound; loops; contracts. -/
import Derived.Test.YtbjmdjnopgojdaaSepU
namespace Go.Proofs.Ytbjmdjnopgojdaa.Sep
open Go.RowKit
set_option linter.unusedVariables false
set_option linter.unusedSimpArgs false
set_option linter.constructorNameAsVariable false

/-- What tells of memory here tells of it there, too. -/
def Ent (t : Tp) (h : Hp) (t' : Tp) (h' : Hp) : Prop := ∀ F0 u g, Sim F0 t h u g → Sim F0 t' h' u g
theorem Ent.refl (t : Tp) (h : Hp) : Ent t h t h := fun _ _ _ h => h

def SN (F0 : H) (K : Tp → Hp → Prop) (u : T) (g : H) : Prop := ∃ t h, Sim F0 t h u g ∧ K t h

/-- Whatever memory is so told of, the code does as the lean transformer says. -/
def W (P : Program) (c : ACode) (n : Tp → Hp → Prop) (e : Nat → Tp → Hp → Prop) (r : Tp → Hp → Prop) (t : Tp) (h : Hp) : Prop :=
  ∀ F0 u g, Sim F0 t h u g → awp P c (SN F0 n) (fun i => SN F0 (e i)) (SN F0 r) u g

def pwp (P : Program) : ACode → (n : Tp → Hp → Prop) → (e : Nat → Tp → Hp → Prop) → (r : Tp → Hp → Prop) → Tp → Hp → Prop
  | .skip, n, _, _, t, h => n t h
  | .reg ops, n, _, _, t, h => pops P ops n t h
  | .seq a b, n, e, r, t, h => pwp P a (fun t h => pwp P b n e r t h) e r t h
  | .cond c a b, n, e, r, t, h => match pev t c with
    | .bool v => (v = true → pwp P a n e r t h) ∧ (v = false → pwp P b n e r t h)
    | _ => False
  | .block id b, n, e, r, t, h => pwp P b n (fun i t h => if i = id then n t h else e i t h) r t h
  | .loop b, n, e, r, t, h => ∃ (I : Nat → Tp → Hp → Prop) (k : Nat) (t' : Tp) (h' : Hp), Ent t h t' h' ∧ I k t' h' ∧
      ∀ k t h, I k t h → W P b (fun t h => ∃ k' t' h', k' < k ∧ Ent t h t' h' ∧ I k' t' h') e r t h
  | .exit id, _, e, _, t, h => e id t h
  | .ret, _, _, r, t, h => r t h

section
variable {P : Program} {F0 : H}

theorem tputo_R {ι : Iota} {F : H} {t : Tp} {u : T} (h : ∀ k, R ι F (t k) (u k)) {d : Option Nat} {v : V} {r : Value} (hv : R ι F v r) : ∀ k, R ι F (tputo t d v k) (puto u d r k) := fun k => by
  cases d with
  | none => exact h k
  | some d =>
    simp only [tputo, tput, puto, put]
    split
    · exact hv
    · exact h k

theorem pstep_sound {o : AOper} {K : Tp → Hp → Prop} {t : Tp} {h : Hp} {u : T} {g : H} (hs : Sim F0 t h u g) (hp : pstep P o K t h) : step P o (SN F0 K) u g := by
  obtain ⟨ι, F, D, hF, hh, ht⟩ := hs
  rw [step_def]
  have go : pop P (o.dst.getD 0) o.op (pev t) h (fun v h => K (tputo t o.dst v) h) → aop P o.op (ev u) g fun v e => e.ok g → SN F0 K (puto u o.dst v) (e.app g) := fun hp => by
    refine aop_mono (fun r e hx hok => ?_) (pop_sound hh ht hp)
    obtain ⟨v, h', ι', F', D', h1, h2, h3, h4, h5⟩ := hx hok
    exact ⟨_, h', ⟨ι', F', D', le_trans' hF h2, h3, tputo_R (fun k => h1 _ _ (ht k)) h4⟩, h5⟩
  have skip : K (tputo t o.dst (.tup [])) h → SN F0 K (puto u o.dst undef) g := fun hp => ⟨_, h, ⟨ι, F, D, hF, hh, tputo_R ht (by simp [R, RL, undef])⟩, hp⟩
  unfold pstep at hp
  cases hg : o.guard with
  | none =>
    rw [hg] at hp
    simp only [pgoes] at hp
    simp only [goes, if_true]
    exact go hp
  | some q =>
    obtain ⟨d, w⟩ := q
    rw [hg] at hp
    simp only [pgoes] at hp
    have hd := ht d
    cases htd : t d <;> rw [htd] at hp hd <;> try simp only at hp
    · rename_i b
      simp only [R] at hd
      simp only [goes, hd, beq_iff_eq]
      by_cases hb : b = w
      · rw [if_pos hb] at hp ⊢; exact go hp
      · rw [if_neg hb] at hp ⊢; exact skip hp
    · rename_i l
      cases l with
      | cons a l => exact hp.elim
      | nil =>
        simp only [R] at hd
        obtain ⟨r, hr, _⟩ := hd
        simp only [goes, hr, Bool.false_eq_true, if_false]
        exact skip hp

theorem pops_sound : ∀ {ops : List AOper} {K : Tp → Hp → Prop} {t : Tp} {h : Hp} {u : T} {g : H}, Sim F0 t h u g → pops P ops K t h → aops P ops (SN F0 K) u g
  | [], K, t, h, u, g, hs, hp => ⟨t, h, hs, hp⟩
  | o :: r, K, t, h, u, g, hs, hp => by
    have h1 := pstep_sound hs (show pstep P o (pops P r K) t h from hp)
    show step P o (aops P r (SN F0 K)) u g
    refine step_mono (fun u g hx => ?_) h1
    obtain ⟨t', h', hs', hp'⟩ := hx
    exact pops_sound hs' hp'

theorem pwp_sound : ∀ (c : ACode) {n : Tp → Hp → Prop} {e : Nat → Tp → Hp → Prop} {r : Tp → Hp → Prop} {t : Tp} {h : Hp} {u : T} {g : H}, Sim F0 t h u g → pwp P c n e r t h →
    awp P c (SN F0 n) (fun i => SN F0 (e i)) (SN F0 r) u g
  | .skip, n, e, r, t, h, u, g, hs, hp => ⟨t, h, hs, hp⟩
  | .reg ops, n, e, r, t, h, u, g, hs, hp => pops_sound hs hp
  | .seq a b, n, e, r, t, h, u, g, hs, hp => by
    have h1 := pwp_sound a hs hp
    simp only [awp]
    refine awp_agree.awp_mono (fun u g hx => ?_) (fun _ _ _ h => h) (fun _ _ h => h) h1
    obtain ⟨t', h', hs', hp'⟩ := hx
    exact pwp_sound b hs' hp'
  | .cond c a b, n, e, r, t, h, u, g, hs, hp => by
    simp only [pwp] at hp
    obtain ⟨ι, F, D, hF, hh, ht⟩ := hs
    have hc := pev_R ht c
    cases hv : pev t c <;> rw [hv] at hp hc <;> simp only at hp
    rename_i v
    simp only [R] at hc
    simp only [awp, hc]
    exact ⟨fun h1 => pwp_sound a ⟨ι, F, D, hF, hh, ht⟩ (hp.1 h1), fun h1 => pwp_sound b ⟨ι, F, D, hF, hh, ht⟩ (hp.2 h1)⟩
  | .block id b, n, e, r, t, h, u, g, hs, hp => by
    have h1 := pwp_sound b hs hp
    simp only [awp]
    refine awp_agree.awp_mono (fun u g hx => hx) (fun i u g hx => ?_) (fun _ _ h => h) h1
    obtain ⟨t', h', hs', hp'⟩ := hx
    split
    · rename_i hi; rw [if_pos hi] at hp'; exact ⟨t', h', hs', hp'⟩
    · rename_i hi; rw [if_neg hi] at hp'; exact ⟨t', h', hs', hp'⟩
  | .loop b, n, e, r, t, h, u, g, hs, hp => by
    obtain ⟨I, k, t', h', hent, hI, hround⟩ := hp
    refine ⟨fun k u g => ∃ t h, Sim F0 t h u g ∧ I k t h, k, ⟨t', h', hent _ _ _ hs, hI⟩, ?_⟩
    rintro k u g ⟨t, h, hs, hI⟩
    have h1 := hround k t h hI F0 u g hs
    refine awp_agree.awp_mono (fun u g hx => ?_) (fun _ _ _ h => h) (fun _ _ h => h) h1
    obtain ⟨t1, h1, hs1, k', t2, h2, hk, he, hI2⟩ := hx
    exact ⟨k', hk, t2, h2, he _ _ _ hs1, hI2⟩
  | .exit id, n, e, r, t, h, u, g, hs, hp => ⟨t, h, hs, hp⟩
  | .ret, n, e, r, t, h, u, g, hs, hp => ⟨t, h, hs, hp⟩
end

/-! ### Trees taken out of the heap -/
section
variable {ι : Iota} {F g : H}

theorem Hold.kill {h : Hp} {D : Nat → H} (hh : Hold ι F h D g) (b : Nat) : Hold ι F (hput h b .dead) (dset D b emp) g := by
  constructor
  · intro x e sz cs hx
    simp only [hput] at hx
    split at hx
    · cases hx
    · rename_i hxb; simp only [dset, if_neg hxb]; exact hh.live x _ _ _ hx
  · intro x hx
    by_cases hxb : x = b
    · simp [dset, hxb]
    · simp only [dset, if_neg hxb]; exact hh.idle x fun e sz cs h2 => hx e sz cs (by simp [hput, hxb, h2])
  · intro x
    by_cases hxb : x = b
    · simp only [dset, hxb, if_true]; exact emp_le g
    · simp only [dset, if_neg hxb]; exact hh.sub x
  · intro x y hxy
    by_cases hxb : x = b
    · simp only [dset, hxb, if_true]; exact dj_emp_l _
    · by_cases hyb : y = b
      · simp only [dset, hyb, if_true]; exact dj_emp_r _
      · simp only [dset, if_neg hxb, if_neg hyb]; exact hh.dj x y hxy
  · intro x
    by_cases hxb : x = b
    · simp only [dset, hxb, if_true]; exact dj_emp_l _
    · simp only [dset, if_neg hxb]; exact hh.djF x
  · intro x hx
    simp only [hput] at hx
    split at hx
    · cases hx
    · exact hh.dom x hx
  · exact hh.leF

structure FinP (ι : Iota) (F g : H) (h' : Hp) (D : Nat → H) (d0 d : H) (D' : Nat → H) : Prop where
  hold : Hold ι F h' D' g
  part : ∀ b, D' b = D b ∨ D' b = emp
  dj : ∀ b, Dj d (D' b)
  djF : Dj d F
  le : Le d g
  src : ∀ x, (d x).isSome = true → (d0 x).isSome = true ∨ ∃ b, (D b x).isSome = true ∧ D' b = emp

def FinOk (ι : Iota) (F g : H) (f : Hp → V → Option (V × Hp)) : Prop :=
  ∀ {h : Hp} {D : Nat → H} {v v' : V} {h' : Hp} {r : Value} {d0 : H}, f h v = some (v', h') → Hold ι F h D g → OV ι F v r d0 → (∀ b, Dj d0 (D b)) → Dj d0 F → Le d0 g →
    ∃ d D', OV ι F v' r d ∧ FinP ι F g h' D d0 d D'

theorem folds_ok {f : Hp → V → Option (V × Hp)} (hf : FinOk ι F g f) : ∀ {l l' : List V} {h h' : Hp} {D : Nat → H} {r : List Value} {d0 : H}, folds f h l = some (l', h') → Hold ι F h D g → OL ι F l r d0 →
    (∀ b, Dj d0 (D b)) → Dj d0 F → Le d0 g → l'.length = l.length ∧ ∃ d D', OL ι F l' r d ∧ FinP ι F g h' D d0 d D'
  | [], l', h, h', D, r, d0, hp, hh, hv, h1, h2, h3 => by
    simp only [folds, Option.some.injEq, Prod.mk.injEq] at hp
    obtain ⟨rfl, rfl⟩ := hp
    exact ⟨rfl, d0, D, hv, hh, fun b => .inl rfl, h1, h2, h3, fun x hx => .inl hx⟩
  | v :: l, l', h, h', D, r, d0, hp, hh, hv, h1, h2, h3 => by
    simp only [folds, Option.bind_eq_some_iff, Option.map_eq_some_iff] at hp
    obtain ⟨⟨v', hm⟩, hp1, ⟨l2, he⟩, hp2, hq⟩ := hp
    simp only [Prod.mk.injEq] at hq
    obtain ⟨rfl, rfl⟩ := hq
    simp only [OL] at hv
    obtain ⟨x, r', da, dl, rfl, rfl, hdj, hva, hvl⟩ := hv
    have h1a : ∀ b, Dj da (D b) := fun b => (dj_join_l.1 (h1 b)).1
    have h1l : ∀ b, Dj dl (D b) := fun b => (dj_join_l.1 (h1 b)).2
    rw [dj_join_l] at h2
    rw [join_le_iff hdj] at h3
    obtain ⟨d1, D1, hv1, p1⟩ := hf hp1 hh hva h1a h2.1 h3.1
    have h1l' : ∀ b, Dj dl (D1 b) := fun b => by
      rcases p1.part b with h | h
      · rw [h]; exact h1l b
      · rw [h]; exact dj_emp_r _
    obtain ⟨hlen, d2, D2, hv2, p2⟩ := folds_ok hf hp2 p1.hold hvl h1l' h2.2 h3.2
    have hd12 : Dj d1 d2 := fun y => by
      cases hy2 : d2 y with
      | none => exact .inr rfl
      | some k2 =>
        left
        cases hy1 : d1 y with
        | none => rfl
        | some k1 =>
          exfalso
          rcases p2.src y (by simp [hy2]) with hl | ⟨b, hb, hbe⟩
          · rcases p1.src y (by simp [hy1]) with ha | ⟨b, hb, hbe⟩
            · rcases hdj y with h | h
              · rw [h] at ha; cases ha
              · rw [h] at hl; cases hl
            · rcases h1l b y with h | h
              · rw [h] at hl; cases hl
              · rw [h] at hb; cases hb
          · rcases p1.dj b y with h | h
            · rw [h] at hy1; cases hy1
            · rw [h] at hb; cases hb
    refine ⟨by simp [hlen], join d1 d2, D2, ?_, p2.hold, ?_, ?_, dj_join_l.2 ⟨p1.djF, p2.djF⟩, le_join_of p1.le p2.le, ?_⟩
    · simp only [OL]; exact ⟨x, r', d1, d2, rfl, rfl, hd12, hv1, hv2⟩
    · intro b
      rcases p2.part b with h | h
      · rw [h]; exact p1.part b
      · exact .inr h
    · intro b
      refine dj_join_l.2 ⟨?_, p2.dj b⟩
      rcases p2.part b with h | h
      · rw [h]; exact p1.dj b
      · rw [h]; exact dj_emp_r _
    · intro y hy
      have : (d1 y).isSome = true ∨ (d2 y).isSome = true := by
        simp only [join] at hy
        cases h2 : d2 y <;> simp_all
      rcases this with hy | hy
      · rcases p1.src y hy with h | ⟨b, hb, hbe⟩
        · exact .inl (by simp only [join]; cases h2 : dl y <;> simp_all)
        · refine .inr ⟨b, hb, ?_⟩
          rcases p2.part b with h | h
          · rw [h]; exact hbe
          · exact h
      · rcases p2.src y hy with h | ⟨b, hb, hbe⟩
        · exact .inl (by simp only [join]; cases h2 : dl y <;> simp_all)
        · rcases p1.part b with h | h
          · rw [h] at hb; exact .inr ⟨b, hb, hbe⟩
          · rw [h] at hb; simp [emp] at hb

theorem fin_ok : ∀ (n : Nat), FinOk ι F g (fin n)
  | 0, h, D, v, v', h', r, d0, hp, _, _, _, _, _ => by simp [fin] at hp
  | n + 1, h, D, v, v', h', r, d0, hp, hh, hv, h1, h2, h3 => by
    have plain : ∀ w, fin (n + 1) h w = some (w, h) → v = w → ∃ d D', OV ι F v' r d ∧ FinP ι F g h' D d0 d D' := by
      rintro w hw rfl
      rw [hw] at hp
      simp only [Option.some.injEq, Prod.mk.injEq] at hp
      obtain ⟨rfl, rfl⟩ := hp
      exact ⟨d0, D, hv, hh, fun b => .inl rfl, h1, h2, h3, fun x hx => .inl hx⟩
    cases v with
    | rf b o k =>
      simp only [fin] at hp
      cases hb : h b with
      | free => simp [hb] at hp
      | dead => simp [hb] at hp
      | row e sz cs =>
        simp only [hb] at hp
        have hg := grd_some hp
        clear hp
        obtain ⟨⟨ho, hk, hs⟩, hp⟩ := hg
        subst ho
        simp only [Option.map_eq_some_iff] at hp
        obtain ⟨⟨l', hm⟩, hp, hq⟩ := hp
        simp only [Prod.mk.injEq] at hq
        obtain ⟨rfl, rfl⟩ := hq
        obtain ⟨b2, rcs, ex, d', q1, q2, q3, q4, q5, q6, q7⟩ := hh.blk hb
        simp only [OV, R] at hv
        obtain ⟨rfl, b0, tot, sz2, off', c, r1, rfl, r2, r3, r4, r5⟩ := hv
        have : off' = 0 := r2 (.inr trivial)
        subst this
        rw [r1] at q1; cases q1
        obtain ⟨r5, r6⟩ := r5 trivial
        obtain ⟨d1, s1, s2⟩ := OL_take (k * sz) q5
        rw [List.take_take, Nat.min_eq_left hk] at s1
        have hd1D : Le d1 (D b) := by rw [q2]; exact le_trans' s2 (le_join_r _ _)
        have hk1 := hh.kill b
        have hbr : (D b b2).isSome = true := by rw [q2]; simp [join, single, q3]
        have hDb2 : ∀ x, x ≠ b → D x b2 = none := fun x hx => by
          rcases hh.dj x b hx b2 with h | h
          · exact h
          · rw [h] at hbr; cases hbr
        obtain ⟨hlen, d2, D2, hv2, p2⟩ := folds_ok (fin_ok n) hp hk1 s1 (fun x => by
          by_cases hxb : x = b
          · simp only [dset, hxb, if_true]; exact dj_emp_r _
          · simp only [dset, if_neg hxb]; exact dj_of_le (hh.dj b x (Ne.symm hxb)) hd1D) (dj_of_le (hh.djF b) hd1D) (le_trans' s2 q7)
        have hd2b : d2 b2 = none := by
          cases hy : d2 b2 with
          | none => rfl
          | some k2 =>
            exfalso
            rcases p2.src b2 (by simp [hy]) with h | ⟨x, hx, _⟩
            · cases h1 : d1 b2 with
              | none => rw [h1] at h; cases h
              | some k => have := s2 _ _ h1; rw [q3] at this; cases this
            · by_cases hxb : x = b
              · simp [dset, hxb, emp] at hx
              · simp only [dset, if_neg hxb] at hx; rw [hDb2 x hxb] at hx; cases hx
        have hDb' : D2 b = emp := by
          rcases p2.part b with h | h
          · rw [h]; simp [dset]
          · exact h
        have hpart : ∀ x, D2 x = D x ∨ D2 x = emp := fun x => by
          rcases p2.part x with h | h
          · by_cases hxb : x = b
            · right; rw [h]; simp [dset, hxb]
            · left; rw [h]; simp [dset, hxb]
          · exact .inr h
        have hsg : Le (single b2 (.row true e rcs ex)) g := fun y k hy => by
          simp only [single] at hy
          split at hy
          · rename_i hyb; subst hyb; cases hy; exact q6
          · cases hy
        have hFb : F b2 = none := by
          rcases hh.djF b b2 with h | h
          · rw [h] at hbr; cases hbr
          · exact h
        refine ⟨join (single b2 (.row true e rcs ex)) d2, D2, ?_, p2.hold, hpart, ?_, dj_join_l.2 ⟨single_dj hFb, p2.djF⟩, le_join_of hsg p2.le, ?_⟩
        · have hl' : l'.length = k * sz := by rw [hlen]; simp; omega
          simp only [OV]
          refine ⟨b2, c, rcs, ex, d2, rfl, r3, r4, r5, r6, by omega, rfl, hd2b, ?_⟩
          rw [hl']; exact hv2
        · intro x
          refine dj_join_l.2 ⟨single_dj ?_, p2.dj x⟩
          rcases hpart x with h | h
          · rw [h]
            by_cases hxb : x = b
            · rw [← h, hxb, hDb']; rfl
            · exact hDb2 x hxb
          · rw [h]; rfl
        · intro y hy
          have : y = b2 ∨ (d2 y).isSome = true := by
            simp only [join, single] at hy
            cases h2 : d2 y with
            | none => rw [h2] at hy; left; by_cases hyb : y = b2; exact hyb; simp [hyb] at hy
            | some k => right; rfl
          rcases this with rfl | hy
          · exact .inr ⟨b, hbr, hDb'⟩
          · rcases p2.src y hy with h | ⟨x, hx, hxe⟩
            · refine .inr ⟨b, ?_, hDb'⟩
              cases h1 : d1 y with
              | none => rw [h1] at h; cases h
              | some k => simp [hd1D _ _ h1]
            · by_cases hxb : x = b
              · simp [dset, hxb, emp] at hx
              · simp only [dset, if_neg hxb] at hx; exact .inr ⟨x, hx, hxe⟩
    | agg l =>
      simp only [fin, Option.map_eq_some_iff] at hp
      obtain ⟨⟨l', hm⟩, hp, hq⟩ := hp
      simp only [Prod.mk.injEq] at hq
      obtain ⟨rfl, rfl⟩ := hq
      simp only [OV] at hv
      obtain ⟨cs, rfl, hv⟩ := hv
      obtain ⟨_, d, D', h4, h5⟩ := folds_ok (fin_ok n) hp hh hv h1 h2 h3
      exact ⟨d, D', by simp only [OV]; exact ⟨cs, rfl, h4⟩, h5⟩
    | tup l =>
      simp only [fin, Option.map_eq_some_iff] at hp
      obtain ⟨⟨l', hm⟩, hp, hq⟩ := hp
      simp only [Prod.mk.injEq] at hq
      obtain ⟨rfl, rfl⟩ := hq
      simp only [OV] at hv
      obtain ⟨cs, rfl, hv⟩ := hv
      obtain ⟨_, d, D', h4, h5⟩ := folds_ok (fin_ok n) hp hh hv h1 h2 h3
      exact ⟨d, D', by simp only [OV]; exact ⟨cs, rfl, h4⟩, h5⟩
    | ptr b o => simp [fin] at hp
    | und => exact plain _ rfl rfl
    | int k m => exact plain _ rfl rfl
    | bool b => exact plain _ rfl rfl
    | str s => exact plain _ rfl rfl
    | nilp => exact plain _ rfl rfl
    | pf l o => exact plain _ rfl rfl
    | sl m l => exact plain _ rfl rfl
    | nils => exact plain _ rfl rfl
    | own e sz m l => exact plain _ rfl rfl
    | fn f l => exact plain _ rfl rfl

mutual
/-- No named block, nothing that is only looked at. -/
def clo : V → Bool
  | .own _ _ _ l => clos l
  | .agg l => clos l
  | .tup l => clos l
  | .int .. | .bool _ | .str _ | .nilp | .nils | .und => true
  | _ => false
def clos : List V → Bool
  | [] => true
  | v :: l => clo v && clos l
end
mutual
/-- No named block. -/
def nrf : V → Bool
  | .own _ _ _ l => nrfs l
  | .agg l => nrfs l
  | .tup l => nrfs l
  | .fn _ l => nrfs l
  | .sl _ l => nrfs l
  | .pf l _ => nrfs l
  | .ptr .. | .rf .. => false
  | .int .. | .bool _ | .str _ | .nilp | .nils | .und => true
def nrfs : List V → Bool
  | [] => true
  | v :: l => nrf v && nrfs l
end

mutual
theorem nrf_R {ι' : Iota} : ∀ (v : V) {r : Value}, nrf v = true → R ι F v r → R ι' F v r
  | .und, _, hn, h => by simp [R]
  | .int _ _, _, hn, h => by simpa [R] using h
  | .bool _, _, hn, h => by simpa [R] using h
  | .str _, _, hn, h => by simpa [R] using h
  | .agg l, _, hn, h => by
    simp only [nrf] at hn; simp only [R] at h ⊢; obtain ⟨cs, h1, h2⟩ := h; exact ⟨cs, h1, nrfs_R l hn h2⟩
  | .tup l, _, hn, h => by
    simp only [nrf] at hn; simp only [R] at h ⊢; obtain ⟨cs, h1, h2⟩ := h; exact ⟨cs, h1, nrfs_R l hn h2⟩
  | .ptr b off, _, hn, h => by simp [nrf] at hn
  | .nilp, _, hn, h => by simpa [R] using h
  | .pf l off, _, hn, h => by
    simp only [nrf] at hn; simp only [R] at h ⊢; obtain ⟨b, o, own, e, cs, ex, h1, h2, h3, h4⟩ := h; exact ⟨b, o, own, e, cs, ex, h1, h2, h3, nrfs_R l hn h4⟩
  | .sl n l, _, hn, h => by
    simp only [nrf] at hn
    simp only [R] at h ⊢
    rcases h with h | ⟨b, o, c, h1, h2, h3⟩
    · exact .inl h
    · refine .inr ⟨b, o, c, h1, h2, ?_⟩
      rcases h3 with h3 | ⟨own, e, cs, ex, h3, h4, h5⟩
      · exact .inl h3
      · exact .inr ⟨own, e, cs, ex, h3, h4, nrfs_R l hn h5⟩
  | .rf b off n, _, hn, h => by simp [nrf] at hn
  | .nils, _, hn, h => by simpa [R] using h
  | .own .., _, hn, h => by simp [R] at h
  | .fn f l, _, hn, h => by
    simp only [nrf] at hn; simp only [R] at h ⊢; obtain ⟨cs, h1, h2⟩ := h; exact ⟨cs, h1, nrfs_R l hn h2⟩
theorem nrfs_R {ι' : Iota} : ∀ (l : List V) {r : List Value}, nrfs l = true → RL ι F l r → RL ι' F l r
  | [], _, hn, h => by simpa [RL] using h
  | a :: l, _, hn, h => by
    simp only [nrfs, Bool.and_eq_true] at hn
    simp only [RL] at h ⊢; obtain ⟨v, r', h1, h2, h3⟩ := h; exact ⟨v, r', h1, nrf_R a hn.1 h2, nrfs_R l hn.2 h3⟩
end
mutual
theorem nrf_OV {ι' : Iota} : ∀ (v : V) {r : Value} {d : H}, nrf v = true → OV ι F v r d → OV ι' F v r d
  | .own e sz n l, _, _, hn, h => by
    simp only [nrf] at hn; simp only [OV] at h ⊢
    obtain ⟨b, c, rcs, ex, d', h1, h2, h3, h4, h5, h6, h7, h8, h9⟩ := h
    exact ⟨b, c, rcs, ex, d', h1, h2, h3, h4, h5, h6, h7, h8, nrfs_OL l hn h9⟩
  | .agg l, _, _, hn, h => by
    simp only [nrf] at hn; simp only [OV] at h ⊢; obtain ⟨cs, h1, h2⟩ := h; exact ⟨cs, h1, nrfs_OL l hn h2⟩
  | .tup l, _, _, hn, h => by
    simp only [nrf] at hn; simp only [OV] at h ⊢; obtain ⟨cs, h1, h2⟩ := h; exact ⟨cs, h1, nrfs_OL l hn h2⟩
  | .und, _, _, hn, h => by simp only [OV] at h ⊢; exact ⟨h.1, nrf_R _ hn h.2⟩
  | .int _ _, _, _, hn, h => by simp only [OV] at h ⊢; exact ⟨h.1, nrf_R _ hn h.2⟩
  | .bool _, _, _, hn, h => by simp only [OV] at h ⊢; exact ⟨h.1, nrf_R _ hn h.2⟩
  | .str _, _, _, hn, h => by simp only [OV] at h ⊢; exact ⟨h.1, nrf_R _ hn h.2⟩
  | .ptr _ _, _, _, hn, h => by simp [nrf] at hn
  | .nilp, _, _, hn, h => by simp only [OV] at h ⊢; exact ⟨h.1, nrf_R _ hn h.2⟩
  | .pf _ _, _, _, hn, h => by simp only [OV] at h ⊢; exact ⟨h.1, nrf_R _ hn h.2⟩
  | .sl _ _, _, _, hn, h => by simp only [OV] at h ⊢; exact ⟨h.1, nrf_R _ hn h.2⟩
  | .rf _ _ _, _, _, hn, h => by simp [nrf] at hn
  | .nils, _, _, hn, h => by simp only [OV] at h ⊢; exact ⟨h.1, nrf_R _ hn h.2⟩
  | .fn _ _, _, _, hn, h => by simp only [OV] at h ⊢; exact ⟨h.1, nrf_R _ hn h.2⟩
theorem nrfs_OL {ι' : Iota} : ∀ (l : List V) {r : List Value} {d : H}, nrfs l = true → OL ι F l r d → OL ι' F l r d
  | [], _, _, hn, h => by simpa [OL] using h
  | a :: l, _, _, hn, h => by
    simp only [nrfs, Bool.and_eq_true] at hn
    simp only [OL] at h ⊢
    obtain ⟨v, r', d1, d2, h1, h2, h3, h4, h5⟩ := h
    exact ⟨v, r', d1, d2, h1, h2, h3, nrf_OV a hn.1 h4, nrfs_OL l hn.2 h5⟩
end
mutual
theorem clo_OV {ι' : Iota} {F' : H} : ∀ (v : V) {r : Value} {d : H}, clo v = true → OV ι F v r d → OV ι' F' v r d
  | .own e sz n l, _, _, hn, h => by
    simp only [clo] at hn; simp only [OV] at h ⊢
    obtain ⟨b, c, rcs, ex, d', h1, h2, h3, h4, h5, h6, h7, h8, h9⟩ := h
    exact ⟨b, c, rcs, ex, d', h1, h2, h3, h4, h5, h6, h7, h8, clos_OL l hn h9⟩
  | .agg l, _, _, hn, h => by
    simp only [clo] at hn; simp only [OV] at h ⊢; obtain ⟨cs, h1, h2⟩ := h; exact ⟨cs, h1, clos_OL l hn h2⟩
  | .tup l, _, _, hn, h => by
    simp only [clo] at hn; simp only [OV] at h ⊢; obtain ⟨cs, h1, h2⟩ := h; exact ⟨cs, h1, clos_OL l hn h2⟩
  | .und, _, _, hn, h => by simpa only [OV, R] using h
  | .int _ _, _, _, hn, h => by simpa only [OV, R] using h
  | .bool _, _, _, hn, h => by simpa only [OV, R] using h
  | .str _, _, _, hn, h => by simpa only [OV, R] using h
  | .ptr _ _, _, _, hn, h => by simp [clo] at hn
  | .nilp, _, _, hn, h => by simpa only [OV, R] using h
  | .pf _ _, _, _, hn, h => by simp [clo] at hn
  | .sl _ _, _, _, hn, h => by simp [clo] at hn
  | .rf _ _ _, _, _, hn, h => by simp [clo] at hn
  | .nils, _, _, hn, h => by simpa only [OV, R] using h
  | .fn _ _, _, _, hn, h => by simp [clo] at hn
theorem clos_OL {ι' : Iota} {F' : H} : ∀ (l : List V) {r : List Value} {d : H}, clos l = true → OL ι F l r d → OL ι' F' l r d
  | [], _, _, hn, h => by simpa [OL] using h
  | a :: l, _, _, hn, h => by
    simp only [clos, Bool.and_eq_true] at hn
    simp only [OL] at h ⊢
    obtain ⟨v, r', d1, d2, h1, h2, h3, h4, h5⟩ := h
    exact ⟨v, r', d1, d2, h1, h2, h3, clo_OV a hn.1 h4, clos_OL l hn.2 h5⟩
end
end
end Go.Proofs.Ytbjmdjnopgojdaa.Sep

/- The code's transformer over trees is sound; loops; contracts. -/
import Derived.Test.YtjklebickfcddaaDoorSepU
namespace Go.Proofs.YtjklebickfcddaaDoor.Sep
open Go.RowKit
set_option linter.unusedVariables false
set_option linter.unusedSimpArgs false
set_option linter.constructorNameAsVariable false

/-- What tells of memory here tells of it there, too. -/
def Ent (t : Tp) (h : Hp) (t' : Tp) (h' : Hp) : Prop := ∀ F0 u g, Sim F0 t h u g → Sim F0 t' h' u g
theorem Ent.refl (t : Tp) (h : Hp) : Ent t h t h := fun _ _ _ h => h

def SN (F0 : Fr) (K : Tp → Hp → Prop) (u : T) (g : H) : Prop := ∃ t h, Sim F0 t h u g ∧ K t h

/-- Whatever memory is so told of, the code does as the lean transformer says. -/
def W (P : Program) (c : ACode) (n : Tp → Hp → Prop) (e : Nat → Tp → Hp → Prop) (r : Tp → Hp → Prop) (t : Tp) (h : Hp) : Prop :=
  ∀ F0 u g, Sim F0 t h u g → awp P c (SN F0 n) (fun i => SN F0 (e i)) (SN F0 r) u g

def pwp (P : Program) : ACode → (n : Tp → Hp → Prop) → (e : Nat → Tp → Hp → Prop) → (r : Tp → Hp → Prop) → Tp → Hp → Prop
  | .skip, n, _, _, t, h => n t h
  | .reg ops, n, _, _, t, h => pops P ops n t h
  | .seq a b, n, e, r, t, h => pwp P a (fun t h => pwp P b n e r t h) e r t h
  | .cond c a b, n, e, r, t, h => match pev t c with
    | .bool v => (v = true → pwp P a n e r t h) ∧ (v = false → pwp P b n e r t h)
    | _ => False
  | .block id b, n, e, r, t, h => pwp P b n (fun i t h => if i = id then n t h else e i t h) r t h
  | .loop b, n, e, r, t, h => ∃ (I : Nat → Tp → Hp → Prop) (k : Nat) (t' : Tp) (h' : Hp), Ent t h t' h' ∧ I k t' h' ∧
      ∀ k t h, I k t h → W P b (fun t h => ∃ k' t' h', k' < k ∧ Ent t h t' h' ∧ I k' t' h') e r t h
  | .exit id, _, e, _, t, h => e id t h
  | .ret, _, _, r, t, h => r t h

section
variable {P : Program} {F0 : Fr}

theorem tputo_R {ι : Iota} {F : H} {t : Tp} {u : T} (h : ∀ k, R ι F (t k) (u k)) {d : Option Nat} {v : V} {r : Value} (hv : R ι F v r) : ∀ k, R ι F (tputo t d v k) (puto u d r k) := fun k => by
  cases d with
  | none => exact h k
  | some d =>
    simp only [tputo, tput, puto, put]
    split
    · exact hv
    · exact h k

theorem pstep_sound {o : AOper} {K : Tp → Hp → Prop} {t : Tp} {h : Hp} {u : T} {g : H} (hs : Sim F0 t h u g) (hp : pstep P o K t h) : step P o (SN F0 K) u g := by
  obtain ⟨ι, F, D, hF, hh, ht⟩ := hs
  rw [step_def]
  have go : pop P (o.dst.getD 0 + 64) o.op (pev t) h (fun v h => K (tputo t o.dst v) h) → aop P o.op (ev u) g fun v e => e.ok g → SN F0 K (puto u o.dst v) (e.app g) := fun hp => by
    refine aop_mono (fun r e hx hok => ?_) (pop_sound (Nat.le_add_left 64 _) hh ht hp)
    obtain ⟨v, h', ι', F', D', h1, h2, h3, h4, h5⟩ := hx hok
    exact ⟨_, h', ⟨ι', F', D', ⟨le_trans' hF.1 h2, fun b p hb => h1 _ _ (hF.2 _ _ hb)⟩, h3, tputo_R (fun k => R_mono h1 h2 _ (ht k)) h4⟩, h5⟩
  have skip : K (tputo t o.dst (.tup [])) h → SN F0 K (puto u o.dst undef) g := fun hp => ⟨_, h, ⟨ι, F, D, hF, hh, tputo_R ht (by simp [R, RL, undef])⟩, hp⟩
  unfold pstep at hp
  cases hg : o.guard with
  | none =>
    rw [hg] at hp
    simp only [pgoes] at hp
    simp only [goes, if_true]
    exact go hp
  | some q =>
    obtain ⟨d, w⟩ := q
    rw [hg] at hp
    simp only [pgoes] at hp
    have hd := ht d
    cases htd : t d <;> rw [htd] at hp hd <;> try simp only at hp
    · rename_i b
      simp only [R] at hd
      simp only [goes, hd, beq_iff_eq]
      by_cases hb : b = w
      · rw [if_pos hb] at hp ⊢; exact go hp
      · rw [if_neg hb] at hp ⊢; exact skip hp
    · rename_i l
      cases l with
      | cons a l => exact hp.elim
      | nil =>
        simp only [R] at hd
        obtain ⟨r, hr, _⟩ := hd
        simp only [goes, hr, Bool.false_eq_true, if_false]
        exact skip hp

theorem pops_sound : ∀ {ops : List AOper} {K : Tp → Hp → Prop} {t : Tp} {h : Hp} {u : T} {g : H}, Sim F0 t h u g → pops P ops K t h → aops P ops (SN F0 K) u g
  | [], K, t, h, u, g, hs, hp => ⟨t, h, hs, hp⟩
  | o :: r, K, t, h, u, g, hs, hp => by
    have h1 := pstep_sound hs (show pstep P o (pops P r K) t h from hp)
    show step P o (aops P r (SN F0 K)) u g
    refine step_mono (fun u g hx => ?_) h1
    obtain ⟨t', h', hs', hp'⟩ := hx
    exact pops_sound hs' hp'

theorem pwp_sound : ∀ (c : ACode) {n : Tp → Hp → Prop} {e : Nat → Tp → Hp → Prop} {r : Tp → Hp → Prop} {t : Tp} {h : Hp} {u : T} {g : H}, Sim F0 t h u g → pwp P c n e r t h →
    awp P c (SN F0 n) (fun i => SN F0 (e i)) (SN F0 r) u g
  | .skip, n, e, r, t, h, u, g, hs, hp => ⟨t, h, hs, hp⟩
  | .reg ops, n, e, r, t, h, u, g, hs, hp => pops_sound hs hp
  | .seq a b, n, e, r, t, h, u, g, hs, hp => by
    have h1 := pwp_sound a hs hp
    simp only [awp]
    refine awp_agree.awp_mono (fun u g hx => ?_) (fun _ _ _ h => h) (fun _ _ h => h) h1
    obtain ⟨t', h', hs', hp'⟩ := hx
    exact pwp_sound b hs' hp'
  | .cond c a b, n, e, r, t, h, u, g, hs, hp => by
    simp only [pwp] at hp
    obtain ⟨ι, F, D, hF, hh, ht⟩ := hs
    have hc := pev_R ht c
    cases hv : pev t c <;> rw [hv] at hp hc <;> simp only at hp
    rename_i v
    simp only [R] at hc
    simp only [awp, hc]
    exact ⟨fun h1 => pwp_sound a ⟨ι, F, D, hF, hh, ht⟩ (hp.1 h1), fun h1 => pwp_sound b ⟨ι, F, D, hF, hh, ht⟩ (hp.2 h1)⟩
  | .block id b, n, e, r, t, h, u, g, hs, hp => by
    have h1 := pwp_sound b hs hp
    simp only [awp]
    refine awp_agree.awp_mono (fun u g hx => hx) (fun i u g hx => ?_) (fun _ _ h => h) h1
    obtain ⟨t', h', hs', hp'⟩ := hx
    split
    · rename_i hi; rw [if_pos hi] at hp'; exact ⟨t', h', hs', hp'⟩
    · rename_i hi; rw [if_neg hi] at hp'; exact ⟨t', h', hs', hp'⟩
  | .loop b, n, e, r, t, h, u, g, hs, hp => by
    obtain ⟨I, k, t', h', hent, hI, hround⟩ := hp
    refine ⟨fun k u g => ∃ t h, Sim F0 t h u g ∧ I k t h, k, ⟨t', h', hent _ _ _ hs, hI⟩, ?_⟩
    rintro k u g ⟨t, h, hs, hI⟩
    have h1 := hround k t h hI F0 u g hs
    refine awp_agree.awp_mono (fun u g hx => ?_) (fun _ _ _ h => h) (fun _ _ h => h) h1
    obtain ⟨t1, h1, hs1, k', t2, h2, hk, he, hI2⟩ := hx
    exact ⟨k', hk, t2, h2, he _ _ _ hs1, hI2⟩
  | .exit id, n, e, r, t, h, u, g, hs, hp => ⟨t, h, hs, hp⟩
  | .ret, n, e, r, t, h, u, g, hs, hp => ⟨t, h, hs, hp⟩
end

end Go.Proofs.YtjklebickfcddaaDoor.Sep

/- Trees taken out of the heap; blocks that are opened, closed, handed on. -/
import Derived.Test.YtjklebickfcddaaDoorSepT
namespace Go.Proofs.YtjklebickfcddaaDoor.Sep
open Go.RowKit
set_option linter.unusedVariables false
set_option linter.unusedSimpArgs false
set_option linter.constructorNameAsVariable false

theorem emp_le (F : H) : Le emp F := fun x k h => by simp [emp] at h
theorem ι0_ext (ι : Iota) : iext ι0 ι := fun b p h => by simp [ι0] at h

/-! ### Trees taken out of the heap -/
section
variable {ι : Iota} {F g : H}

theorem Hold.kill {h : Hp} {D : Nat → H} (hh : Hold ι F h D g) (b : Nat) : Hold ι F (hput h b .dead) (dset D b emp) g := by
  constructor
  · intro x e sz cs hx
    simp only [hput] at hx
    split at hx
    · cases hx
    · rename_i hxb; simp only [dset, if_neg hxb]; exact hh.live x _ _ _ hx
  · intro x hx
    by_cases hxb : x = b
    · simp [dset, hxb]
    · simp only [dset, if_neg hxb]; exact hh.idle x fun e sz cs h2 => hx e sz cs (by simp [hput, hxb, h2])
  · intro x
    by_cases hxb : x = b
    · simp only [dset, hxb, if_true]; exact emp_le g
    · simp only [dset, if_neg hxb]; exact hh.sub x
  · intro x y hxy
    by_cases hxb : x = b
    · simp only [dset, hxb, if_true]; exact dj_emp_l _
    · by_cases hyb : y = b
      · simp only [dset, hyb, if_true]; exact dj_emp_r _
      · simp only [dset, if_neg hxb, if_neg hyb]; exact hh.dj x y hxy
  · intro x
    by_cases hxb : x = b
    · simp only [dset, hxb, if_true]; exact dj_emp_l _
    · simp only [dset, if_neg hxb]; exact hh.djF x
  · intro x h64 hx
    simp only [hput] at hx
    split at hx
    · cases hx
    · exact hh.dom x h64 hx
  · exact hh.leF

structure FinP (ι : Iota) (F g : H) (h' : Hp) (D : Nat → H) (d0 d : H) (D' : Nat → H) : Prop where
  hold : Hold ι F h' D' g
  part : ∀ b, D' b = D b ∨ D' b = emp
  dj : ∀ b, Dj d (D' b)
  djF : Dj d F
  le : Le d g
  src : ∀ x, (d x).isSome = true → (d0 x).isSome = true ∨ ∃ b, (D b x).isSome = true ∧ D' b = emp

def FinOk (ι : Iota) (F g : H) (f : Hp → V → Option (V × Hp)) : Prop :=
  ∀ {h : Hp} {D : Nat → H} {v v' : V} {h' : Hp} {r : Value} {d0 : H}, f h v = some (v', h') → Hold ι F h D g → OV ι F v r d0 → (∀ b, Dj d0 (D b)) → Dj d0 F → Le d0 g →
    ∃ d D', OV ι F v' r d ∧ FinP ι F g h' D d0 d D'

theorem folds_ok {f : Hp → V → Option (V × Hp)} (hf : FinOk ι F g f) : ∀ {l l' : List V} {h h' : Hp} {D : Nat → H} {r : List Value} {d0 : H}, folds f h l = some (l', h') → Hold ι F h D g → OL ι F l r d0 →
    (∀ b, Dj d0 (D b)) → Dj d0 F → Le d0 g → l'.length = l.length ∧ ∃ d D', OL ι F l' r d ∧ FinP ι F g h' D d0 d D'
  | [], l', h, h', D, r, d0, hp, hh, hv, h1, h2, h3 => by
    simp only [folds, Option.some.injEq, Prod.mk.injEq] at hp
    obtain ⟨rfl, rfl⟩ := hp
    exact ⟨rfl, d0, D, hv, hh, fun b => .inl rfl, h1, h2, h3, fun x hx => .inl hx⟩
  | v :: l, l', h, h', D, r, d0, hp, hh, hv, h1, h2, h3 => by
    simp only [folds, Option.bind_eq_some_iff, Option.map_eq_some_iff] at hp
    obtain ⟨⟨v', hm⟩, hp1, ⟨l2, he⟩, hp2, hq⟩ := hp
    simp only [Prod.mk.injEq] at hq
    obtain ⟨rfl, rfl⟩ := hq
    simp only [OL] at hv
    obtain ⟨x, r', da, dl, rfl, rfl, hdj, hva, hvl⟩ := hv
    have h1a : ∀ b, Dj da (D b) := fun b => (dj_join_l.1 (h1 b)).1
    have h1l : ∀ b, Dj dl (D b) := fun b => (dj_join_l.1 (h1 b)).2
    rw [dj_join_l] at h2
    rw [join_le_iff hdj] at h3
    obtain ⟨d1, D1, hv1, p1⟩ := hf hp1 hh hva h1a h2.1 h3.1
    have h1l' : ∀ b, Dj dl (D1 b) := fun b => by
      rcases p1.part b with h | h
      · rw [h]; exact h1l b
      · rw [h]; exact dj_emp_r _
    obtain ⟨hlen, d2, D2, hv2, p2⟩ := folds_ok hf hp2 p1.hold hvl h1l' h2.2 h3.2
    have hd12 : Dj d1 d2 := fun y => by
      cases hy2 : d2 y with
      | none => exact .inr rfl
      | some k2 =>
        left
        cases hy1 : d1 y with
        | none => rfl
        | some k1 =>
          exfalso
          rcases p2.src y (by simp [hy2]) with hl | ⟨b, hb, hbe⟩
          · rcases p1.src y (by simp [hy1]) with ha | ⟨b, hb, hbe⟩
            · rcases hdj y with h | h
              · rw [h] at ha; cases ha
              · rw [h] at hl; cases hl
            · rcases h1l b y with h | h
              · rw [h] at hl; cases hl
              · rw [h] at hb; cases hb
          · rcases p1.dj b y with h | h
            · rw [h] at hy1; cases hy1
            · rw [h] at hb; cases hb
    refine ⟨by simp [hlen], join d1 d2, D2, ?_, p2.hold, ?_, ?_, dj_join_l.2 ⟨p1.djF, p2.djF⟩, le_join_of p1.le p2.le, ?_⟩
    · simp only [OL]; exact ⟨x, r', d1, d2, rfl, rfl, hd12, hv1, hv2⟩
    · intro b
      rcases p2.part b with h | h
      · rw [h]; exact p1.part b
      · exact .inr h
    · intro b
      refine dj_join_l.2 ⟨?_, p2.dj b⟩
      rcases p2.part b with h | h
      · rw [h]; exact p1.dj b
      · rw [h]; exact dj_emp_r _
    · intro y hy
      have : (d1 y).isSome = true ∨ (d2 y).isSome = true := by
        simp only [join] at hy
        cases h2 : d2 y <;> simp_all
      rcases this with hy | hy
      · rcases p1.src y hy with h | ⟨b, hb, hbe⟩
        · exact .inl (by simp only [join]; cases h2 : dl y <;> simp_all)
        · refine .inr ⟨b, hb, ?_⟩
          rcases p2.part b with h | h
          · rw [h]; exact hbe
          · exact h
      · rcases p2.src y hy with h | ⟨b, hb, hbe⟩
        · exact .inl (by simp only [join]; cases h2 : dl y <;> simp_all)
        · rcases p1.part b with h | h
          · rw [h] at hb; exact .inr ⟨b, hb, hbe⟩
          · rw [h] at hb; simp [emp] at hb

theorem fin_ok : ∀ (n : Nat), FinOk ι F g (fin n)
  | 0, h, D, v, v', h', r, d0, hp, _, _, _, _, _ => by simp [fin] at hp
  | n + 1, h, D, v, v', h', r, d0, hp, hh, hv, h1, h2, h3 => by
    have plain : ∀ w, fin (n + 1) h w = some (w, h) → v = w → ∃ d D', OV ι F v' r d ∧ FinP ι F g h' D d0 d D' := by
      rintro w hw rfl
      rw [hw] at hp
      simp only [Option.some.injEq, Prod.mk.injEq] at hp
      obtain ⟨rfl, rfl⟩ := hp
      exact ⟨d0, D, hv, hh, fun b => .inl rfl, h1, h2, h3, fun x hx => .inl hx⟩
    cases v with
    | rf b o k =>
      simp only [fin] at hp
      cases hb : h b with
      | free => simp [hb] at hp
      | dead => simp [hb] at hp
      | row e sz cs =>
        simp only [hb] at hp
        have hg := grd_some hp
        clear hp
        obtain ⟨⟨ho, hk, hs⟩, hp⟩ := hg
        subst ho
        simp only [Option.map_eq_some_iff] at hp
        obtain ⟨⟨l', hm⟩, hp, hq⟩ := hp
        simp only [Prod.mk.injEq] at hq
        obtain ⟨rfl, rfl⟩ := hq
        obtain ⟨b2, rcs, ex, d', q1, q2, q3, q4, q5, q6, q7⟩ := hh.blk hb
        simp only [OV, R] at hv
        obtain ⟨rfl, b0, tot, sz2, off', c, r1, rfl, r2, r3, r4, r5⟩ := hv
        have : off' = 0 := r2 (.inr trivial)
        subst this
        rw [r1] at q1; cases q1
        obtain ⟨r5, r6⟩ := r5 trivial
        obtain ⟨d1, s1, s2⟩ := OL_take (k * sz) q5
        rw [List.take_take, Nat.min_eq_left hk] at s1
        have hd1D : Le d1 (D b) := by rw [q2]; exact le_trans' s2 (le_join_r _ _)
        have hk1 := hh.kill b
        have hbr : (D b b2).isSome = true := by rw [q2]; simp [join, single, q3]
        have hDb2 : ∀ x, x ≠ b → D x b2 = none := fun x hx => by
          rcases hh.dj x b hx b2 with h | h
          · exact h
          · rw [h] at hbr; cases hbr
        obtain ⟨hlen, d2, D2, hv2, p2⟩ := folds_ok (fin_ok n) hp hk1 s1 (fun x => by
          by_cases hxb : x = b
          · simp only [dset, hxb, if_true]; exact dj_emp_r _
          · simp only [dset, if_neg hxb]; exact dj_of_le (hh.dj b x (Ne.symm hxb)) hd1D) (dj_of_le (hh.djF b) hd1D) (le_trans' s2 q7)
        have hd2b : d2 b2 = none := by
          cases hy : d2 b2 with
          | none => rfl
          | some k2 =>
            exfalso
            rcases p2.src b2 (by simp [hy]) with h | ⟨x, hx, _⟩
            · cases h1 : d1 b2 with
              | none => rw [h1] at h; cases h
              | some k => have := s2 _ _ h1; rw [q3] at this; cases this
            · by_cases hxb : x = b
              · simp [dset, hxb, emp] at hx
              · simp only [dset, if_neg hxb] at hx; rw [hDb2 x hxb] at hx; cases hx
        have hDb' : D2 b = emp := by
          rcases p2.part b with h | h
          · rw [h]; simp [dset]
          · exact h
        have hpart : ∀ x, D2 x = D x ∨ D2 x = emp := fun x => by
          rcases p2.part x with h | h
          · by_cases hxb : x = b
            · right; rw [h]; simp [dset, hxb]
            · left; rw [h]; simp [dset, hxb]
          · exact .inr h
        have hsg : Le (single b2 (.row true e rcs ex)) g := fun y k hy => by
          simp only [single] at hy
          split at hy
          · rename_i hyb; subst hyb; cases hy; exact q6
          · cases hy
        have hFb : F b2 = none := by
          rcases hh.djF b b2 with h | h
          · rw [h] at hbr; cases hbr
          · exact h
        refine ⟨join (single b2 (.row true e rcs ex)) d2, D2, ?_, p2.hold, hpart, ?_, dj_join_l.2 ⟨single_dj hFb, p2.djF⟩, le_join_of hsg p2.le, ?_⟩
        · have hl' : l'.length = k * sz := by rw [hlen]; simp; omega
          simp only [OV]
          refine ⟨b2, c, rcs, ex, d2, rfl, r3, r4, r5, r6, by omega, rfl, hd2b, ?_⟩
          rw [hl']; exact hv2
        · intro x
          refine dj_join_l.2 ⟨single_dj ?_, p2.dj x⟩
          rcases hpart x with h | h
          · rw [h]
            by_cases hxb : x = b
            · rw [← h, hxb, hDb']; rfl
            · exact hDb2 x hxb
          · rw [h]; rfl
        · intro y hy
          have : y = b2 ∨ (d2 y).isSome = true := by
            simp only [join, single] at hy
            cases h2 : d2 y with
            | none => rw [h2] at hy; left; by_cases hyb : y = b2; exact hyb; simp [hyb] at hy
            | some k => right; rfl
          rcases this with rfl | hy
          · exact .inr ⟨b, hbr, hDb'⟩
          · rcases p2.src y hy with h | ⟨x, hx, hxe⟩
            · refine .inr ⟨b, ?_, hDb'⟩
              cases h1 : d1 y with
              | none => rw [h1] at h; cases h
              | some k => simp [hd1D _ _ h1]
            · by_cases hxb : x = b
              · simp [dset, hxb, emp] at hx
              · simp only [dset, if_neg hxb] at hx; exact .inr ⟨x, hx, hxe⟩
    | agg l =>
      simp only [fin, Option.map_eq_some_iff] at hp
      obtain ⟨⟨l', hm⟩, hp, hq⟩ := hp
      simp only [Prod.mk.injEq] at hq
      obtain ⟨rfl, rfl⟩ := hq
      simp only [OV] at hv
      obtain ⟨cs, rfl, hv⟩ := hv
      obtain ⟨_, d, D', h4, h5⟩ := folds_ok (fin_ok n) hp hh hv h1 h2 h3
      exact ⟨d, D', by simp only [OV]; exact ⟨cs, rfl, h4⟩, h5⟩
    | tup l =>
      simp only [fin, Option.map_eq_some_iff] at hp
      obtain ⟨⟨l', hm⟩, hp, hq⟩ := hp
      simp only [Prod.mk.injEq] at hq
      obtain ⟨rfl, rfl⟩ := hq
      simp only [OV] at hv
      obtain ⟨cs, rfl, hv⟩ := hv
      obtain ⟨_, d, D', h4, h5⟩ := folds_ok (fin_ok n) hp hh hv h1 h2 h3
      exact ⟨d, D', by simp only [OV]; exact ⟨cs, rfl, h4⟩, h5⟩
    | ptr b o => simp [fin] at hp
    | und => exact plain _ rfl rfl
    | int k m => exact plain _ rfl rfl
    | bool b => exact plain _ rfl rfl
    | str s => exact plain _ rfl rfl
    | nilp => exact plain _ rfl rfl
    | pf l o => exact plain _ rfl rfl
    | sl m l => exact plain _ rfl rfl
    | nils => exact plain _ rfl rfl
    | own e sz m l => exact plain _ rfl rfl
    | fn f l => exact plain _ rfl rfl
    | fz x l => exact plain _ rfl rfl

mutual
theorem nrf_R {ι' : Iota} : ∀ (v : V) {r : Value}, nrf v = true → R ι F v r → R ι' F v r
  | .und, _, hn, h => by simp [R]
  | .int _ _, _, hn, h => by simpa [R] using h
  | .bool _, _, hn, h => by simpa [R] using h
  | .str _, _, hn, h => by simpa [R] using h
  | .agg l, _, hn, h => by
    simp only [nrf] at hn; simp only [R] at h ⊢; obtain ⟨cs, h1, h2⟩ := h; exact ⟨cs, h1, nrfs_R l hn h2⟩
  | .tup l, _, hn, h => by
    simp only [nrf] at hn; simp only [R] at h ⊢; obtain ⟨cs, h1, h2⟩ := h; exact ⟨cs, h1, nrfs_R l hn h2⟩
  | .ptr b off, _, hn, h => by simp [nrf] at hn
  | .nilp, _, hn, h => by simpa [R] using h
  | .pf l off, _, hn, h => by
    simp only [nrf] at hn; simp only [R] at h ⊢; obtain ⟨b, o, own, e, cs, ex, h1, h2, h3, h4⟩ := h; exact ⟨b, o, own, e, cs, ex, h1, h2, h3, nrfs_R l hn h4⟩
  | .sl n l, _, hn, h => by
    simp only [nrf] at hn
    simp only [R] at h ⊢
    rcases h with h | ⟨b, o, c, h1, h2, h3⟩
    · exact .inl h
    · refine .inr ⟨b, o, c, h1, h2, ?_⟩
      rcases h3 with h3 | ⟨own, e, cs, ex, h3, h4, h5⟩
      · exact .inl h3
      · exact .inr ⟨own, e, cs, ex, h3, h4, nrfs_R l hn h5⟩
  | .rf b off n, _, hn, h => by simp [nrf] at hn
  | .nils, _, hn, h => by simpa [R] using h
  | .own .., _, hn, h => by simp [R] at h
  | .fn f l, _, hn, h => by
    simp only [nrf] at hn; simp only [R] at h ⊢; obtain ⟨cs, h1, h2⟩ := h; exact ⟨cs, h1, nrfs_R l hn h2⟩
  | .fz x l, _, hn, h => by simpa only [R] using h
theorem nrfs_R {ι' : Iota} : ∀ (l : List V) {r : List Value}, nrfs l = true → RL ι F l r → RL ι' F l r
  | [], _, hn, h => by simpa [RL] using h
  | a :: l, _, hn, h => by
    simp only [nrfs, Bool.and_eq_true] at hn
    simp only [RL] at h ⊢; obtain ⟨v, r', h1, h2, h3⟩ := h; exact ⟨v, r', h1, nrf_R a hn.1 h2, nrfs_R l hn.2 h3⟩
end
mutual
theorem nrf_OV {ι' : Iota} : ∀ (v : V) {r : Value} {d : H}, nrf v = true → OV ι F v r d → OV ι' F v r d
  | .own e sz n l, _, _, hn, h => by
    simp only [nrf] at hn; simp only [OV] at h ⊢
    obtain ⟨b, c, rcs, ex, d', h1, h2, h3, h4, h5, h6, h7, h8, h9⟩ := h
    exact ⟨b, c, rcs, ex, d', h1, h2, h3, h4, h5, h6, h7, h8, nrfs_OL l hn h9⟩
  | .agg l, _, _, hn, h => by
    simp only [nrf] at hn; simp only [OV] at h ⊢; obtain ⟨cs, h1, h2⟩ := h; exact ⟨cs, h1, nrfs_OL l hn h2⟩
  | .tup l, _, _, hn, h => by
    simp only [nrf] at hn; simp only [OV] at h ⊢; obtain ⟨cs, h1, h2⟩ := h; exact ⟨cs, h1, nrfs_OL l hn h2⟩
  | .und, _, _, hn, h => by simp only [OV] at h ⊢; exact ⟨h.1, nrf_R _ hn h.2⟩
  | .int _ _, _, _, hn, h => by simp only [OV] at h ⊢; exact ⟨h.1, nrf_R _ hn h.2⟩
  | .bool _, _, _, hn, h => by simp only [OV] at h ⊢; exact ⟨h.1, nrf_R _ hn h.2⟩
  | .str _, _, _, hn, h => by simp only [OV] at h ⊢; exact ⟨h.1, nrf_R _ hn h.2⟩
  | .ptr _ _, _, _, hn, h => by simp [nrf] at hn
  | .nilp, _, _, hn, h => by simp only [OV] at h ⊢; exact ⟨h.1, nrf_R _ hn h.2⟩
  | .pf _ _, _, _, hn, h => by simp only [OV] at h ⊢; exact ⟨h.1, nrf_R _ hn h.2⟩
  | .sl _ _, _, _, hn, h => by simp only [OV] at h ⊢; exact ⟨h.1, nrf_R _ hn h.2⟩
  | .rf _ _ _, _, _, hn, h => by simp [nrf] at hn
  | .nils, _, _, hn, h => by simp only [OV] at h ⊢; exact ⟨h.1, nrf_R _ hn h.2⟩
  | .fn _ _, _, _, hn, h => by simp only [OV] at h ⊢; exact ⟨h.1, nrf_R _ hn h.2⟩
  | .fz _ _, _, _, hn, h => by simp only [OV] at h ⊢; exact ⟨h.1, nrf_R _ hn h.2⟩
theorem nrfs_OL {ι' : Iota} : ∀ (l : List V) {r : List Value} {d : H}, nrfs l = true → OL ι F l r d → OL ι' F l r d
  | [], _, _, hn, h => by simpa [OL] using h
  | a :: l, _, _, hn, h => by
    simp only [nrfs, Bool.and_eq_true] at hn
    simp only [OL] at h ⊢
    obtain ⟨v, r', d1, d2, h1, h2, h3, h4, h5⟩ := h
    exact ⟨v, r', d1, d2, h1, h2, h3, nrf_OV a hn.1 h4, nrfs_OL l hn.2 h5⟩
end
mutual
theorem clo_OV {ι' : Iota} {F' : H} : ∀ (v : V) {r : Value} {d : H}, clo v = true → OV ι F v r d → OV ι' F' v r d
  | .own e sz n l, _, _, hn, h => by
    simp only [clo] at hn; simp only [OV] at h ⊢
    obtain ⟨b, c, rcs, ex, d', h1, h2, h3, h4, h5, h6, h7, h8, h9⟩ := h
    exact ⟨b, c, rcs, ex, d', h1, h2, h3, h4, h5, h6, h7, h8, clos_OL l hn h9⟩
  | .agg l, _, _, hn, h => by
    simp only [clo] at hn; simp only [OV] at h ⊢; obtain ⟨cs, h1, h2⟩ := h; exact ⟨cs, h1, clos_OL l hn h2⟩
  | .tup l, _, _, hn, h => by
    simp only [clo] at hn; simp only [OV] at h ⊢; obtain ⟨cs, h1, h2⟩ := h; exact ⟨cs, h1, clos_OL l hn h2⟩
  | .und, _, _, hn, h => by simpa only [OV, R] using h
  | .int _ _, _, _, hn, h => by simpa only [OV, R] using h
  | .bool _, _, _, hn, h => by simpa only [OV, R] using h
  | .str _, _, _, hn, h => by simpa only [OV, R] using h
  | .ptr _ _, _, _, hn, h => by simp [clo] at hn
  | .nilp, _, _, hn, h => by simpa only [OV, R] using h
  | .pf _ _, _, _, hn, h => by simp [clo] at hn
  | .sl _ _, _, _, hn, h => by simp [clo] at hn
  | .rf _ _ _, _, _, hn, h => by simp [clo] at hn
  | .nils, _, _, hn, h => by simpa only [OV, R] using h
  | .fn _ _, _, _, hn, h => by simp [clo] at hn
  | .fz _ _, _, _, hn, h => by simp [clo] at hn
theorem clos_OL {ι' : Iota} {F' : H} : ∀ (l : List V) {r : List Value} {d : H}, clos l = true → OL ι F l r d → OL ι' F' l r d
  | [], _, _, hn, h => by simpa [OL] using h
  | a :: l, _, _, hn, h => by
    simp only [clos, Bool.and_eq_true] at hn
    simp only [OL] at h ⊢
    obtain ⟨v, r', d1, d2, h1, h2, h3, h4, h5⟩ := h
    exact ⟨v, r', d1, d2, h1, h2, h3, clo_OV a hn.1 h4, clos_OL l hn.2 h5⟩
end
theorem boxes_len {h : Hp} : ∀ {bx : List (Nat × TypeId × Nat)} {cells : List (List V)}, boxesOf h bx = some cells → cells.length = bx.length
  | [], cells, hb => by simp [boxesOf] at hb; subst hb; rfl
  | p :: l, cells, hb => by
    simp only [boxesOf] at hb
    split at hb
    · obtain ⟨_, hb⟩ := grd_some hb
      simp only [Option.map_eq_some_iff] at hb
      obtain ⟨r, hr, rfl⟩ := hb
      simp [boxes_len hr]
    · cases hb

/-- A block of the frame. -/
theorem hputb_at {h : Hp} : ∀ {bx : List (Nat × TypeId × Nat)} {cells : List (List V)}, boxesOf h bx = some cells → nrfss cells = true → ∀ (b : Nat),
    (b ∉ names bx → hputb hnil bx cells b = .free) ∧ (b ∈ names bx → ∃ e sz cs, hputb hnil bx cells b = .row e sz cs) ∧
    ∀ e sz cs, hputb hnil bx cells b = .row e sz cs → b ∈ names bx ∧ h b = .row e sz cs ∧ nrfs cs = true
  | [], cells, hb, hn, b => by
    simp only [boxesOf, Option.some.injEq] at hb
    subst hb
    simp [hputb, hnil, names]
  | p :: l, cells, hb, hn, b => by
    simp only [boxesOf] at hb
    split at hb
    · rename_i e sz cs hp
      have hg := grd_some hb
      clear hb
      obtain ⟨⟨he, hz⟩, hb⟩ := hg
      subst he; subst hz
      simp only [Option.map_eq_some_iff] at hb
      obtain ⟨r, hr, rfl⟩ := hb
      simp only [nrfss, Bool.and_eq_true] at hn
      obtain ⟨h1, h2, h3⟩ := hputb_at hr hn.2 b
      simp only [hputb, hput, names, List.map_cons, List.mem_cons]
      by_cases hbp : b = p.1
      · subst hbp
        simp only [if_true, true_or, not_true, false_implies, true_implies, true_and, Slot.row.injEq]
        exact ⟨⟨_, _, _, rfl, rfl, rfl⟩, fun e sz cs ⟨h1, h2, h3⟩ => ⟨by rw [← h1, ← h2, ← h3]; exact hp, h3 ▸ hn.1⟩⟩
      · simp only [if_neg hbp, hbp, false_or]
        exact ⟨h1, h2, h3⟩
    · cases hb

theorem Hold.boxes {ι2 : Iota} {h : Hp} {D : Nat → H} (hh : Hold ι F h D g) {bx : List (Nat × TypeId × Nat)} {cells : List (List V)} (hb : boxesOf h bx = some cells) (hn : nrfss cells = true)
    (hi : ∀ x, x ∈ names bx → ι2 x = ι x) (hi2 : ∀ x, 64 ≤ x → x ∉ names bx → ι2 x = none) :
    Hold ι2 F (hputb hnil bx cells) (fun x => if x ∈ names bx then D x else emp) g := by
  have hat := hputb_at hb hn
  constructor
  · intro b e sz cs hx
    obtain ⟨h1, h2, h3⟩ := (hat b).2.2 e sz cs hx
    obtain ⟨b', rcs, ex, d', q1, q2, q3, q4, q5⟩ := hh.live b e sz cs h2
    simp only [if_pos h1]
    exact ⟨b', rcs, ex, d', by rw [hi b h1]; exact q1, q2, q3, q4, nrfs_OL _ h3 q5⟩
  · intro b hx
    by_cases hbn : b ∈ names bx
    · obtain ⟨e, sz, cs, h1⟩ := (hat b).2.1 hbn
      exact absurd h1 (hx e sz cs)
    · simp [hbn]
  · intro b
    by_cases hbn : b ∈ names bx
    · simp only [if_pos hbn]; exact hh.sub b
    · simp only [if_neg hbn]; exact emp_le g
  · intro b b2 hne
    by_cases hbn : b ∈ names bx
    · by_cases hbn2 : b2 ∈ names bx
      · simp only [if_pos hbn, if_pos hbn2]; exact hh.dj b b2 hne
      · simp only [if_neg hbn2]; exact dj_emp_r _
    · simp only [if_neg hbn]; exact dj_emp_l _
  · intro b
    by_cases hbn : b ∈ names bx
    · simp only [if_pos hbn]; exact hh.djF b
    · simp only [if_neg hbn]; exact dj_emp_l _
  · intro b h64 hx
    by_cases hbn : b ∈ names bx
    · obtain ⟨e, sz, cs, h1⟩ := (hat b).2.1 hbn
      rw [h1] at hx; cases hx
    · exact hi2 b h64 hbn
  · exact hh.leF

/-- A block's cells become trees. -/
theorem Hold.close {h h' : Hp} {D : Nat → H} {b : Nat} (hh : Hold ι F h D g) (hc : closeB h b = some h') : ∃ D', Hold ι F h' D' g ∧ ∀ x y, (D' x y).isSome = true → ∃ z, (D z y).isSome = true := by
  unfold closeB at hc
  cases hb : h b with
  | free => simp [hb] at hc
  | dead => simp [hb] at hc
  | row e sz cs =>
    simp only [hb, Option.map_eq_some_iff] at hc
    obtain ⟨⟨cs', h2⟩, hf, rfl⟩ := hc
    simp only
    obtain ⟨b2, rcs, ex, d', q1, q2, q3, q4, q5, q6, q7⟩ := hh.blk hb
    have hk := hh.kill b
    have hd'D : Le d' (D b) := by rw [q2]; exact le_join_r _ _
    have hbr : (D b b2).isSome = true := by rw [q2]; simp [join, single, q3]
    have hDb2 : ∀ x, x ≠ b → D x b2 = none := fun x hx => by
      rcases hh.dj x b hx b2 with h | h
      · exact h
      · rw [h] at hbr; cases hbr
    obtain ⟨hlen, d2, D2, hv2, p2⟩ := folds_ok (fin_ok 4) hf hk q5 (fun x => by
      by_cases hxb : x = b
      · simp only [dset, hxb, if_true]; exact dj_emp_r _
      · simp only [dset, if_neg hxb]; exact dj_of_le (hh.dj b x (Ne.symm hxb)) hd'D) (dj_of_le (hh.djF b) hd'D) q7
    have hd2b : d2 b2 = none := by
      cases hy : d2 b2 with
      | none => rfl
      | some k2 =>
        exfalso
        rcases p2.src b2 (by simp [hy]) with h | ⟨x, hx, _⟩
        · rw [q3] at h; cases h
        · by_cases hxb : x = b
          · simp [dset, hxb, emp] at hx
          · simp only [dset, if_neg hxb] at hx; rw [hDb2 x hxb] at hx; cases hx
    have hDb' : D2 b = emp := by
      rcases p2.part b with h | h
      · rw [h]; simp [dset]
      · exact h
    have hpart : ∀ x, x ≠ b → D2 x = D x ∨ D2 x = emp := fun x hxb => by
      rcases p2.part x with h | h
      · left; rw [h]; simp [dset, hxb]
      · exact .inr h
    have hD2b : ∀ x, D2 x b2 = none := fun x => by
      by_cases hxb : x = b
      · rw [hxb, hDb']; rfl
      · rcases hpart x hxb with h | h
        · rw [h]; exact hDb2 x hxb
        · rw [h]; rfl
    have hsg : Le (single b2 (.row true e rcs ex)) g := fun y k hy => by
      simp only [single] at hy
      split at hy
      · rename_i hyb; subst hyb; cases hy; exact q6
      · cases hy
    have hFb : F b2 = none := by
      rcases hh.djF b b2 with h | h
      · rw [h] at hbr; cases hbr
      · exact h
    refine ⟨dset D2 b (join (single b2 (.row true e rcs ex)) d2), ?_, ?_⟩
    · constructor
      · intro x e2 sz2 cs2 hx
        simp only [hput] at hx
        by_cases hxb : x = b
        · subst hxb
          simp only [if_true, Slot.row.injEq] at hx
          obtain ⟨rfl, rfl, rfl⟩ := hx
          simp only [dset, if_true]
          refine ⟨b2, rcs, ex, d2, q1, rfl, hd2b, by omega, ?_⟩
          rw [hlen]; exact hv2
        · rw [if_neg hxb] at hx
          simp only [dset, if_neg hxb]
          exact p2.hold.live x _ _ _ hx
      · intro x hx
        by_cases hxb : x = b
        · subst hxb
          exact absurd (by simp [hput]) (hx e sz cs')
        · simp only [dset, if_neg hxb]
          exact p2.hold.idle x fun e2 sz2 cs2 h2 => hx e2 sz2 cs2 (by simp [hput, hxb, h2])
      · intro x
        by_cases hxb : x = b
        · subst hxb; simp only [dset, if_true]; exact le_join_of hsg p2.le
        · simp only [dset, if_neg hxb]; exact p2.hold.sub x
      · have key : ∀ y, Dj (join (single b2 (.row true e rcs ex)) d2) (D2 y) := fun y => dj_join_l.2 ⟨single_dj (hD2b y), p2.dj y⟩
        intro x y hxy
        by_cases hxb : x = b
        · subst hxb
          have : y ≠ x := fun e => hxy e.symm
          simp only [dset, if_true, if_neg this]
          exact key y
        · simp only [dset, if_neg hxb]
          by_cases hyb : y = b
          · subst hyb; simp only [if_true]; exact (key x).symm
          · simp only [if_neg hyb]; exact p2.hold.dj x y hxy
      · intro x
        by_cases hxb : x = b
        · subst hxb; simp only [dset, if_true]; exact dj_join_l.2 ⟨single_dj hFb, p2.djF⟩
        · simp only [dset, if_neg hxb]; exact p2.hold.djF x
      · intro x h64 hx
        by_cases hxb : x = b
        · subst hxb; simp [hput] at hx
        · simp only [hput, if_neg hxb] at hx
          exact p2.hold.dom x h64 hx
      · exact p2.hold.leF
    · intro x y hx
      by_cases hxb : x = b
      · subst hxb
        simp only [dset, if_true, join, single] at hx
        cases h2 : d2 y with
        | none =>
          rw [h2] at hx
          by_cases hyb : y = b2
          · subst hyb; exact ⟨x, hbr⟩
          · simp [hyb] at hx
        | some k =>
          rcases p2.src y (by simp [h2]) with h | ⟨z, hz, _⟩
          · refine ⟨x, ?_⟩
            cases h1 : d' y with
            | none => rw [h1] at h; cases h
            | some k => simp [hd'D _ _ h1]
          · by_cases hzb : z = x
            · simp [dset, hzb, emp] at hz
            · simp only [dset, if_neg hzb] at hz; exact ⟨z, hz⟩
      · simp only [dset, if_neg hxb] at hx
        rcases hpart x hxb with h | h
        · rw [h] at hx; exact ⟨x, hx⟩
        · rw [h] at hx; simp [emp] at hx
theorem Hold.closeAll {bs : List Nat} : ∀ {h h' : Hp} {D : Nat → H}, Hold ι F h D g → closeAll h bs = some h' → ∃ D', Hold ι F h' D' g ∧ ∀ x y, (D' x y).isSome = true → ∃ z, (D z y).isSome = true := by
  induction bs with
  | nil =>
    intro h h' D hh hc
    simp only [Sep.closeAll, Option.some.injEq] at hc
    subst hc
    exact ⟨D, hh, fun x y hx => ⟨x, hx⟩⟩
  | cons b l ih =>
    intro h h' D hh hc
    simp only [Sep.closeAll, Option.bind_eq_some_iff] at hc
    obtain ⟨h1, hc1, hc2⟩ := hc
    obtain ⟨D1, hh1, k1⟩ := hh.close hc1
    obtain ⟨D2, hh2, k2⟩ := ih hh1 hc2
    exact ⟨D2, hh2, fun x y hx => by obtain ⟨z, hz⟩ := k2 x y hx; exact k1 z y hz⟩

theorem OL_part : ∀ {l : List V} {r : List Value} {d : H} (off : Nat), OL ι F l r d → off < l.length →
    ∃ d1 d2, d = join d1 d2 ∧ Dj d1 d2 ∧ OV ι F (l.getD off .und) (r.getD off undef) d1 ∧ ∀ ι' w, iext ι ι' → R ι' F w (r.getD off undef) → OL ι' F (l.set off w) r d2
  | [], _, _, off, h, ho => by simp at ho
  | a :: l, _, _, off, h, ho => by
    simp only [OL] at h
    obtain ⟨v, r', da, dl, e, e2, hdj, ha, hl⟩ := h
    subst e; subst e2
    cases off with
    | zero =>
      refine ⟨da, dl, rfl, hdj, by simpa using ha, fun ι' w hi hw => ?_⟩
      simp only [List.set_cons_zero, OL]
      exact ⟨v, r', emp, dl, rfl, (join_emp_l _).symm, dj_emp_l _, R_OV w (by simpa using hw), OL_mono hi (le_rfl' F) _ hl⟩
    | succ off =>
      obtain ⟨d1, d2, h1, h2, h3, h4⟩ := OL_part off hl (by simpa using ho)
      subst h1
      rw [dj_join_r] at hdj
      refine ⟨d1, join da d2, ?_, dj_join_r.2 ⟨hdj.1.symm, h2⟩, by simpa using h3, fun ι' w hi hw => ?_⟩
      · rw [← join_assoc, ← join_assoc, join_comm hdj.1]
      · simp only [List.set_cons_succ, OL]
        exact ⟨v, r', da, d2, rfl, rfl, hdj.2, OV_mono hi (le_rfl' F) _ ha, h4 ι' w hi (by simpa using hw)⟩

theorem upd_same {b : Nat} {k : Blk} (hb : g b = some k) : upd g b k = g := by
  funext x; simp only [upd]; split
  · rename_i e; rw [e, hb]
  · rfl

/-- Own memory in a cell gets a name. -/
theorem Hold.opened {h : Hp} {D : Nat → H} (hh : Hold ι F h D g) {b : Nat} {e : TypeId} {sz : Nat} {cs : List V} (hb : h b = .row e sz cs) {off : Nat} (ho : off < cs.length) {e2 : TypeId} {sz2 n : Nat} {l : List V}
    (hc : cs.getD off .und = .own e2 sz2 n l) {c : Nat} (h64 : 64 ≤ c) (hfr : h c = .free) {b' : Nat} {rcs : List Value} {ex : Nat} {d' : H}
    (hι : ι b = some (b', rcs.length + ex, sz)) (hD : D b = join (single b' (.row true e rcs ex)) d') (hd : d' b' = none) (hlen : cs.length ≤ rcs.length) (hOL : OL ι F cs (rcs.take cs.length) d') :
    ∃ ι' D', iext ι ι' ∧ Hold ι' F (hput (hput h b (.row e sz (cs.set off (.rf c 0 n)))) c (.row e2 sz2 l)) D' g ∧ R ι' F (.rf c 0 n) (rcs.getD off undef) := by
  have hr0 : (rcs.take cs.length).getD off undef = rcs.getD off undef := by simp [List.getD, List.getElem?_take, ho]
  have hcb : c ≠ b := fun e => by rw [e, hb] at hfr; cases hfr
  obtain ⟨d1, d2, h1, h2, h3, h4⟩ := OL_part off hOL ho
  subst h1
  rw [hc] at h3
  rw [hr0] at h3 h4
  have hDd : Le (join d1 d2) (D b) := by rw [hD]; exact le_join_r _ _
  have hd2 : d2 b' = none := by simp only [join, Option.or_eq_none_iff] at hd; exact hd.1
  have hd1 : d1 b' = none := by simp only [join, Option.or_eq_none_iff] at hd; exact hd.2
  have hgb := hh.sub b
  rw [hD, join_le_iff (single_dj hd), join_le_iff h2] at hgb
  have q6 : g b' = some (.row true e rcs ex) := hgb.1 b' _ (by simp [single])
  have hsm : ∀ x, ((join (single b' (.row true e rcs ex)) d2) x).isSome = true → (D b x).isSome = true := fun x hx => by
    rw [hD]
    simp only [join] at hx ⊢
    cases hx2 : d2 x with
    | none => rw [hx2] at hx; cases hx1 : d1 x <;> simp_all
    | some k => simp
  -- the cell is forgotten
  have hA := hh.turn hb hι hD hd (cs' := cs.set off .und) (rcs' := rcs) (d2 := d2) rfl (by simpa using hlen) (by simpa using h4 ι .und (iext_refl ι) R_und) (le_join_r _ _)
  rw [upd_same q6] at hA
  -- its memory gets a name
  simp only [OV] at h3
  obtain ⟨b1, cp, rcs1, ex1, d1', g1, g2, g3, g4, g5, g6, g7, g8, g9⟩ := h3
  have hd1D : ∀ x, x ≠ b → Dj (D x) d1 := fun x hx => (dj_of_le (hh.dj b x (Ne.symm hx)) (le_trans' (le_join_l h2) hDd)).symm
  have hB := hA.add h64 (b := c) (by simp only [hput, if_neg hcb]; exact hfr) (le_rfl' g) (e := e2) (sz := sz2) (cs := l) (b' := b1) (rcs := rcs1) (ex := ex1) (d' := d1') g8 (fun x => by
      rw [← g7]
      by_cases hxb : x = b
      · subst hxb; simp only [dset, if_true]; exact dj_join_l.2 ⟨single_dj hd1, h2.symm⟩
      · simp only [dset, if_neg hxb]; exact hd1D x hxb) (by rw [← g7]; exact (dj_of_le (hh.djF b) (le_trans' (le_join_l h2) hDd)).symm) (by rw [← g7]; exact hgb.2.1) g6 g9
  have hi : iext ι (iset ι c (b1, rcs1.length + ex1, sz2)) := iext_iset (hh.dom c h64 hfr)
  have hv : R (iset ι c (b1, rcs1.length + ex1, sz2)) F (.rf c 0 n) (rcs.getD off undef) := by
    rw [g1]; simp only [R]
    exact ⟨b1, _, sz2, 0, cp, by simp [iset], rfl, fun _ => rfl, g2, g3, fun _ => ⟨g4, g5⟩⟩
  -- and is told by it
  have hC := hB.turn (b := b) (e := e) (sz := sz) (cs := cs.set off .und) (by simp [hput, Ne.symm hcb]) (hi _ _ hι) (by simp only [dset, if_neg (Ne.symm hcb), if_true]) hd2
    (cs' := cs.set off (.rf c 0 n)) (rcs' := rcs) (d2 := d2) rfl (by simpa using hlen) (by simpa using h4 _ _ hi hv) (le_rfl' d2)
  rw [upd_same q6] at hC
  have hheap : hput (hput (hput h b (.row e sz (cs.set off .und))) c (.row e2 sz2 l)) b (.row e sz (cs.set off (.rf c 0 n))) = hput (hput h b (.row e sz (cs.set off (.rf c 0 n)))) c (.row e2 sz2 l) := by
    funext x
    simp only [hput]
    by_cases hxb : x = b
    · subst hxb; simp [Ne.symm hcb]
    · simp [hxb]
  rw [hheap] at hC
  exact ⟨_, _, hi, hC, hv⟩
end
end Go.Proofs.YtjklebickfcddaaDoor.Sep

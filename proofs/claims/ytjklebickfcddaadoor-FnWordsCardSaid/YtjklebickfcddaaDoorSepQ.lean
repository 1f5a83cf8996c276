/- Lemmas on what tells of values and memory. -/
import Derived.Test.YtjklebickfcddaaDoorSepP
namespace Go.Proofs.YtjklebickfcddaaDoor.Sep
open Go.RowKit
set_option linter.unusedVariables false
set_option linter.unusedSimpArgs false
set_option linter.constructorNameAsVariable false

theorem iext_refl (ι : Iota) : iext ι ι := fun _ _ h => h
theorem le_rfl' (F : H) : Le F F := fun _ _ h => h
theorem le_trans' {a b c : H} (h1 : Le a b) (h2 : Le b c) : Le a c := fun x k h => h2 x k (h1 x k h)

theorem FZ_mono {F F' : H} (hF : Le F F') {l : List Int} {v : Value} (h : FZ F l v) : FZ F' l v := by
  rcases h with h | ⟨b, o, c, h1, h2, h3⟩
  · exact .inl h
  · refine .inr ⟨b, o, c, h1, h2, ?_⟩
    rcases h3 with h3 | ⟨own, e, cs, ex, h3, h4⟩
    · exact .inl h3
    · exact .inr ⟨own, e, cs, ex, hF _ _ h3, h4⟩
theorem FZ_like {F F' : H} (hF : ∀ b own e cs ex, F b = some (.row own e cs ex) → ∃ own2, F' b = some (.row own2 e cs ex)) {l : List Int} {v : Value} (h : FZ F l v) : FZ F' l v := by
  rcases h with h | ⟨b, o, c, h1, h2, h3⟩
  · exact .inl h
  · refine .inr ⟨b, o, c, h1, h2, ?_⟩
    rcases h3 with h3 | ⟨own, e, cs, ex, h3, h4⟩
    · exact .inl h3
    · obtain ⟨own2, h3'⟩ := hF _ _ _ _ _ h3; exact .inr ⟨own2, e, cs, ex, h3', h4⟩

mutual
theorem R_mono {ι ι' : Iota} {F F' : H} (hi : iext ι ι') (hF : Le F F') : ∀ (v : V) {r : Value}, R ι F v r → R ι' F' v r
  | .und, _, h => by simp [R]
  | .int _ _, _, h => by simpa [R] using h
  | .bool _, _, h => by simpa [R] using h
  | .str _, _, h => by simpa [R] using h
  | .agg l, _, h => by
    simp only [R] at h ⊢; obtain ⟨cs, h1, h2⟩ := h; exact ⟨cs, h1, RL_mono hi hF l h2⟩
  | .tup l, _, h => by
    simp only [R] at h ⊢; obtain ⟨cs, h1, h2⟩ := h; exact ⟨cs, h1, RL_mono hi hF l h2⟩
  | .ptr b off, _, h => by
    simp only [R] at h ⊢; obtain ⟨b', tot, sz, h1, h2⟩ := h; exact ⟨b', tot, sz, hi _ _ h1, h2⟩
  | .nilp, _, h => by simpa [R] using h
  | .pf l off, _, h => by
    simp only [R] at h ⊢; obtain ⟨b, o, own, e, cs, ex, h1, h2, h3, h4⟩ := h; exact ⟨b, o, own, e, cs, ex, h1, hF _ _ h2, h3, RL_mono hi hF l h4⟩
  | .sl n l, _, h => by
    simp only [R] at h ⊢
    rcases h with h | ⟨b, o, c, h1, h2, h3⟩
    · exact .inl h
    · refine .inr ⟨b, o, c, h1, h2, ?_⟩
      rcases h3 with h3 | ⟨own, e, cs, ex, h3, h4, h5⟩
      · exact .inl h3
      · exact .inr ⟨own, e, cs, ex, hF _ _ h3, h4, RL_mono hi hF l h5⟩
  | .rf b off n, _, h => by
    simp only [R] at h ⊢; obtain ⟨b', tot, sz, o, c, h1, h2⟩ := h; exact ⟨b', tot, sz, o, c, hi _ _ h1, h2⟩
  | .nils, _, h => by simpa [R] using h
  | .own .., _, h => by simp [R] at h
  | .fn f l, _, h => by
    simp only [R] at h ⊢; obtain ⟨cs, h1, h2⟩ := h; exact ⟨cs, h1, RL_mono hi hF l h2⟩
  | .fz x l, _, h => by simp only [R] at h ⊢; exact ⟨h.1, FZ_mono hF h.2⟩
theorem RL_mono {ι ι' : Iota} {F F' : H} (hi : iext ι ι') (hF : Le F F') : ∀ (l : List V) {r : List Value}, RL ι F l r → RL ι' F' l r
  | [], _, h => by simpa [RL] using h
  | a :: l, _, h => by
    simp only [RL] at h ⊢; obtain ⟨v, r', h1, h2, h3⟩ := h; exact ⟨v, r', h1, R_mono hi hF a h2, RL_mono hi hF l h3⟩
end

mutual
theorem R_like {ι ι' : Iota} {F F' : H} (hi : iext ι ι') (hF : ∀ b own e cs ex, F b = some (.row own e cs ex) → ∃ own2, F' b = some (.row own2 e cs ex)) : ∀ (v : V) {r : Value}, R ι F v r → R ι' F' v r
  | .und, _, h => by simp [R]
  | .int _ _, _, h => by simpa [R] using h
  | .bool _, _, h => by simpa [R] using h
  | .str _, _, h => by simpa [R] using h
  | .agg l, _, h => by
    simp only [R] at h ⊢; obtain ⟨cs, h1, h2⟩ := h; exact ⟨cs, h1, RL_like hi hF l h2⟩
  | .tup l, _, h => by
    simp only [R] at h ⊢; obtain ⟨cs, h1, h2⟩ := h; exact ⟨cs, h1, RL_like hi hF l h2⟩
  | .ptr b off, _, h => by
    simp only [R] at h ⊢; obtain ⟨b', tot, sz, h1, h2⟩ := h; exact ⟨b', tot, sz, hi _ _ h1, h2⟩
  | .nilp, _, h => by simpa [R] using h
  | .pf l off, _, h => by
    simp only [R] at h ⊢; obtain ⟨b, o, own, e, cs, ex, h1, h2, h3, h4⟩ := h; obtain ⟨own2, h2'⟩ := hF _ _ _ _ _ h2; exact ⟨b, o, own2, e, cs, ex, h1, h2', h3, RL_like hi hF l h4⟩
  | .sl n l, _, h => by
    simp only [R] at h ⊢
    rcases h with h | ⟨b, o, c, h1, h2, h3⟩
    · exact .inl h
    · refine .inr ⟨b, o, c, h1, h2, ?_⟩
      rcases h3 with h3 | ⟨own, e, cs, ex, h3, h4, h5⟩
      · exact .inl h3
      · obtain ⟨own2, h3'⟩ := hF _ _ _ _ _ h3; exact .inr ⟨own2, e, cs, ex, h3', h4, RL_like hi hF l h5⟩
  | .rf b off n, _, h => by
    simp only [R] at h ⊢; obtain ⟨b', tot, sz, o, c, h1, h2⟩ := h; exact ⟨b', tot, sz, o, c, hi _ _ h1, h2⟩
  | .nils, _, h => by simpa [R] using h
  | .own .., _, h => by simp [R] at h
  | .fn f l, _, h => by
    simp only [R] at h ⊢; obtain ⟨cs, h1, h2⟩ := h; exact ⟨cs, h1, RL_like hi hF l h2⟩
  | .fz x l, _, h => by simp only [R] at h ⊢; exact ⟨h.1, FZ_like hF h.2⟩
theorem RL_like {ι ι' : Iota} {F F' : H} (hi : iext ι ι') (hF : ∀ b own e cs ex, F b = some (.row own e cs ex) → ∃ own2, F' b = some (.row own2 e cs ex)) : ∀ (l : List V) {r : List Value}, RL ι F l r → RL ι' F' l r
  | [], _, h => by simpa [RL] using h
  | a :: l, _, h => by
    simp only [RL] at h ⊢; obtain ⟨v, r', h1, h2, h3⟩ := h; exact ⟨v, r', h1, R_like hi hF a h2, RL_like hi hF l h3⟩
end

mutual
theorem OV_mono {ι ι' : Iota} {F F' : H} (hi : iext ι ι') (hF : Le F F') : ∀ (v : V) {r : Value} {d : H}, OV ι F v r d → OV ι' F' v r d
  | .own e sz n l, _, _, h => by
    simp only [OV] at h ⊢
    obtain ⟨b, c, rcs, ex, d', h1, h2, h3, h4, h5, h6, h7, h8, h9⟩ := h
    exact ⟨b, c, rcs, ex, d', h1, h2, h3, h4, h5, h6, h7, h8, OL_mono hi hF l h9⟩
  | .agg l, _, _, h => by
    simp only [OV] at h ⊢; obtain ⟨cs, h1, h2⟩ := h; exact ⟨cs, h1, OL_mono hi hF l h2⟩
  | .tup l, _, _, h => by
    simp only [OV] at h ⊢; obtain ⟨cs, h1, h2⟩ := h; exact ⟨cs, h1, OL_mono hi hF l h2⟩
  | .und, _, _, h => by simp only [OV] at h ⊢; exact ⟨h.1, R_mono hi hF _ h.2⟩
  | .int _ _, _, _, h => by simp only [OV] at h ⊢; exact ⟨h.1, R_mono hi hF _ h.2⟩
  | .bool _, _, _, h => by simp only [OV] at h ⊢; exact ⟨h.1, R_mono hi hF _ h.2⟩
  | .str _, _, _, h => by simp only [OV] at h ⊢; exact ⟨h.1, R_mono hi hF _ h.2⟩
  | .ptr _ _, _, _, h => by simp only [OV] at h ⊢; exact ⟨h.1, R_mono hi hF _ h.2⟩
  | .nilp, _, _, h => by simp only [OV] at h ⊢; exact ⟨h.1, R_mono hi hF _ h.2⟩
  | .pf _ _, _, _, h => by simp only [OV] at h ⊢; exact ⟨h.1, R_mono hi hF _ h.2⟩
  | .sl _ _, _, _, h => by simp only [OV] at h ⊢; exact ⟨h.1, R_mono hi hF _ h.2⟩
  | .rf _ _ _, _, _, h => by simp only [OV] at h ⊢; exact ⟨h.1, R_mono hi hF _ h.2⟩
  | .nils, _, _, h => by simp only [OV] at h ⊢; exact ⟨h.1, R_mono hi hF _ h.2⟩
  | .fn _ _, _, _, h => by simp only [OV] at h ⊢; exact ⟨h.1, R_mono hi hF _ h.2⟩
  | .fz _ _, _, _, h => by simp only [OV] at h ⊢; exact ⟨h.1, R_mono hi hF _ h.2⟩
theorem OL_mono {ι ι' : Iota} {F F' : H} (hi : iext ι ι') (hF : Le F F') : ∀ (l : List V) {r : List Value} {d : H}, OL ι F l r d → OL ι' F' l r d
  | [], _, _, h => by simpa [OL] using h
  | a :: l, _, _, h => by
    simp only [OL] at h ⊢
    obtain ⟨v, r', d1, d2, h1, h2, h3, h4, h5⟩ := h
    exact ⟨v, r', d1, d2, h1, h2, h3, OV_mono hi hF a h4, OL_mono hi hF l h5⟩
end

mutual
theorem OV_like {ι ι' : Iota} {F F' : H} (hi : iext ι ι') (hF : ∀ b own e cs ex, F b = some (.row own e cs ex) → ∃ own2, F' b = some (.row own2 e cs ex)) : ∀ (v : V) {r : Value} {d : H}, OV ι F v r d → OV ι' F' v r d
  | .own e sz n l, _, _, h => by
    simp only [OV] at h ⊢
    obtain ⟨b, c, rcs, ex, d', h1, h2, h3, h4, h5, h6, h7, h8, h9⟩ := h
    exact ⟨b, c, rcs, ex, d', h1, h2, h3, h4, h5, h6, h7, h8, OL_like hi hF l h9⟩
  | .agg l, _, _, h => by
    simp only [OV] at h ⊢; obtain ⟨cs, h1, h2⟩ := h; exact ⟨cs, h1, OL_like hi hF l h2⟩
  | .tup l, _, _, h => by
    simp only [OV] at h ⊢; obtain ⟨cs, h1, h2⟩ := h; exact ⟨cs, h1, OL_like hi hF l h2⟩
  | .und, _, _, h => by simp only [OV] at h ⊢; exact ⟨h.1, R_like hi hF _ h.2⟩
  | .int _ _, _, _, h => by simp only [OV] at h ⊢; exact ⟨h.1, R_like hi hF _ h.2⟩
  | .bool _, _, _, h => by simp only [OV] at h ⊢; exact ⟨h.1, R_like hi hF _ h.2⟩
  | .str _, _, _, h => by simp only [OV] at h ⊢; exact ⟨h.1, R_like hi hF _ h.2⟩
  | .ptr _ _, _, _, h => by simp only [OV] at h ⊢; exact ⟨h.1, R_like hi hF _ h.2⟩
  | .nilp, _, _, h => by simp only [OV] at h ⊢; exact ⟨h.1, R_like hi hF _ h.2⟩
  | .pf _ _, _, _, h => by simp only [OV] at h ⊢; exact ⟨h.1, R_like hi hF _ h.2⟩
  | .sl _ _, _, _, h => by simp only [OV] at h ⊢; exact ⟨h.1, R_like hi hF _ h.2⟩
  | .rf _ _ _, _, _, h => by simp only [OV] at h ⊢; exact ⟨h.1, R_like hi hF _ h.2⟩
  | .nils, _, _, h => by simp only [OV] at h ⊢; exact ⟨h.1, R_like hi hF _ h.2⟩
  | .fn _ _, _, _, h => by simp only [OV] at h ⊢; exact ⟨h.1, R_like hi hF _ h.2⟩
  | .fz _ _, _, _, h => by simp only [OV] at h ⊢; exact ⟨h.1, R_like hi hF _ h.2⟩
theorem OL_like {ι ι' : Iota} {F F' : H} (hi : iext ι ι') (hF : ∀ b own e cs ex, F b = some (.row own e cs ex) → ∃ own2, F' b = some (.row own2 e cs ex)) : ∀ (l : List V) {r : List Value} {d : H}, OL ι F l r d → OL ι' F' l r d
  | [], _, _, h => by simpa [OL] using h
  | a :: l, _, _, h => by
    simp only [OL] at h ⊢
    obtain ⟨v, r', d1, d2, h1, h2, h3, h4, h5⟩ := h
    exact ⟨v, r', d1, d2, h1, h2, h3, OV_like hi hF a h4, OL_like hi hF l h5⟩
end

section
variable {ι : Iota} {F : H}

theorem join_emp_r (d : H) : join d emp = d := by funext x; simp [join, emp]
theorem join_emp_l (d : H) : join emp d = d := by funext x; simp [join, emp]
theorem Dj.symm {d e : H} (h : Dj d e) : Dj e d := fun x => (h x).symm
theorem dj_emp_r (d : H) : Dj d emp := fun _ => .inr rfl
theorem dj_emp_l (d : H) : Dj emp d := fun _ => .inl rfl
theorem join_comm {d e : H} (h : Dj d e) : join d e = join e d := by
  funext x; simp only [join]; rcases h x with h | h <;> simp [h]
theorem join_assoc (a b c : H) : join (join a b) c = join a (join b c) := by
  funext x; simp only [join]; cases c x <;> simp
theorem dj_join_l {a b c : H} : Dj (join a b) c ↔ Dj a c ∧ Dj b c := by
  constructor
  · intro h
    refine ⟨fun x => ?_, fun x => ?_⟩
    · rcases h x with h | h
      · simp only [join, Option.or_eq_none_iff] at h; exact .inl h.2
      · exact .inr h
    · rcases h x with h | h
      · simp only [join, Option.or_eq_none_iff] at h; exact .inl h.1
      · exact .inr h
  · rintro ⟨h1, h2⟩ x
    rcases h1 x with h | h
    · rcases h2 x with h' | h'
      · exact .inl (by simp [join, h, h'])
      · exact .inr h'
    · exact .inr h
theorem dj_join_r {a b c : H} : Dj c (join a b) ↔ Dj c a ∧ Dj c b := by
  constructor
  · intro h; have := dj_join_l.1 h.symm; exact ⟨this.1.symm, this.2.symm⟩
  · rintro ⟨h1, h2⟩; exact (dj_join_l.2 ⟨h1.symm, h2.symm⟩).symm
theorem le_join_r (a b : H) : Le b (join a b) := fun x k h => by simp [join, h]
theorem le_join_l {a b : H} (h : Dj a b) : Le a (join a b) := fun x k hk => by
  rcases h x with h | h
  · rw [h] at hk; cases hk
  · simp [join, h, hk]
theorem le_join_of {a b g : H} (h1 : Le a g) (h2 : Le b g) : Le (join a b) g := fun x k hk => by
  simp only [join] at hk
  cases hb : b x with
  | none => rw [hb] at hk; exact h1 x k (by simpa using hk)
  | some k' => rw [hb] at hk; simp at hk; subst hk; exact h2 x _ hb
theorem join_le_iff {a b g : H} (hd : Dj a b) : Le (join a b) g ↔ Le a g ∧ Le b g :=
  ⟨fun h => ⟨le_trans' (le_join_l hd) h, le_trans' (le_join_r a b) h⟩, fun h => le_join_of h.1 h.2⟩
theorem dis_dj {g d : H} (h : Dis g d) : Dj g d := fun x => by
  cases hd : d x with
  | none => exact .inr rfl
  | some k => exact .inl (h x (by simp [hd]))
theorem dj_le {a b c : H} (h : Dj a b) (hl : ∀ x, (c x).isSome = true → (a x).isSome = true) : Dj c b := fun x => by
  rcases h x with h | h
  · left
    cases hc : c x with
    | none => rfl
    | some k => have := hl x (by simp [hc]); rw [h] at this; cases this
  · exact .inr h
theorem dj_of_le {a b c : H} (h : Dj a b) (hl : Le c a) : Dj c b := dj_le h fun x hx => by
  cases hc : c x with
  | none => rw [hc] at hx; cases hx
  | some k => simp [hl x k hc]

theorem R_und {v : Value} : R ι F .und v := by simp [R]

mutual
theorem R_OV : ∀ (v : V) {r : Value}, R ι F v r → OV ι F v r emp
  | .und, _, h => by simp only [OV]; exact ⟨trivial, h⟩
  | .int _ _, _, h => by simp only [OV]; exact ⟨trivial, h⟩
  | .bool _, _, h => by simp only [OV]; exact ⟨trivial, h⟩
  | .str _, _, h => by simp only [OV]; exact ⟨trivial, h⟩
  | .agg l, _, h => by
    simp only [R] at h; simp only [OV]; obtain ⟨cs, h1, h2⟩ := h; exact ⟨cs, h1, RL_OL l h2⟩
  | .tup l, _, h => by
    simp only [R] at h; simp only [OV]; obtain ⟨cs, h1, h2⟩ := h; exact ⟨cs, h1, RL_OL l h2⟩
  | .ptr b off, _, h => by simp only [OV]; exact ⟨trivial, h⟩
  | .nilp, _, h => by simp only [OV]; exact ⟨trivial, h⟩
  | .pf l off, _, h => by simp only [OV]; exact ⟨trivial, h⟩
  | .sl n l, _, h => by simp only [OV]; exact ⟨trivial, h⟩
  | .rf b off n, _, h => by simp only [OV]; exact ⟨trivial, h⟩
  | .nils, _, h => by simp only [OV]; exact ⟨trivial, h⟩
  | .own .., _, h => by simp [R] at h
  | .fn f l, _, h => by simp only [OV]; exact ⟨trivial, h⟩
  | .fz x l, _, h => by simp only [OV]; exact ⟨trivial, h⟩
theorem RL_OL : ∀ (l : List V) {r : List Value}, RL ι F l r → OL ι F l r emp
  | [], _, h => by simp only [RL] at h; simp only [OL]; exact ⟨h, trivial⟩
  | a :: l, _, h => by
    simp only [RL] at h; simp only [OL]
    obtain ⟨v, r', h1, h2, h3⟩ := h
    exact ⟨v, r', emp, emp, h1, by rw [join_emp_r], dj_emp_r _, R_OV a h2, RL_OL l h3⟩
end

theorem OV_plain {v : V} (hp : plain1 v = true) {r : Value} {d : H} (h : OV ι F v r d) : d = emp ∧ R ι F v r := by
  cases v <;> simp only [plain1, Bool.false_eq_true] at hp <;> simpa only [OV] using h
theorem OL_plain : ∀ {l : List V} (hp : noOwn l = true) {r : List Value} {d : H}, OL ι F l r d → d = emp ∧ RL ι F l r
  | [], _, _, _, h => by simp only [OL] at h; simp only [RL]; exact ⟨h.2, h.1⟩
  | a :: l, hp, _, _, h => by
    simp only [noOwn, List.all_cons, Bool.and_eq_true] at hp
    simp only [OL] at h
    obtain ⟨v, r', d1, d2, h1, h2, h3, h4, h5⟩ := h
    obtain ⟨e1, q1⟩ := OV_plain hp.1 h4
    obtain ⟨e2, q2⟩ := OL_plain (l := l) hp.2 h5
    subst e1; subst e2
    simp only [RL]
    exact ⟨by rw [h2, join_emp_r], v, r', h1, q1, q2⟩

theorem RL_len : ∀ {l : List V} {r : List Value}, RL ι F l r → r.length = l.length
  | [], _, h => by simp only [RL] at h; simp [h]
  | a :: l, _, h => by
    simp only [RL] at h; obtain ⟨v, r', h1, _, h3⟩ := h; simp [h1, RL_len h3]
theorem OL_len : ∀ {l : List V} {r : List Value} {d : H}, OL ι F l r d → r.length = l.length
  | [], _, _, h => by simp only [OL] at h; simp [h.1]
  | a :: l, _, _, h => by
    simp only [OL] at h; obtain ⟨v, r', d1, d2, h1, _, _, _, h3⟩ := h; simp [h1, OL_len h3]

theorem RL_get : ∀ {l : List V} {r : List Value}, RL ι F l r → ∀ (i : Nat), R ι F (l.getD i .und) (r.getD i undef)
  | [], _, h, i => by simp [R]
  | a :: l, _, h, i => by
    simp only [RL] at h; obtain ⟨v, r', h1, h2, h3⟩ := h
    subst h1
    cases i with
    | zero => simpa using h2
    | succ i => simpa using RL_get h3 i
theorem RL_get? {l : List V} {r : List Value} (h : RL ι F l r) {i : Nat} {v : V} (hv : l[i]? = some v) : ∃ x, r[i]? = some x ∧ R ι F v x := by
  have hi : i < l.length := by
    rcases Nat.lt_or_ge i l.length with h | h
    · exact h
    · rw [List.getElem?_eq_none h] at hv; cases hv
  have hl := RL_len h
  have := RL_get h i
  refine ⟨r[i]'(by omega), List.getElem?_eq_getElem (by omega), ?_⟩
  rw [List.getElem?_eq_getElem hi] at hv
  cases hv
  simpa [List.getD, List.getElem?_eq_getElem hi, List.getElem?_eq_getElem (show i < r.length by omega)] using this

theorem RL_append : ∀ {l m : List V} {r s : List Value}, RL ι F l r → RL ι F m s → RL ι F (l ++ m) (r ++ s)
  | [], m, r, s, h1, h2 => by simp only [RL] at h1; simpa [h1] using h2
  | a :: l, m, r, s, h1, h2 => by
    simp only [RL] at h1; obtain ⟨v, r', e, ha, hl⟩ := h1
    subst e
    simp only [List.cons_append, RL]
    exact ⟨v, r' ++ s, rfl, ha, RL_append hl h2⟩
theorem RL_take : ∀ {l : List V} {r : List Value} (n : Nat), RL ι F l r → RL ι F (l.take n) (r.take n)
  | l, r, 0, h => by simp [RL]
  | [], r, n + 1, h => by simp only [RL] at h; simp [h, RL]
  | a :: l, r, n + 1, h => by
    simp only [RL] at h; obtain ⟨v, r', e, ha, hl⟩ := h
    subst e
    simp only [List.take_succ_cons, RL]
    exact ⟨v, _, rfl, ha, RL_take n hl⟩
theorem RL_drop : ∀ {l : List V} {r : List Value} (n : Nat), RL ι F l r → RL ι F (l.drop n) (r.drop n)
  | l, r, 0, h => by simpa using h
  | [], r, n + 1, h => by simp only [RL] at h; simp [h, RL]
  | a :: l, r, n + 1, h => by
    simp only [RL] at h; obtain ⟨v, r', e, ha, hl⟩ := h
    subst e
    simpa using RL_drop n hl
theorem RL_set : ∀ {l : List V} {r : List Value} {v : V} {x : Value} (n : Nat), RL ι F l r → R ι F v x → RL ι F (l.set n v) (r.set n x)
  | [], r, v, x, n, h, hv => by simp only [RL] at h; simp [h, RL]
  | a :: l, r, v, x, 0, h, hv => by
    simp only [RL] at h; obtain ⟨v', r', e, ha, hl⟩ := h
    subst e
    simp only [List.set_cons_zero, RL]
    exact ⟨x, _, rfl, hv, hl⟩
  | a :: l, r, v, x, n + 1, h, hv => by
    simp only [RL] at h; obtain ⟨v', r', e, ha, hl⟩ := h
    subst e
    simp only [List.set_cons_succ, RL]
    exact ⟨v', _, rfl, ha, RL_set n hl hv⟩
theorem RL_flat : ∀ (n : Nat) {l : List V} {r : List Value}, RL ι F l r → RL ι F (List.replicate n l).flatten (List.replicate n r).flatten
  | 0, l, r, h => by simp [RL]
  | n + 1, l, r, h => by simp only [List.replicate_succ, List.flatten_cons]; exact RL_append h (RL_flat n h)

theorem OL_append : ∀ {l m : List V} {r s : List Value} {d1 d2 : H}, OL ι F l r d1 → OL ι F m s d2 → Dj d1 d2 → OL ι F (l ++ m) (r ++ s) (join d1 d2)
  | [], m, r, s, d1, d2, h1, h2, hd => by
    simp only [OL] at h1; obtain ⟨e1, e2⟩ := h1; subst e1; subst e2; simpa [join_emp_l] using h2
  | a :: l, m, r, s, d1, d2, h1, h2, hd => by
    simp only [OL] at h1
    obtain ⟨v, r', da, dl, e, e2, hdj, ha, hl⟩ := h1
    subst e; subst e2
    rw [dj_join_l] at hd
    simp only [List.cons_append, OL]
    exact ⟨v, r' ++ s, da, join dl d2, rfl, join_assoc _ _ _, dj_join_r.2 ⟨hdj, hd.1⟩, ha, OL_append hl h2 hd.2⟩
theorem OL_split : ∀ {l m : List V} {r : List Value} {d : H}, OL ι F (l ++ m) r d → ∃ r1 r2 d1 d2, r = r1 ++ r2 ∧ r1.length = l.length ∧ d = join d1 d2 ∧ Dj d1 d2 ∧ OL ι F l r1 d1 ∧ OL ι F m r2 d2
  | [], m, r, d, h => ⟨[], r, emp, d, rfl, rfl, (join_emp_l d).symm, dj_emp_l _, by simp [OL], h⟩
  | a :: l, m, r, d, h => by
    simp only [List.cons_append, OL] at h
    obtain ⟨v, r', da, dl, e, e2, hdj, ha, hl⟩ := h
    obtain ⟨r1, r2, d1, d2, e3, e4, e5, hdj2, h1, h2⟩ := OL_split hl
    subst e; subst e2; subst e3; subst e5
    rw [dj_join_r] at hdj
    refine ⟨v :: r1, r2, join da d1, d2, rfl, by simp [e4], (join_assoc _ _ _).symm, dj_join_l.2 ⟨hdj.2, hdj2⟩, ?_, h2⟩
    simp only [OL]
    exact ⟨v, r1, da, d1, rfl, rfl, hdj.1, ha, h1⟩
theorem OL_take {l : List V} {r : List Value} {d : H} (n : Nat) (h : OL ι F l r d) : ∃ d1, OL ι F (l.take n) (r.take n) d1 ∧ Le d1 d := by
  have hl := OL_len h
  rw [← List.take_append_drop n l] at h
  obtain ⟨r1, r2, d1, d2, e3, e4, e5, hdj, h1, h2⟩ := OL_split h
  refine ⟨d1, ?_, e5 ▸ le_join_l hdj⟩
  have : r.take n = r1 := by
    subst e3
    rw [List.length_take] at e4
    rcases Nat.le_total n l.length with h3 | h3
    · rw [List.take_append_of_le_length (by omega), List.take_of_length_le (by omega)]
    · have : r2.length = 0 := by simp only [List.length_append] at hl; omega
      rw [List.length_eq_zero_iff] at this
      subst this
      rw [List.append_nil, List.take_of_length_le (by omega)]
  rw [this]; exact h1
theorem OL_seg {l : List V} {r : List Value} {d : H} (o n : Nat) (h : OL ι F l r d) : ∃ d1, OL ι F ((l.drop o).take n) ((r.drop o).take n) d1 ∧ Le d1 d := by
  have hl := OL_len h
  rw [← List.take_append_drop o l] at h
  obtain ⟨r1, r2, d1, d2, e3, e4, e5, hdj, h1, h2⟩ := OL_split h
  obtain ⟨d3, h3, h4⟩ := OL_take n h2
  refine ⟨d3, ?_, le_trans' h4 (e5 ▸ le_join_r _ _)⟩
  have : r.drop o = r2 := by
    subst e3
    rw [List.length_take] at e4
    rcases Nat.le_total o l.length with h5 | h5
    · rw [List.drop_append, List.drop_of_length_le (by omega)]; simp; rw [show o - r1.length = 0 by omega]; rfl
    · have : r2.length = 0 := by simp only [List.length_append] at hl; omega
      rw [List.length_eq_zero_iff] at this
      subst this
      rw [List.append_nil, List.drop_of_length_le (by omega)]
  rw [this]; exact h3
theorem OL_get : ∀ {l : List V} {r : List Value} {d : H} (i : Nat), OL ι F l r d → i < l.length → ∃ d1, OV ι F (l.getD i .und) (r.getD i undef) d1 ∧ Le d1 d
  | [], _, _, i, h, hi => by simp at hi
  | a :: l, _, _, i, h, hi => by
    simp only [OL] at h
    obtain ⟨v, r', da, dl, e, e2, hdj, ha, hl⟩ := h
    subst e; subst e2
    cases i with
    | zero => exact ⟨da, by simpa using ha, le_join_l hdj⟩
    | succ i =>
      obtain ⟨d1, h1, h2⟩ := OL_get i hl (by simpa using hi)
      exact ⟨d1, by simpa using h1, le_trans' h2 (le_join_r _ _)⟩
/-- A cell is put over another: the memory of the old one is out. -/
theorem OL_set : ∀ {l : List V} {r : List Value} {d : H} (i : Nat) {v : V} {x : Value}, OL ι F l r d → i < l.length → R ι F v x →
    ∃ d1 d2, OV ι F (l.getD i .und) (r.getD i undef) d1 ∧ OL ι F (l.set i v) (r.set i x) d2 ∧ d = join d1 d2 ∧ Dj d1 d2
  | [], _, _, i, v, x, h, hi, hv => by simp at hi
  | a :: l, _, _, i, v, x, h, hi, hv => by
    simp only [OL] at h
    obtain ⟨w, r', da, dl, e, e2, hdj, ha, hl⟩ := h
    subst e; subst e2
    cases i with
    | zero =>
      refine ⟨da, dl, by simpa using ha, ?_, rfl, hdj⟩
      simp only [List.set_cons_zero, OL]
      exact ⟨x, r', emp, dl, rfl, (join_emp_l _).symm, dj_emp_l _, R_OV v hv, hl⟩
    | succ i =>
      obtain ⟨d1, d2, h1, h2, h3, h4⟩ := OL_set i hl (by simpa using hi) hv
      subst h3
      rw [dj_join_r] at hdj
      refine ⟨d1, join da d2, by simpa using h1, ?_, ?_, dj_join_r.2 ⟨hdj.1.symm, h4⟩⟩
      · simp only [List.set_cons_succ, OL]
        exact ⟨w, _, da, d2, rfl, rfl, hdj.2, ha, h2⟩
      · rw [← join_assoc, ← join_assoc, join_comm hdj.1]
theorem OL_seg_set {l : List V} {r : List Value} {d : H} (o : Nat) {vs : List V} {xs : List Value} (h : OL ι F l r d) (hv : RL ι F vs xs) (ho : o + vs.length ≤ l.length) :
    ∃ d2, OL ι F (l.take o ++ vs ++ l.drop (o + vs.length)) (r.take o ++ xs ++ r.drop (o + xs.length)) d2 ∧ Le d2 d := by
  have hl := OL_len h
  have hvl := RL_len hv
  have h' := h
  rw [← List.take_append_drop o l] at h'
  obtain ⟨r1, r2, d1, d2, e3, e4, e5, hdj, h1, h2⟩ := OL_split h'
  rw [← List.take_append_drop vs.length (l.drop o)] at h2
  obtain ⟨r3, r4, d3, d4, e6, e7, e8, hdj2, h3, h4⟩ := OL_split h2
  subst e3; subst e5; subst e6; subst e8
  rw [List.length_take] at e4 e7
  rw [List.length_drop] at e7
  rw [dj_join_r] at hdj
  refine ⟨join d1 d4, ?_, le_join_of (le_join_l (dj_join_r.2 hdj)) (le_trans' (le_join_r _ _) (le_join_r _ _))⟩
  have e9 : (r1 ++ (r3 ++ r4)).take o = r1 := by
    rw [List.take_append_of_le_length (by omega), List.take_of_length_le (by omega)]
  have e10 : (r1 ++ (r3 ++ r4)).drop (o + xs.length) = r4 := by
    rw [← List.append_assoc, List.drop_append, List.drop_of_length_le (by simp; omega)]
    simp only [List.nil_append, List.length_append]
    rw [show o + xs.length - (r1.length + r3.length) = 0 by omega]; rfl
  rw [e9, e10]
  have h5 := OL_append h1 (RL_OL vs hv) (dj_emp_r _)
  rw [join_emp_r] at h5
  rw [List.drop_drop] at h4
  exact OL_append h5 h4 hdj.2
end
end Go.Proofs.YtjklebickfcddaaDoor.Sep

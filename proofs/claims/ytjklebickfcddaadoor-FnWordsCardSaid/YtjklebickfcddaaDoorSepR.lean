/- Views, values of the model, and how the heap of named blocks goes on. -/
import Derived.Test.YtjklebickfcddaaDoorSepQ
namespace Go.Proofs.YtjklebickfcddaaDoor.Sep
open Go.RowKit
set_option linter.unusedVariables false
set_option linter.unusedSimpArgs false
set_option linter.constructorNameAsVariable false

section
variable {ι ι' : Iota} {F g : H}

theorem vws_length : ∀ (l : List V), (vws l).length = l.length
  | [] => rfl
  | a :: l => by simp [vws, vws_length l]
theorem vws_drop : ∀ (n : Nat) (l : List V), vws (l.drop n) = (vws l).drop n
  | 0, l => rfl
  | n + 1, [] => by simp [vws]
  | n + 1, a :: l => by simpa [vws] using vws_drop n l
theorem vws_take : ∀ (n : Nat) (l : List V), vws (l.take n) = (vws l).take n
  | 0, l => by simp [vws]
  | n + 1, [] => by simp [vws]
  | n + 1, a :: l => by simpa [vws] using vws_take n l

mutual
theorem vw_R (hF : Le F g) : ∀ (v : V) {r : Value}, R ι F v r → R ι' g (vw v) r
  | .und, _, h => by simp [vw, R]
  | .int _ _, _, h => by simpa [vw, R] using h
  | .bool _, _, h => by simpa [vw, R] using h
  | .str _, _, h => by simpa [vw, R] using h
  | .agg l, _, h => by
    simp only [R] at h; simp only [vw, R]; obtain ⟨cs, h1, h2⟩ := h; exact ⟨cs, h1, vws_RL hF l h2⟩
  | .tup l, _, h => by
    simp only [R] at h; simp only [vw, R]; obtain ⟨cs, h1, h2⟩ := h; exact ⟨cs, h1, vws_RL hF l h2⟩
  | .ptr b off, _, h => by simp [vw, R]
  | .nilp, _, h => by simpa [vw, R] using h
  | .pf l off, _, h => by
    simp only [R] at h; simp only [vw, R, vws_length]; obtain ⟨b, o, own, e, cs, ex, h1, h2, h3, h4⟩ := h; exact ⟨b, o, own, e, cs, ex, h1, hF _ _ h2, h3, vws_RL hF l h4⟩
  | .sl n l, _, h => by
    simp only [R] at h; simp only [vw, R, vws_length]
    rcases h with ⟨h1, h2, h3⟩ | ⟨b, o, c, h1, h2, h3⟩
    · exact .inl ⟨h1, by simp [h2, vws], h3⟩
    · refine .inr ⟨b, o, c, h1, h2, ?_⟩
      rcases h3 with h3 | ⟨own, e, cs, ex, h3, h4, h5⟩
      · exact .inl (by simp [h3, vws])
      · exact .inr ⟨own, e, cs, ex, hF _ _ h3, h4, vws_RL hF l h5⟩
  | .rf b off n, _, h => by simp [vw, R]
  | .nils, _, h => by simpa [vw, R] using h
  | .own .., _, h => by simp [R] at h
  | .fn f l, _, h => by
    simp only [R] at h; simp only [vw, R]; obtain ⟨cs, h1, h2⟩ := h; exact ⟨cs, h1, vws_RL hF l h2⟩
  | .fz x l, _, h => by simp only [R] at h; simp only [vw, R]; exact ⟨h.1, FZ_mono hF h.2⟩
theorem vws_RL (hF : Le F g) : ∀ (l : List V) {r : List Value}, RL ι F l r → RL ι' g (vws l) r
  | [], _, h => by simpa [vws, RL] using h
  | a :: l, _, h => by
    simp only [RL] at h; simp only [vws, RL]; obtain ⟨v, r', h1, h2, h3⟩ := h; exact ⟨v, r', h1, vw_R hF a h2, vws_RL hF l h3⟩
end

mutual
theorem vw_OV (hF : Le F g) : ∀ (v : V) {r : Value} {d : H}, OV ι F v r d → Le d g → R ι' g (vw v) r
  | .own e sz n l, _, _, h, hd => by
    simp only [OV] at h
    obtain ⟨b, c, rcs, ex, d', h1, h2, h3, h4, h5, h6, h7, h8, h9⟩ := h
    subst h7
    have hdj : Dj (single b (.row true e rcs ex)) d' := fun x => by
      by_cases hx : x = b
      · subst hx; exact .inr h8
      · exact .inl (by simp [single, hx])
    rw [join_le_iff hdj] at hd
    simp only [vw, R, vws_length]
    refine .inr ⟨b, 0, c, h1, h2, .inr ⟨true, e, rcs, ex, hd.1 b _ (by simp [single]), by omega, ?_⟩⟩
    exact vws_OL hF l h9 hd.2
  | .agg l, _, _, h, hd => by
    simp only [OV] at h; simp only [vw, R]; obtain ⟨cs, h1, h2⟩ := h; exact ⟨cs, h1, vws_OL hF l h2 hd⟩
  | .tup l, _, _, h, hd => by
    simp only [OV] at h; simp only [vw, R]; obtain ⟨cs, h1, h2⟩ := h; exact ⟨cs, h1, vws_OL hF l h2 hd⟩
  | .und, _, _, h, hd => by simp only [OV] at h; exact vw_R hF _ h.2
  | .int _ _, _, _, h, hd => by simp only [OV] at h; exact vw_R hF _ h.2
  | .bool _, _, _, h, hd => by simp only [OV] at h; exact vw_R hF _ h.2
  | .str _, _, _, h, hd => by simp only [OV] at h; exact vw_R hF _ h.2
  | .ptr _ _, _, _, h, hd => by simp only [OV] at h; exact vw_R hF _ h.2
  | .nilp, _, _, h, hd => by simp only [OV] at h; exact vw_R hF _ h.2
  | .pf _ _, _, _, h, hd => by simp only [OV] at h; exact vw_R hF _ h.2
  | .sl _ _, _, _, h, hd => by simp only [OV] at h; exact vw_R hF _ h.2
  | .rf _ _ _, _, _, h, hd => by simp only [OV] at h; exact vw_R hF _ h.2
  | .nils, _, _, h, hd => by simp only [OV] at h; exact vw_R hF _ h.2
  | .fn _ _, _, _, h, hd => by simp only [OV] at h; exact vw_R hF _ h.2
  | .fz _ _, _, _, h, hd => by simp only [OV] at h; exact vw_R hF _ h.2
theorem vws_OL (hF : Le F g) : ∀ (l : List V) {r : List Value} {d : H}, OL ι F l r d → Le d g → RL ι' g (vws l) r
  | [], _, _, h, hd => by simp only [OL] at h; simp [vws, RL, h.1]
  | a :: l, _, _, h, hd => by
    simp only [OL] at h; simp only [vws, RL]
    obtain ⟨v, r', d1, d2, h1, h2, h3, h4, h5⟩ := h
    subst h2
    rw [join_le_iff h3] at hd
    exact ⟨v, r', h1, vw_OV hF a h4 hd.1, vws_OL hF l h5 hd.2⟩
end

theorem single_dj {b : Nat} {k : Blk} {d : H} (h : d b = Option.none) : Dj (single b k) d := fun x => by
  by_cases hx : x = b
  · subst hx; exact .inr h
  · exact .inl (by simp [single, hx])

/-- A named block, as it lies. -/
theorem Hold.blk {h : Hp} {D : Nat → H} (hh : Hold ι F h D g) {b : Nat} {e : TypeId} {sz : Nat} {cs : List V} (hb : h b = .row e sz cs) :
    ∃ b' rcs ex d', ι b = some (b', rcs.length + ex, sz) ∧ D b = join (single b' (.row true e rcs ex)) d' ∧ d' b' = Option.none ∧ cs.length ≤ rcs.length ∧ OL ι F cs (rcs.take cs.length) d' ∧
      g b' = some (.row true e rcs ex) ∧ Le d' g := by
  obtain ⟨b', rcs, ex, d', h1, h2, h3, h4, h5⟩ := hh.live b e sz cs hb
  have := hh.sub b
  rw [h2, join_le_iff (single_dj h3)] at this
  exact ⟨b', rcs, ex, d', h1, h2, h3, h4, h5, this.1 b' _ (by simp [single]), this.2⟩

theorem rf_off {b' off n off' c : Nat} (hn : n ≠ 0 ∨ off = 0 → off' = off) : n ≠ 0 → off' = off := fun h => hn (.inl h)

mutual
theorem dv_R {h : Hp} {D : Nat → H} (hh : Hold ι F h D g) : ∀ (v : V) {r : Value}, R ι F v r → R ι' g (dv h v) r
  | .und, _, hr => by simp [dv, R]
  | .int _ _, _, hr => by simpa [dv, R] using hr
  | .bool _, _, hr => by simpa [dv, R] using hr
  | .str _, _, hr => by simpa [dv, R] using hr
  | .agg l, _, hr => by
    simp only [R] at hr; simp only [dv, R]; obtain ⟨cs, h1, h2⟩ := hr; exact ⟨cs, h1, dvs_RL hh l h2⟩
  | .tup l, _, hr => by
    simp only [R] at hr; simp only [dv, R]; obtain ⟨cs, h1, h2⟩ := hr; exact ⟨cs, h1, dvs_RL hh l h2⟩
  | .ptr b off, r, hr => by
    simp only [dv]
    cases hb : h b with
    | free => simp [R]
    | dead => simp [R]
    | row e sz cs =>
      obtain ⟨b', rcs, ex, d', h1, h2, h3, h4, h5, h6, h7⟩ := hh.blk hb
      simp only [R] at hr
      obtain ⟨b2, tot, sz2, q1, q2⟩ := hr
      rw [h1] at q1
      cases q1
      simp only [R, vws_length]
      refine ⟨b', 0, true, e, rcs, ex, by rw [q2, Nat.zero_add], h6, by omega, ?_⟩
      rw [List.drop_zero]
      exact vws_OL (ι' := ι') (g := g) hh.leF _ h5 h7
  | .nilp, _, hr => by simpa [dv, R] using hr
  | .pf l off, _, hr => by
    have := vw_R (ι' := ι') hh.leF _ hr; simpa only [dv, vw] using this
  | .sl n l, _, hr => by
    have := vw_R (ι' := ι') hh.leF _ hr; simpa only [dv, vw] using this
  | .rf b off n, r, hr => by
    simp only [dv]
    cases hb : h b with
    | free => simp [R]
    | dead => simp [R]
    | row e sz cs =>
      obtain ⟨b', rcs, ex, d', h1, h2, h3, h4, h5, h6, h7⟩ := hh.blk hb
      simp only [R] at hr
      obtain ⟨b2, tot, sz2, off', c, q1, q2, q3, q4, q5, q6⟩ := hr
      rw [h1] at q1
      cases q1
      simp only [R, vws_length]
      refine .inr ⟨b', off', c, q2, q4, ?_⟩
      by_cases h0 : (cs.drop off).take (n * sz) = []
      · left; rw [h0]; simp [vws]
      · right
        have hn : n ≠ 0 := fun hn => h0 (by simp [hn])
        have : off' = off := q3 (.inl hn)
        subst this
        have ho : off' ≤ cs.length := by
          rcases Nat.lt_or_ge cs.length off' with h | h
          · exact absurd (by rw [List.drop_eq_nil_of_le (by omega)]; simp) h0
          · exact h
        refine ⟨true, e, rcs, ex, h6, by simp; omega, ?_⟩
        obtain ⟨d1, h8, h9⟩ := OL_seg off' (n * sz) h5
        have h10 := vws_OL (ι' := ι') (g := g) hh.leF _ h8 (le_trans' h9 h7)
        have : List.take ((cs.drop off').take (n * sz)).length (rcs.drop off') = List.take (n * sz) (List.drop off' (rcs.take cs.length)) := by
          rw [List.drop_take, List.take_take, List.length_take, List.length_drop]
        rw [this]
        exact h10
  | .nils, _, hr => by simpa [dv, R] using hr
  | .own .., _, hr => by simp [R] at hr
  | .fn f l, _, hr => by
    simp only [R] at hr; simp only [dv, R]; obtain ⟨cs, h1, h2⟩ := hr; exact ⟨cs, h1, dvs_RL hh l h2⟩
  | .fz x l, _, hr => by simp only [R] at hr; simp only [dv, R]; exact ⟨hr.1, FZ_mono hh.leF hr.2⟩
theorem dvs_RL {h : Hp} {D : Nat → H} (hh : Hold ι F h D g) : ∀ (l : List V) {r : List Value}, RL ι F l r → RL ι' g (dvs h l) r
  | [], _, hr => by simpa [dvs, RL] using hr
  | a :: l, _, hr => by
    simp only [RL] at hr; simp only [dvs, RL]; obtain ⟨v, r', h1, h2, h3⟩ := hr; exact ⟨v, r', h1, dv_R hh a h2, dvs_RL hh l h3⟩
end
end
end Go.Proofs.YtjklebickfcddaaDoor.Sep

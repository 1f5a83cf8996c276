/- What the functions on trees of dessins compute. -/
import Derived.Test.YtcleiehdddjicaaC29
import Derived.Test.YtcleiehdddjicaaC32
namespace Go.Proofs.Ytcleiehdddjicaa.Sep
open Go.RowKit
set_option linter.unusedVariables false
set_option linter.unusedSimpArgs false
set_option maxRecDepth 20000

theorem iota_one {n : Nat} : iota 0 (n + 1) = iota 0 n ++ [(n : Int)] := by simp [iota, List.range_succ]
theorem c_impl_newClasses {n : Nat} (hn : n ≤ 1048576) : PSpec Try.prog 50 [.int .i64 n] fun v => v = .own 2 1 n (vi .i64 (iota 0 n)) := by
  refine impl_newClasses_f.f ?_
  simp (disch := first | omega | (simp only [List.length_append, List.length_cons, List.length_nil, List.length_replicate, List.length_set, List.length_take, List.length_drop, vi_len, vb_len, vo_len, vl_len, vn_len]; omega)) only [↓EC, EV, EL, E2, E3, ER, seval, ↓reduceIte, false_imp_iff, impl_newClasses_F]
  refine LP_ofE (σ := Nat) [1, 1] 100000 [] (fun s => [.own 2 1 s (vi .i64 (iota 0 s)), .int .i64 s]) (fun s => []) (fun s => s ≤ n) (fun s => n - s) 0 (by simp [frameOk, names, lpz, sclp, scv, scvs, vi_nrf, vb_nrf, vt_nrf, v2_nrf, v3_nrf, nrfs, nrf, sc_vi, sc_vb, sc_vt, sc_v2, sc_v3, sc_vo, sc_vl, vo_nrf, vl_nrf, sc_vn, vn_nrf]) (Nat.zero_le _) ?_ ?_
  · simp (disch := first | omega | (simp only [List.length_append, List.length_cons, List.length_nil, List.length_replicate, List.length_set, List.length_take, List.length_drop, vi_len, vb_len, vo_len, vl_len, vn_len]; omega)) only [↓EC, EV, EL, E2, E3, ER, seval, ↓reduceIte, false_imp_iff, ColV_def]
    exact ⟨fun _ => trivial, rfl⟩
  · rintro s h1
    have hl := iota_len (k := 0) (n := s)
    simp (disch := first | omega | (simp only [List.length_append, List.length_cons, List.length_nil, List.length_replicate, List.length_set, List.length_take, List.length_drop, vi_len, vb_len, vo_len, vl_len, vn_len]; omega)) only [↓EC, EV, EL, E2, E3, ER, seval, ↓reduceIte, false_imp_iff, ColV_def, lheap_def]
    (refine Split.mk (fun h => ?_) (fun h => ?_) <;> (try simp only [decide_eq_true_eq, decide_eq_false_iff_not, beq_iff_eq, bne_iff_ne, beq_eq_false_iff_ne, bne_eq_false_iff_eq, Bool.not_eq_true', Bool.not_eq_false', Bool.and_eq_true, Bool.or_eq_true, Bool.and_eq_false_iff, Bool.or_eq_false_iff, Int.not_lt, Int.not_le, Bool.false_eq_true, Bool.true_eq_false, false_and, and_false, true_and, and_true, or_false, false_or, or_true, true_or, not_true_eq_false, not_false_eq_true] at h))
    · (try simp (disch := first | omega | (simp only [List.length_append, List.length_cons, List.length_nil, List.length_replicate, List.length_set, List.length_take, List.length_drop, vi_len, vb_len, vo_len, vl_len, vn_len]; omega)) only [↓EC, EV, EL, E2, E3, ER, seval, ↓reduceIte, false_imp_iff, hl])
      exact ⟨s + 1, by rw [iota_one]; rfl, by omega, by omega⟩
    · have : s = n := by omega
      subst this
      (try simp (disch := first | omega | (simp only [List.length_append, List.length_cons, List.length_nil, List.length_replicate, List.length_set, List.length_take, List.length_drop, vi_len, vb_len, vo_len, vl_len, vn_len]; omega)) only [↓EC, EV, EL, E2, E3, ER, seval, ↓reduceIte, false_imp_iff, hl])
theorem c_spec_l09Alone {n : Nat} (hn : n ≤ 1048576) : PSpec Try.prog 44 [.int .i64 n] fun v => v = .own 2 1 n (vi .i64 (iota 0 n)) := by
  refine spec_l09Alone_f.f ?_
  simp (disch := first | omega | (simp only [List.length_append, List.length_cons, List.length_nil, List.length_replicate, List.length_set, List.length_take, List.length_drop, vi_len, vb_len, vo_len, vl_len, vn_len]; omega)) only [↓EC, EV, EL, E2, E3, ER, seval, ↓reduceIte, false_imp_iff, spec_l09Alone_F]
  refine LP_ofE (σ := Nat) [1, 1] 100000 [] (fun s => [.own 2 1 s (vi .i64 (iota 0 s)), .int .i64 s]) (fun s => []) (fun s => s ≤ n) (fun s => n - s) 0 (by simp [frameOk, names, lpz, sclp, scv, scvs, vi_nrf, vb_nrf, vt_nrf, v2_nrf, v3_nrf, nrfs, nrf, sc_vi, sc_vb, sc_vt, sc_v2, sc_v3, sc_vo, sc_vl, vo_nrf, vl_nrf, sc_vn, vn_nrf]) (Nat.zero_le _) ?_ ?_
  · simp (disch := first | omega | (simp only [List.length_append, List.length_cons, List.length_nil, List.length_replicate, List.length_set, List.length_take, List.length_drop, vi_len, vb_len, vo_len, vl_len, vn_len]; omega)) only [↓EC, EV, EL, E2, E3, ER, seval, ↓reduceIte, false_imp_iff, ColV_def]
    exact ⟨fun _ => trivial, rfl⟩
  · rintro s h1
    have hl := iota_len (k := 0) (n := s)
    simp (disch := first | omega | (simp only [List.length_append, List.length_cons, List.length_nil, List.length_replicate, List.length_set, List.length_take, List.length_drop, vi_len, vb_len, vo_len, vl_len, vn_len]; omega)) only [↓EC, EV, EL, E2, E3, ER, seval, ↓reduceIte, false_imp_iff, ColV_def, lheap_def]
    (refine Split.mk (fun h => ?_) (fun h => ?_) <;> (try simp only [decide_eq_true_eq, decide_eq_false_iff_not, beq_iff_eq, bne_iff_ne, beq_eq_false_iff_ne, bne_eq_false_iff_eq, Bool.not_eq_true', Bool.not_eq_false', Bool.and_eq_true, Bool.or_eq_true, Bool.and_eq_false_iff, Bool.or_eq_false_iff, Int.not_lt, Int.not_le, Bool.false_eq_true, Bool.true_eq_false, false_and, and_false, true_and, and_true, or_false, false_or, or_true, true_or, not_true_eq_false, not_false_eq_true] at h))
    · (try simp (disch := first | omega | (simp only [List.length_append, List.length_cons, List.length_nil, List.length_replicate, List.length_set, List.length_take, List.length_drop, vi_len, vb_len, vo_len, vl_len, vn_len]; omega)) only [↓EC, EV, EL, E2, E3, ER, seval, ↓reduceIte, false_imp_iff, hl])
      exact ⟨s + 1, by rw [iota_one]; rfl, by omega, by omega⟩
    · have : s = n := by omega
      subst this
      (try simp (disch := first | omega | (simp only [List.length_append, List.length_cons, List.length_nil, List.length_replicate, List.length_set, List.length_take, List.length_drop, vi_len, vb_len, vo_len, vl_len, vn_len]; omega)) only [↓EC, EV, EL, E2, E3, ER, seval, ↓reduceIte, false_imp_iff, hl])
def jnT (c : List Int) (f t : Int) (i : Nat) : List Int := (jnL c f t).take i ++ c.drop i
theorem jnT_0 {c : List Int} {f t : Int} : jnT c f t 0 = c := by simp [jnT]
theorem jnT_step {c : List Int} {f t : Int} {i : Nat} (hi : i < c.length) : (jnT c f t i).set i (if gi c i = f then t else gi c i) = jnT c f t (i + 1) := by
  unfold jnT
  have hl : ((jnL c f t).take i).length = i := by rw [List.length_take, jnL_len]; omega
  rw [List.set_append_right _ _ (by omega), hl, Nat.sub_self, drop_getD (d := 0) hi, List.take_add_one]
  have : (jnL c f t)[i]? = some (if gi c i = f then t else gi c i) := by simp [jnL, gi, List.getD, hi]
  rw [this]
  simp
theorem jnT_at {c : List Int} {f t : Int} {i : Nat} (hi : i < c.length) : gi (jnT c f t i) i = gi c i := by
  unfold jnT
  have hl : ((jnL c f t).take i).length = i := by rw [List.length_take, jnL_len]; omega
  rw [gi_app, if_neg (by omega), hl, Nat.sub_self, drop_getD (d := 0) hi]; rfl
theorem jnT_len {c : List Int} {f t : Int} {i : Nat} (hi : i ≤ c.length) : (jnT c f t i).length = c.length := by simp [jnT, jnL_len]; omega
theorem jnT_end {c : List Int} {f t : Int} : jnT c f t c.length = jnL c f t := by
  unfold jnT
  rw [List.take_of_length_le (by rw [jnL_len]; exact Nat.le_refl _), List.drop_length, List.append_nil]
theorem jnT_same {c : List Int} {f t : Int} {i : Nat} (hi : i < c.length) (h : ¬ gi c i = f) : jnT c f t (i + 1) = jnT c f t i := by
  rw [← jnT_step hi, if_neg h]
  refine gi_ext (by simp) fun j hj => ?_
  rw [gi_set]
  split
  · rename_i h2
    obtain ⟨rfl, _⟩ := h2
    exact (jnT_at hi).symm
  · rfl
theorem c_impl_join {c : List Int} {x y : Int} (hc : c.length ≤ 1048576) (hx : 0 ≤ x ∧ x < c.length) (hy : 0 ≤ y ∧ y < c.length) :
    PSpecM Try.prog 51 [.rf 0 0 c.length, .int .i64 x, .int .i64 y] [(0, 2, 1)] [vi .i64 c] fun v cs => v = .bool (decide (¬ gi c x.toNat = gi c y.toNat)) ∧ cs = [vi .i64 (jnL c (max (gi c x.toNat) (gi c y.toNat)) (min (gi c x.toNat) (gi c y.toNat)))] := by
  refine impl_classes_join_f.m rfl rfl ?_
  simp (disch := first | omega | (simp only [List.length_append, List.length_cons, List.length_nil, List.length_replicate, List.length_set, List.length_take, List.length_drop, vi_len, vb_len, vo_len, vl_len, vn_len]; omega)) only [↓EC, EV, EL, E2, E3, ER, seval, ↓reduceIte, false_imp_iff, impl_classes_join_F]
  rw [show (if gi c y.toNat < gi c x.toNat then gi c y.toNat else gi c x.toNat) = min (gi c x.toNat) (gi c y.toNat) from by split <;> omega,
    show (if gi c x.toNat < gi c y.toNat then gi c y.toNat else gi c x.toNat) = max (gi c x.toNat) (gi c y.toNat) from by split <;> omega]
  have hmm : (min (gi c x.toNat) (gi c y.toNat) != max (gi c x.toNat) (gi c y.toNat)) = decide (¬ gi c x.toNat = gi c y.toNat) := by
    rw [Bool.eq_iff_iff, bne_iff_ne, decide_eq_true_eq]; omega
  rw [← hmm]
  generalize min (gi c x.toNat) (gi c y.toNat) = t
  generalize max (gi c x.toNat) (gi c y.toNat) = f
  refine LP_of (σ := Nat) 100000 [(0, 2, 1)] (fun s => [.int .i64 s]) (fun s => [vi .i64 (jnT c f t s)]) (fun s => s ≤ c.length) (fun s => c.length - s) 0 (by simp [frameOk, names, lpz, sclp, scv, scvs, vi_nrf, vb_nrf, vt_nrf, v2_nrf, v3_nrf, nrfs, nrf, sc_vi, sc_vb, sc_vt, sc_v2, sc_v3, sc_vo, sc_vl, vo_nrf, vl_nrf, sc_vn, vn_nrf]) (Nat.zero_le _) ?_ ?_
  · simp (disch := first | omega | (simp only [List.length_append, List.length_cons, List.length_nil, List.length_replicate, List.length_set, List.length_take, List.length_drop, vi_len, vb_len, vo_len, vl_len, vn_len]; omega)) only [↓EC, EV, EL, E2, E3, ER, seval, ↓reduceIte, false_imp_iff, ColV_def, jnT_0]
  · rintro i h1
    have hl := jnT_len (f := f) (t := t) h1
    simp (disch := first | omega | (simp only [List.length_append, List.length_cons, List.length_nil, List.length_replicate, List.length_set, List.length_take, List.length_drop, vi_len, vb_len, vo_len, vl_len, vn_len]; omega)) only [↓EC, EV, EL, E2, E3, ER, seval, ↓reduceIte, false_imp_iff, ColV_def, lheap_def]
    (refine Split.mk (fun h => ?_) (fun h => ?_) <;> (try simp only [decide_eq_true_eq, decide_eq_false_iff_not, beq_iff_eq, bne_iff_ne, beq_eq_false_iff_ne, bne_eq_false_iff_eq, Bool.not_eq_true', Bool.not_eq_false', Bool.and_eq_true, Bool.or_eq_true, Bool.and_eq_false_iff, Bool.or_eq_false_iff, Int.not_lt, Int.not_le, Bool.false_eq_true, Bool.true_eq_false, false_and, and_false, true_and, and_true, or_false, false_or, or_true, true_or, not_true_eq_false, not_false_eq_true] at h))
    · have hi : i < c.length := by omega
      have hg := jnT_at (f := f) (t := t) hi
      have hs := jnT_step (f := f) (t := t) hi
      (try simp (disch := first | omega | (simp only [List.length_append, List.length_cons, List.length_nil, List.length_replicate, List.length_set, List.length_take, List.length_drop, vi_len, vb_len, vo_len, vl_len, vn_len]; omega)) only [↓EC, EV, EL, E2, E3, ER, seval, ↓reduceIte, false_imp_iff, hl, hg])
      (refine Split.mk (fun h => ?_) (fun h => ?_) <;> (try simp only [decide_eq_true_eq, decide_eq_false_iff_not, beq_iff_eq, bne_iff_ne, beq_eq_false_iff_ne, bne_eq_false_iff_eq, Bool.not_eq_true', Bool.not_eq_false', Bool.and_eq_true, Bool.or_eq_true, Bool.and_eq_false_iff, Bool.or_eq_false_iff, Int.not_lt, Int.not_le, Bool.false_eq_true, Bool.true_eq_false, false_and, and_false, true_and, and_true, or_false, false_or, or_true, true_or, not_true_eq_false, not_false_eq_true] at h))
      · (try simp (disch := first | omega | (simp only [List.length_append, List.length_cons, List.length_nil, List.length_replicate, List.length_set, List.length_take, List.length_drop, vi_len, vb_len, vo_len, vl_len, vn_len]; omega)) only [↓EC, EV, EL, E2, E3, ER, seval, ↓reduceIte, false_imp_iff, hl, hg])
        rw [if_pos h] at hs
        exact ⟨i + 1, rfl, by rw [← hs], by omega, by omega⟩
      · (try simp (disch := first | omega | (simp only [List.length_append, List.length_cons, List.length_nil, List.length_replicate, List.length_set, List.length_take, List.length_drop, vi_len, vb_len, vo_len, vl_len, vn_len]; omega)) only [↓EC, EV, EL, E2, E3, ER, seval, ↓reduceIte, false_imp_iff, hl, hg])
        exact ⟨i + 1, rfl, by rw [jnT_same hi h], by omega, by omega⟩
    · have : i = c.length := by omega
      subst this
      (try simp (disch := first | omega | (simp only [List.length_append, List.length_cons, List.length_nil, List.length_replicate, List.length_set, List.length_take, List.length_drop, vi_len, vb_len, vo_len, vl_len, vn_len]; omega)) only [↓EC, EV, EL, E2, E3, ER, seval, ↓reduceIte, false_imp_iff, jnT_end])
theorem c_spec_l09Join {c : List Int} {x y : Int} (hc : c.length ≤ 1048576) (hx : 0 ≤ x ∧ x < c.length) (hy : 0 ≤ y ∧ y < c.length) :
    PSpecM Try.prog 45 [.rf 0 0 c.length, .int .i64 x, .int .i64 y] [(0, 2, 1)] [vi .i64 c] fun v cs => v = .bool (decide (¬ gi c y.toNat = gi c x.toNat)) ∧ cs = [vi .i64 (jnL c (gi c y.toNat) (gi c x.toNat))] := by
  refine spec_l09Join_f.m rfl rfl ?_
  simp (disch := first | omega | (simp only [List.length_append, List.length_cons, List.length_nil, List.length_replicate, List.length_set, List.length_take, List.length_drop, vi_len, vb_len, vo_len, vl_len, vn_len]; omega)) only [↓EC, EV, EL, E2, E3, ER, seval, ↓reduceIte, false_imp_iff, spec_l09Join_F]
  (refine Split.mk (fun h => ?_) (fun h => ?_) <;> (try simp only [decide_eq_true_eq, decide_eq_false_iff_not, beq_iff_eq, bne_iff_ne, beq_eq_false_iff_ne, bne_eq_false_iff_eq, Bool.not_eq_true', Bool.not_eq_false', Bool.and_eq_true, Bool.or_eq_true, Bool.and_eq_false_iff, Bool.or_eq_false_iff, Int.not_lt, Int.not_le, Bool.false_eq_true, Bool.true_eq_false, false_and, and_false, true_and, and_true, or_false, false_or, or_true, true_or, not_true_eq_false, not_false_eq_true] at h))
  · (try simp (disch := first | omega | (simp only [List.length_append, List.length_cons, List.length_nil, List.length_replicate, List.length_set, List.length_take, List.length_drop, vi_len, vb_len, vo_len, vl_len, vn_len]; omega)) only [↓EC, EV, EL, E2, E3, ER, seval, ↓reduceIte, false_imp_iff])
    rw [h, jnL_self]
    simp
  · have hh := h
    generalize gi c y.toNat = f at *
    generalize gi c x.toNat = t at *
    refine LP_of (σ := Nat) 100000 [(0, 2, 1)] (fun s => [.int .i64 s]) (fun s => [vi .i64 (jnT c f t s)]) (fun s => s ≤ c.length) (fun s => c.length - s) 0 (by simp [frameOk, names, lpz, sclp, scv, scvs, vi_nrf, vb_nrf, vt_nrf, v2_nrf, v3_nrf, nrfs, nrf, sc_vi, sc_vb, sc_vt, sc_v2, sc_v3, sc_vo, sc_vl, vo_nrf, vl_nrf, sc_vn, vn_nrf]) (Nat.zero_le _) ?_ ?_
    · simp (disch := first | omega | (simp only [List.length_append, List.length_cons, List.length_nil, List.length_replicate, List.length_set, List.length_take, List.length_drop, vi_len, vb_len, vo_len, vl_len, vn_len]; omega)) only [↓EC, EV, EL, E2, E3, ER, seval, ↓reduceIte, false_imp_iff, ColV_def, jnT_0]
    · rintro i h1
      have hl := jnT_len (f := f) (t := t) h1
      simp (disch := first | omega | (simp only [List.length_append, List.length_cons, List.length_nil, List.length_replicate, List.length_set, List.length_take, List.length_drop, vi_len, vb_len, vo_len, vl_len, vn_len]; omega)) only [↓EC, EV, EL, E2, E3, ER, seval, ↓reduceIte, false_imp_iff, ColV_def, lheap_def, hl]
      (refine Split.mk (fun h => ?_) (fun h => ?_) <;> (try simp only [decide_eq_true_eq, decide_eq_false_iff_not, beq_iff_eq, bne_iff_ne, beq_eq_false_iff_ne, bne_eq_false_iff_eq, Bool.not_eq_true', Bool.not_eq_false', Bool.and_eq_true, Bool.or_eq_true, Bool.and_eq_false_iff, Bool.or_eq_false_iff, Int.not_lt, Int.not_le, Bool.false_eq_true, Bool.true_eq_false, false_and, and_false, true_and, and_true, or_false, false_or, or_true, true_or, not_true_eq_false, not_false_eq_true] at h))
      · have hi : i < c.length := by omega
        have hg := jnT_at (f := f) (t := t) hi
        have hs := jnT_step (f := f) (t := t) hi
        (try simp (disch := first | omega | (simp only [List.length_append, List.length_cons, List.length_nil, List.length_replicate, List.length_set, List.length_take, List.length_drop, vi_len, vb_len, vo_len, vl_len, vn_len]; omega)) only [↓EC, EV, EL, E2, E3, ER, seval, ↓reduceIte, false_imp_iff, hl, hg])
        (refine Split.mk (fun h => ?_) (fun h => ?_) <;> (try simp only [decide_eq_true_eq, decide_eq_false_iff_not, beq_iff_eq, bne_iff_ne, beq_eq_false_iff_ne, bne_eq_false_iff_eq, Bool.not_eq_true', Bool.not_eq_false', Bool.and_eq_true, Bool.or_eq_true, Bool.and_eq_false_iff, Bool.or_eq_false_iff, Int.not_lt, Int.not_le, Bool.false_eq_true, Bool.true_eq_false, false_and, and_false, true_and, and_true, or_false, false_or, or_true, true_or, not_true_eq_false, not_false_eq_true] at h))
        · (try simp (disch := first | omega | (simp only [List.length_append, List.length_cons, List.length_nil, List.length_replicate, List.length_set, List.length_take, List.length_drop, vi_len, vb_len, vo_len, vl_len, vn_len]; omega)) only [↓EC, EV, EL, E2, E3, ER, seval, ↓reduceIte, false_imp_iff, hl, hg])
          rw [if_pos h] at hs
          exact ⟨i + 1, rfl, by rw [← hs], by omega, by omega⟩
        · (try simp (disch := first | omega | (simp only [List.length_append, List.length_cons, List.length_nil, List.length_replicate, List.length_set, List.length_take, List.length_drop, vi_len, vb_len, vo_len, vl_len, vn_len]; omega)) only [↓EC, EV, EL, E2, E3, ER, seval, ↓reduceIte, false_imp_iff, hl, hg])
          exact ⟨i + 1, rfl, by rw [jnT_same hi h], by omega, by omega⟩
      · have : i = c.length := by omega
        subst this
        (try simp (disch := first | omega | (simp only [List.length_append, List.length_cons, List.length_nil, List.length_replicate, List.length_set, List.length_take, List.length_drop, vi_len, vb_len, vo_len, vl_len, vn_len]; omega)) only [↓EC, EV, EL, E2, E3, ER, seval, ↓reduceIte, false_imp_iff, jnT_end])
        simp [hh]
theorem trI_yes {b w : List Int} {n : Int} {x : Nat} (h : ¬ gi (trI b w n x).1 (gi (endV b w n) (x * 2)).toNat = gi (trI b w n x).1 (gi (endV b w n) (x * 2 + 1)).toNat) : trI b w n (x + 1) =
    (jnL (trI b w n x).1 (max (gi (trI b w n x).1 (gi (endV b w n) (x * 2)).toNat) (gi (trI b w n x).1 (gi (endV b w n) (x * 2 + 1)).toNat)) (min (gi (trI b w n x).1 (gi (endV b w n) (x * 2)).toNat) (gi (trI b w n x).1 (gi (endV b w n) (x * 2 + 1)).toNat)), (trI b w n x).2 ++ [(x : Int)]) := by
  simp only [trI, if_neg h]
theorem trI_no {b w : List Int} {n : Int} {x : Nat} (h : gi (trI b w n x).1 (gi (endV b w n) (x * 2)).toNat = gi (trI b w n x).1 (gi (endV b w n) (x * 2 + 1)).toNat) : trI b w n (x + 1) =
    (jnL (trI b w n x).1 (max (gi (trI b w n x).1 (gi (endV b w n) (x * 2)).toNat) (gi (trI b w n x).1 (gi (endV b w n) (x * 2 + 1)).toNat)) (min (gi (trI b w n x).1 (gi (endV b w n) (x * 2)).toNat) (gi (trI b w n x).1 (gi (endV b w n) (x * 2 + 1)).toNat)), (trI b w n x).2) := by
  simp only [trI, if_pos h]
theorem c_impl_treeEdges {n : Int} {b w : List Int} (hb : okP b) (hw : okP w) (h0 : isD n b w) : PSpec Try.prog 30 [vD n b w] fun v => v = .own 2 1 (treeL b w n).length (vi .i64 (treeL b w n)) := by
  have hl := hb.len
  have hk := hw.len
  have hn := h0.pb.1
  have lw := h0.pw.lo hw
  obtain ⟨hal, hal2⟩ := allV_len (b := b) (w := w) hn
  have hel : (endV b w n).length = n.toNat * 2 := eO_len _
  have htr : (trI b w n n.toNat).2 = treeL b w n := (tr_rel (h0.pb.ltP hb) (h0.pw.ltP hw) lw hn n.toNat (by omega)).2
  refine impl_treeEdges_f.f ?_
  have hvs := c_impl_vertices hb hw h0
  unfold vD at hvs ⊢
  simp (disch := first | omega | (simp only [List.length_append, List.length_cons, List.length_nil, List.length_replicate, List.length_set, List.length_take, List.length_drop, vi_len, vb_len, vo_len, vl_len, vn_len]; omega)) only [↓EC, EV, EL, E2, E3, ER, seval, ↓reduceIte, false_imp_iff, impl_treeEdges_F, hl, hk]
  refine pcd_wv (by simp [nrfs_cons, nrf_agg, nrf_int, vi_nrf, nrfs_nil]) hvs ?_
  (try simp (disch := first | omega | (simp only [List.length_append, List.length_cons, List.length_nil, List.length_replicate, List.length_set, List.length_take, List.length_drop, vi_len, vb_len, vo_len, vl_len, vn_len]; omega)) only [↓EC, EV, EL, E2, E3, ER, seval, ↓reduceIte, false_imp_iff, hl, hk])
  refine pcd_o (c_impl_newClasses (by omega)) ?_
  (try simp (disch := first | omega | (simp only [List.length_append, List.length_cons, List.length_nil, List.length_replicate, List.length_set, List.length_take, List.length_drop, vi_len, vb_len, vo_len, vl_len, vn_len]; omega)) only [↓EC, EV, EL, E2, E3, ER, seval, ↓reduceIte, false_imp_iff, hl, hk])
  have hef : ∀ x : Nat, (x : Int) < n → (0 ≤ gi (endV b w n) (x * 2) ∧ gi (endV b w n) (x * 2) < (allV b w n).length) ∧ (0 ≤ gi (endV b w n) (x * 2 + 1) ∧ gi (endV b w n) (x * 2 + 1) < (allV b w n).length) := fun x hx => by
    have e0 := ends0 (h0.pb.ltP hb) (h0.pw.ltP hw) hn hx
    have e1 := ends1 (h0.pb.ltP hb) (h0.pw.ltP hw) lw hn hx
    have b0 := whichL_lim (x := x) hn (h0.pb.ltP hb)
    have w0 := whichL_lim (x := x) hn (h0.pw.ltP hw)
    omega
  refine LP_ofE (σ := Nat) [1, 1] 100000 [(65, 30, 1), (79, 2, 1)] (fun s => [.own 2 1 (trI b w n s).2.length (vi .i64 (trI b w n s).2), .int .i64 s]) (fun s => [.int .i64 n :: vi .u8 (b ++ w), vi .i64 (trI b w n s).1])
    (fun s => (s : Int) ≤ n) (fun s => (n - s).toNat) 0 (by simp [frameOk, names, lpz, sclp, scv, scvs, vi_nrf, vb_nrf, vt_nrf, v2_nrf, v3_nrf, nrfs, nrf, sc_vi, sc_vb, sc_vt, sc_v2, sc_v3, sc_vo, sc_vl, vo_nrf, vl_nrf, sc_vn, vn_nrf]) (by simp only [Int.natCast_zero]; omega) ?_ ?_
  · simp (disch := first | omega | (simp only [List.length_append, List.length_cons, List.length_nil, List.length_replicate, List.length_set, List.length_take, List.length_drop, vi_len, vb_len, vo_len, vl_len, vn_len]; omega)) only [↓EC, EV, EL, E2, E3, ER, seval, ↓reduceIte, false_imp_iff, ColV_def]
    exact ⟨fun _ => trivial, rfl, rfl⟩
  · rintro x h1
    obtain ⟨hc1, hc2⟩ := trI_len (b := b) (w := w) (n := n) x
    simp (disch := first | omega | (simp only [List.length_append, List.length_cons, List.length_nil, List.length_replicate, List.length_set, List.length_take, List.length_drop, vi_len, vb_len, vo_len, vl_len, vn_len]; omega)) only [↓EC, EV, EL, E2, E3, ER, seval, ↓reduceIte, false_imp_iff, ColV_def, lheap_def]
    (refine Split.mk (fun h => ?_) (fun h => ?_) <;> (try simp only [decide_eq_true_eq, decide_eq_false_iff_not, beq_iff_eq, bne_iff_ne, beq_eq_false_iff_ne, bne_eq_false_iff_eq, Bool.not_eq_true', Bool.not_eq_false', Bool.and_eq_true, Bool.or_eq_true, Bool.and_eq_false_iff, Bool.or_eq_false_iff, Int.not_lt, Int.not_le, Bool.false_eq_true, Bool.true_eq_false, false_and, and_false, true_and, and_true, or_false, false_or, or_true, true_or, not_true_eq_false, not_false_eq_true] at h))
    · obtain ⟨f0, f1⟩ := hef x (by omega)
      (try simp (disch := first | omega | (simp only [List.length_append, List.length_cons, List.length_nil, List.length_replicate, List.length_set, List.length_take, List.length_drop, vi_len, vb_len, vo_len, vl_len, vn_len]; omega)) only [↓EC, EV, EL, E2, E3, ER, seval, ↓reduceIte, false_imp_iff, hl, hk, hel, hc1])
      refine pcm [79] rfl ?_
      (try simp (disch := first | omega | (simp only [List.length_append, List.length_cons, List.length_nil, List.length_replicate, List.length_set, List.length_take, List.length_drop, vi_len, vb_len, vo_len, vl_len, vn_len]; omega)) only [↓EC, EV, EL, E2, E3, ER, seval, ↓reduceIte, false_imp_iff, hl, hk, hel, hc1])
      rw [← hc1] at f0 f1 ⊢
      refine callM_v (c_impl_join (by omega) f0 f1) ?_
      have hj := jnL_len (c := (trI b w n x).1) (f := max (gi (trI b w n x).1 (gi (endV b w n) (x * 2)).toNat) (gi (trI b w n x).1 (gi (endV b w n) (x * 2 + 1)).toNat)) (t := min (gi (trI b w n x).1 (gi (endV b w n) (x * 2)).toNat) (gi (trI b w n x).1 (gi (endV b w n) (x * 2 + 1)).toNat))
      (try simp (disch := first | omega | (simp only [List.length_append, List.length_cons, List.length_nil, List.length_replicate, List.length_set, List.length_take, List.length_drop, vi_len, vb_len, vo_len, vl_len, vn_len]; omega)) only [↓EC, EV, EL, E2, E3, ER, seval, ↓reduceIte, false_imp_iff, hl, hk, hel, hj])
      (refine Split.mk (fun h => ?_) (fun h => ?_) <;> (try simp only [decide_eq_true_eq, decide_eq_false_iff_not, beq_iff_eq, bne_iff_ne, beq_eq_false_iff_ne, bne_eq_false_iff_eq, Bool.not_eq_true', Bool.not_eq_false', Bool.and_eq_true, Bool.or_eq_true, Bool.and_eq_false_iff, Bool.or_eq_false_iff, Int.not_lt, Int.not_le, Bool.false_eq_true, Bool.true_eq_false, false_and, and_false, true_and, and_true, or_false, false_or, or_true, true_or, not_true_eq_false, not_false_eq_true] at h))
      · (try simp (disch := first | omega | (simp only [List.length_append, List.length_cons, List.length_nil, List.length_replicate, List.length_set, List.length_take, List.length_drop, vi_len, vb_len, vo_len, vl_len, vn_len]; omega)) only [↓EC, EV, EL, E2, E3, ER, seval, ↓reduceIte, false_imp_iff, hl, hk])
        exact ⟨x + 1, by rw [trI_yes h]; simp, by rw [trI_yes h], by omega, by omega⟩
      · (try simp (disch := first | omega | (simp only [List.length_append, List.length_cons, List.length_nil, List.length_replicate, List.length_set, List.length_take, List.length_drop, vi_len, vb_len, vo_len, vl_len, vn_len]; omega)) only [↓EC, EV, EL, E2, E3, ER, seval, ↓reduceIte, false_imp_iff, hl, hk])
        exact ⟨x + 1, by rw [trI_no (Decidable.not_not.1 h)]; simp, by rw [trI_no (Decidable.not_not.1 h)], by omega, by omega⟩
    · have : x = n.toNat := by omega
      subst this
      (try simp (disch := first | omega | (simp only [List.length_append, List.length_cons, List.length_nil, List.length_replicate, List.length_set, List.length_take, List.length_drop, vi_len, vb_len, vo_len, vl_len, vn_len]; omega)) only [↓EC, EV, EL, E2, E3, ER, seval, ↓reduceIte, false_imp_iff])
      rw [htr]
theorem c_spec_l01Which {p : List Int} {n : Int} (hp : lo16 p) (hpn : ltP p n) (hn : 1 ≤ n ∧ n ≤ 16) : PSpec Try.prog 43 [.agg (vi .u8 p), .int .i64 n] fun v => v = .agg (vi .i64 (whichL p n)) := by
  have hl := hp.1
  have hcl := cyc_lim (p := p) hn
  have hat := cyc_at hpn hn
  refine spec_l01Which_f.f ?_
  simp (disch := first | omega | (simp only [List.length_append, List.length_cons, List.length_nil, List.length_replicate, List.length_set, List.length_take, List.length_drop, vi_len, vb_len, vo_len, vl_len, vn_len]; omega)) only [↓EC, EV, EL, E2, E3, ER, seval, ↓reduceIte, false_imp_iff, spec_l01Which_F, hl]
  refine pcd_v (c_spec_l01Cycles hp hn) ?_
  (try simp (disch := first | omega | (simp only [List.length_append, List.length_cons, List.length_nil, List.length_replicate, List.length_set, List.length_take, List.length_drop, vi_len, vb_len, vo_len, vl_len, vn_len]; omega)) only [↓EC, EV, EL, E2, E3, ER, seval, ↓reduceIte, false_imp_iff, hl])
  unfold whichL
  generalize cyc p n = C at *
  refine LP_of (σ := Nat) 100000 [(66, 28, 1), (68, 60, 1), (69, 60, 1)] (fun s => [.int .i64 s]) (fun s => [vi .u8 p, vi .i64 (List.replicate 16 0), vi .i64 (wO C s)])
    (fun s => s ≤ C.length) (fun s => C.length - s) 0 (by simp [frameOk, names, lpz, sclp, scv, scvs, vi_nrf, vb_nrf, vt_nrf, v2_nrf, v3_nrf, nrfs, nrf, sc_vi, sc_vb, sc_vt, sc_v2, sc_v3, sc_vo, sc_vl, vo_nrf, vl_nrf, sc_vn, vn_nrf]) (Nat.zero_le _) ?_ ?_
  · simp (disch := first | omega | (simp only [List.length_append, List.length_cons, List.length_nil, List.length_replicate, List.length_set, List.length_take, List.length_drop, vi_len, vb_len, vo_len, vl_len, vn_len]; omega)) only [↓EC, EV, EL, E2, E3, ER, seval, ↓reduceIte, false_imp_iff, ColV_def]
    rfl
  · rintro v h1
    have hwl := wO_len (A := C) v
    simp (disch := first | omega | (simp only [List.length_append, List.length_cons, List.length_nil, List.length_replicate, List.length_set, List.length_take, List.length_drop, vi_len, vb_len, vo_len, vl_len, vn_len]; omega)) only [↓EC, EV, EL, E2, E3, ER, seval, ↓reduceIte, false_imp_iff, ColV_def, lheap_def]
    (refine Split.mk (fun h => ?_) (fun h => ?_) <;> (try simp only [decide_eq_true_eq, decide_eq_false_iff_not, beq_iff_eq, bne_iff_ne, beq_eq_false_iff_ne, bne_eq_false_iff_eq, Bool.not_eq_true', Bool.not_eq_false', Bool.and_eq_true, Bool.or_eq_true, Bool.and_eq_false_iff, Bool.or_eq_false_iff, Int.not_lt, Int.not_le, Bool.false_eq_true, Bool.true_eq_false, false_and, and_false, true_and, and_true, or_false, false_or, or_true, true_or, not_true_eq_false, not_false_eq_true] at h))
    · have hv : v < C.length := by omega
      have hvat := hat _ (gl_mem hv)
      (try simp (disch := first | omega | (simp only [List.length_append, List.length_cons, List.length_nil, List.length_replicate, List.length_set, List.length_take, List.length_drop, vi_len, vb_len, vo_len, vl_len, vn_len]; omega)) only [↓EC, EV, EL, E2, E3, ER, seval, ↓reduceIte, false_imp_iff])
      refine LP_of (σ := Nat) 200000 [(66, 28, 1), (68, 60, 1), (69, 60, 1)] (fun s => [.int .i64 s]) (fun s => [vi .u8 p, vi .i64 (List.replicate 16 0), vi .i64 (wI v (gl C v) s (wO C v))])
        (fun s => s ≤ (gl C v).length) (fun s => (gl C v).length - s) 0 (by simp [frameOk, names, lpz, sclp, scv, scvs, vi_nrf, vb_nrf, vt_nrf, v2_nrf, v3_nrf, nrfs, nrf, sc_vi, sc_vb, sc_vt, sc_v2, sc_v3, sc_vo, sc_vl, vo_nrf, vl_nrf, sc_vn, vn_nrf]) (Nat.zero_le _) ?_ ?_
      · simp (disch := first | omega | (simp only [List.length_append, List.length_cons, List.length_nil, List.length_replicate, List.length_set, List.length_take, List.length_drop, vi_len, vb_len, vo_len, vl_len, vn_len]; omega)) only [↓EC, EV, EL, E2, E3, ER, seval, ↓reduceIte, false_imp_iff, ColV_def]
        rfl
      · rintro s g1
        have hwl2 := wI_len (v := v) (c := gl C v) (L := wO C v) s
        simp (disch := first | omega | (simp only [List.length_append, List.length_cons, List.length_nil, List.length_replicate, List.length_set, List.length_take, List.length_drop, vi_len, vb_len, vo_len, vl_len, vn_len]; omega)) only [↓EC, EV, EL, E2, E3, ER, seval, ↓reduceIte, false_imp_iff, ColV_def, lheap_def]
        (refine Split.mk (fun h => ?_) (fun h => ?_) <;> (try simp only [decide_eq_true_eq, decide_eq_false_iff_not, beq_iff_eq, bne_iff_ne, beq_eq_false_iff_ne, bne_eq_false_iff_eq, Bool.not_eq_true', Bool.not_eq_false', Bool.and_eq_true, Bool.or_eq_true, Bool.and_eq_false_iff, Bool.or_eq_false_iff, Int.not_lt, Int.not_le, Bool.false_eq_true, Bool.true_eq_false, false_and, and_false, true_and, and_true, or_false, false_or, or_true, true_or, not_true_eq_false, not_false_eq_true] at h))
        · have hs : s < (gl C v).length := by omega
          have hx := hvat.1 (gi (gl C v) s) (by rw [gi_of hs]; exact List.getElem_mem hs)
          (try simp (disch := first | omega | (simp only [List.length_append, List.length_cons, List.length_nil, List.length_replicate, List.length_set, List.length_take, List.length_drop, vi_len, vb_len, vo_len, vl_len, vn_len]; omega)) only [↓EC, EV, EL, E2, E3, ER, seval, ↓reduceIte, false_imp_iff])
          exact ⟨s + 1, rfl, rfl, by omega, by omega⟩
        · have : s = (gl C v).length := by omega
          subst this
          (try simp (disch := first | omega | (simp only [List.length_append, List.length_cons, List.length_nil, List.length_replicate, List.length_set, List.length_take, List.length_drop, vi_len, vb_len, vo_len, vl_len, vn_len]; omega)) only [↓EC, EV, EL, E2, E3, ER, seval, ↓reduceIte, false_imp_iff])
          exact ⟨v + 1, rfl, rfl, by omega, by omega⟩
    · have : v = C.length := by omega
      subst this
      (try simp (disch := first | omega | (simp only [List.length_append, List.length_cons, List.length_nil, List.length_replicate, List.length_set, List.length_take, List.length_drop, vi_len, vb_len, vo_len, vl_len, vn_len]; omega)) only [↓EC, EV, EL, E2, E3, ER, seval, ↓reduceIte, false_imp_iff, hwl])
theorem c_spec_l09Tree {n : Int} {b w : List Int} (hb : okP b) (hw : okP w) (h0 : isD n b w) : PSpec Try.prog 25 [vD n b w] fun v => v = .agg (vb (treeM b w n)) := by
  have hl := hb.len
  have hk := hw.len
  have hn := h0.pb.1
  have lb := h0.pb.lo hb
  have lw := h0.pw.lo hw
  have hbn := h0.pb.ltP hb
  have hwn := h0.pw.ltP hw
  have hbl := cyc_lim (p := b) hn
  have hwl := cyc_lim (p := w) hn
  have q1 : (whichL b n).length = 16 := wO_len _
  have q2 : (whichL w n).length = 16 := wO_len _
  refine spec_l09Tree_f.f ?_
  unfold vD
  simp (disch := first | omega | (simp only [List.length_append, List.length_cons, List.length_nil, List.length_replicate, List.length_set, List.length_take, List.length_drop, vi_len, vb_len, vo_len, vl_len, vn_len]; omega)) only [↓EC, EV, EL, E2, E3, ER, seval, ↓reduceIte, false_imp_iff, spec_l09Tree_F, hl, hk]
  refine pcd_v (c_spec_l01Which lb hbn hn) ?_
  (try simp (disch := first | omega | (simp only [List.length_append, List.length_cons, List.length_nil, List.length_replicate, List.length_set, List.length_take, List.length_drop, vi_len, vb_len, vo_len, vl_len, vn_len]; omega)) only [↓EC, EV, EL, E2, E3, ER, seval, ↓reduceIte, false_imp_iff, hl, hk, q1])
  refine pcd_v (c_spec_l01Which lw hwn hn) ?_
  (try simp (disch := first | omega | (simp only [List.length_append, List.length_cons, List.length_nil, List.length_replicate, List.length_set, List.length_take, List.length_drop, vi_len, vb_len, vo_len, vl_len, vn_len]; omega)) only [↓EC, EV, EL, E2, E3, ER, seval, ↓reduceIte, false_imp_iff, hl, hk, q1, q2])
  refine pcd_o (c_spec_l09Alone (n := 32) (by decide)) ?_
  (try simp (disch := first | omega | (simp only [List.length_append, List.length_cons, List.length_nil, List.length_replicate, List.length_set, List.length_take, List.length_drop, vi_len, vb_len, vo_len, vl_len, vn_len]; omega)) only [↓EC, EV, EL, E2, E3, ER, seval, ↓reduceIte, false_imp_iff, hl, hk, q1, q2])
  refine LP_of (σ := Nat) 100000 [(65, 30, 1), (66, 47, 1), (67, 60, 1), (68, 60, 1), (69, 47, 1), (83, 2, 1)] (fun s => [.int .i64 s])
    (fun s => [.int .i64 n :: vi .u8 (b ++ w), vb (List.replicate 16 false), vi .i64 (whichL b n), vi .i64 (whichL w n), vb (trS b w n s).2, vi .i64 (trS b w n s).1])
    (fun s => (s : Int) ≤ n) (fun s => (n - s).toNat) 0 (by simp [frameOk, names, lpz, sclp, scv, scvs, vi_nrf, vb_nrf, vt_nrf, v2_nrf, v3_nrf, nrfs, nrf, sc_vi, sc_vb, sc_vt, sc_v2, sc_v3, sc_vo, sc_vl, vo_nrf, vl_nrf, sc_vn, vn_nrf]) (by simp only [Int.natCast_zero]; omega) ?_ ?_
  · simp (disch := first | omega | (simp only [List.length_append, List.length_cons, List.length_nil, List.length_replicate, List.length_set, List.length_take, List.length_drop, vi_len, vb_len, vo_len, vl_len, vn_len]; omega)) only [↓EC, EV, EL, E2, E3, ER, seval, ↓reduceIte, false_imp_iff, ColV_def]
    rfl
  · rintro x h1
    obtain ⟨hc1, hc2⟩ := trS_len (b := b) (w := w) (n := n) x
    simp (disch := first | omega | (simp only [List.length_append, List.length_cons, List.length_nil, List.length_replicate, List.length_set, List.length_take, List.length_drop, vi_len, vb_len, vo_len, vl_len, vn_len]; omega)) only [↓EC, EV, EL, E2, E3, ER, seval, ↓reduceIte, false_imp_iff, ColV_def, lheap_def]
    (refine Split.mk (fun h => ?_) (fun h => ?_) <;> (try simp only [decide_eq_true_eq, decide_eq_false_iff_not, beq_iff_eq, bne_iff_ne, beq_eq_false_iff_ne, bne_eq_false_iff_eq, Bool.not_eq_true', Bool.not_eq_false', Bool.and_eq_true, Bool.or_eq_true, Bool.and_eq_false_iff, Bool.or_eq_false_iff, Int.not_lt, Int.not_le, Bool.false_eq_true, Bool.true_eq_false, false_and, and_false, true_and, and_true, or_false, false_or, or_true, true_or, not_true_eq_false, not_false_eq_true] at h))
    · have b0 := whichL_lim (x := x) hn hbn
      have w0 := whichL_lim (x := x) hn hwn
      (try simp (disch := first | omega | (simp only [List.length_append, List.length_cons, List.length_nil, List.length_replicate, List.length_set, List.length_take, List.length_drop, vi_len, vb_len, vo_len, vl_len, vn_len]; omega)) only [↓EC, EV, EL, E2, E3, ER, seval, ↓reduceIte, false_imp_iff, hl, hk, q1, q2, hc1])
      refine pcm [83] rfl ?_
      (try simp (disch := first | omega | (simp only [List.length_append, List.length_cons, List.length_nil, List.length_replicate, List.length_set, List.length_take, List.length_drop, vi_len, vb_len, vo_len, vl_len, vn_len]; omega)) only [↓EC, EV, EL, E2, E3, ER, seval, ↓reduceIte, false_imp_iff, hl, hk, q1, q2, hc1])
      have hjn := c_spec_l09Join (c := (trS b w n x).1) (x := gi (whichL b n) x) (y := 16 + gi (whichL w n) x) (by omega) (by omega) (by omega)
      rw [hc1] at hjn
      refine callM_v hjn ?_
      (try simp (disch := first | omega | (simp only [List.length_append, List.length_cons, List.length_nil, List.length_replicate, List.length_set, List.length_take, List.length_drop, vi_len, vb_len, vo_len, vl_len, vn_len]; omega)) only [↓EC, EV, EL, E2, E3, ER, seval, ↓reduceIte, false_imp_iff, hl, hk, q1, q2, hc1, hc2])
      (refine ⟨x + 1, ?_⟩; repeat' (first | (refine And.intro ?_ ?_) | rfl | omega | trivial))
    · have : x = n.toNat := by omega
      subst this
      (try simp (disch := first | omega | (simp only [List.length_append, List.length_cons, List.length_nil, List.length_replicate, List.length_set, List.length_take, List.length_drop, vi_len, vb_len, vo_len, vl_len, vn_len]; omega)) only [↓EC, EV, EL, E2, E3, ER, seval, ↓reduceIte, false_imp_iff, hc2])
      rfl
end Go.Proofs.Ytcleiehdddjicaa.Sep

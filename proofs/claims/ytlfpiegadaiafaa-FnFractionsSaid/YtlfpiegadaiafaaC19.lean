/- The value of a move: what impl.move computes. -/
import Derived.Test.YtlfpiegadaiafaaC18
namespace Go.Proofs.Ytlfpiegadaiafaa.Sep
open Go.RowKit
set_option linter.unusedVariables false
set_option linter.unusedSimpArgs false
set_option maxRecDepth 20000
set_option maxHeartbeats 1000000

/-! ### Whether a list holds a number -/
theorem c_Index0 {l : List Int} {x : Int} (hl : l.length ≤ 1048576) : PSpec Try.prog 94 [.sl l.length (vi .i64 l), .int .i64 x] fun v => ∃ k : Int, v = .int .i64 k ∧ (0 ≤ k ↔ x ∈ l) ∧ -1 ≤ k ∧ k ≤ 1048576 := by
  refine slices_Index_int64_int64_i_f.f ?_
  simp (disch := first | omega | (simp only [List.length_append, List.length_cons, List.length_nil, List.length_replicate, List.length_set, List.length_take, List.length_drop, vi_len, vb_len, vo_len, vl_len, vn_len]; omega)) only [↓EC, EV, EL, E2, E3, ER, seval, ↓reduceIte, false_imp_iff, slices_Index_int64_int64_i_F]
  refine LP_of (σ := Nat) 100000 [] (fun s => [.int .i64 s]) (fun s => [])
    (fun s => s ≤ l.length ∧ ∀ j, j < s → gi l j ≠ x) (fun s => l.length - s) 0 (by simp [frameOk, names, lpz, sclp, scv, scvs, vi_nrf, vb_nrf, vt_nrf, v2_nrf, v3_nrf, nrfs, nrf, sc_vi, sc_vb, sc_vt, sc_v2, sc_v3, sc_vo, sc_vl, vo_nrf, vl_nrf, sc_vn, vn_nrf]) ⟨Nat.zero_le _, fun j hj => absurd hj (Nat.not_lt_zero j)⟩ ?_ ?_
  · simp (disch := first | omega | (simp only [List.length_append, List.length_cons, List.length_nil, List.length_replicate, List.length_set, List.length_take, List.length_drop, vi_len, vb_len, vo_len, vl_len, vn_len]; omega)) only [↓EC, EV, EL, E2, E3, ER, seval, ↓reduceIte, false_imp_iff, ColV_def]
  · rintro i ⟨h1, h2⟩
    simp (disch := first | omega | (simp only [List.length_append, List.length_cons, List.length_nil, List.length_replicate, List.length_set, List.length_take, List.length_drop, vi_len, vb_len, vo_len, vl_len, vn_len]; omega)) only [↓EC, EV, EL, E2, E3, ER, seval, ↓reduceIte, false_imp_iff, ColV_def, lheap_def]
    (refine Split.mk (fun h => ?_) (fun h => ?_) <;> (try simp only [decide_eq_true_eq, decide_eq_false_iff_not, beq_iff_eq, bne_iff_ne, beq_eq_false_iff_ne, bne_eq_false_iff_eq, Bool.not_eq_true', Bool.not_eq_false', Bool.and_eq_true, Bool.or_eq_true, Bool.and_eq_false_iff, Bool.or_eq_false_iff, Int.not_lt, Int.not_le, Bool.false_eq_true, Bool.true_eq_false, false_and, and_false, true_and, and_true, or_false, false_or, or_true, true_or, not_true_eq_false, not_false_eq_true] at h))
    · (try simp (disch := first | omega | (simp only [List.length_append, List.length_cons, List.length_nil, List.length_replicate, List.length_set, List.length_take, List.length_drop, vi_len, vb_len, vo_len, vl_len, vn_len]; omega)) only [↓EC, EV, EL, E2, E3, ER, seval, ↓reduceIte, false_imp_iff])
      (refine Split.mk (fun h => ?_) (fun h => ?_) <;> (try simp only [decide_eq_true_eq, decide_eq_false_iff_not, beq_iff_eq, bne_iff_ne, beq_eq_false_iff_ne, bne_eq_false_iff_eq, Bool.not_eq_true', Bool.not_eq_false', Bool.and_eq_true, Bool.or_eq_true, Bool.and_eq_false_iff, Bool.or_eq_false_iff, Int.not_lt, Int.not_le, Bool.false_eq_true, Bool.true_eq_false, false_and, and_false, true_and, and_true, or_false, false_or, or_true, true_or, not_true_eq_false, not_false_eq_true] at h))
      · (try simp (disch := first | omega | (simp only [List.length_append, List.length_cons, List.length_nil, List.length_replicate, List.length_set, List.length_take, List.length_drop, vi_len, vb_len, vo_len, vl_len, vn_len]; omega)) only [↓EC, EV, EL, E2, E3, ER, seval, ↓reduceIte, false_imp_iff])
        refine ⟨i, rfl, ⟨fun _ => ?_, fun _ => by omega⟩, by omega, by omega⟩
        rw [h, gi_of (by omega)]
        exact List.getElem_mem _
      · (try simp (disch := first | omega | (simp only [List.length_append, List.length_cons, List.length_nil, List.length_replicate, List.length_set, List.length_take, List.length_drop, vi_len, vb_len, vo_len, vl_len, vn_len]; omega)) only [↓EC, EV, EL, E2, E3, ER, seval, ↓reduceIte, false_imp_iff])
        refine ⟨i + 1, by simp, ⟨by omega, fun j hj => ?_⟩, by omega⟩
        by_cases e : j = i
        · subst e; exact fun h' => h h'.symm
        · exact h2 j (by omega)
    · (try simp (disch := first | omega | (simp only [List.length_append, List.length_cons, List.length_nil, List.length_replicate, List.length_set, List.length_take, List.length_drop, vi_len, vb_len, vo_len, vl_len, vn_len]; omega)) only [↓EC, EV, EL, E2, E3, ER, seval, ↓reduceIte, false_imp_iff])
      refine ⟨-1, rfl, ⟨fun h => by omega, fun hx => ?_⟩, by omega, by omega⟩
      obtain ⟨j, hj, rfl⟩ := List.getElem_of_mem hx
      exact absurd (gi_of hj) (h2 j (by omega))
theorem c_Contains0 {l : List Int} {x : Int} {n : Nat} (hn : l.length = n) (hl : n ≤ 1048576) : PSpec Try.prog 85 [.sl n (vi .i64 l), .int .i64 x] fun v => v = .bool (decide (x ∈ l)) := by
  subst hn
  refine slices_Contains_int64_int64_i_f.f ?_
  simp (disch := first | omega | (simp only [List.length_append, List.length_cons, List.length_nil, List.length_replicate, List.length_set, List.length_take, List.length_drop, vi_len, vb_len, vo_len, vl_len, vn_len]; omega)) only [↓EC, EV, EL, E2, E3, ER, seval, ↓reduceIte, false_imp_iff, slices_Contains_int64_int64_i_F]
  refine pcd_r (c_Index0 hl) ?_
  rintro _ ⟨k, rfl, h1, h2, h3⟩
  (try simp (disch := first | omega | (simp only [List.length_append, List.length_cons, List.length_nil, List.length_replicate, List.length_set, List.length_take, List.length_drop, vi_len, vb_len, vo_len, vl_len, vn_len]; omega)) only [↓EC, EV, EL, E2, E3, ER, seval, ↓reduceIte, false_imp_iff])
  simp only [h1]

/-! ### Products -/
theorem lprod_snoc {l : List Int} {i : Nat} (h : i < l.length) : lprod (l.take (i + 1)) = lprod (l.take i) * gi l i := by
  rw [← List.take_append_getElem h, lprod_append, gi_of h]; simp [lprod]
theorem lprod_cut {l : List Int} (i : Nat) : lprod l = lprod (l.take i) * lprod (l.drop i) := by
  rw [← lprod_append, List.take_append_drop]
theorem mul_lim4 {a b : Int} (ha : a.natAbs ≤ 1000000000) (hb : b.natAbs ≤ 4000000000) : -4000000000000000000 ≤ a * b ∧ a * b ≤ 4000000000000000000 := by
  have h := Nat.mul_le_mul ha hb
  rw [← Int.natAbs_mul] at h
  omega
def prV (x : Int) : V := if x.natAbs ≤ 1000000000 then .tup [.int .i64 x, .bool true] else .tup [.int .i64 0, .bool false]
theorem c_impl_product {l : List Int} {n : Nat} (hn : l.length = n) (hl : n ≤ 1048576) (hb : ∀ a ∈ l, a ≠ 0 ∧ a.natAbs ≤ 4000000000) : PSpec Try.prog 86 [.sl n (vi .i64 l)] fun v => v = prV (lprod l) := by
  subst hn
  refine impl_product_f.f ?_
  simp (disch := first | omega | (simp only [List.length_append, List.length_cons, List.length_nil, List.length_replicate, List.length_set, List.length_take, List.length_drop, vi_len, vb_len, vo_len, vl_len, vn_len]; omega)) only [↓EC, EV, EL, E2, E3, ER, seval, ↓reduceIte, false_imp_iff, impl_product_F]
  refine LP_of (σ := Nat) 100000 [] (fun s => [.int .i64 (lprod (l.take s)), .int .i64 s]) (fun s => [])
    (fun s => s ≤ l.length ∧ (lprod (l.take s)).natAbs ≤ 1000000000) (fun s => l.length - s) 0 (by simp [frameOk, names, lpz, sclp, scv, scvs, vi_nrf, vb_nrf, vt_nrf, v2_nrf, v3_nrf, nrfs, nrf, sc_vi, sc_vb, sc_vt, sc_v2, sc_v3, sc_vo, sc_vl, vo_nrf, vl_nrf, sc_vn, vn_nrf]) ⟨Nat.zero_le _, by simp [lprod]⟩ ?_ ?_
  · simp (disch := first | omega | (simp only [List.length_append, List.length_cons, List.length_nil, List.length_replicate, List.length_set, List.length_take, List.length_drop, vi_len, vb_len, vo_len, vl_len, vn_len]; omega)) only [↓EC, EV, EL, E2, E3, ER, seval, ↓reduceIte, false_imp_iff, ColV_def]
    simp [lprod]
  · rintro i ⟨h1, h2⟩
    simp (disch := first | omega | (simp only [List.length_append, List.length_cons, List.length_nil, List.length_replicate, List.length_set, List.length_take, List.length_drop, vi_len, vb_len, vo_len, vl_len, vn_len]; omega)) only [↓EC, EV, EL, E2, E3, ER, seval, ↓reduceIte, false_imp_iff, ColV_def, lheap_def]
    (refine Split.mk (fun h => ?_) (fun h => ?_) <;> (try simp only [decide_eq_true_eq, decide_eq_false_iff_not, beq_iff_eq, bne_iff_ne, beq_eq_false_iff_ne, bne_eq_false_iff_eq, Bool.not_eq_true', Bool.not_eq_false', Bool.and_eq_true, Bool.or_eq_true, Bool.and_eq_false_iff, Bool.or_eq_false_iff, Int.not_lt, Int.not_le, Bool.false_eq_true, Bool.true_eq_false, false_and, and_false, true_and, and_true, or_false, false_or, or_true, true_or, not_true_eq_false, not_false_eq_true] at h))
    · have hi : i < l.length := by omega
      have hg := hb (gi l i) (by rw [gi_of hi]; exact List.getElem_mem _)
      have hm := mul_lim4 h2 hg.2
      have hs := lprod_snoc hi
      have hbig : 1000000000 < (lprod (l.take i) * gi l i).natAbs → .tup [.int .i64 0, .bool false] = prV (lprod l) := by
        intro h3
        unfold prV
        rw [if_neg]
        rw [lprod_cut (l := l) (i + 1), hs]
        have := natAbs_le_mul (a := lprod (l.take i) * gi l i) (b := lprod (l.drop (i + 1))) (lprod_ne fun a ha => (hb a (List.mem_of_mem_drop ha)).1)
        omega
      (try simp (disch := first | omega | (simp only [List.length_append, List.length_cons, List.length_nil, List.length_replicate, List.length_set, List.length_take, List.length_drop, vi_len, vb_len, vo_len, vl_len, vn_len]; omega)) only [↓EC, EV, EL, E2, E3, ER, seval, ↓reduceIte, false_imp_iff])
      repeat' (refine Split.mk (fun h => ?_) (fun h => ?_) <;> (try simp only [decide_eq_true_eq, decide_eq_false_iff_not, beq_iff_eq, bne_iff_ne, beq_eq_false_iff_ne, bne_eq_false_iff_eq, Bool.not_eq_true', Bool.not_eq_false', Bool.and_eq_true, Bool.or_eq_true, Bool.and_eq_false_iff, Bool.or_eq_false_iff, Int.not_lt, Int.not_le, Bool.false_eq_true, Bool.true_eq_false, false_and, and_false, true_and, and_true, or_false, false_or, or_true, true_or, not_true_eq_false, not_false_eq_true] at h))
      · (try simp (disch := first | omega | (simp only [List.length_append, List.length_cons, List.length_nil, List.length_replicate, List.length_set, List.length_take, List.length_drop, vi_len, vb_len, vo_len, vl_len, vn_len]; omega)) only [↓EC, EV, EL, E2, E3, ER, seval, ↓reduceIte, false_imp_iff])
        exact hbig (by omega)
      · (try simp (disch := first | omega | (simp only [List.length_append, List.length_cons, List.length_nil, List.length_replicate, List.length_set, List.length_take, List.length_drop, vi_len, vb_len, vo_len, vl_len, vn_len]; omega)) only [↓EC, EV, EL, E2, E3, ER, seval, ↓reduceIte, false_imp_iff])
        exact hbig (by omega)
      · (try simp (disch := first | omega | (simp only [List.length_append, List.length_cons, List.length_nil, List.length_replicate, List.length_set, List.length_take, List.length_drop, vi_len, vb_len, vo_len, vl_len, vn_len]; omega)) only [↓EC, EV, EL, E2, E3, ER, seval, ↓reduceIte, false_imp_iff])
        exact ⟨i + 1, by rw [hs]; simp, ⟨by omega, by rw [hs]; omega⟩, by omega⟩
    · (try simp (disch := first | omega | (simp only [List.length_append, List.length_cons, List.length_nil, List.length_replicate, List.length_set, List.length_take, List.length_drop, vi_len, vb_len, vo_len, vl_len, vn_len]; omega)) only [↓EC, EV, EL, E2, E3, ER, seval, ↓reduceIte, false_imp_iff])
      have : i = l.length := by omega
      subst this
      try rw [List.take_length] at h2
      unfold prV
      rw [if_pos h2]

theorem c_product_ok {l : List Int} {n : Nat} (hn : l.length = n) (hl : n ≤ 1048576) (hb : ∀ a ∈ l, a ≠ 0 ∧ a.natAbs ≤ 4000000000) (h : (lprod l).natAbs ≤ 1000000000) : PSpec Try.prog 86 [.sl n (vi .i64 l)] fun v => v = .tup [.int .i64 (lprod l), .bool true] := by
  have := c_impl_product hn hl hb
  unfold prV at this
  rwa [if_pos h] at this
theorem c_product_no {l : List Int} {n : Nat} (hn : l.length = n) (hl : n ≤ 1048576) (hb : ∀ a ∈ l, a ≠ 0 ∧ a.natAbs ≤ 4000000000) (h : ¬ (lprod l).natAbs ≤ 1000000000) : PSpec Try.prog 86 [.sl n (vi .i64 l)] fun v => v = .tup [.int .i64 0, .bool false] := by
  have := c_impl_product hn hl hb
  unfold prV at this
  rwa [if_neg h] at this

/-! ### The fraction of products -/
theorem Low_stepG {U V : Int} {xs bs : List Int} {i k : Nat} (h : Low U V xs bs i k) (hi : i < xs.length) (hk : k < bs.length) :
    Low U V (xs.set i ((gi xs i).tdiv (Int.gcd (gi xs i) (gi bs k) : Int))) (bs.set k ((gi bs k).tdiv (Int.gcd (gi xs i) (gi bs k) : Int))) i (k + 1) := by
  have h1 := Low_step h hi hk
  rw [gi_of hi, gi_of hk, Int.tdiv_eq_ediv_of_dvd (Int.gcd_dvd_left _ _), Int.tdiv_eq_ediv_of_dvd (Int.gcd_dvd_right _ _)]
  exact h1
def lim4 (l : List Int) : Prop := ∀ a ∈ l, a.natAbs ≤ 4000000000
theorem lim4_g {l : List Int} {i : Nat} (h : lim4 l) (hi : i < l.length) : (gi l i).natAbs ≤ 4000000000 := by
  rw [gi_of hi]; exact h _ (List.getElem_mem _)
theorem lim4_set {l : List Int} {i : Nat} {x : Int} (h : lim4 l) (hx : x.natAbs ≤ 4000000000) : lim4 (l.set i x) := by
  intro a ha
  rcases List.mem_or_eq_of_mem_set ha with h1 | h1
  · exact h _ h1
  · subst h1; exact hx
theorem c_impl_lowest {xs bs : List Int} (la : xs.length ≤ 1000) (lb : bs.length ≤ 1000) (ha : lim4 xs) (hb : lim4 bs) (hz : ∀ b ∈ bs, b ≠ 0) :
    PSpecM Try.prog 76 [.rf 0 0 xs.length, .rf 1 0 bs.length] [(0, 2, 1), (1, 2, 1)] [vi .i64 xs, vi .i64 bs] fun v c => v = frV (okPf (rd (lprod xs) (lprod bs))) ∧ ∃ x y, c = [vi .i64 x, vi .i64 y] := by
  have hV : lprod bs ≠ 0 := lprod_ne hz
  refine impl_lowest_f.m rfl rfl ?_
  simp (disch := first | omega | (simp only [List.length_append, List.length_cons, List.length_nil, List.length_replicate, List.length_set, List.length_take, List.length_drop, vi_len, vb_len, vo_len, vl_len, vn_len]; omega)) only [↓EC, EV, EL, E2, E3, ER, seval, ↓reduceIte, false_imp_iff, impl_lowest_F]
  refine LP_of (σ := Nat × List Int × List Int) 100000 [(0, 2, 1), (1, 2, 1), (68, 27, 1)] (fun s => [.int .i64 s.1]) (fun s => [vi .i64 s.2.1, vi .i64 s.2.2, [.int .i64 0, .int .i64 0]])
    (fun s => s.1 ≤ xs.length ∧ s.2.1.length = xs.length ∧ s.2.2.length = bs.length ∧ lim4 s.2.1 ∧ lim4 s.2.2 ∧ Low (lprod xs) (lprod bs) s.2.1 s.2.2 s.1 0) (fun s => xs.length - s.1) (0, xs, bs) (by simp [frameOk, names, lpz, sclp, scv, scvs, vi_nrf, vb_nrf, vt_nrf, v2_nrf, v3_nrf, nrfs, nrf, sc_vi, sc_vb, sc_vt, sc_v2, sc_v3, sc_vo, sc_vl, vo_nrf, vl_nrf, sc_vn, vn_nrf])
    ⟨Nat.zero_le _, rfl, rfl, ha, hb, rfl, hz, fun p q _ _ h => by omega⟩ ?_ ?_
  · simp (disch := first | omega | (simp only [List.length_append, List.length_cons, List.length_nil, List.length_replicate, List.length_set, List.length_take, List.length_drop, vi_len, vb_len, vo_len, vl_len, vn_len]; omega)) only [↓EC, EV, EL, E2, E3, ER, seval, ↓reduceIte, false_imp_iff, ColV_def]
  · rintro ⟨i, a, b⟩ ⟨h1, h2, h3, h4, h5, h6⟩
    simp only at h1 h2 h3 h4 h5 h6
    simp (disch := first | omega | (simp only [List.length_append, List.length_cons, List.length_nil, List.length_replicate, List.length_set, List.length_take, List.length_drop, vi_len, vb_len, vo_len, vl_len, vn_len]; omega)) only [↓EC, EV, EL, E2, E3, ER, seval, ↓reduceIte, false_imp_iff, ColV_def, lheap_def]
    (refine Split.mk (fun h => ?_) (fun h => ?_) <;> (try simp only [decide_eq_true_eq, decide_eq_false_iff_not, beq_iff_eq, bne_iff_ne, beq_eq_false_iff_ne, bne_eq_false_iff_eq, Bool.not_eq_true', Bool.not_eq_false', Bool.and_eq_true, Bool.or_eq_true, Bool.and_eq_false_iff, Bool.or_eq_false_iff, Int.not_lt, Int.not_le, Bool.false_eq_true, Bool.true_eq_false, false_and, and_false, true_and, and_true, or_false, false_or, or_true, true_or, not_true_eq_false, not_false_eq_true] at h))
    · (try simp (disch := first | omega | (simp only [List.length_append, List.length_cons, List.length_nil, List.length_replicate, List.length_set, List.length_take, List.length_drop, vi_len, vb_len, vo_len, vl_len, vn_len]; omega)) only [↓EC, EV, EL, E2, E3, ER, seval, ↓reduceIte, false_imp_iff])
      refine LP_of (σ := Nat × List Int × List Int) 200000 [(0, 2, 1), (1, 2, 1), (68, 27, 1)] (fun s => [.int .i64 s.1]) (fun s => [vi .i64 s.2.1, vi .i64 s.2.2, [.int .i64 0, .int .i64 0]])
        (fun s => s.1 ≤ bs.length ∧ s.2.1.length = xs.length ∧ s.2.2.length = bs.length ∧ lim4 s.2.1 ∧ lim4 s.2.2 ∧ Low (lprod xs) (lprod bs) s.2.1 s.2.2 i s.1) (fun s => bs.length - s.1) (0, a, b) (by simp [frameOk, names, lpz, sclp, scv, scvs, vi_nrf, vb_nrf, vt_nrf, v2_nrf, v3_nrf, nrfs, nrf, sc_vi, sc_vb, sc_vt, sc_v2, sc_v3, sc_vo, sc_vl, vo_nrf, vl_nrf, sc_vn, vn_nrf])
        ⟨Nat.zero_le _, h2, h3, h4, h5, h6⟩ ?_ ?_
      · simp (disch := first | omega | (simp only [List.length_append, List.length_cons, List.length_nil, List.length_replicate, List.length_set, List.length_take, List.length_drop, vi_len, vb_len, vo_len, vl_len, vn_len]; omega)) only [↓EC, EV, EL, E2, E3, ER, seval, ↓reduceIte, false_imp_iff, ColV_def]
      · rintro ⟨k, a, b⟩ ⟨g1, g2, g3, g4, g5, g6⟩
        simp only at g1 g2 g3 g4 g5 g6
        simp (disch := first | omega | (simp only [List.length_append, List.length_cons, List.length_nil, List.length_replicate, List.length_set, List.length_take, List.length_drop, vi_len, vb_len, vo_len, vl_len, vn_len]; omega)) only [↓EC, EV, EL, E2, E3, ER, seval, ↓reduceIte, false_imp_iff, ColV_def, lheap_def]
        (refine Split.mk (fun h => ?_) (fun h => ?_) <;> (try simp only [decide_eq_true_eq, decide_eq_false_iff_not, beq_iff_eq, bne_iff_ne, beq_eq_false_iff_ne, bne_eq_false_iff_eq, Bool.not_eq_true', Bool.not_eq_false', Bool.and_eq_true, Bool.or_eq_true, Bool.and_eq_false_iff, Bool.or_eq_false_iff, Int.not_lt, Int.not_le, Bool.false_eq_true, Bool.true_eq_false, false_and, and_false, true_and, and_true, or_false, false_or, or_true, true_or, not_true_eq_false, not_false_eq_true] at h))
        · have hi : i < a.length := by omega
          have hk : k < b.length := by omega
          have la := lim4_g g4 hi
          have lb := lim4_g g5 hk
          have hp := gcd_pos_r (a := gi a i) (b := gi b k) (by rw [gi_of hk]; exact g6.nz _ (List.getElem_mem _))
          have hs := Low_stepG g6 hi hk
          have t1 := Int.natAbs_tdiv_le_natAbs (gi a i) (Int.gcd (gi a i) (gi b k) : Int)
          have t2 := Int.natAbs_tdiv_le_natAbs (gi b k) (Int.gcd (gi a i) (gi b k) : Int)
          (try simp (disch := first | omega | (simp only [List.length_append, List.length_cons, List.length_nil, List.length_replicate, List.length_set, List.length_take, List.length_drop, vi_len, vb_len, vo_len, vl_len, vn_len]; omega)) only [↓EC, EV, EL, E2, E3, ER, seval, ↓reduceIte, false_imp_iff])
          (refine pcd_v (c_impl_gcd (by omega) (by omega)) ?_; (try simp (disch := first | omega | (simp only [List.length_append, List.length_cons, List.length_nil, List.length_replicate, List.length_set, List.length_take, List.length_drop, vi_len, vb_len, vo_len, vl_len, vn_len]; omega)) only [↓EC, EV, EL, E2, E3, ER, seval, ↓reduceIte, false_imp_iff]))
          (refine Split.mk (fun h => ?_) (fun h => ?_) <;> (try simp only [decide_eq_true_eq, decide_eq_false_iff_not, beq_iff_eq, bne_iff_ne, beq_eq_false_iff_ne, bne_eq_false_iff_eq, Bool.not_eq_true', Bool.not_eq_false', Bool.and_eq_true, Bool.or_eq_true, Bool.and_eq_false_iff, Bool.or_eq_false_iff, Int.not_lt, Int.not_le, Bool.false_eq_true, Bool.true_eq_false, false_and, and_false, true_and, and_true, or_false, false_or, or_true, true_or, not_true_eq_false, not_false_eq_true] at h))
          · (try simp (disch := first | omega | (simp only [List.length_append, List.length_cons, List.length_nil, List.length_replicate, List.length_set, List.length_take, List.length_drop, vi_len, vb_len, vo_len, vl_len, vn_len]; omega)) only [↓EC, EV, EL, E2, E3, ER, seval, ↓reduceIte, false_imp_iff])
            exact ⟨(k + 1, _, _), by simp, rfl, ⟨by simp only; omega, by simpa using g2, by simpa using g3, lim4_set g4 (by omega), lim4_set g5 (by omega), hs⟩, by simp only; omega⟩
          · omega
        · (try simp (disch := first | omega | (simp only [List.length_append, List.length_cons, List.length_nil, List.length_replicate, List.length_set, List.length_take, List.length_drop, vi_len, vb_len, vo_len, vl_len, vn_len]; omega)) only [↓EC, EV, EL, E2, E3, ER, seval, ↓reduceIte, false_imp_iff])
          have hk : k = b.length := by omega
          subst hk
          exact ⟨(i + 1, a, b), by simp, rfl, ⟨by simp only; omega, g2, g3, g4, g5, Low_next g6⟩, by simp only; omega⟩
    · (try simp (disch := first | omega | (simp only [List.length_append, List.length_cons, List.length_nil, List.length_replicate, List.length_set, List.length_take, List.length_drop, vi_len, vb_len, vo_len, vl_len, vn_len]; omega)) only [↓EC, EV, EL, E2, E3, ER, seval, ↓reduceIte, false_imp_iff])
      have hi : i = a.length := by omega
      subst hi
      have e := Low_rd hV h6
      refine pcd_v (c_Contains0 (l := a) (n := xs.length) (by omega) (by omega)) ?_
      (try simp (disch := first | omega | (simp only [List.length_append, List.length_cons, List.length_nil, List.length_replicate, List.length_set, List.length_take, List.length_drop, vi_len, vb_len, vo_len, vl_len, vn_len]; omega)) only [↓EC, EV, EL, E2, E3, ER, seval, ↓reduceIte, false_imp_iff])
      (refine Split.mk (fun h => ?_) (fun h => ?_) <;> (try simp only [decide_eq_true_eq, decide_eq_false_iff_not, beq_iff_eq, bne_iff_ne, beq_eq_false_iff_ne, bne_eq_false_iff_eq, Bool.not_eq_true', Bool.not_eq_false', Bool.and_eq_true, Bool.or_eq_true, Bool.and_eq_false_iff, Bool.or_eq_false_iff, Int.not_lt, Int.not_le, Bool.false_eq_true, Bool.true_eq_false, false_and, and_false, true_and, and_true, or_false, false_or, or_true, true_or, not_true_eq_false, not_false_eq_true] at h))
      · (try simp (disch := first | omega | (simp only [List.length_append, List.length_cons, List.length_nil, List.length_replicate, List.length_set, List.length_take, List.length_drop, vi_len, vb_len, vo_len, vl_len, vn_len]; omega)) only [↓EC, EV, EL, E2, E3, ER, seval, ↓reduceIte, false_imp_iff])
        have hU : lprod xs = 0 := by
          have := h6.rat
          rw [lprod_zero h] at this
          rcases Int.mul_eq_zero.1 (this.symm.trans (by simp)) with h' | h'
          · exact h'
          · exact absurd h' (lprod_ne h6.nz)
        rw [hU, rd_zero hV, frV_ok (by decide)]
        exact ⟨rfl, _, _, rfl⟩
      · have na : ∀ x ∈ a, x ≠ 0 ∧ x.natAbs ≤ 4000000000 := fun x hx => ⟨fun h0 => h (h0 ▸ hx), h4 x hx⟩
        have nb : ∀ x ∈ b, x ≠ 0 ∧ x.natAbs ≤ 4000000000 := fun x hx => ⟨h6.nz x hx, h5 x hx⟩
        (try simp (disch := first | omega | (simp only [List.length_append, List.length_cons, List.length_nil, List.length_replicate, List.length_set, List.length_take, List.length_drop, vi_len, vb_len, vo_len, vl_len, vn_len]; omega)) only [↓EC, EV, EL, E2, E3, ER, seval, ↓reduceIte, false_imp_iff])
        rw [e]
        by_cases q1 : (lprod a).natAbs ≤ 1000000000
        · refine pcd_v (c_product_ok (l := a) (n := xs.length) (by omega) (by omega) na q1) ?_
          (try simp (disch := first | omega | (simp only [List.length_append, List.length_cons, List.length_nil, List.length_replicate, List.length_set, List.length_take, List.length_drop, vi_len, vb_len, vo_len, vl_len, vn_len]; omega)) only [↓EC, EV, EL, E2, E3, ER, seval, ↓reduceIte, false_imp_iff])
          by_cases q2 : (lprod b).natAbs ≤ 1000000000
          · have q3 := lprod_ne h6.nz
            refine pcd_v (c_product_ok (l := b) (n := bs.length) (by omega) (by omega) nb q2) ?_
            (try simp (disch := first | omega | (simp only [List.length_append, List.length_cons, List.length_nil, List.length_replicate, List.length_set, List.length_take, List.length_drop, vi_len, vb_len, vo_len, vl_len, vn_len]; omega)) only [↓EC, EV, EL, E2, E3, ER, seval, ↓reduceIte, false_imp_iff])
            (refine Split.mk (fun h => ?_) (fun h => ?_) <;> (try simp only [decide_eq_true_eq, decide_eq_false_iff_not, beq_iff_eq, bne_iff_ne, beq_eq_false_iff_ne, bne_eq_false_iff_eq, Bool.not_eq_true', Bool.not_eq_false', Bool.and_eq_true, Bool.or_eq_true, Bool.and_eq_false_iff, Bool.or_eq_false_iff, Int.not_lt, Int.not_le, Bool.false_eq_true, Bool.true_eq_false, false_and, and_false, true_and, and_true, or_false, false_or, or_true, true_or, not_true_eq_false, not_false_eq_true] at h))
            · (try simp (disch := first | omega | (simp only [List.length_append, List.length_cons, List.length_nil, List.length_replicate, List.length_set, List.length_take, List.length_drop, vi_len, vb_len, vo_len, vl_len, vn_len]; omega)) only [↓EC, EV, EL, E2, E3, ER, seval, ↓reduceIte, false_imp_iff])
              rw [if_pos (by omega), frV_ok (by simp only; omega)]
              exact ⟨rfl, _, _, rfl⟩
            · (try simp (disch := first | omega | (simp only [List.length_append, List.length_cons, List.length_nil, List.length_replicate, List.length_set, List.length_take, List.length_drop, vi_len, vb_len, vo_len, vl_len, vn_len]; omega)) only [↓EC, EV, EL, E2, E3, ER, seval, ↓reduceIte, false_imp_iff])
              rw [if_neg (by omega), frV_ok (by simp only; omega)]
              exact ⟨rfl, _, _, rfl⟩
          · refine pcd_v (c_product_no (l := b) (n := bs.length) (by omega) (by omega) nb q2) ?_
            (try simp (disch := first | omega | (simp only [List.length_append, List.length_cons, List.length_nil, List.length_replicate, List.length_set, List.length_take, List.length_drop, vi_len, vb_len, vo_len, vl_len, vn_len]; omega)) only [↓EC, EV, EL, E2, E3, ER, seval, ↓reduceIte, false_imp_iff])
            rw [frV_no (by split <;> simp only <;> omega)]
            exact ⟨rfl, _, _, rfl⟩
        · refine pcd_v (c_product_no (l := a) (n := xs.length) (by omega) (by omega) na q1) ?_
          (try simp (disch := first | omega | (simp only [List.length_append, List.length_cons, List.length_nil, List.length_replicate, List.length_set, List.length_take, List.length_drop, vi_len, vb_len, vo_len, vl_len, vn_len]; omega)) only [↓EC, EV, EL, E2, E3, ER, seval, ↓reduceIte, false_imp_iff])
          rw [frV_no (by split <;> simp only <;> omega)]
          by_cases q2 : (lprod b).natAbs ≤ 1000000000
          · refine pcd_v (c_product_ok (l := b) (n := bs.length) (by omega) (by omega) nb q2) ?_
            (try simp (disch := first | omega | (simp only [List.length_append, List.length_cons, List.length_nil, List.length_replicate, List.length_set, List.length_take, List.length_drop, vi_len, vb_len, vo_len, vl_len, vn_len]; omega)) only [↓EC, EV, EL, E2, E3, ER, seval, ↓reduceIte, false_imp_iff])
            exact ⟨_, _, rfl⟩
          · refine pcd_v (c_product_no (l := b) (n := bs.length) (by omega) (by omega) nb q2) ?_
            (try simp (disch := first | omega | (simp only [List.length_append, List.length_cons, List.length_nil, List.length_replicate, List.length_set, List.length_take, List.length_drop, vi_len, vb_len, vo_len, vl_len, vn_len]; omega)) only [↓EC, EV, EL, E2, E3, ER, seval, ↓reduceIte, false_imp_iff])
            exact ⟨_, _, rfl⟩
end Go.Proofs.Ytlfpiegadaiafaa.Sep

/- What the functions on cycles compute. -/
import Derived.Test.YtcleiehdddjicaaC20
namespace Go.Proofs.Ytcleiehdddjicaa.Sep
open Go.RowKit
set_option linter.unusedVariables false
set_option linter.unusedSimpArgs false
set_option maxRecDepth 20000

theorem count_false_lt {m : List Bool} {k : Nat} (h : gb m k = false) (hk : k < m.length) : (m.set k true).count false < m.count false := by
  rw [List.count_set hk]
  have hg : m[k] = false := by rw [← gb_of hk]; exact h
  have : 0 < m.count false := List.count_pos_iff.2 (by rw [← hg]; exact List.getElem_mem hk)
  rw [hg]; simp; omega
/-- A cycle, as far as its numbers are not met. -/
def cycF (p : List Int) (k : Int) (m : List Bool) (acc : List Int) : List Bool × List Int :=
  if h : gb m k.toNat = false ∧ k.toNat < m.length then cycF p (gi p k.toNat) (m.set k.toNat true) (acc ++ [k]) else (m, acc)
termination_by m.count false
decreasing_by exact count_false_lt h.1 h.2
theorem cycF_go {p : List Int} {k : Int} {m : List Bool} {acc : List Int} (h : gb m k.toNat = false) (hk : k.toNat < m.length) : cycF p k m acc = cycF p (gi p k.toNat) (m.set k.toNat true) (acc ++ [k]) := by
  rw [cycF, dif_pos ⟨h, hk⟩]
theorem cycF_end {p : List Int} {k : Int} {m : List Bool} {acc : List Int} (h : gb m k.toNat = true) : cycF p k m acc = (m, acc) := by
  rw [cycF, dif_neg (fun h' => by rw [h] at h'; cases h'.1)]
theorem cycF_len {p : List Int} : ∀ (c : Nat) {k : Int} {m : List Bool} {acc : List Int}, m.count false = c → (cycF p k m acc).1.length = m.length ∧ acc.length ≤ (cycF p k m acc).2.length ∧ (cycF p k m acc).2.length + (cycF p k m acc).1.count false = acc.length + m.count false := by
  intro c
  induction c using Nat.strongRecOn with
  | ind c ih =>
    intro k m acc hc
    by_cases h : gb m k.toNat = false ∧ k.toNat < m.length
    · rw [cycF_go h.1 h.2]
      have hlt := count_false_lt h.1 h.2
      obtain ⟨h1, h2, h3⟩ := @ih _ (by omega) (gi p k.toNat) (m.set k.toNat true) (acc ++ [k]) rfl
      have hcs : (m.set k.toNat true).count false + 1 = m.count false := by
        rw [List.count_set h.2] at hlt ⊢
        have hg : m[k.toNat] = false := by rw [← gb_of h.2]; exact h.1
        rw [hg] at hlt ⊢; simp at hlt ⊢; omega
      refine ⟨by simpa using h1, by simp at h2; omega, by simp at h3; omega⟩
    · rw [cycF, dif_neg h]; exact ⟨rfl, Nat.le_refl _, rfl⟩
def cycO (p : List Int) : Nat → List Bool × List (List Int)
  | 0 => (List.replicate 16 false, [])
  | i + 1 => if gb (cycO p i).1 i = true then cycO p i else ((cycF p i (cycO p i).1 []).1, (cycO p i).2 ++ [(cycF p i (cycO p i).1 []).2])
def cyc (p : List Int) (n : Int) : List (List Int) := (cycO p n.toNat).2
theorem cycO_len {p : List Int} : ∀ i : Nat, (cycO p i).1.length = 16 ∧ (cycO p i).2.length ≤ i
  | 0 => by simp [cycO]
  | i + 1 => by
    obtain ⟨h1, h2⟩ := cycO_len (p := p) i
    simp only [cycO]
    split
    · exact ⟨h1, by omega⟩
    · exact ⟨(cycF_len _ rfl).1.trans h1, by simp; omega⟩
theorem cycO_yes {p : List Int} {i : Nat} (h : gb (cycO p i).1 i = true) : cycO p (i + 1) = cycO p i := by simp only [cycO, if_pos h]
theorem cycO_no {p : List Int} {i : Nat} (h : gb (cycO p i).1 i = false) : cycO p (i + 1) = ((cycF p i (cycO p i).1 []).1, (cycO p i).2 ++ [(cycF p i (cycO p i).1 []).2]) := by
  simp only [cycO]; rw [if_neg (by rw [h]; decide)]

theorem c_impl_cycles {p : List Int} {n : Int} (hp : lo16 p) (hn : 1 ≤ n ∧ n ≤ 16) : PSpec Try.prog 57 [.agg (vi .u8 p), .int .i64 n] fun v => v = .own 25 1 (cyc p n).length (vo 2 (cyc p n)) := by
  have hl := hp.1
  refine impl_cycles_f.f ?_
  simp (disch := first | omega | (simp only [List.length_append, List.length_cons, List.length_nil, List.length_replicate, List.length_set, List.length_take, List.length_drop, vi_len, vb_len, vo_len, vl_len, vn_len]; omega)) only [↓EC, EV, EL, E2, E3, ER, seval, ↓reduceIte, false_imp_iff, impl_cycles_F, hl]
  refine LP_ofE (σ := Nat) [1, 1] 100000 [(66, 28, 1), (70, 47, 1)] (fun i => [.own 25 1 (cycO p i).2.length (vo 2 (cycO p i).2), .int .i64 i]) (fun i => [vi .u8 p, vb (cycO p i).1])
    (fun i => (i : Int) ≤ n) (fun i => (n - i).toNat) 0 (by simp [frameOk, names, lpz, sclp, scv, scvs, vi_nrf, vb_nrf, vt_nrf, v2_nrf, v3_nrf, nrfs, nrf, sc_vi, sc_vb, sc_vt, sc_v2, sc_v3, sc_vo, sc_vl, vo_nrf, vl_nrf, sc_vn, vn_nrf]) (by simp only [Int.natCast_zero]; omega) ?_ ?_
  · simp (disch := first | omega | (simp only [List.length_append, List.length_cons, List.length_nil, List.length_replicate, List.length_set, List.length_take, List.length_drop, vi_len, vb_len, vo_len, vl_len, vn_len]; omega)) only [↓EC, EV, EL, E2, E3, ER, seval, ↓reduceIte, false_imp_iff, ColV_def]
    exact ⟨fun _ => trivial, rfl, rfl⟩
  · rintro i hi
    obtain ⟨h1, h2⟩ := cycO_len (p := p) i
    simp (disch := first | omega | (simp only [List.length_append, List.length_cons, List.length_nil, List.length_replicate, List.length_set, List.length_take, List.length_drop, vi_len, vb_len, vo_len, vl_len, vn_len]; omega)) only [↓EC, EV, EL, E2, E3, ER, seval, ↓reduceIte, false_imp_iff, ColV_def, lheap_def]
    (refine Split.mk (fun h => ?_) (fun h => ?_) <;> (try simp only [decide_eq_true_eq, decide_eq_false_iff_not, beq_iff_eq, bne_iff_ne, beq_eq_false_iff_ne, bne_eq_false_iff_eq, Bool.not_eq_true', Bool.not_eq_false', Bool.and_eq_true, Bool.or_eq_true, Bool.and_eq_false_iff, Bool.or_eq_false_iff, Int.not_lt, Int.not_le, Bool.false_eq_true, Bool.true_eq_false, false_and, and_false, true_and, and_true, or_false, false_or, or_true, true_or, not_true_eq_false, not_false_eq_true] at h))
    · (try simp (disch := first | omega | (simp only [List.length_append, List.length_cons, List.length_nil, List.length_replicate, List.length_set, List.length_take, List.length_drop, vi_len, vb_len, vo_len, vl_len, vn_len]; omega)) only [↓EC, EV, EL, E2, E3, ER, seval, ↓reduceIte, false_imp_iff])
      (refine Split.mk (fun h => ?_) (fun h => ?_) <;> (try simp only [decide_eq_true_eq, decide_eq_false_iff_not, beq_iff_eq, bne_iff_ne, beq_eq_false_iff_ne, bne_eq_false_iff_eq, Bool.not_eq_true', Bool.not_eq_false', Bool.and_eq_true, Bool.or_eq_true, Bool.and_eq_false_iff, Bool.or_eq_false_iff, Int.not_lt, Int.not_le, Bool.false_eq_true, Bool.true_eq_false, false_and, and_false, true_and, and_true, or_false, false_or, or_true, true_or, not_true_eq_false, not_false_eq_true] at h))
      · (try simp (disch := first | omega | (simp only [List.length_append, List.length_cons, List.length_nil, List.length_replicate, List.length_set, List.length_take, List.length_drop, vi_len, vb_len, vo_len, vl_len, vn_len]; omega)) only [↓EC, EV, EL, E2, E3, ER, seval, ↓reduceIte, false_imp_iff])
        exact ⟨i + 1, by rw [cycO_yes h]; rfl, by rw [cycO_yes h], by omega, by omega⟩
      · have hg := h
        (try simp (disch := first | omega | (simp only [List.length_append, List.length_cons, List.length_nil, List.length_replicate, List.length_set, List.length_take, List.length_drop, vi_len, vb_len, vo_len, vl_len, vn_len]; omega)) only [↓EC, EV, EL, E2, E3, ER, seval, ↓reduceIte, false_imp_iff])
        refine LP_ofE (σ := List Bool × List Int × Int) [1, 1] 200000 [(66, 28, 1), (70, 47, 1), (100000, 25, 1)] (fun s => [.own 2 1 s.2.1.length (vi .i64 s.2.1), .int .i64 s.2.2])
          (fun s => [vi .u8 p, vb s.1, vo 2 (cycO p i).2])
          (fun s => s.1.length = 16 ∧ (0 ≤ s.2.2 ∧ s.2.2 < 16) ∧ s.2.1.length + s.1.count false ≤ 16 ∧ cycF p s.2.2 s.1 s.2.1 = cycF p i (cycO p i).1 []) (fun s => s.1.count false) ((cycO p i).1, [], (i : Int)) (by simp [frameOk, names, lpz, sclp, scv, scvs, vi_nrf, vb_nrf, vt_nrf, v2_nrf, v3_nrf, nrfs, nrf, sc_vi, sc_vb, sc_vt, sc_v2, sc_v3, sc_vo, sc_vl, vo_nrf, vl_nrf, sc_vn, vn_nrf])
          ⟨h1, ⟨by simp only; omega, by simp only; omega⟩, by have := List.count_le_length (a := false) (l := (cycO p i).1); simp; omega, rfl⟩ ?_ ?_
        · simp (disch := first | omega | (simp only [List.length_append, List.length_cons, List.length_nil, List.length_replicate, List.length_set, List.length_take, List.length_drop, vi_len, vb_len, vo_len, vl_len, vn_len]; omega)) only [↓EC, EV, EL, E2, E3, ER, seval, ↓reduceIte, false_imp_iff, ColV_def]
          exact ⟨fun _ => trivial, trivial⟩
        · rintro ⟨m, acc, k⟩ ⟨g1, g2, g3, g4⟩
          simp only at g1 g2 g3 g4
          have hpk := hp.2 k.toNat (by omega)
          simp (disch := first | omega | (simp only [List.length_append, List.length_cons, List.length_nil, List.length_replicate, List.length_set, List.length_take, List.length_drop, vi_len, vb_len, vo_len, vl_len, vn_len]; omega)) only [↓EC, EV, EL, E2, E3, ER, seval, ↓reduceIte, false_imp_iff, ColV_def, lheap_def]
          (refine Split.mk (fun h => ?_) (fun h => ?_) <;> (try simp only [decide_eq_true_eq, decide_eq_false_iff_not, beq_iff_eq, bne_iff_ne, beq_eq_false_iff_ne, bne_eq_false_iff_eq, Bool.not_eq_true', Bool.not_eq_false', Bool.and_eq_true, Bool.or_eq_true, Bool.and_eq_false_iff, Bool.or_eq_false_iff, Int.not_lt, Int.not_le, Bool.false_eq_true, Bool.true_eq_false, false_and, and_false, true_and, and_true, or_false, false_or, or_true, true_or, not_true_eq_false, not_false_eq_true] at h))
          · have hlt := count_false_lt h (by omega)
            (try simp (disch := first | omega | (simp only [List.length_append, List.length_cons, List.length_nil, List.length_replicate, List.length_set, List.length_take, List.length_drop, vi_len, vb_len, vo_len, vl_len, vn_len]; omega)) only [↓EC, EV, EL, E2, E3, ER, seval, ↓reduceIte, false_imp_iff, hl])
            exact ⟨(m.set k.toNat true, acc ++ [k], gi p k.toNat), by simp, rfl, ⟨by simpa using g1, hpk, by simp only [List.length_append, List.length_cons, List.length_nil]; omega, by rw [← g4]; exact (cycF_go h (by omega)).symm⟩, hlt⟩
          · (try simp (disch := first | omega | (simp only [List.length_append, List.length_cons, List.length_nil, List.length_replicate, List.length_set, List.length_take, List.length_drop, vi_len, vb_len, vo_len, vl_len, vn_len]; omega)) only [↓EC, EV, EL, E2, E3, ER, seval, ↓reduceIte, false_imp_iff])
            have he := cycO_no hg
            rw [← g4, cycF_end h] at he
            exact ⟨i + 1, by rw [he]; simp, by rw [he], by omega, by omega⟩
    · (try simp (disch := first | omega | (simp only [List.length_append, List.length_cons, List.length_nil, List.length_replicate, List.length_set, List.length_take, List.length_drop, vi_len, vb_len, vo_len, vl_len, vn_len]; omega)) only [↓EC, EV, EL, E2, E3, ER, seval, ↓reduceIte, false_imp_iff])
      have : i = n.toNat := by omega
      subst this
      rfl
theorem c_spec_l01Cycles {p : List Int} {n : Int} (hp : lo16 p) (hn : 1 ≤ n ∧ n ≤ 16) : PSpec Try.prog 46 [.agg (vi .u8 p), .int .i64 n] fun v => v = .own 25 1 (cyc p n).length (vo 2 (cyc p n)) := by
  have hl := hp.1
  refine spec_l01Cycles_f.f ?_
  simp (disch := first | omega | (simp only [List.length_append, List.length_cons, List.length_nil, List.length_replicate, List.length_set, List.length_take, List.length_drop, vi_len, vb_len, vo_len, vl_len, vn_len]; omega)) only [↓EC, EV, EL, E2, E3, ER, seval, ↓reduceIte, false_imp_iff, spec_l01Cycles_F, hl]
  refine LP_ofE (σ := Nat) [1, 1] 100000 [(66, 28, 1), (70, 47, 1)] (fun i => [.own 25 1 (cycO p i).2.length (vo 2 (cycO p i).2), .int .i64 i]) (fun i => [vi .u8 p, vb (cycO p i).1])
    (fun i => (i : Int) ≤ n) (fun i => (n - i).toNat) 0 (by simp [frameOk, names, lpz, sclp, scv, scvs, vi_nrf, vb_nrf, vt_nrf, v2_nrf, v3_nrf, nrfs, nrf, sc_vi, sc_vb, sc_vt, sc_v2, sc_v3, sc_vo, sc_vl, vo_nrf, vl_nrf, sc_vn, vn_nrf]) (by simp only [Int.natCast_zero]; omega) ?_ ?_
  · simp (disch := first | omega | (simp only [List.length_append, List.length_cons, List.length_nil, List.length_replicate, List.length_set, List.length_take, List.length_drop, vi_len, vb_len, vo_len, vl_len, vn_len]; omega)) only [↓EC, EV, EL, E2, E3, ER, seval, ↓reduceIte, false_imp_iff, ColV_def]
    exact ⟨fun _ => trivial, rfl, rfl⟩
  · rintro i hi
    obtain ⟨h1, h2⟩ := cycO_len (p := p) i
    simp (disch := first | omega | (simp only [List.length_append, List.length_cons, List.length_nil, List.length_replicate, List.length_set, List.length_take, List.length_drop, vi_len, vb_len, vo_len, vl_len, vn_len]; omega)) only [↓EC, EV, EL, E2, E3, ER, seval, ↓reduceIte, false_imp_iff, ColV_def, lheap_def]
    (refine Split.mk (fun h => ?_) (fun h => ?_) <;> (try simp only [decide_eq_true_eq, decide_eq_false_iff_not, beq_iff_eq, bne_iff_ne, beq_eq_false_iff_ne, bne_eq_false_iff_eq, Bool.not_eq_true', Bool.not_eq_false', Bool.and_eq_true, Bool.or_eq_true, Bool.and_eq_false_iff, Bool.or_eq_false_iff, Int.not_lt, Int.not_le, Bool.false_eq_true, Bool.true_eq_false, false_and, and_false, true_and, and_true, or_false, false_or, or_true, true_or, not_true_eq_false, not_false_eq_true] at h))
    · (try simp (disch := first | omega | (simp only [List.length_append, List.length_cons, List.length_nil, List.length_replicate, List.length_set, List.length_take, List.length_drop, vi_len, vb_len, vo_len, vl_len, vn_len]; omega)) only [↓EC, EV, EL, E2, E3, ER, seval, ↓reduceIte, false_imp_iff])
      refine LP_ofE (σ := List Bool × List Int × Int) [1, 1] 200000 [(66, 28, 1), (70, 47, 1), (100000, 25, 1)] (fun s => [.own 2 1 s.2.1.length (vi .i64 s.2.1), .int .i64 s.2.2])
        (fun s => [vi .u8 p, vb s.1, vo 2 (cycO p i).2])
        (fun s => s.1.length = 16 ∧ (0 ≤ s.2.2 ∧ s.2.2 < 16) ∧ s.2.1.length + s.1.count false ≤ 16 ∧ cycF p s.2.2 s.1 s.2.1 = cycF p i (cycO p i).1 []) (fun s => s.1.count false) ((cycO p i).1, [], (i : Int)) (by simp [frameOk, names, lpz, sclp, scv, scvs, vi_nrf, vb_nrf, vt_nrf, v2_nrf, v3_nrf, nrfs, nrf, sc_vi, sc_vb, sc_vt, sc_v2, sc_v3, sc_vo, sc_vl, vo_nrf, vl_nrf, sc_vn, vn_nrf])
        ⟨h1, ⟨by simp only; omega, by simp only; omega⟩, by have := List.count_le_length (a := false) (l := (cycO p i).1); simp; omega, rfl⟩ ?_ ?_
      · simp (disch := first | omega | (simp only [List.length_append, List.length_cons, List.length_nil, List.length_replicate, List.length_set, List.length_take, List.length_drop, vi_len, vb_len, vo_len, vl_len, vn_len]; omega)) only [↓EC, EV, EL, E2, E3, ER, seval, ↓reduceIte, false_imp_iff, ColV_def]
        exact ⟨fun _ => trivial, trivial⟩
      · rintro ⟨m, acc, k⟩ ⟨g1, g2, g3, g4⟩
        simp only at g1 g2 g3 g4
        have hpk := hp.2 k.toNat (by omega)
        simp (disch := first | omega | (simp only [List.length_append, List.length_cons, List.length_nil, List.length_replicate, List.length_set, List.length_take, List.length_drop, vi_len, vb_len, vo_len, vl_len, vn_len]; omega)) only [↓EC, EV, EL, E2, E3, ER, seval, ↓reduceIte, false_imp_iff, ColV_def, lheap_def]
        (refine Split.mk (fun h => ?_) (fun h => ?_) <;> (try simp only [decide_eq_true_eq, decide_eq_false_iff_not, beq_iff_eq, bne_iff_ne, beq_eq_false_iff_ne, bne_eq_false_iff_eq, Bool.not_eq_true', Bool.not_eq_false', Bool.and_eq_true, Bool.or_eq_true, Bool.and_eq_false_iff, Bool.or_eq_false_iff, Int.not_lt, Int.not_le, Bool.false_eq_true, Bool.true_eq_false, false_and, and_false, true_and, and_true, or_false, false_or, or_true, true_or, not_true_eq_false, not_false_eq_true] at h))
        · have hlt := count_false_lt h (by omega)
          (try simp (disch := first | omega | (simp only [List.length_append, List.length_cons, List.length_nil, List.length_replicate, List.length_set, List.length_take, List.length_drop, vi_len, vb_len, vo_len, vl_len, vn_len]; omega)) only [↓EC, EV, EL, E2, E3, ER, seval, ↓reduceIte, false_imp_iff, hl])
          exact ⟨(m.set k.toNat true, acc ++ [k], gi p k.toNat), by simp, rfl, ⟨by simpa using g1, hpk, by simp only [List.length_append, List.length_cons, List.length_nil]; omega, by rw [← g4]; exact (cycF_go h (by omega)).symm⟩, hlt⟩
        · rw [cycF_end h] at g4
          (try simp (disch := first | omega | (simp only [List.length_append, List.length_cons, List.length_nil, List.length_replicate, List.length_set, List.length_take, List.length_drop, vi_len, vb_len, vo_len, vl_len, vn_len]; omega)) only [↓EC, EV, EL, E2, E3, ER, seval, ↓reduceIte, false_imp_iff])
          (refine Split.mk (fun h => ?_) (fun h => ?_) <;> (try simp only [decide_eq_true_eq, decide_eq_false_iff_not, beq_iff_eq, bne_iff_ne, beq_eq_false_iff_ne, bne_eq_false_iff_eq, Bool.not_eq_true', Bool.not_eq_false', Bool.and_eq_true, Bool.or_eq_true, Bool.and_eq_false_iff, Bool.or_eq_false_iff, Int.not_lt, Int.not_le, Bool.false_eq_true, Bool.true_eq_false, false_and, and_false, true_and, and_true, or_false, false_or, or_true, true_or, not_true_eq_false, not_false_eq_true] at h))
          · (try simp (disch := first | omega | (simp only [List.length_append, List.length_cons, List.length_nil, List.length_replicate, List.length_set, List.length_take, List.length_drop, vi_len, vb_len, vo_len, vl_len, vn_len]; omega)) only [↓EC, EV, EL, E2, E3, ER, seval, ↓reduceIte, false_imp_iff])
            have hg : gb (cycO p i).1 i = false := by
              cases hgb : gb (cycO p i).1 i with
              | false => rfl
              | true =>
                rw [cycF_end (k := (i : Int)) (by simpa using hgb)] at g4
                simp only [Prod.mk.injEq] at g4
                rw [g4.2] at h
                simp at h
            have he := cycO_no hg
            rw [← g4] at he
            exact ⟨i + 1, by rw [he]; simp, by rw [he], by omega, by omega⟩
          · (try simp (disch := first | omega | (simp only [List.length_append, List.length_cons, List.length_nil, List.length_replicate, List.length_set, List.length_take, List.length_drop, vi_len, vb_len, vo_len, vl_len, vn_len]; omega)) only [↓EC, EV, EL, E2, E3, ER, seval, ↓reduceIte, false_imp_iff])
            have hg : gb (cycO p i).1 i = true := by
              cases hgb : gb (cycO p i).1 i with
              | true => rfl
              | false =>
                rw [cycF_go (k := (i : Int)) (by simpa using hgb) (by simp only [Int.toNat_natCast]; omega)] at g4
                have := (cycF_len (p := p) _ (k := gi p (i : Int).toNat) (m := (cycO p i).1.set (i : Int).toNat true) (acc := [] ++ [(i : Int)]) rfl).2.1
                rw [← g4] at this
                simp at this
                omega
            have he := cycO_yes hg
            rw [cycF_end (k := (i : Int)) (by simpa using hg)] at g4
            simp only [Prod.mk.injEq] at g4
            exact ⟨i + 1, by rw [he]; rfl, by rw [he, g4.1], by omega, by omega⟩
    · (try simp (disch := first | omega | (simp only [List.length_append, List.length_cons, List.length_nil, List.length_replicate, List.length_set, List.length_take, List.length_drop, vi_len, vb_len, vo_len, vl_len, vn_len]; omega)) only [↓EC, EV, EL, E2, E3, ER, seval, ↓reduceIte, false_imp_iff])
      have : i = n.toNat := by omega
      subst this
      rfl
end Go.Proofs.Ytcleiehdddjicaa.Sep

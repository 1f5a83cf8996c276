/- Desks. -/
import Derived.Test.YteiiohmcamoldaaC25
import Derived.Test.YteiiohmcamoldaaC26
namespace Go.Proofs.Yteiiohmcamoldaa.Sep
open Go.RowKit
set_option linter.unusedVariables false
set_option linter.unusedSimpArgs false
set_option maxRecDepth 20000
set_option maxHeartbeats 1000000

/-! ### Polynomials -/
def polB (l : List Int) : Bool := rngB l 0 10006 && decide (l.length ≤ 17 ∧ (l.length = 0 ∨ gi l (l.length - 1) ≠ 0))
theorem rngB_no {l : List Int} {lo hi : Int} {i : Nat} (hi' : i < l.length) (h : ¬ (lo ≤ gi l i ∧ gi l i ≤ hi)) : rngB l lo hi = false := by
  cases ha : rngB l lo hi with
  | false => rfl
  | true => exact absurd (by simpa [gi] using (all_getD (d := 0)).1 ha i hi') h
theorem rngB_yes {l : List Int} {lo hi : Int} (h : ∀ k, k < l.length → lo ≤ gi l k ∧ gi l k ≤ hi) : rngB l lo hi = true := (all_getD (d := 0)).2 fun j hj => by simpa [gi] using h j hj
theorem c_impl_isNumber {n : Int} : PSpec Try.prog 104 [.int .i64 n] fun v => v = .bool (decide (0 ≤ n ∧ n ≤ 10006)) := by
  refine impl_isNumber_f.f ?_
  simp (disch := first | omega | (simp only [List.length_append, List.length_cons, List.length_nil, List.length_replicate, List.length_set, List.length_take, List.length_drop, vi_len, vb_len, vo_len, vl_len, vn_len]; omega)) only [↓EC, EV, EL, E2, E3, ER, seval, ↓reduceIte, false_imp_iff, impl_isNumber_F]
  unfold Split
  simp only [V.bool.injEq]
  grind
theorem c_impl_IsPolynomial {l : List Int} (hl : l.length ≤ 1048576) : PSpec Try.prog 67 [.sl l.length (vi .i64 l)] fun v => v = .bool (polB l) := by
  refine impl_IsPolynomial_f.f ?_
  simp (disch := first | omega | (simp only [List.length_append, List.length_cons, List.length_nil, List.length_replicate, List.length_set, List.length_take, List.length_drop, vi_len, vb_len, vo_len, vl_len, vn_len]; omega)) only [↓EC, EV, EL, E2, E3, ER, seval, ↓reduceIte, false_imp_iff, impl_IsPolynomial_F]
  have hno : ∀ (h : ¬ (l.length ≤ 17 ∧ (l.length = 0 ∨ gi l (l.length - 1) ≠ 0))), polB l = false := fun h => by unfold polB; rw [decide_eq_false h, Bool.and_false]
  have key : (l.length ≤ 17 ∧ (l.length = 0 ∨ gi l (l.length - 1) ≠ 0)) → LP [24] [22, 23]
      (fun w73 l74 h75 N76 => VL (lift2 (abin .lss) (w73.getD 0 .und) (l74.getD 1 .und)) fun v89_77 => pcond
        (VL (vixS 1 (l74.getD 0 .und) (w73.getD 0 .und)) fun v90_78 => pld h75 none (fun v91_79 h80 => pcd Try.prog 104 93 h80 (fun v93_81 h82 => VL (lift1 (aun .not) v93_81) fun v94_83 =>
          pcond (V.bool false = V.bool (polB l)) (VL (lift2 (abin .add) (w73.getD 0 .und) (.int .i64 1)) fun v95_84 => N76 [v95_84] [(l74.getD 0 .und), (l74.getD 1 .und)] h82) v94_83) [dv h80 v91_79] true [v91_79]) v90_78)
        (V.bool true = V.bool (polB l)) v89_77) [.int .i64 0] [.sl l.length (vi .i64 l), .int .i64 l.length] hnil := fun hc => by
    refine LP_of (σ := Nat) 100000 [] (fun s => [.int .i64 s]) (fun s => []) (fun s => s ≤ l.length ∧ ∀ k, k < s → 0 ≤ gi l k ∧ gi l k ≤ 10006) (fun s => l.length - s) 0 (by simp [frameOk, names, lpz, sclp, scv, scvs, vi_nrf, vb_nrf, vt_nrf, v2_nrf, v3_nrf, nrfs, nrf, sc_vi, sc_vb, sc_vt, sc_v2, sc_v3, sc_vo, sc_vl, vo_nrf, vl_nrf, sc_vn, vn_nrf]) ⟨Nat.zero_le _, fun v hv => absurd hv (Nat.not_lt_zero v)⟩ ?_ ?_
    · simp (disch := first | omega | (simp only [List.length_append, List.length_cons, List.length_nil, List.length_replicate, List.length_set, List.length_take, List.length_drop, vi_len, vb_len, vo_len, vl_len, vn_len]; omega)) only [↓EC, EV, EL, E2, E3, ER, seval, ↓reduceIte, false_imp_iff, ColV_def]
    · rintro s ⟨h1, h2⟩
      simp (disch := first | omega | (simp only [List.length_append, List.length_cons, List.length_nil, List.length_replicate, List.length_set, List.length_take, List.length_drop, vi_len, vb_len, vo_len, vl_len, vn_len]; omega)) only [↓EC, EV, EL, E2, E3, ER, seval, ↓reduceIte, false_imp_iff, ColV_def, lheap_def]
      (refine Split.mk (fun h => ?_) (fun h => ?_) <;> (try simp only [decide_eq_true_eq, decide_eq_false_iff_not, beq_iff_eq, bne_iff_ne, beq_eq_false_iff_ne, bne_eq_false_iff_eq, Bool.not_eq_true', Bool.not_eq_false', Bool.and_eq_true, Bool.or_eq_true, Bool.and_eq_false_iff, Bool.or_eq_false_iff, Int.not_lt, Int.not_le, Bool.false_eq_true, Bool.true_eq_false, false_and, and_false, true_and, and_true, or_false, false_or, or_true, true_or, not_true_eq_false, not_false_eq_true] at h))
      · (try simp (disch := first | omega | (simp only [List.length_append, List.length_cons, List.length_nil, List.length_replicate, List.length_set, List.length_take, List.length_drop, vi_len, vb_len, vo_len, vl_len, vn_len]; omega)) only [↓EC, EV, EL, E2, E3, ER, seval, ↓reduceIte, false_imp_iff])
        (refine pcd_v (c_impl_isNumber) ?_; (try simp (disch := first | omega | (simp only [List.length_append, List.length_cons, List.length_nil, List.length_replicate, List.length_set, List.length_take, List.length_drop, vi_len, vb_len, vo_len, vl_len, vn_len]; omega)) only [↓EC, EV, EL, E2, E3, ER, seval, ↓reduceIte, false_imp_iff]))
        (refine Split.mk (fun h => ?_) (fun h => ?_) <;> (try simp only [decide_eq_true_eq, decide_eq_false_iff_not, beq_iff_eq, bne_iff_ne, beq_eq_false_iff_ne, bne_eq_false_iff_eq, Bool.not_eq_true', Bool.not_eq_false', Bool.and_eq_true, Bool.or_eq_true, Bool.and_eq_false_iff, Bool.or_eq_false_iff, Int.not_lt, Int.not_le, Bool.false_eq_true, Bool.true_eq_false, false_and, and_false, true_and, and_true, or_false, false_or, or_true, true_or, not_true_eq_false, not_false_eq_true] at h))
        · (try simp (disch := first | omega | (simp only [List.length_append, List.length_cons, List.length_nil, List.length_replicate, List.length_set, List.length_take, List.length_drop, vi_len, vb_len, vo_len, vl_len, vn_len]; omega)) only [↓EC, EV, EL, E2, E3, ER, seval, ↓reduceIte, false_imp_iff])
          rw [eq_comm, V.bool.injEq]; unfold polB; rw [rngB_no (i := s) (by omega) (by omega)]; rfl
        · (try simp (disch := first | omega | (simp only [List.length_append, List.length_cons, List.length_nil, List.length_replicate, List.length_set, List.length_take, List.length_drop, vi_len, vb_len, vo_len, vl_len, vn_len]; omega)) only [↓EC, EV, EL, E2, E3, ER, seval, ↓reduceIte, false_imp_iff])
          refine ⟨s + 1, rfl, ⟨by omega, fun j hj => ?_⟩, by omega⟩
          by_cases e : j = s
          · subst e; omega
          · exact h2 j (by omega)
      · (try simp (disch := first | omega | (simp only [List.length_append, List.length_cons, List.length_nil, List.length_replicate, List.length_set, List.length_take, List.length_drop, vi_len, vb_len, vo_len, vl_len, vn_len]; omega)) only [↓EC, EV, EL, E2, E3, ER, seval, ↓reduceIte, false_imp_iff])
        rw [eq_comm, V.bool.injEq]; unfold polB; rw [rngB_yes fun k hk => h2 k (by omega), decide_eq_true hc]; rfl
  have e1 : ((l.length : Int) - 1).toNat = l.length - 1 := by omega
  (refine Split.mk (fun h => ?_) (fun h => ?_) <;> (try simp only [decide_eq_true_eq, decide_eq_false_iff_not, beq_iff_eq, bne_iff_ne, beq_eq_false_iff_ne, bne_eq_false_iff_eq, Bool.not_eq_true', Bool.not_eq_false', Bool.and_eq_true, Bool.or_eq_true, Bool.and_eq_false_iff, Bool.or_eq_false_iff, Int.not_lt, Int.not_le, Bool.false_eq_true, Bool.true_eq_false, false_and, and_false, true_and, and_true, or_false, false_or, or_true, true_or, not_true_eq_false, not_false_eq_true] at h))
  · rw [hno fun h' => absurd h'.1 (by omega)]
  · (refine Split.mk (fun h => ?_) (fun h => ?_) <;> (try simp only [decide_eq_true_eq, decide_eq_false_iff_not, beq_iff_eq, bne_iff_ne, beq_eq_false_iff_ne, bne_eq_false_iff_eq, Bool.not_eq_true', Bool.not_eq_false', Bool.and_eq_true, Bool.or_eq_true, Bool.and_eq_false_iff, Bool.or_eq_false_iff, Int.not_lt, Int.not_le, Bool.false_eq_true, Bool.true_eq_false, false_and, and_false, true_and, and_true, or_false, false_or, or_true, true_or, not_true_eq_false, not_false_eq_true] at h))
    · (try simp (disch := first | omega | (simp only [List.length_append, List.length_cons, List.length_nil, List.length_replicate, List.length_set, List.length_take, List.length_drop, vi_len, vb_len, vo_len, vl_len, vn_len]; omega)) only [↓EC, EV, EL, E2, E3, ER, seval, ↓reduceIte, false_imp_iff, e1])
      (refine Split.mk (fun h => ?_) (fun h => ?_) <;> (try simp only [decide_eq_true_eq, decide_eq_false_iff_not, beq_iff_eq, bne_iff_ne, beq_eq_false_iff_ne, bne_eq_false_iff_eq, Bool.not_eq_true', Bool.not_eq_false', Bool.and_eq_true, Bool.or_eq_true, Bool.and_eq_false_iff, Bool.or_eq_false_iff, Int.not_lt, Int.not_le, Bool.false_eq_true, Bool.true_eq_false, false_and, and_false, true_and, and_true, or_false, false_or, or_true, true_or, not_true_eq_false, not_false_eq_true] at h))
      · (try simp (disch := first | omega | (simp only [List.length_append, List.length_cons, List.length_nil, List.length_replicate, List.length_set, List.length_take, List.length_drop, vi_len, vb_len, vo_len, vl_len, vn_len]; omega)) only [↓EC, EV, EL, E2, E3, ER, seval, ↓reduceIte, false_imp_iff])
        rw [hno fun h' => h'.2.elim (fun h'' => by omega) fun h'' => h'' h]
      · exact key ⟨by omega, .inr h⟩
    · exact key ⟨by omega, .inl (by omega)⟩
theorem c_spec_l06Is {l : List Int} (hl : l.length ≤ 1048576) : PSpec Try.prog 65 [.sl l.length (vi .i64 l)] fun v => v = .bool (polB l) := by
  refine spec_l06Is_f.f ?_
  simp (disch := first | omega | (simp only [List.length_append, List.length_cons, List.length_nil, List.length_replicate, List.length_set, List.length_take, List.length_drop, vi_len, vb_len, vo_len, vl_len, vn_len]; omega)) only [↓EC, EV, EL, E2, E3, ER, seval, ↓reduceIte, false_imp_iff, spec_l06Is_F]
  refine LP_of (σ := Nat) 100000 [] (fun s => [.int .i64 s]) (fun s => []) (fun s => s ≤ l.length ∧ ∀ k, k < s → 0 ≤ gi l k ∧ gi l k ≤ 10006) (fun s => l.length - s) 0 (by simp [frameOk, names, lpz, sclp, scv, scvs, vi_nrf, vb_nrf, vt_nrf, v2_nrf, v3_nrf, nrfs, nrf, sc_vi, sc_vb, sc_vt, sc_v2, sc_v3, sc_vo, sc_vl, vo_nrf, vl_nrf, sc_vn, vn_nrf]) ⟨Nat.zero_le _, fun v hv => absurd hv (Nat.not_lt_zero v)⟩ ?_ ?_
  · simp (disch := first | omega | (simp only [List.length_append, List.length_cons, List.length_nil, List.length_replicate, List.length_set, List.length_take, List.length_drop, vi_len, vb_len, vo_len, vl_len, vn_len]; omega)) only [↓EC, EV, EL, E2, E3, ER, seval, ↓reduceIte, false_imp_iff, ColV_def]
  · rintro s ⟨h1, h2⟩
    simp (disch := first | omega | (simp only [List.length_append, List.length_cons, List.length_nil, List.length_replicate, List.length_set, List.length_take, List.length_drop, vi_len, vb_len, vo_len, vl_len, vn_len]; omega)) only [↓EC, EV, EL, E2, E3, ER, seval, ↓reduceIte, false_imp_iff, ColV_def, lheap_def]
    (refine Split.mk (fun h => ?_) (fun h => ?_) <;> (try simp only [decide_eq_true_eq, decide_eq_false_iff_not, beq_iff_eq, bne_iff_ne, beq_eq_false_iff_ne, bne_eq_false_iff_eq, Bool.not_eq_true', Bool.not_eq_false', Bool.and_eq_true, Bool.or_eq_true, Bool.and_eq_false_iff, Bool.or_eq_false_iff, Int.not_lt, Int.not_le, Bool.false_eq_true, Bool.true_eq_false, false_and, and_false, true_and, and_true, or_false, false_or, or_true, true_or, not_true_eq_false, not_false_eq_true] at h))
    · (try simp (disch := first | omega | (simp only [List.length_append, List.length_cons, List.length_nil, List.length_replicate, List.length_set, List.length_take, List.length_drop, vi_len, vb_len, vo_len, vl_len, vn_len]; omega)) only [↓EC, EV, EL, E2, E3, ER, seval, ↓reduceIte, false_imp_iff])
      (refine pcd_v (c_spec_l01In) ?_; (try simp (disch := first | omega | (simp only [List.length_append, List.length_cons, List.length_nil, List.length_replicate, List.length_set, List.length_take, List.length_drop, vi_len, vb_len, vo_len, vl_len, vn_len]; omega)) only [↓EC, EV, EL, E2, E3, ER, seval, ↓reduceIte, false_imp_iff]))
      (refine Split.mk (fun h => ?_) (fun h => ?_) <;> (try simp only [decide_eq_true_eq, decide_eq_false_iff_not, beq_iff_eq, bne_iff_ne, beq_eq_false_iff_ne, bne_eq_false_iff_eq, Bool.not_eq_true', Bool.not_eq_false', Bool.and_eq_true, Bool.or_eq_true, Bool.and_eq_false_iff, Bool.or_eq_false_iff, Int.not_lt, Int.not_le, Bool.false_eq_true, Bool.true_eq_false, false_and, and_false, true_and, and_true, or_false, false_or, or_true, true_or, not_true_eq_false, not_false_eq_true] at h))
      · (try simp (disch := first | omega | (simp only [List.length_append, List.length_cons, List.length_nil, List.length_replicate, List.length_set, List.length_take, List.length_drop, vi_len, vb_len, vo_len, vl_len, vn_len]; omega)) only [↓EC, EV, EL, E2, E3, ER, seval, ↓reduceIte, false_imp_iff])
        rw [eq_comm, V.bool.injEq]; unfold polB; rw [rngB_no (i := s) (by omega) (by omega)]; rfl
      · (try simp (disch := first | omega | (simp only [List.length_append, List.length_cons, List.length_nil, List.length_replicate, List.length_set, List.length_take, List.length_drop, vi_len, vb_len, vo_len, vl_len, vn_len]; omega)) only [↓EC, EV, EL, E2, E3, ER, seval, ↓reduceIte, false_imp_iff])
        refine ⟨s + 1, rfl, ⟨by omega, fun j hj => ?_⟩, by omega⟩
        by_cases e : j = s
        · subst e; omega
        · exact h2 j (by omega)
    · have hr : polB l = decide (l.length ≤ 17 ∧ (l.length = 0 ∨ gi l (l.length - 1) ≠ 0)) := by unfold polB; rw [rngB_yes fun k hk => h2 k (by omega)]; rfl
      have e1 : ((l.length : Int) - 1).toNat = l.length - 1 := by omega
      rw [hr]
      (try simp (disch := first | omega | (simp only [List.length_append, List.length_cons, List.length_nil, List.length_replicate, List.length_set, List.length_take, List.length_drop, vi_len, vb_len, vo_len, vl_len, vn_len]; omega)) only [↓EC, EV, EL, E2, E3, ER, seval, ↓reduceIte, false_imp_iff, e1])
      (refine Split.mk (fun h => ?_) (fun h => ?_) <;> (try simp only [decide_eq_true_eq, decide_eq_false_iff_not, beq_iff_eq, bne_iff_ne, beq_eq_false_iff_ne, bne_eq_false_iff_eq, Bool.not_eq_true', Bool.not_eq_false', Bool.and_eq_true, Bool.or_eq_true, Bool.and_eq_false_iff, Bool.or_eq_false_iff, Int.not_lt, Int.not_le, Bool.false_eq_true, Bool.true_eq_false, false_and, and_false, true_and, and_true, or_false, false_or, or_true, true_or, not_true_eq_false, not_false_eq_true] at h))
      · (refine Split.mk (fun h => ?_) (fun h => ?_) <;> (try simp only [decide_eq_true_eq, decide_eq_false_iff_not, beq_iff_eq, bne_iff_ne, beq_eq_false_iff_ne, bne_eq_false_iff_eq, Bool.not_eq_true', Bool.not_eq_false', Bool.and_eq_true, Bool.or_eq_true, Bool.and_eq_false_iff, Bool.or_eq_false_iff, Int.not_lt, Int.not_le, Bool.false_eq_true, Bool.true_eq_false, false_and, and_false, true_and, and_true, or_false, false_or, or_true, true_or, not_true_eq_false, not_false_eq_true] at h))
        · rw [V.bool.injEq, eq_comm, decide_eq_true_eq]; exact ⟨by omega, .inl (by omega)⟩
        · (try simp (disch := first | omega | (simp only [List.length_append, List.length_cons, List.length_nil, List.length_replicate, List.length_set, List.length_take, List.length_drop, vi_len, vb_len, vo_len, vl_len, vn_len]; omega)) only [↓EC, EV, EL, E2, E3, ER, seval, ↓reduceIte, false_imp_iff, e1])
          rw [V.bool.injEq, Bool.eq_iff_iff, bne_iff_ne, decide_eq_true_eq]
          exact ⟨fun h => ⟨by omega, .inr h⟩, fun h => h.2.elim (fun h => absurd h (by omega)) id⟩
      · rw [V.bool.injEq, eq_comm, decide_eq_false_iff_not]; omega
/-! ### A desk's cells -/
def kK (n1 : Int) (b1 w1 : List Int) (n2 : Int) (b2 w2 : List Int) (p : V) : List V := .int .i64 n1 :: vi .u8 (b1 ++ w1) ++ (.int .i64 n2 :: vi .u8 (b2 ++ w2) ++ [p])
def o16 : List Int := List.replicate 16 0
theorem o16_len : o16.length = 16 := rfl
section
variable {n1 n2 m : Int} {b1 w1 b2 w2 c d : List Int} {p q : V} {h : Hp} {j : Nat}
theorem kz : ([(V.int .i64 0)] ++ (vi .u8 (List.replicate 32 0) ++ ([(V.int .i64 0)] ++ (vi .u8 (List.replicate 32 0) ++ ([V.nils]))))) = kK 0 o16 o16 0 o16 o16 .nils := rfl
theorem kK_len (h1 : b1.length = 16) (h2 : w1.length = 16) (h3 : b2.length = 16) (h4 : w2.length = 16) : (kK n1 b1 w1 n2 b2 w2 p).length = 67 := by
  simp [kK, vi_len, h1, h2, h3, h4]
theorem kK_d33 (h1 : b1.length = 16) (h2 : w1.length = 16) : (kK n1 b1 w1 n2 b2 w2 p).drop 33 = .int .i64 n2 :: vi .u8 (b2 ++ w2) ++ [p] := by
  unfold kK; rw [List.drop_left' (by simp [vi_len, h1, h2])]
theorem kK_t0 (h1 : b1.length = 16) (h2 : w1.length = 16) : (kK n1 b1 w1 n2 b2 w2 p).take 33 = .int .i64 n1 :: vi .u8 (b1 ++ w1) := by
  unfold kK; rw [List.take_left' (by simp [vi_len, h1, h2])]
theorem kK_t1 (h1 : b1.length = 16) (h2 : w1.length = 16) (h3 : b2.length = 16) (h4 : w2.length = 16) : ((kK n1 b1 w1 n2 b2 w2 p).drop 33).take 33 = .int .i64 n2 :: vi .u8 (b2 ++ w2) := by
  rw [kK_d33 h1 h2, List.take_left' (by simp [vi_len, h3, h4])]
theorem kK_d66 (h1 : b1.length = 16) (h2 : w1.length = 16) (h3 : b2.length = 16) (h4 : w2.length = 16) : (kK n1 b1 w1 n2 b2 w2 p).drop 66 = [p] := by
  rw [show 66 = 33 + 33 from rfl, ← List.drop_drop, kK_d33 h1 h2, List.drop_left' (by simp [vi_len, h3, h4])]
theorem kK_get (h1 : b1.length = 16) (h2 : w1.length = 16) (h3 : b2.length = 16) (h4 : w2.length = 16) : (kK n1 b1 w1 n2 b2 w2 p).getD 66 .und = p := by
  have := kK_d66 (n1 := n1) (n2 := n2) (p := p) h1 h2 h3 h4
  have hl := kK_len (n1 := n1) (n2 := n2) (p := p) h1 h2 h3 h4
  rw [drop_getD (d := V.und) (by omega)] at this
  simp only [List.cons.injEq] at this
  exact this.1
theorem kK_set (h1 : b1.length = 16) (h2 : w1.length = 16) (h3 : b2.length = 16) (h4 : w2.length = 16) : (kK n1 b1 w1 n2 b2 w2 p).set 66 q = kK n1 b1 w1 n2 b2 w2 q := by
  unfold kK
  rw [List.set_append_right _ _ (by simp [vi_len, h1, h2]), List.set_append_right _ _ (by simp [vi_len, h1, h2, h3, h4])]
  simp [vi_len, h1, h2, h3, h4]
theorem kK_s0 (h1 : b1.length = 16) (h2 : w1.length = 16) (h5 : c.length = 16) (h6 : d.length = 16) : setV (kK n1 b1 w1 n2 b2 w2 p) 0 (.int .i64 m :: vi .u8 (c ++ d)) = kK m c d n2 b2 w2 p := by
  have hl : (V.int .i64 m :: vi .u8 (c ++ d)).length = 33 := by simp [vi_len, h5, h6]
  rw [setV_more (by omega), hl, Nat.zero_add, kK_d33 h1 h2]
  simp [kK]
theorem kK_s1 (h1 : b1.length = 16) (h2 : w1.length = 16) (h3 : b2.length = 16) (h4 : w2.length = 16) (h5 : c.length = 16) (h6 : d.length = 16) : setV (kK n1 b1 w1 n2 b2 w2 p) 33 (.int .i64 m :: vi .u8 (c ++ d)) = kK n1 b1 w1 m c d p := by
  have hl : (V.int .i64 m :: vi .u8 (c ++ d)).length = 33 := by simp [vi_len, h5, h6]
  rw [setV_more (by omega), hl, kK_t0 h1 h2, kK_d66 h1 h2 h3 h4]
  simp [kK]
theorem kK_sa {n3 n4 : Int} {b3 w3 b4 w4 : List Int} (h1 : b1.length = 16) (h2 : w1.length = 16) (h3 : b2.length = 16) (h4 : w2.length = 16) (h5 : b3.length = 16) (h6 : w3.length = 16) (h7 : b4.length = 16) (h8 : w4.length = 16) :
    setV (kK n1 b1 w1 n2 b2 w2 p) 0 (kK n3 b3 w3 n4 b4 w4 q) = kK n3 b3 w3 n4 b4 w4 q := setV_full (by rw [kK_len h1 h2 h3 h4, kK_len h5 h6 h7 h8])
theorem kK_ta (h1 : b1.length = 16) (h2 : w1.length = 16) (h3 : b2.length = 16) (h4 : w2.length = 16) : (kK n1 b1 w1 n2 b2 w2 p).take 67 = kK n1 b1 w1 n2 b2 w2 p := List.take_of_length_le (by rw [kK_len h1 h2 h3 h4]; exact Nat.le_refl _)
theorem kK_all : (kK n1 b1 w1 n2 b2 w2 p).all cell1 = cell1 p := by simp [kK, List.all_append, vi_all, cell1]
theorem kK_own : noOwn (kK n1 b1 w1 n2 b2 w2 p) = plain1 p := by
  unfold kK
  simp only [List.cons_append, noOwn_cons, noOwn_app, vi_own, plain1_int, Bool.true_and, noOwn_nil, Bool.and_true]
theorem kK_vws : vws (kK n1 b1 w1 n2 b2 w2 p) = kK n1 b1 w1 n2 b2 w2 (vw p) := by
  unfold kK
  simp only [List.cons_append, vws_cons, vws_app, vi_vws, vw_int, vws_nil]
theorem kK_dvs : dvs h (kK n1 b1 w1 n2 b2 w2 p) = kK n1 b1 w1 n2 b2 w2 (dv h p) := by
  unfold kK
  simp only [List.cons_append, dvs_cons, dvs_app, vi_dvs, dv_int, dvs_nil]
theorem mvs_app {bs : List Nat} {l l' : List V} : mvs bs h (l ++ l') = mvs bs h l ++ mvs bs h l' := by induction l <;> simp_all [mvs]
theorem vi_mvs {bs : List Nat} {k : IntKind} {l : List Int} : mvs bs h (vi k l) = vi k l := by induction l <;> simp_all [vi, mvs, mv]
theorem kK_mvs {bs : List Nat} : mvs bs h (kK n1 b1 w1 n2 b2 w2 p) = kK n1 b1 w1 n2 b2 w2 (mv bs h p) := by
  unfold kK
  simp only [List.cons_append, mvs_cons, mvs_app, vi_mvs, mv_int, mvs_nil]
theorem kK_clos : clos (kK n1 b1 w1 n2 b2 w2 p) = clo p := by
  unfold kK
  simp only [List.cons_append, clos_cons, clos_app, vi_clo, clo_int, Bool.true_and, clos_nil, Bool.and_true]
theorem kK_nrfs : nrfs (kK n1 b1 w1 n2 b2 w2 p) = nrf p := by
  unfold kK
  simp only [List.cons_append, nrfs_cons, nrfs_app, vi_nrf, nrf_int, Bool.true_and, nrfs_nil, Bool.and_true]
theorem kK_fin : folds (fin (j + 1)) h (kK n1 b1 w1 n2 b2 w2 p) = (fin (j + 1) h p).map fun r => (kK n1 b1 w1 n2 b2 w2 r.1, r.2) := by
  unfold kK
  simp only [List.cons_append, folds_cons, folds_app, vi_fin, fin_int, bind_some', folds_nil]
  cases fin (j + 1) h p <;> simp
theorem mats_app {l l' : List V} {c : Nat} : mats (l ++ l') c = ((mats l c).1 ++ (mats l' (mats l c).2.2).1, (mats l c).2.1 ++ (mats l' (mats l c).2.2).2.1, (mats l' (mats l c).2.2).2.2) := by
  induction l generalizing c with
  | nil => simp [mats]
  | cons v l ih => simp [mats, ih]
theorem vi_mats {k : IntKind} {l : List Int} {c : Nat} : mats (vi k l) c = (vi k l, [], c) := by
  induction l with
  | nil => simp [vi, mats]
  | cons a l ih =>
    simp only [vi, List.map_cons] at ih ⊢
    simp [mats, mat, ih]
theorem kK_mats {c : Nat} : mats (kK n1 b1 w1 n2 b2 w2 p) c = (kK n1 b1 w1 n2 b2 w2 (mat p c).1, (mat p c).2) := by
  unfold kK
  simp [List.cons_append, mats_cons, mats_app, vi_mats, mat_int, mats_nil]
theorem kK_fill {b o n : Nat} {m' : Int} {c' d' : List Int} (h1 : c.length = 16) (h2 : d.length = 16) (h3 : c'.length = 16) (h4 : d'.length = 16) :
    vfill ([(V.int .i64 0)] ++ (vi .u8 (List.replicate 32 0) ++ ([(V.int .i64 0)] ++ (vi .u8 (List.replicate 32 0) ++ ([V.nils]))))) [(0, 33, .agg (.int .i64 m :: vi .u8 (c ++ d))), (33, 33, .agg (.int .i64 m' :: vi .u8 (c' ++ d'))), (66, 1, .rf b o n)] =
    some (kK m c d m' c' d' (.rf b o n)) := by
  have l1 : (V.int .i64 m :: vi .u8 (c ++ d)).length = 33 := by simp [vi_len, h1, h2]
  have l2 : (V.int .i64 m' :: vi .u8 (c' ++ d')).length = 33 := by simp [vi_len, h3, h4]
  rw [kz]
  simp only [vfill_cons, vfill_nil, cellOk_agg, cellsV_agg, cellsV_rf, cellOk_rf, l1, l2, List.take_zero, List.nil_append, Nat.zero_add]
  rw [kK_d33 o16_len o16_len]
  have e1 : (V.int .i64 m :: vi .u8 (c ++ d)) ++ (.int .i64 0 :: vi .u8 (o16 ++ o16) ++ [V.nils]) = kK m c d 0 o16 o16 .nils := rfl
  rw [e1, kK_t0 h1 h2, kK_d66 h1 h2 o16_len o16_len]
  have e2 : (V.int .i64 m :: vi .u8 (c ++ d)) ++ (V.int .i64 m' :: vi .u8 (c' ++ d')) ++ [V.nils] = kK m c d m' c' d' .nils := by simp [kK]
  rw [e2, kK_len o16_len o16_len o16_len o16_len, kK_len h1 h2 o16_len o16_len, kK_len h1 h2 h3 h4]
  have e3 : (kK m c d m' c' d' V.nils).take 66 ++ [V.rf b o n] ++ (kK m c d m' c' d' V.nils).drop (66 + 1) = kK m c d m' c' d' (.rf b o n) := by
    rw [List.drop_of_length_le (by rw [kK_len h1 h2 h3 h4]; exact Nat.le_refl _), List.append_nil]
    unfold kK
    rw [← List.append_assoc, List.take_left' (by simp [vi_len, h1, h2, h3, h4])]
    simp
  rw [e3]
  simp [grd]
end
theorem kK_fill' {b o n : Nat} {m m' : Int} {c d c' d' : List Int} (h1 : c.length = 16) (h2 : d.length = 16) (h3 : c'.length = 16) (h4 : d'.length = 16) :
    vfill (kK 0 o16 o16 0 o16 o16 .nils) [(0, 33, .agg (.int .i64 m :: vi .u8 (c ++ d))), (33, 33, .agg (.int .i64 m' :: vi .u8 (c' ++ d'))), (66, 1, .rf b o n)] = some (kK m c d m' c' d' (.rf b o n)) := by
  rw [← kz]; exact kK_fill h1 h2 h3 h4
set_option linter.defProp false in
def EK := And.intro @kK_len <| And.intro @kK_t0 <| And.intro @kK_t1 <| And.intro @kK_get <| And.intro @kK_set <| And.intro @kK_s0 <| And.intro @kK_s1 <| And.intro @kK_sa <| And.intro @kK_ta <| And.intro @kK_all <| And.intro @kK_own <| And.intro @kK_vws <| And.intro @kK_dvs <| And.intro @kK_mvs <|
  And.intro @kK_clos <| And.intro @kK_nrfs <| And.intro @kK_fin <| And.intro @kK_mats @o16_len
theorem c_impl_IsDesk {n1 n2 : Int} {b1 w1 b2 w2 l : List Int} (hb1 : okP b1) (hw1 : okP w1) (hb2 : okP b2) (hw2 : okP w2) (hl : l.length ≤ 1048576) :
    PSpec Try.prog 31 [.agg (kK n1 b1 w1 n2 b2 w2 (.sl l.length (vi .i64 l)))] fun v => v = .bool (isDB n1 b1 w1 && isDB n2 b2 w2 && polB l) := by
  have k1 := hb1.len
  have k2 := hw1.len
  have k3 := hb2.len
  have k4 := hw2.len
  have k0 := o16_len
  refine impl_IsDesk_f.f ?_
  simp (disch := first | omega | (simp only [List.length_append, List.length_cons, List.length_nil, List.length_replicate, List.length_set, List.length_take, List.length_drop, vi_len, vb_len, vo_len, vl_len, vn_len]; omega)) only [↓EC, EV, EL, E2, E3, ER, seval, ↓reduceIte, false_imp_iff, impl_IsDesk_F, k1, k2, k3, k4, EK]
  have q1 := c_impl_IsDessin (n := n1) hb1 hw1
  have q2 := c_impl_IsDessin (n := n2) hb2 hw2
  have q3 := c_impl_IsPolynomial hl
  unfold vD at q1 q2
  refine pcd_v q1 ?_
  (try simp (disch := first | omega | (simp only [List.length_append, List.length_cons, List.length_nil, List.length_replicate, List.length_set, List.length_take, List.length_drop, vi_len, vb_len, vo_len, vl_len, vn_len]; omega)) only [↓EC, EV, EL, E2, E3, ER, seval, ↓reduceIte, false_imp_iff, k1, k2, k3, k4, EK])
  cases e1 : isDB n1 b1 w1 with
  | false => (try simp (disch := first | omega | (simp only [List.length_append, List.length_cons, List.length_nil, List.length_replicate, List.length_set, List.length_take, List.length_drop, vi_len, vb_len, vo_len, vl_len, vn_len]; omega)) only [↓EC, EV, EL, E2, E3, ER, seval, ↓reduceIte, false_imp_iff, k1])
  | true =>
    (try simp (disch := first | omega | (simp only [List.length_append, List.length_cons, List.length_nil, List.length_replicate, List.length_set, List.length_take, List.length_drop, vi_len, vb_len, vo_len, vl_len, vn_len]; omega)) only [↓EC, EV, EL, E2, E3, ER, seval, ↓reduceIte, false_imp_iff, k1, k2, k3, k4, EK])
    refine pcd_v q2 ?_
    (try simp (disch := first | omega | (simp only [List.length_append, List.length_cons, List.length_nil, List.length_replicate, List.length_set, List.length_take, List.length_drop, vi_len, vb_len, vo_len, vl_len, vn_len]; omega)) only [↓EC, EV, EL, E2, E3, ER, seval, ↓reduceIte, false_imp_iff, k1, k2, k3, k4, EK])
    cases e2 : isDB n2 b2 w2 with
    | false => (try simp (disch := first | omega | (simp only [List.length_append, List.length_cons, List.length_nil, List.length_replicate, List.length_set, List.length_take, List.length_drop, vi_len, vb_len, vo_len, vl_len, vn_len]; omega)) only [↓EC, EV, EL, E2, E3, ER, seval, ↓reduceIte, false_imp_iff, k1])
    | true =>
      (try simp (disch := first | omega | (simp only [List.length_append, List.length_cons, List.length_nil, List.length_replicate, List.length_set, List.length_take, List.length_drop, vi_len, vb_len, vo_len, vl_len, vn_len]; omega)) only [↓EC, EV, EL, E2, E3, ER, seval, ↓reduceIte, false_imp_iff, k1, k2, k3, k4, EK])
      refine pcd_v q3 ?_
      (try simp (disch := first | omega | (simp only [List.length_append, List.length_cons, List.length_nil, List.length_replicate, List.length_set, List.length_take, List.length_drop, vi_len, vb_len, vo_len, vl_len, vn_len]; omega)) only [↓EC, EV, EL, E2, E3, ER, seval, ↓reduceIte, false_imp_iff, k1, k2, k3, k4, EK])
theorem c_spec_IsDesk {n1 n2 : Int} {b1 w1 b2 w2 l : List Int} (hb1 : okP b1) (hw1 : okP w1) (hb2 : okP b2) (hw2 : okP w2) (hl : l.length ≤ 1048576) :
    PSpec Try.prog 29 [.agg (kK n1 b1 w1 n2 b2 w2 (.sl l.length (vi .i64 l)))] fun v => v = .bool (isDB n1 b1 w1 && isDB n2 b2 w2 && polB l) := by
  have k1 := hb1.len
  have k2 := hw1.len
  have k3 := hb2.len
  have k4 := hw2.len
  have k0 := o16_len
  refine spec_IsDesk_f.f ?_
  simp (disch := first | omega | (simp only [List.length_append, List.length_cons, List.length_nil, List.length_replicate, List.length_set, List.length_take, List.length_drop, vi_len, vb_len, vo_len, vl_len, vn_len]; omega)) only [↓EC, EV, EL, E2, E3, ER, seval, ↓reduceIte, false_imp_iff, spec_IsDesk_F, k1, k2, k3, k4, EK]
  have q1 := c_spec_l01Is (n := n1) hb1 hw1
  have q2 := c_spec_l01Is (n := n2) hb2 hw2
  have q3 := c_spec_l06Is hl
  unfold vD at q1 q2
  refine pcd_v q1 ?_
  (try simp (disch := first | omega | (simp only [List.length_append, List.length_cons, List.length_nil, List.length_replicate, List.length_set, List.length_take, List.length_drop, vi_len, vb_len, vo_len, vl_len, vn_len]; omega)) only [↓EC, EV, EL, E2, E3, ER, seval, ↓reduceIte, false_imp_iff, k1, k2, k3, k4, EK])
  cases e1 : isDB n1 b1 w1 with
  | false => (try simp (disch := first | omega | (simp only [List.length_append, List.length_cons, List.length_nil, List.length_replicate, List.length_set, List.length_take, List.length_drop, vi_len, vb_len, vo_len, vl_len, vn_len]; omega)) only [↓EC, EV, EL, E2, E3, ER, seval, ↓reduceIte, false_imp_iff, k1])
  | true =>
    (try simp (disch := first | omega | (simp only [List.length_append, List.length_cons, List.length_nil, List.length_replicate, List.length_set, List.length_take, List.length_drop, vi_len, vb_len, vo_len, vl_len, vn_len]; omega)) only [↓EC, EV, EL, E2, E3, ER, seval, ↓reduceIte, false_imp_iff, k1, k2, k3, k4, EK])
    refine pcd_v q2 ?_
    (try simp (disch := first | omega | (simp only [List.length_append, List.length_cons, List.length_nil, List.length_replicate, List.length_set, List.length_take, List.length_drop, vi_len, vb_len, vo_len, vl_len, vn_len]; omega)) only [↓EC, EV, EL, E2, E3, ER, seval, ↓reduceIte, false_imp_iff, k1, k2, k3, k4, EK])
    cases e2 : isDB n2 b2 w2 with
    | false => (try simp (disch := first | omega | (simp only [List.length_append, List.length_cons, List.length_nil, List.length_replicate, List.length_set, List.length_take, List.length_drop, vi_len, vb_len, vo_len, vl_len, vn_len]; omega)) only [↓EC, EV, EL, E2, E3, ER, seval, ↓reduceIte, false_imp_iff, k1])
    | true =>
      (try simp (disch := first | omega | (simp only [List.length_append, List.length_cons, List.length_nil, List.length_replicate, List.length_set, List.length_take, List.length_drop, vi_len, vb_len, vo_len, vl_len, vn_len]; omega)) only [↓EC, EV, EL, E2, E3, ER, seval, ↓reduceIte, false_imp_iff, k1, k2, k3, k4, EK])
      refine pcd_v q3 ?_
      (try simp (disch := first | omega | (simp only [List.length_append, List.length_cons, List.length_nil, List.length_replicate, List.length_set, List.length_take, List.length_drop, vi_len, vb_len, vo_len, vl_len, vn_len]; omega)) only [↓EC, EV, EL, E2, E3, ER, seval, ↓reduceIte, false_imp_iff, k1, k2, k3, k4, EK])

theorem c_laws_toDesk {n1 n2 : Int} {b1 w1 b2 w2 l : List Int} (hb1 : okP b1) (hw1 : okP w1) (hb2 : okP b2) (hw2 : okP w2) (hl : l.length ≤ 1048576) :
    PSpec Try.prog 30 [.agg (kK n1 b1 w1 n2 b2 w2 (.sl l.length (vi .i64 l)))] fun v => v = .agg (kK n1 b1 w1 n2 b2 w2 (.own 2 1 l.length (vi .i64 l))) := by
  have k1 := hb1.len
  have k2 := hw1.len
  have k3 := hb2.len
  have k4 := hw2.len
  have k0 := o16_len
  refine laws_toDesk_f.f ?_
  simp (disch := first | omega | (simp only [List.length_append, List.length_cons, List.length_nil, List.length_replicate, List.length_set, List.length_take, List.length_drop, vi_len, vb_len, vo_len, vl_len, vn_len]; omega)) only [↓EC, EV, EL, E2, E3, ER, seval, ↓reduceIte, false_imp_iff, laws_toDesk_F, k1, k2, k3, k4, ↓kz, EK]
  have q1 := c_laws_toDessin (n := n1) hb1 hw1
  have q2 := c_laws_toDessin (n := n2) hb2 hw2
  unfold vD at q1 q2
  refine pcd_v q1 ?_
  (try simp (disch := first | omega | (simp only [List.length_append, List.length_cons, List.length_nil, List.length_replicate, List.length_set, List.length_take, List.length_drop, vi_len, vb_len, vo_len, vl_len, vn_len]; omega)) only [↓EC, EV, EL, E2, E3, ER, seval, ↓reduceIte, false_imp_iff, k1, k2, k3, k4, EK])
  refine pcd_v q2 ?_
  (try simp (disch := first | omega | (simp only [List.length_append, List.length_cons, List.length_nil, List.length_replicate, List.length_set, List.length_take, List.length_drop, vi_len, vb_len, vo_len, vl_len, vn_len]; omega)) only [↓EC, EV, EL, E2, E3, ER, seval, ↓reduceIte, false_imp_iff, k1, k2, k3, k4, EK])
  refine pcd_o (c_laws_toInt64S hl) ?_
  (try simp (disch := first | omega | (simp only [List.length_append, List.length_cons, List.length_nil, List.length_replicate, List.length_set, List.length_take, List.length_drop, vi_len, vb_len, vo_len, vl_len, vn_len]; omega)) only [↓EC, EV, EL, E2, E3, ER, seval, ↓reduceIte, false_imp_iff, k1, k2, k3, k4, EK])
theorem c_laws_eqDesk {n1 n2 : Int} {b1 w1 b2 w2 l : List Int} {n1' n2' : Int} {b1' w1' b2' w2' l' : List Int} (hb1 : b1.length = 16) (hw1 : w1.length = 16) (hb2 : b2.length = 16) (hw2 : w2.length = 16) (hb1' : b1'.length = 16) (hw1' : w1'.length = 16) (hb2' : b2'.length = 16) (hw2' : w2'.length = 16)
    (hl : l.length ≤ 1048576) : PSpec Try.prog 17 [.agg (kK n1 b1 w1 n2 b2 w2 (.sl l.length (vi .i64 l))), .agg (kK n1' b1' w1' n2' b2' w2' (.sl l'.length (vi .i64 l')))] fun v => v = .bool (decide (n1 = n1' ∧ b1 = b1' ∧ w1 = w1') && (decide (n2 = n2' ∧ b2 = b2' ∧ w2 = w2') && decide (l = l'))) := by
  refine laws_eqDesk_f.f ?_
  simp (disch := first | omega | (simp only [List.length_append, List.length_cons, List.length_nil, List.length_replicate, List.length_set, List.length_take, List.length_drop, vi_len, vb_len, vo_len, vl_len, vn_len]; omega)) only [↓EC, EV, EL, E2, E3, ER, seval, ↓reduceIte, false_imp_iff, laws_eqDesk_F, EK]
  have q1 := c_laws_eqDessin (n := n1) (m := n1') hb1 hw1 hb1' hw1'
  have q2 := c_laws_eqDessin (n := n2) (m := n2') hb2 hw2 hb2' hw2'
  have q3 := c_laws_eqInt64S (l := l) (m := l') hl
  unfold vD at q1 q2
  refine pcd_v q1 ?_
  (try simp (disch := first | omega | (simp only [List.length_append, List.length_cons, List.length_nil, List.length_replicate, List.length_set, List.length_take, List.length_drop, vi_len, vb_len, vo_len, vl_len, vn_len]; omega)) only [↓EC, EV, EL, E2, E3, ER, seval, ↓reduceIte, false_imp_iff, EK])
  cases e1 : decide (n1 = n1' ∧ b1 = b1' ∧ w1 = w1') with
  | false => (try simp (disch := first | omega | (simp only [List.length_append, List.length_cons, List.length_nil, List.length_replicate, List.length_set, List.length_take, List.length_drop, vi_len, vb_len, vo_len, vl_len, vn_len]; omega)) only [↓EC, EV, EL, E2, E3, ER, seval, ↓reduceIte, false_imp_iff, EK])
  | true =>
    (try simp (disch := first | omega | (simp only [List.length_append, List.length_cons, List.length_nil, List.length_replicate, List.length_set, List.length_take, List.length_drop, vi_len, vb_len, vo_len, vl_len, vn_len]; omega)) only [↓EC, EV, EL, E2, E3, ER, seval, ↓reduceIte, false_imp_iff, EK])
    refine pcd_v q2 ?_
    (try simp (disch := first | omega | (simp only [List.length_append, List.length_cons, List.length_nil, List.length_replicate, List.length_set, List.length_take, List.length_drop, vi_len, vb_len, vo_len, vl_len, vn_len]; omega)) only [↓EC, EV, EL, E2, E3, ER, seval, ↓reduceIte, false_imp_iff, EK])
    cases e2 : decide (n2 = n2' ∧ b2 = b2' ∧ w2 = w2') with
    | false => (try simp (disch := first | omega | (simp only [List.length_append, List.length_cons, List.length_nil, List.length_replicate, List.length_set, List.length_take, List.length_drop, vi_len, vb_len, vo_len, vl_len, vn_len]; omega)) only [↓EC, EV, EL, E2, E3, ER, seval, ↓reduceIte, false_imp_iff, EK])
    | true =>
      (try simp (disch := first | omega | (simp only [List.length_append, List.length_cons, List.length_nil, List.length_replicate, List.length_set, List.length_take, List.length_drop, vi_len, vb_len, vo_len, vl_len, vn_len]; omega)) only [↓EC, EV, EL, E2, E3, ER, seval, ↓reduceIte, false_imp_iff, EK])
      refine pcd_v q3 ?_
      (try simp (disch := first | omega | (simp only [List.length_append, List.length_cons, List.length_nil, List.length_replicate, List.length_set, List.length_take, List.length_drop, vi_len, vb_len, vo_len, vl_len, vn_len]; omega)) only [↓EC, EV, EL, E2, E3, ER, seval, ↓reduceIte, false_imp_iff, EK])
      cases e3 : decide (l = l') with
      | false => (try simp (disch := first | omega | (simp only [List.length_append, List.length_cons, List.length_nil, List.length_replicate, List.length_set, List.length_take, List.length_drop, vi_len, vb_len, vo_len, vl_len, vn_len]; omega)) only [↓EC, EV, EL, E2, E3, ER, seval, ↓reduceIte, false_imp_iff, EK])
      | true => (try simp (disch := first | omega | (simp only [List.length_append, List.length_cons, List.length_nil, List.length_replicate, List.length_set, List.length_take, List.length_drop, vi_len, vb_len, vo_len, vl_len, vn_len]; omega)) only [↓EC, EV, EL, E2, E3, ER, seval, ↓reduceIte, false_imp_iff, EK])
theorem c_laws_szDesk {n1 n2 : Int} {b1 w1 b2 w2 l : List Int} (hb1 : b1.length = 16) (hw1 : w1.length = 16) (hb2 : b2.length = 16) (hw2 : w2.length = 16) (hl : l.length ≤ 9223372036854775807) :
    PSpec Try.prog 28 [.agg (kK n1 b1 w1 n2 b2 w2 (.sl l.length (vi .i64 l))), .int .i64 1048576] fun v => v = .int .i64 (szV 1048576 l.length) := by
  refine laws_szDesk_f.f ?_
  simp (disch := first | omega | (simp only [List.length_append, List.length_cons, List.length_nil, List.length_replicate, List.length_set, List.length_take, List.length_drop, vi_len, vb_len, vo_len, vl_len, vn_len]; omega)) only [↓EC, EV, EL, E2, E3, ER, seval, ↓reduceIte, false_imp_iff, laws_szDesk_F, EK]
  refine pcd_v (c_laws_szInt64S hl (by omega)) ?_
  (try simp (disch := first | omega | (simp only [List.length_append, List.length_cons, List.length_nil, List.length_replicate, List.length_set, List.length_take, List.length_drop, vi_len, vb_len, vo_len, vl_len, vn_len]; omega)) only [↓EC, EV, EL, E2, E3, ER, seval, ↓reduceIte, false_imp_iff, EK])
  (refine Split.mk (fun h => ?_) (fun h => ?_) <;> (try simp only [decide_eq_true_eq, decide_eq_false_iff_not, beq_iff_eq, bne_iff_ne, beq_eq_false_iff_ne, bne_eq_false_iff_eq, Bool.not_eq_true', Bool.not_eq_false', Bool.and_eq_true, Bool.or_eq_true, Bool.and_eq_false_iff, Bool.or_eq_false_iff, Int.not_lt, Int.not_le, Bool.false_eq_true, Bool.true_eq_false, false_and, and_false, true_and, and_true, or_false, false_or, or_true, true_or, not_true_eq_false, not_false_eq_true] at h))
  · (try simp (disch := first | omega | (simp only [List.length_append, List.length_cons, List.length_nil, List.length_replicate, List.length_set, List.length_take, List.length_drop, vi_len, vb_len, vo_len, vl_len, vn_len]; omega)) only [↓EC, EV, EL, E2, E3, ER, seval, ↓reduceIte, false_imp_iff, EK])
    unfold szV at h ⊢
    split at h
    · rw [if_pos (by assumption)]
    · omega
  · (try simp (disch := first | omega | (simp only [List.length_append, List.length_cons, List.length_nil, List.length_replicate, List.length_set, List.length_take, List.length_drop, vi_len, vb_len, vo_len, vl_len, vn_len]; omega)) only [↓EC, EV, EL, E2, E3, ER, seval, ↓reduceIte, false_imp_iff, EK])
theorem ok_desk {v : V} (h : Ty.ok (.st [tyD, tyD, .sl (.int .i64)]) v) : ∃ n1 b1 w1 n2 b2 w2, ∃ l : List Int, v = .agg (kK n1 b1 w1 n2 b2 w2 (.sl l.length (vi .i64 l))) ∧ (okP b1 ∧ okP w1 ∧ okP b2 ∧ okP w2) ∧ l.length ≤ 9223372036854775807 := by
  simp only [Ty.ok, Ty.isAgg, if_true, Ty.fits, Ty.fitss] at h
  obtain ⟨l, rfl, _, _, rfl, ⟨_, _, rfl, ⟨n1, rfl, _⟩, x1, _, rfl, hx1, y1, _, rfl, hy1, rfl⟩, _, _, rfl, ⟨_, _, rfl, ⟨n2, rfl, _⟩, x2, _, rfl, hx2, y2, _, rfl, hy2, rfl⟩, _, _, rfl, hp, rfl⟩ := h
  obtain ⟨b1, rfl, hb1⟩ := fits_places x1 (by simpa only [Ty.fits] using hx1)
  obtain ⟨w1, rfl, hw1⟩ := fits_places y1 (by simpa only [Ty.fits] using hy1)
  obtain ⟨b2, rfl, hb2⟩ := fits_places x2 (by simpa only [Ty.fits] using hx2)
  obtain ⟨w2, rfl, hw2⟩ := fits_places y2 (by simpa only [Ty.fits] using hy2)
  obtain ⟨p, rfl, hp2⟩ := fits_ints _ (by simpa only [Ty.fits] using hp)
  refine ⟨n1, b1, w1, n2, b2, w2, p, ?_, ⟨hb1, hw1, hb2, hw2⟩, hp2⟩
  simp [kK, ← vi_app]
theorem c_FnExactIsDesk {n1 n2 : Int} {b1 w1 b2 w2 l : List Int} (hb1 : okP b1) (hw1 : okP w1) (hb2 : okP b2) (hw2 : okP w2) (hl : l.length ≤ 9223372036854775807) :
    PSpec Try.prog 6 [.agg (kK n1 b1 w1 n2 b2 w2 (.sl l.length (vi .i64 l)))] fun v => v = .bool true := by
  have k1 := hb1.len
  have k2 := hw1.len
  have k3 := hb2.len
  have k4 := hw2.len
  have k0 := o16_len
  refine laws_FnExactIsDesk_f.f ?_
  simp (disch := first | omega | (simp only [List.length_append, List.length_cons, List.length_nil, List.length_replicate, List.length_set, List.length_take, List.length_drop, vi_len, vb_len, vo_len, vl_len, vn_len]; omega)) only [↓EC, EV, EL, E2, E3, ER, seval, ↓reduceIte, false_imp_iff, laws_FnExactIsDesk_F, ↓kz, EK]
  refine pcd_v (c_laws_szDesk k1 k2 k3 k4 hl) ?_
  (try simp (disch := first | omega | (simp only [List.length_append, List.length_cons, List.length_nil, List.length_replicate, List.length_set, List.length_take, List.length_drop, vi_len, vb_len, vo_len, vl_len, vn_len]; omega)) only [↓EC, EV, EL, E2, E3, ER, seval, ↓reduceIte, false_imp_iff, EK])
  (refine Split.mk (fun h => ?_) (fun h => ?_) <;> (try simp only [decide_eq_true_eq, decide_eq_false_iff_not, beq_iff_eq, bne_iff_ne, beq_eq_false_iff_ne, bne_eq_false_iff_eq, Bool.not_eq_true', Bool.not_eq_false', Bool.and_eq_true, Bool.or_eq_true, Bool.and_eq_false_iff, Bool.or_eq_false_iff, Int.not_lt, Int.not_le, Bool.false_eq_true, Bool.true_eq_false, false_and, and_false, true_and, and_true, or_false, false_or, or_true, true_or, not_true_eq_false, not_false_eq_true] at h))
  · (try simp (disch := first | omega | (simp only [List.length_append, List.length_cons, List.length_nil, List.length_replicate, List.length_set, List.length_take, List.length_drop, vi_len, vb_len, vo_len, vl_len, vn_len]; omega)) only [↓EC, EV, EL, E2, E3, ER, seval, ↓reduceIte, false_imp_iff, EK])
  · have hl' : l.length ≤ 1048576 := by unfold szV at h; split at h <;> omega
    have q1 := c_laws_toDesk (n1 := n1) (n2 := n2) hb1 hw1 hb2 hw2 hl'
    have q2 := c_impl_IsDesk (n1 := n1) (n2 := n2) hb1 hw1 hb2 hw2 hl'
    have q3 := c_spec_IsDesk (n1 := n1) (n2 := n2) hb1 hw1 hb2 hw2 hl'
    have q4 := c_laws_eqDesk (n1 := n1) (n2 := n2) (n1' := n1) (n2' := n2) (l' := l) k1 k2 k3 k4 k1 k2 k3 k4 hl'
    (try simp (disch := first | omega | (simp only [List.length_append, List.length_cons, List.length_nil, List.length_replicate, List.length_set, List.length_take, List.length_drop, vi_len, vb_len, vo_len, vl_len, vn_len]; omega)) only [↓EC, EV, EL, E2, E3, ER, seval, ↓reduceIte, false_imp_iff, EK])
    repeat' first
      | (refine Split.mk (fun h => ?_) (fun h => ?_) <;> (try simp only [decide_eq_true_eq, decide_eq_false_iff_not, beq_iff_eq, bne_iff_ne, beq_eq_false_iff_ne, bne_eq_false_iff_eq, Bool.not_eq_true', Bool.not_eq_false', Bool.and_eq_true, Bool.or_eq_true, Bool.and_eq_false_iff, Bool.or_eq_false_iff, Int.not_lt, Int.not_le, Bool.false_eq_true, Bool.true_eq_false, false_and, and_false, true_and, and_true, or_false, false_or, or_true, true_or, not_true_eq_false, not_false_eq_true] at h))
      | (refine pcd_v q1 ?_; (try simp (disch := first | omega | (simp only [List.length_append, List.length_cons, List.length_nil, List.length_replicate, List.length_set, List.length_take, List.length_drop, vi_len, vb_len, vo_len, vl_len, vn_len]; omega)) only [↓EC, EV, EL, E2, E3, ER, seval, ↓reduceIte, false_imp_iff, EK]))
      | (refine pcd_v q2 ?_; (try simp (disch := first | omega | (simp only [List.length_append, List.length_cons, List.length_nil, List.length_replicate, List.length_set, List.length_take, List.length_drop, vi_len, vb_len, vo_len, vl_len, vn_len]; omega)) only [↓EC, EV, EL, E2, E3, ER, seval, ↓reduceIte, false_imp_iff, EK]))
      | (refine pcd_v q3 ?_; (try simp (disch := first | omega | (simp only [List.length_append, List.length_cons, List.length_nil, List.length_replicate, List.length_set, List.length_take, List.length_drop, vi_len, vb_len, vo_len, vl_len, vn_len]; omega)) only [↓EC, EV, EL, E2, E3, ER, seval, ↓reduceIte, false_imp_iff, EK]))
      | (refine pcd_v q4 ?_; (try simp (disch := first | omega | (simp only [List.length_append, List.length_cons, List.length_nil, List.length_replicate, List.length_set, List.length_take, List.length_drop, vi_len, vb_len, vo_len, vl_len, vn_len]; omega)) only [↓EC, EV, EL, E2, E3, ER, seval, ↓reduceIte, false_imp_iff, EK]))
    all_goals first | trivial | simp_all | trace_state
theorem t_FnExactIsDesk : ∀ xs, Ty.oks [.st [tyD, tyD, .sl (.int .i64)]] xs → PSpec Try.prog 6 xs fun r => r = .bool true := by
  rintro xs ⟨v, r, rfl, hv, rfl⟩
  obtain ⟨n1, b1, w1, n2, b2, w2, l, rfl, ⟨hb1, hw1, hb2, hw2⟩, hl⟩ := ok_desk hv
  exact c_FnExactIsDesk hb1 hw1 hb2 hw2 hl
/-! ### The new desk -/
theorem c_laws_markDesk {n1 n2 : Int} {b1 w1 b2 w2 l : List Int} {k : Int} (hb1 : b1.length = 16) (hw1 : w1.length = 16) (hb2 : b2.length = 16) (hw2 : w2.length = 16) (hk : 0 ≤ k ∧ k ≤ 1048576) (hl : l.length ≤ 1048576) :
    PSpecM Try.prog 18 [.agg (kK n1 b1 w1 n2 b2 w2 (.rf 0 0 l.length)), .int .i64 k] [(0, 2, 1)] [vi .i64 l] fun v c => v = .int .i64 (k + l.length) ∧ c = [vi .i64 (iota k l.length)] := by
  have hi := iota_len (k := k) (n := l.length)
  refine laws_markDesk_f.m rfl rfl ?_
  simp (disch := first | omega | (simp only [List.length_append, List.length_cons, List.length_nil, List.length_replicate, List.length_set, List.length_take, List.length_drop, vi_len, vb_len, vo_len, vl_len, vn_len]; omega)) only [↓EC, EV, EL, E2, E3, ER, seval, ↓reduceIte, false_imp_iff, laws_markDesk_F, EK]
  refine pcm [0] rfl ?_
  (try simp (disch := first | omega | (simp only [List.length_append, List.length_cons, List.length_nil, List.length_replicate, List.length_set, List.length_take, List.length_drop, vi_len, vb_len, vo_len, vl_len, vn_len]; omega)) only [↓EC, EV, EL, E2, E3, ER, seval, ↓reduceIte, false_imp_iff, EK])
  refine callM_v (c_laws_markInt64S (by omega) (by omega)) ?_
  (try simp (disch := first | omega | (simp only [List.length_append, List.length_cons, List.length_nil, List.length_replicate, List.length_set, List.length_take, List.length_drop, vi_len, vb_len, vo_len, vl_len, vn_len]; omega)) only [↓EC, EV, EL, E2, E3, ER, seval, ↓reduceIte, false_imp_iff, EK, hi])
theorem c_laws_heldDesk {n1 n2 : Int} {b1 w1 b2 w2 : List Int} {k : Int} {m : Nat} (hb1 : b1.length = 16) (hw1 : w1.length = 16) (hb2 : b2.length = 16) (hw2 : w2.length = 16) (hk : 0 ≤ k ∧ k ≤ 1048576) (hl : m ≤ 1048576) :
    PSpec Try.prog 19 [.agg (kK n1 b1 w1 n2 b2 w2 (.sl m (vi .i64 (iota k m)))), .int .i64 k] fun v => v = .int .i64 (k + m) := by
  refine laws_heldDesk_f.f ?_
  simp (disch := first | omega | (simp only [List.length_append, List.length_cons, List.length_nil, List.length_replicate, List.length_set, List.length_take, List.length_drop, vi_len, vb_len, vo_len, vl_len, vn_len]; omega)) only [↓EC, EV, EL, E2, E3, ER, seval, ↓reduceIte, false_imp_iff, laws_heldDesk_F, EK]
  refine pcd_v (c_laws_heldInt64S (by omega) (by omega)) ?_
  (try simp (disch := first | omega | (simp only [List.length_append, List.length_cons, List.length_nil, List.length_replicate, List.length_set, List.length_take, List.length_drop, vi_len, vb_len, vo_len, vl_len, vn_len]; omega)) only [↓EC, EV, EL, E2, E3, ER, seval, ↓reduceIte, false_imp_iff, EK])
  (refine Split.mk (fun h => ?_) (fun h => ?_) <;> (try simp only [decide_eq_true_eq, decide_eq_false_iff_not, beq_iff_eq, bne_iff_ne, beq_eq_false_iff_ne, bne_eq_false_iff_eq, Bool.not_eq_true', Bool.not_eq_false', Bool.and_eq_true, Bool.or_eq_true, Bool.and_eq_false_iff, Bool.or_eq_false_iff, Int.not_lt, Int.not_le, Bool.false_eq_true, Bool.true_eq_false, false_and, and_false, true_and, and_true, or_false, false_or, or_true, true_or, not_true_eq_false, not_false_eq_true] at h))
  · omega
  · (try simp (disch := first | omega | (simp only [List.length_append, List.length_cons, List.length_nil, List.length_replicate, List.length_set, List.length_take, List.length_drop, vi_len, vb_len, vo_len, vl_len, vn_len]; omega)) only [↓EC, EV, EL, E2, E3, ER, seval, ↓reduceIte, false_imp_iff, EK])
def turnF (n : Int) (i : Nat) : Nat × Int := (i, ((i : Int) + 1).tmod n)
theorem c_impl_star : PSpec Try.prog 59 [.int .i64 3] fun v => v = vD 3 (putL (turnF 3) 3) (putL sameF 3) := by
  have hsl := putL_len sameF 3
  have hs : PSpec Try.prog 98 [.int .i64 3] fun v => v = .agg (vi .u8 (putL sameF 3)) := c_impl_same (n := 3) (by decide)
  refine impl_star_f.f ?_
  unfold vD
  generalize putL sameF 3 = S at *
  simp (disch := first | omega | (simp only [List.length_append, List.length_cons, List.length_nil, List.length_replicate, List.length_set, List.length_take, List.length_drop, vi_len, vb_len, vo_len, vl_len, vn_len]; omega)) only [↓EC, EV, EL, E2, E3, ER, seval, ↓reduceIte, false_imp_iff, impl_star_F]
  refine pcd_v hs ?_
  (try simp (disch := first | omega | (simp only [List.length_append, List.length_cons, List.length_nil, List.length_replicate, List.length_set, List.length_take, List.length_drop, vi_len, vb_len, vo_len, vl_len, vn_len]; omega)) only [↓EC, EV, EL, E2, E3, ER, seval, ↓reduceIte, false_imp_iff, hsl])
  refine LP_of (σ := Nat) 100000 [(66, 25, 1), (67, 25, 1)] (fun s => [.int .i64 s]) (fun s => [.int .i64 0 :: vi .u8 (List.replicate 32 0), .int .i64 3 :: vi .u8 (putL (turnF 3) s ++ S)])
    (fun s => s ≤ 3) (fun s => 3 - s) 0 (by simp [frameOk, names, lpz, sclp, scv, scvs, vi_nrf, vb_nrf, vt_nrf, v2_nrf, v3_nrf, nrfs, nrf, sc_vi, sc_vb, sc_vt, sc_v2, sc_v3, sc_vo, sc_vl, vo_nrf, vl_nrf, sc_vn, vn_nrf]) (by decide) ?_ ?_
  · simp (disch := first | omega | (simp only [List.length_append, List.length_cons, List.length_nil, List.length_replicate, List.length_set, List.length_take, List.length_drop, vi_len, vb_len, vo_len, vl_len, vn_len]; omega)) only [↓EC, EV, EL, E2, E3, ER, seval, ↓reduceIte, false_imp_iff, ColV_def]
    rfl
  · rintro s h1
    have hl := putL_len (turnF 3) s
    simp (disch := first | omega | (simp only [List.length_append, List.length_cons, List.length_nil, List.length_replicate, List.length_set, List.length_take, List.length_drop, vi_len, vb_len, vo_len, vl_len, vn_len]; omega)) only [↓EC, EV, EL, E2, E3, ER, seval, ↓reduceIte, false_imp_iff, ColV_def, lheap_def]
    (refine Split.mk (fun h => ?_) (fun h => ?_) <;> (try simp only [decide_eq_true_eq, decide_eq_false_iff_not, beq_iff_eq, bne_iff_ne, beq_eq_false_iff_ne, bne_eq_false_iff_eq, Bool.not_eq_true', Bool.not_eq_false', Bool.and_eq_true, Bool.or_eq_true, Bool.and_eq_false_iff, Bool.or_eq_false_iff, Int.not_lt, Int.not_le, Bool.false_eq_true, Bool.true_eq_false, false_and, and_false, true_and, and_true, or_false, false_or, or_true, true_or, not_true_eq_false, not_false_eq_true] at h))
    · have ht1 := Int.tmod_nonneg 3 (a := (s : Int) + 1) (by omega)
      have ht2 := Int.tmod_lt_of_pos ((s : Int) + 1) (show (0 : Int) < 3 by decide)
      (try simp (disch := first | omega | (simp only [List.length_append, List.length_cons, List.length_nil, List.length_replicate, List.length_set, List.length_take, List.length_drop, vi_len, vb_len, vo_len, vl_len, vn_len]; omega)) only [↓EC, EV, EL, E2, E3, ER, seval, ↓reduceIte, false_imp_iff, hl, hsl])
      (refine ⟨s + 1, ?_⟩; repeat' (first | (refine And.intro ?_ ?_) | rfl | omega | trivial))
    · have : s = 3 := by omega
      subst this
      (try simp (disch := first | omega | (simp only [List.length_append, List.length_cons, List.length_nil, List.length_replicate, List.length_set, List.length_take, List.length_drop, vi_len, vb_len, vo_len, vl_len, vn_len]; omega)) only [↓EC, EV, EL, E2, E3, ER, seval, ↓reduceIte, false_imp_iff, hl, hsl])
theorem c_spec_l01Turn : PSpec Try.prog 128 [.int .i64 3] fun v => v = .agg (vi .u8 (putL (turnF 3) 3)) := by
  refine spec_l01Turn_f.f ?_
  simp (disch := first | omega | (simp only [List.length_append, List.length_cons, List.length_nil, List.length_replicate, List.length_set, List.length_take, List.length_drop, vi_len, vb_len, vo_len, vl_len, vn_len]; omega)) only [↓EC, EV, EL, E2, E3, ER, seval, ↓reduceIte, false_imp_iff, spec_l01Turn_F]
  refine LP_of (σ := Nat) 100000 [(66, 23, 1), (67, 23, 1)] (fun s => [.int .i64 s]) (fun s => [vi .u8 (List.replicate 16 0), vi .u8 (putL (turnF 3) s)])
    (fun s => s ≤ 3) (fun s => 3 - s) 0 (by simp [frameOk, names, lpz, sclp, scv, scvs, vi_nrf, vb_nrf, vt_nrf, v2_nrf, v3_nrf, nrfs, nrf, sc_vi, sc_vb, sc_vt, sc_v2, sc_v3, sc_vo, sc_vl, vo_nrf, vl_nrf, sc_vn, vn_nrf]) (by decide) ?_ ?_
  · simp (disch := first | omega | (simp only [List.length_append, List.length_cons, List.length_nil, List.length_replicate, List.length_set, List.length_take, List.length_drop, vi_len, vb_len, vo_len, vl_len, vn_len]; omega)) only [↓EC, EV, EL, E2, E3, ER, seval, ↓reduceIte, false_imp_iff, ColV_def]
    rfl
  · rintro s h1
    have hl := putL_len (turnF 3) s
    simp (disch := first | omega | (simp only [List.length_append, List.length_cons, List.length_nil, List.length_replicate, List.length_set, List.length_take, List.length_drop, vi_len, vb_len, vo_len, vl_len, vn_len]; omega)) only [↓EC, EV, EL, E2, E3, ER, seval, ↓reduceIte, false_imp_iff, ColV_def, lheap_def]
    (refine Split.mk (fun h => ?_) (fun h => ?_) <;> (try simp only [decide_eq_true_eq, decide_eq_false_iff_not, beq_iff_eq, bne_iff_ne, beq_eq_false_iff_ne, bne_eq_false_iff_eq, Bool.not_eq_true', Bool.not_eq_false', Bool.and_eq_true, Bool.or_eq_true, Bool.and_eq_false_iff, Bool.or_eq_false_iff, Int.not_lt, Int.not_le, Bool.false_eq_true, Bool.true_eq_false, false_and, and_false, true_and, and_true, or_false, false_or, or_true, true_or, not_true_eq_false, not_false_eq_true] at h))
    · have ht1 := Int.tmod_nonneg 3 (a := (s : Int) + 1) (by omega)
      have ht2 := Int.tmod_lt_of_pos ((s : Int) + 1) (show (0 : Int) < 3 by decide)
      (try simp (disch := first | omega | (simp only [List.length_append, List.length_cons, List.length_nil, List.length_replicate, List.length_set, List.length_take, List.length_drop, vi_len, vb_len, vo_len, vl_len, vn_len]; omega)) only [↓EC, EV, EL, E2, E3, ER, seval, ↓reduceIte, false_imp_iff, hl])
      (refine ⟨s + 1, ?_⟩; repeat' (first | (refine And.intro ?_ ?_) | rfl | omega | trivial))
    · have : s = 3 := by omega
      subst this
      (try simp (disch := first | omega | (simp only [List.length_append, List.length_cons, List.length_nil, List.length_replicate, List.length_set, List.length_take, List.length_drop, vi_len, vb_len, vo_len, vl_len, vn_len]; omega)) only [↓EC, EV, EL, E2, E3, ER, seval, ↓reduceIte, false_imp_iff, hl])
theorem c_spec_l01Star : PSpec Try.prog 124 [.int .i64 3] fun v => v = vD 3 (putL (turnF 3) 3) (putL sameF 3) := by
  have hsl := putL_len sameF 3
  have htl := putL_len (turnF 3) 3
  have hs : PSpec Try.prog 129 [.int .i64 3] fun v => v = .agg (vi .u8 (putL sameF 3)) := c_spec_l01Same (n := 3) (by decide)
  have ht := c_spec_l01Turn
  refine spec_l01Star_f.f ?_
  unfold vD
  generalize putL sameF 3 = S at *
  generalize putL (turnF 3) 3 = T at *
  simp (disch := first | omega | (simp only [List.length_append, List.length_cons, List.length_nil, List.length_replicate, List.length_set, List.length_take, List.length_drop, vi_len, vb_len, vo_len, vl_len, vn_len]; omega)) only [↓EC, EV, EL, E2, E3, ER, seval, ↓reduceIte, false_imp_iff, spec_l01Star_F]
  refine pcd_v ht ?_
  (try simp (disch := first | omega | (simp only [List.length_append, List.length_cons, List.length_nil, List.length_replicate, List.length_set, List.length_take, List.length_drop, vi_len, vb_len, vo_len, vl_len, vn_len]; omega)) only [↓EC, EV, EL, E2, E3, ER, seval, ↓reduceIte, false_imp_iff, hsl, htl])
  refine pcd_v hs ?_
  (try simp (disch := first | omega | (simp only [List.length_append, List.length_cons, List.length_nil, List.length_replicate, List.length_set, List.length_take, List.length_drop, vi_len, vb_len, vo_len, vl_len, vn_len]; omega)) only [↓EC, EV, EL, E2, E3, ER, seval, ↓reduceIte, false_imp_iff, hsl, htl])
theorem c_spec_StarDessin : PSpec Try.prog 96 [.int .i64 3] fun v => v = .tup [vD 3 (putL (turnF 3) 3) (putL sameF 3), .int .i64 0] := by
  have hsl := putL_len sameF 3
  have htl := putL_len (turnF 3) 3
  have hs := c_spec_l01Star
  refine spec_StarDessin_f.f ?_
  unfold vD at *
  generalize putL sameF 3 = S at *
  generalize putL (turnF 3) 3 = T at *
  simp (disch := first | omega | (simp only [List.length_append, List.length_cons, List.length_nil, List.length_replicate, List.length_set, List.length_take, List.length_drop, vi_len, vb_len, vo_len, vl_len, vn_len]; omega)) only [↓EC, EV, EL, E2, E3, ER, seval, ↓reduceIte, false_imp_iff, spec_StarDessin_F]
  (refine pcd_v (c_spec_l01In) ?_; (try simp (disch := first | omega | (simp only [List.length_append, List.length_cons, List.length_nil, List.length_replicate, List.length_set, List.length_take, List.length_drop, vi_len, vb_len, vo_len, vl_len, vn_len]; omega)) only [↓EC, EV, EL, E2, E3, ER, seval, ↓reduceIte, false_imp_iff]))
  refine pcd_v hs ?_
  (try simp (disch := first | omega | (simp only [List.length_append, List.length_cons, List.length_nil, List.length_replicate, List.length_set, List.length_take, List.length_drop, vi_len, vb_len, vo_len, vl_len, vn_len]; omega)) only [↓EC, EV, EL, E2, E3, ER, seval, ↓reduceIte, false_imp_iff, hsl, htl])
def p4 : List Int := [0, 0, 0, 1]
theorem c_spec_l06Monomial : PSpec Try.prog 97 [.int .i64 1, .int .i64 3] fun v => v = .own 2 1 4 (vi .i64 p4) := by
  refine spec_l06Monomial_f.f ?_
  simp (disch := first | omega | (simp only [List.length_append, List.length_cons, List.length_nil, List.length_replicate, List.length_set, List.length_take, List.length_drop, vi_len, vb_len, vo_len, vl_len, vn_len]; omega)) only [↓EC, EV, EL, E2, E3, ER, seval, ↓reduceIte, false_imp_iff, spec_l06Monomial_F, List.flatten_cons]
  rfl
theorem c_spec_l11New : PSpec Try.prog 58 [] fun v => v = .agg (kK 3 (putL (turnF 3) 3) (putL sameF 3) 3 (putL (turnF 3) 3) (putL sameF 3) (.own 2 1 4 (vi .i64 p4))) := by
  have hsl := putL_len sameF 3
  have htl := putL_len (turnF 3) 3
  have hs := c_spec_StarDessin
  have hp := c_spec_l06Monomial
  have p4l : p4.length = 4 := rfl
  have k0 := o16_len
  refine spec_l11New_f.f ?_
  unfold vD at *
  generalize p4 = Q at *
  generalize putL sameF 3 = S at *
  generalize putL (turnF 3) 3 = T at *
  simp (disch := first | omega | (simp only [List.length_append, List.length_cons, List.length_nil, List.length_replicate, List.length_set, List.length_take, List.length_drop, vi_len, vb_len, vo_len, vl_len, vn_len]; omega)) only [↓EC, EV, EL, E2, E3, ER, seval, ↓reduceIte, false_imp_iff, spec_l11New_F, ↓kz, EK]
  refine pcd_v hs ?_
  (try simp (disch := first | omega | (simp only [List.length_append, List.length_cons, List.length_nil, List.length_replicate, List.length_set, List.length_take, List.length_drop, vi_len, vb_len, vo_len, vl_len, vn_len]; omega)) only [↓EC, EV, EL, E2, E3, ER, seval, ↓reduceIte, false_imp_iff, hsl, htl, ↓kz, EK])
  refine pcd_o hp ?_
  (try simp (disch := first | omega | (simp only [List.length_append, List.length_cons, List.length_nil, List.length_replicate, List.length_set, List.length_take, List.length_drop, vi_len, vb_len, vo_len, vl_len, vn_len]; omega)) only [↓EC, EV, EL, E2, E3, ER, seval, ↓reduceIte, false_imp_iff, hsl, htl, EK])
  have hX : List.drop (34 - min 33 67) (List.drop 33 (List.drop 33 (kK 0 o16 o16 0 o16 o16 V.nils))) = ([] : List V) := rfl
  have hZ : (vi .u8 (T ++ S) ++ V.int .i64 3 :: vi .u8 (T ++ S) ++ [V.rf 73 0 4]).all cell1 = true := by simp [List.all_append, vi_all, cell1]
  have hY : V.int .i64 3 :: (vi .u8 (T ++ S) ++ V.int .i64 3 :: vi .u8 (T ++ S) ++ [V.rf 73 0 4]) = kK 3 T S 3 T S (V.rf 73 0 4) := by simp [kK]
  simp only [hX, List.append_nil, hZ, hY]
  (try simp (disch := first | omega | (simp only [List.length_append, List.length_cons, List.length_nil, List.length_replicate, List.length_set, List.length_take, List.length_drop, vi_len, vb_len, vo_len, vl_len, vn_len]; omega)) only [↓EC, EV, EL, E2, E3, ER, seval, ↓reduceIte, false_imp_iff, hsl, htl, EK])
theorem c_spec_NewDesk : PSpec Try.prog 15 [] fun v => v = .agg (kK 3 (putL (turnF 3) 3) (putL sameF 3) 3 (putL (turnF 3) 3) (putL sameF 3) (.own 2 1 4 (vi .i64 p4))) := by
  have hsl := putL_len sameF 3
  have htl := putL_len (turnF 3) 3
  have hs := c_spec_l11New
  have k0 := o16_len
  have p4l : p4.length = 4 := rfl
  refine spec_NewDesk_f.f ?_
  generalize p4 = Q at *
  generalize putL sameF 3 = S at *
  generalize putL (turnF 3) 3 = T at *
  simp (disch := first | omega | (simp only [List.length_append, List.length_cons, List.length_nil, List.length_replicate, List.length_set, List.length_take, List.length_drop, vi_len, vb_len, vo_len, vl_len, vn_len]; omega)) only [↓EC, EV, EL, E2, E3, ER, seval, ↓reduceIte, false_imp_iff, spec_NewDesk_F, ↓kz, EK]
  refine pcd_o hs ?_
  (try simp (disch := first | omega | (simp only [List.length_append, List.length_cons, List.length_nil, List.length_replicate, List.length_set, List.length_take, List.length_drop, vi_len, vb_len, vo_len, vl_len, vn_len]; omega)) only [↓EC, EV, EL, E2, E3, ER, seval, ↓reduceIte, false_imp_iff, hsl, htl, EK])
theorem c_impl_NewDesk : PSpec Try.prog 16 [] fun v => v = .agg (kK 3 (putL (turnF 3) 3) (putL sameF 3) 3 (putL (turnF 3) 3) (putL sameF 3) (.own 2 1 4 (vi .i64 p4))) := by
  have hsl := putL_len sameF 3
  have htl := putL_len (turnF 3) 3
  have hs := c_impl_star
  have k0 := o16_len
  refine impl_NewDesk_f.f ?_
  unfold vD at *
  generalize putL sameF 3 = S at *
  generalize putL (turnF 3) 3 = T at *
  simp (disch := first | omega | (simp only [List.length_append, List.length_cons, List.length_nil, List.length_replicate, List.length_set, List.length_take, List.length_drop, vi_len, vb_len, vo_len, vl_len, vn_len]; omega)) only [↓EC, EV, EL, E2, E3, ER, seval, ↓reduceIte, false_imp_iff, impl_NewDesk_F, ↓kz, EK]
  refine pcd_v hs ?_
  (try simp (disch := first | omega | (simp only [List.length_append, List.length_cons, List.length_nil, List.length_replicate, List.length_set, List.length_take, List.length_drop, vi_len, vb_len, vo_len, vl_len, vn_len]; omega)) only [↓EC, EV, EL, E2, E3, ER, seval, ↓reduceIte, false_imp_iff, hsl, htl, EK])
  refine pcd_v hs ?_
  (try simp (disch := first | omega | (simp only [List.length_append, List.length_cons, List.length_nil, List.length_replicate, List.length_set, List.length_take, List.length_drop, vi_len, vb_len, vo_len, vl_len, vn_len]; omega)) only [↓EC, EV, EL, E2, E3, ER, seval, ↓reduceIte, false_imp_iff, hsl, htl, EK])
  have hX : List.drop 1 (List.drop 33 (List.drop 33 (kK 0 o16 o16 0 o16 o16 V.nils))) = ([] : List V) := rfl
  have hZ : (vi .u8 (T ++ S) ++ V.int .i64 3 :: vi .u8 (T ++ S) ++ [V.rf 67 0 4]).all cell1 = true := by simp [List.all_append, vi_all, cell1]
  have hY : V.int .i64 3 :: (vi .u8 (T ++ S) ++ V.int .i64 3 :: vi .u8 (T ++ S) ++ [V.rf 67 0 4]) = kK 3 T S 3 T S (V.rf 67 0 4) := by simp [kK]
  simp only [hX, List.append_nil, hZ, hY]
  (try simp (disch := first | omega | (simp only [List.length_append, List.length_cons, List.length_nil, List.length_replicate, List.length_set, List.length_take, List.length_drop, vi_len, vb_len, vo_len, vl_len, vn_len]; omega)) only [↓EC, EV, EL, E2, E3, ER, seval, ↓reduceIte, false_imp_iff, hsl, htl, EK])
  rfl
theorem c_FnExactNewDesk : PSpec Try.prog 3 [] fun v => v = .bool true := by
  have hsl := putL_len sameF 3
  have htl := putL_len (turnF 3) 3
  have hs := c_spec_NewDesk
  have hi := c_impl_NewDesk
  have k0 := o16_len
  refine laws_FnExactNewDesk_f.f ?_
  generalize putL sameF 3 = S at *
  generalize putL (turnF 3) 3 = T at *
  have p4l : p4.length = 4 := rfl
  generalize p4 = Q at *
  have r6 : (iota 1 Q.length).length = Q.length := iota_len
  rw [← p4l] at hs hi
  have q4 := c_laws_eqDesk (n1 := 3) (n2 := 3) (n1' := 3) (n2' := 3) (l := Q) (l' := Q) htl hsl htl hsl htl hsl htl hsl (by omega)
  simp (disch := first | omega | (simp only [List.length_append, List.length_cons, List.length_nil, List.length_replicate, List.length_set, List.length_take, List.length_drop, vi_len, vb_len, vo_len, vl_len, vn_len]; omega)) only [↓EC, EV, EL, E2, E3, ER, seval, ↓reduceIte, false_imp_iff, laws_FnExactNewDesk_F, ↓kz, EK]
  refine pcd_v hs ?_
  (try simp (disch := first | omega | (simp only [List.length_append, List.length_cons, List.length_nil, List.length_replicate, List.length_set, List.length_take, List.length_drop, vi_len, vb_len, vo_len, vl_len, vn_len]; omega)) only [↓EC, EV, EL, E2, E3, ER, seval, ↓reduceIte, false_imp_iff, hsl, htl, EK])
  refine pcd_o hi ?_
  (try simp (disch := first | omega | (simp only [List.length_append, List.length_cons, List.length_nil, List.length_replicate, List.length_set, List.length_take, List.length_drop, vi_len, vb_len, vo_len, vl_len, vn_len]; omega)) only [↓EC, EV, EL, E2, E3, ER, seval, ↓reduceIte, false_imp_iff, hsl, htl, EK])
  refine pcd_v q4 ?_
  (try simp (disch := first | omega | (simp only [List.length_append, List.length_cons, List.length_nil, List.length_replicate, List.length_set, List.length_take, List.length_drop, vi_len, vb_len, vo_len, vl_len, vn_len]; omega)) only [↓EC, EV, EL, E2, E3, ER, seval, ↓reduceIte, false_imp_iff, hsl, htl, EK, decide_true])
  refine pcm [71] rfl ?_
  (try simp (disch := first | omega | (simp only [List.length_append, List.length_cons, List.length_nil, List.length_replicate, List.length_set, List.length_take, List.length_drop, vi_len, vb_len, vo_len, vl_len, vn_len]; omega)) only [↓EC, EV, EL, E2, E3, ER, seval, ↓reduceIte, false_imp_iff, hsl, htl, EK])
  refine callM_v (c_laws_markDesk htl hsl htl hsl (by omega) (by omega)) ?_
  (try simp (disch := first | omega | (simp only [List.length_append, List.length_cons, List.length_nil, List.length_replicate, List.length_set, List.length_take, List.length_drop, vi_len, vb_len, vo_len, vl_len, vn_len]; omega)) only [↓EC, EV, EL, E2, E3, ER, seval, ↓reduceIte, false_imp_iff, hsl, htl, EK, r6])
  refine pcd_v (c_laws_heldDesk htl hsl htl hsl (by omega) (by omega)) ?_
  (try simp (disch := first | omega | (simp only [List.length_append, List.length_cons, List.length_nil, List.length_replicate, List.length_set, List.length_take, List.length_drop, vi_len, vb_len, vo_len, vl_len, vn_len]; omega)) only [↓EC, EV, EL, E2, E3, ER, seval, ↓reduceIte, false_imp_iff, hsl, htl, EK, r6, bne_self_eq_false])
  repeat' first
    | (refine Split.mk (fun h => ?_) (fun h => ?_) <;> (try simp only [decide_eq_true_eq, decide_eq_false_iff_not, beq_iff_eq, bne_iff_ne, beq_eq_false_iff_ne, bne_eq_false_iff_eq, Bool.not_eq_true', Bool.not_eq_false', Bool.and_eq_true, Bool.or_eq_true, Bool.and_eq_false_iff, Bool.or_eq_false_iff, Int.not_lt, Int.not_le, Bool.false_eq_true, Bool.true_eq_false, false_and, and_false, true_and, and_true, or_false, false_or, or_true, true_or, not_true_eq_false, not_false_eq_true] at h))
    | (refine pcd_o hi ?_; (try simp (disch := first | omega | (simp only [List.length_append, List.length_cons, List.length_nil, List.length_replicate, List.length_set, List.length_take, List.length_drop, vi_len, vb_len, vo_len, vl_len, vn_len]; omega)) only [↓EC, EV, EL, E2, E3, ER, seval, ↓reduceIte, false_imp_iff, hsl, htl, EK, r6]))
    | (refine pcd_v q4 ?_; (try simp (disch := first | omega | (simp only [List.length_append, List.length_cons, List.length_nil, List.length_replicate, List.length_set, List.length_take, List.length_drop, vi_len, vb_len, vo_len, vl_len, vn_len]; omega)) only [↓EC, EV, EL, E2, E3, ER, seval, ↓reduceIte, false_imp_iff, hsl, htl, EK, r6, decide_true]))
    | (refine pcd_v (c_laws_heldDesk htl hsl htl hsl (by omega) (by omega)) ?_; (try simp (disch := first | omega | (simp only [List.length_append, List.length_cons, List.length_nil, List.length_replicate, List.length_set, List.length_take, List.length_drop, vi_len, vb_len, vo_len, vl_len, vn_len]; omega)) only [↓EC, EV, EL, E2, E3, ER, seval, ↓reduceIte, false_imp_iff, hsl, htl, EK, r6, bne_self_eq_false]))
  all_goals first | trivial | omega | simp_all | trace_state
theorem t_FnExactNewDesk : ∀ xs, Ty.oks [] xs → PSpec Try.prog 3 xs fun r => r = .bool true := by
  rintro xs rfl
  exact c_FnExactNewDesk
end Go.Proofs.Yteiiohmcamoldaa.Sep

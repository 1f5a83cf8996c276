/- Names of darts, renamed dessins, tables of dessins. -/
import Derived.Test.YteiiohmcamoldaaC25
import Derived.Test.YteiiohmcamoldaaC27
import Derived.Test.YteiiohmcamoldaaC29
namespace Go.Proofs.Yteiiohmcamoldaa.Sep
open Go.RowKit
set_option linter.unusedVariables false
set_option linter.unusedSimpArgs false
set_option maxRecDepth 20000
set_option maxHeartbeats 1000000

/-! ### What is reached from a dart -/
def srX (x : Int) : Sr := ([x], (List.replicate 16 false).set x.toNat true)
theorem srX_ok {x : Int} (hx : 0 ≤ x ∧ x < 16) : SrOk (srX x) := by
  refine ⟨by simp [srX], ?_, fun j hj => ?_⟩
  · have hl : x.toNat < (List.replicate 16 false).length := by simp; omega
    simp only [srX]
    rw [List.count_set hl]
    simp
  · have : j = 0 := by simp [srX] at hj; exact hj
    subst this; exact hx
theorem srRun_ok {p q : List Int} (hp : lo16 p) (hq : lo16 q) : ∀ (k i : Nat) {s : Sr}, SrOk s → SrOk (srRun p q k i s)
  | 0, i, s, h => h
  | k + 1, i, s, h => by
    simp only [srRun]
    split
    · exact srRun_ok hp hq k (i + 1) (srStep_ok hp hq h (by assumption))
    · exact h
def nmdL (p q : List Int) (x : Int) : List Int := (srRun p q 17 0 (srX x)).1
theorem nmdL_ok {p q : List Int} (hp : lo16 p) (hq : lo16 q) {x : Int} (hx : 0 ≤ x ∧ x < 16) : (nmdL p q x).length ≤ 16 ∧ ∀ j, j < (nmdL p q x).length → 0 ≤ gi (nmdL p q x) j ∧ gi (nmdL p q x) j < 16 :=
  ⟨(srRun_ok hp hq 17 0 (srX_ok hx)).le, (srRun_ok hp hq 17 0 (srX_ok hx)).lo⟩
/-- The names, as far as they are given. -/
def nameT (l : List Int) : Nat → List Int
  | 0 => List.replicate 16 0
  | s + 1 => (nameT l s).set (gi l s).toNat s
theorem nameT_len {l : List Int} : ∀ s, (nameT l s).length = 16
  | 0 => by simp [nameT]
  | s + 1 => by simp [nameT, nameT_len s]
theorem nameT_congr {l m : List Int} : ∀ s, (∀ j, j < s → gi l j = gi m j) → nameT l s = nameT m s
  | 0, _ => rfl
  | s + 1, h => by simp only [nameT]; rw [nameT_congr s fun j hj => h j (by omega), h s (by omega)]
theorem nameT_lo {l : List Int} : ∀ s, s ≤ 16 → lo16 (nameT l s)
  | 0, _ => ⟨by simp [nameT], fun i hi => by simp only [nameT]; rw [gi_rep]; split <;> omega⟩
  | s + 1, h => ⟨by simp [nameT, nameT_len], fun i hi => by
    simp only [nameT]
    rw [gi_set]
    split
    · omega
    · exact (nameT_lo s (by omega)).2 i hi⟩
def nmgP (p q : List Int) (x : Int) : List Int := nameT (nmdL p q x) (nmdL p q x).length
theorem nmgP_lo {p q : List Int} (hp : lo16 p) (hq : lo16 q) {x : Int} (hx : 0 ≤ x ∧ x < 16) : lo16 (nmgP p q x) := nameT_lo _ (nmdL_ok hp hq hx).1
theorem visit_pre {y : Int} {s : Sr} {j : Nat} (hj : j < s.1.length) : gi (visit y s).1 j = gi s.1 j := by
  unfold visit; split
  · rfl
  · simp only [gi_app]; rw [if_pos hj]
theorem srStep_pre {p q : List Int} {i : Nat} {s : Sr} {j : Nat} (hj : j < s.1.length) : gi (srStep p q i s).1 j = gi s.1 j := by
  unfold srStep
  rw [visit_pre (Nat.lt_of_lt_of_le hj visit_len), visit_pre hj]
theorem sr_mid {p q : List Int} {i j : Nat} {s0 s : Sr} (hp : lo16 p) (hq : lo16 q) (h1 : SrOk s0) (hi : i < s0.1.length) (h : s = if j = 0 then s0 else if j = 1 then visit (gi p (gi s0.1 i).toNat) s0 else srStep p q i s0) :
    SrOk s ∧ (∀ k, k < s0.1.length → gi s.1 k = gi s0.1 k) ∧ s0.1.length ≤ s.1.length := by
  have h0 := h1.lo i hi
  rw [h]
  split
  · exact ⟨h1, fun _ _ => rfl, Nat.le_refl _⟩
  · split
    · exact ⟨visit_ok h1 (hp.2 _ (by omega)), fun k hk => visit_pre hk, visit_len⟩
    · exact ⟨srStep_ok hp hq h1 hi, fun k hk => srStep_pre hk, srStep_len⟩
theorem c_impl_named {n : Int} {p q : List Int} {x : Int} (hp : lo16 p) (hq : lo16 q) (hx : 0 ≤ x ∧ x < 16) : PSpec Try.prog 86 [vD n p q, .int .i64 x] fun v => v = .own 5 1 (nmdL p q x).length (vi .u8 (nmdL p q x)) := by
  have hl := hp.1
  have hk := hq.1
  refine impl_named_f.f ?_
  unfold vD
  simp (disch := first | omega | (simp only [List.length_append, List.length_cons, List.length_nil, List.length_replicate, List.length_set, List.length_take, List.length_drop, vi_len, vb_len, vo_len, vl_len, vn_len]; omega)) only [↓EC, EV, EL, E2, E3, ER, seval, ↓reduceIte, false_imp_iff, impl_named_F, hl, hk]
  refine LP_of (σ := Sr × Nat) 100000 [(66, 25, 1), (69, 91, 1)] (fun s => [.own 5 1 s.1.1.length (vi .u8 s.1.1), .int .i64 s.2]) (fun s => [.int .i64 n :: vi .u8 (p ++ q), vb s.1.2])
    (fun s => SrOk s.1 ∧ s.2 ≤ s.1.1.length ∧ srRun p q (17 - s.2) s.2 s.1 = srRun p q 17 0 (srX x)) (fun s => 17 - s.2) (srX x, 0) (by simp [frameOk, names, lpz, sclp, scv, scvs, vi_nrf, vb_nrf, vt_nrf, v2_nrf, v3_nrf, nrfs, nrf, sc_vi, sc_vb, sc_vt, sc_v2, sc_v3, sc_vo, sc_vl, vo_nrf, vl_nrf, sc_vn, vn_nrf]) ⟨srX_ok hx, Nat.zero_le _, rfl⟩ ?_ ?_
  · simp (disch := first | omega | (simp only [List.length_append, List.length_cons, List.length_nil, List.length_replicate, List.length_set, List.length_take, List.length_drop, vi_len, vb_len, vo_len, vl_len, vn_len]; omega)) only [↓EC, EV, EL, E2, E3, ER, seval, ↓reduceIte, false_imp_iff, ColV_def]
    exact ⟨rfl, rfl⟩
  · rintro ⟨⟨l, m⟩, i⟩ ⟨h1, h2, h3⟩
    simp only at h1 h2 h3
    have hm := h1.len
    have hle := h1.le
    simp only at hm hle
    simp (disch := first | omega | (simp only [List.length_append, List.length_cons, List.length_nil, List.length_replicate, List.length_set, List.length_take, List.length_drop, vi_len, vb_len, vo_len, vl_len, vn_len]; omega)) only [↓EC, EV, EL, E2, E3, ER, seval, ↓reduceIte, false_imp_iff, ColV_def, lheap_def]
    (refine Split.mk (fun h => ?_) (fun h => ?_) <;> (try simp only [decide_eq_true_eq, decide_eq_false_iff_not, beq_iff_eq, bne_iff_ne, beq_eq_false_iff_ne, bne_eq_false_iff_eq, Bool.not_eq_true', Bool.not_eq_false', Bool.and_eq_true, Bool.or_eq_true, Bool.and_eq_false_iff, Bool.or_eq_false_iff, Int.not_lt, Int.not_le, Bool.false_eq_true, Bool.true_eq_false, false_and, and_false, true_and, and_true, or_false, false_or, or_true, true_or, not_true_eq_false, not_false_eq_true] at h))
    · have hi : i < l.length := by omega
      have hlo := h1.lo i hi
      simp only at hlo
      have hy1 := hp.2 (gi l i).toNat (by omega)
      have hy2 := hq.2 (gi l i).toNat (by omega)
      (try simp (disch := first | omega | (simp only [List.length_append, List.length_cons, List.length_nil, List.length_replicate, List.length_set, List.length_take, List.length_drop, vi_len, vb_len, vo_len, vl_len, vn_len]; omega)) only [↓EC, EV, EL, E2, E3, ER, seval, ↓reduceIte, false_imp_iff, hl, hk])
      refine LP_of (σ := Sr × Nat) 200000 [(66, 25, 1), (69, 91, 1), (100, 5, 1)] (fun s => [.own 5 1 s.1.1.length (vi .u8 s.1.1), .int .i64 s.2])
        (fun s => [.int .i64 n :: vi .u8 (p ++ q), vb s.1.2, vi .u8 [gi p (gi l i).toNat, gi q (gi l i).toNat]])
        (fun s => s.2 ≤ 2 ∧ s.1 = if s.2 = 0 then (l, m) else if s.2 = 1 then visit (gi p (gi l i).toNat) (l, m) else srStep p q i (l, m)) (fun s => 2 - s.2) ((l, m), 0) (by simp [frameOk, names, lpz, sclp, scv, scvs, vi_nrf, vb_nrf, vt_nrf, v2_nrf, v3_nrf, nrfs, nrf, sc_vi, sc_vb, sc_vt, sc_v2, sc_v3, sc_vo, sc_vl, vo_nrf, vl_nrf, sc_vn, vn_nrf]) ⟨Nat.zero_le 2, rfl⟩ ?_ ?_
      · simp (disch := first | omega | (simp only [List.length_append, List.length_cons, List.length_nil, List.length_replicate, List.length_set, List.length_take, List.length_drop, vi_len, vb_len, vo_len, vl_len, vn_len]; omega)) only [↓EC, EV, EL, E2, E3, ER, seval, ↓reduceIte, false_imp_iff, ColV_def]
        rfl
      · rintro ⟨s, j⟩ ⟨g1, g2⟩
        simp only at g1 g2
        obtain ⟨hs, hpre, hil⟩ := sr_mid (s0 := (l, m)) hp hq h1 hi g2
        simp only at hil
        have hsm := hs.len
        have hsl := hs.le
        simp (disch := first | omega | (simp only [List.length_append, List.length_cons, List.length_nil, List.length_replicate, List.length_set, List.length_take, List.length_drop, vi_len, vb_len, vo_len, vl_len, vn_len]; omega)) only [↓EC, EV, EL, E2, E3, ER, seval, ↓reduceIte, false_imp_iff, ColV_def, lheap_def]
        (refine Split.mk (fun h => ?_) (fun h => ?_) <;> (try simp only [decide_eq_true_eq, decide_eq_false_iff_not, beq_iff_eq, bne_iff_ne, beq_eq_false_iff_ne, bne_eq_false_iff_eq, Bool.not_eq_true', Bool.not_eq_false', Bool.and_eq_true, Bool.or_eq_true, Bool.and_eq_false_iff, Bool.or_eq_false_iff, Int.not_lt, Int.not_le, Bool.false_eq_true, Bool.true_eq_false, false_and, and_false, true_and, and_true, or_false, false_or, or_true, true_or, not_true_eq_false, not_false_eq_true] at h))
        · have hj : j = 0 ∨ j = 1 := by omega
          rcases hj with rfl | rfl
          · (try simp (disch := first | omega | (simp only [List.length_append, List.length_cons, List.length_nil, List.length_replicate, List.length_set, List.length_take, List.length_drop, vi_len, vb_len, vo_len, vl_len, vn_len]; omega)) only [↓EC, EV, EL, E2, E3, ER, seval, ↓reduceIte, false_imp_iff, hl, hk])
            rw [if_pos rfl] at g2
            (refine Split.mk (fun h => ?_) (fun h => ?_) <;> (try simp only [decide_eq_true_eq, decide_eq_false_iff_not, beq_iff_eq, bne_iff_ne, beq_eq_false_iff_ne, bne_eq_false_iff_eq, Bool.not_eq_true', Bool.not_eq_false', Bool.and_eq_true, Bool.or_eq_true, Bool.and_eq_false_iff, Bool.or_eq_false_iff, Int.not_lt, Int.not_le, Bool.false_eq_true, Bool.true_eq_false, false_and, and_false, true_and, and_true, or_false, false_or, or_true, true_or, not_true_eq_false, not_false_eq_true] at h))
            · exact ⟨(visit (gi p (gi l i).toNat) s, 1), by rw [visit_no h]; simp, by rw [visit_no h], ⟨by simp, by rw [g2]; rfl⟩, by simp⟩
            · exact ⟨(visit (gi p (gi l i).toNat) s, 1), by rw [visit_yes h]; simp, by rw [visit_yes h], ⟨by simp, by rw [g2]; rfl⟩, by simp⟩
          · (try simp (disch := first | omega | (simp only [List.length_append, List.length_cons, List.length_nil, List.length_replicate, List.length_set, List.length_take, List.length_drop, vi_len, vb_len, vo_len, vl_len, vn_len]; omega)) only [↓EC, EV, EL, E2, E3, ER, seval, ↓reduceIte, false_imp_iff, hl, hk])
            rw [if_neg (by decide), if_pos rfl] at g2
            (refine Split.mk (fun h => ?_) (fun h => ?_) <;> (try simp only [decide_eq_true_eq, decide_eq_false_iff_not, beq_iff_eq, bne_iff_ne, beq_eq_false_iff_ne, bne_eq_false_iff_eq, Bool.not_eq_true', Bool.not_eq_false', Bool.and_eq_true, Bool.or_eq_true, Bool.and_eq_false_iff, Bool.or_eq_false_iff, Int.not_lt, Int.not_le, Bool.false_eq_true, Bool.true_eq_false, false_and, and_false, true_and, and_true, or_false, false_or, or_true, true_or, not_true_eq_false, not_false_eq_true] at h))
            · exact ⟨(visit (gi q (gi l i).toNat) s, 2), by rw [visit_no h]; simp, by rw [visit_no h], ⟨by simp, by rw [g2]; rfl⟩, by simp⟩
            · exact ⟨(visit (gi q (gi l i).toNat) s, 2), by rw [visit_yes h]; simp, by rw [visit_yes h], ⟨by simp, by rw [g2]; rfl⟩, by simp⟩
        · (try simp (disch := first | omega | (simp only [List.length_append, List.length_cons, List.length_nil, List.length_replicate, List.length_set, List.length_take, List.length_drop, vi_len, vb_len, vo_len, vl_len, vn_len]; omega)) only [↓EC, EV, EL, E2, E3, ER, seval, ↓reduceIte, false_imp_iff])
          rw [if_neg (by omega), if_neg (by omega)] at g2
          refine ⟨(s, i + 1), rfl, rfl, ⟨hs, by simp only; omega, ?_⟩, by simp only; omega⟩
          rw [show 17 - i = 16 - i + 1 from by omega] at h3
          simp only [srRun, if_pos hi] at h3
          try simp only
          rw [g2, show 17 - (i + 1) = 16 - i from by omega]
          exact h3
    · (try simp (disch := first | omega | (simp only [List.length_append, List.length_cons, List.length_nil, List.length_replicate, List.length_set, List.length_take, List.length_drop, vi_len, vb_len, vo_len, vl_len, vn_len]; omega)) only [↓EC, EV, EL, E2, E3, ER, seval, ↓reduceIte, false_imp_iff])
      unfold nmdL
      rw [← h3, show 17 - i = 16 - i + 1 from by omega]
      simp only [srRun]
      rw [if_neg (by omega)]
theorem c_impl_naming {n : Int} {p q : List Int} {x : Int} (hp : lo16 p) (hq : lo16 q) (hx : 0 ≤ x ∧ x < 16) : PSpec Try.prog 80 [vD n p q, .int .i64 x] fun v => v = .agg (vi .u8 (nmgP p q x)) := by
  have hl := hp.1
  have hk := hq.1
  obtain ⟨n1, n2⟩ := nmdL_ok hp hq hx
  refine impl_naming_f.f ?_
  have h1 := c_impl_named (n := n) hp hq hx
  unfold vD at h1 ⊢
  simp (disch := first | omega | (simp only [List.length_append, List.length_cons, List.length_nil, List.length_replicate, List.length_set, List.length_take, List.length_drop, vi_len, vb_len, vo_len, vl_len, vn_len]; omega)) only [↓EC, EV, EL, E2, E3, ER, seval, ↓reduceIte, false_imp_iff, impl_naming_F, hl, hk]
  refine pcd_v h1 ?_
  unfold nmgP
  generalize nmdL p q x = L at *
  (try simp (disch := first | omega | (simp only [List.length_append, List.length_cons, List.length_nil, List.length_replicate, List.length_set, List.length_take, List.length_drop, vi_len, vb_len, vo_len, vl_len, vn_len]; omega)) only [↓EC, EV, EL, E2, E3, ER, seval, ↓reduceIte, false_imp_iff, hl, hk])
  refine LP_of (σ := Nat) 100000 [(66, 25, 1), (68, 23, 1), (69, 23, 1)] (fun s => [.int .i64 s]) (fun s => [.int .i64 n :: vi .u8 (p ++ q), vi .u8 (List.replicate 16 0), vi .u8 (nameT L s)])
    (fun s => s ≤ L.length) (fun s => L.length - s) 0 (by simp [frameOk, names, lpz, sclp, scv, scvs, vi_nrf, vb_nrf, vt_nrf, v2_nrf, v3_nrf, nrfs, nrf, sc_vi, sc_vb, sc_vt, sc_v2, sc_v3, sc_vo, sc_vl, vo_nrf, vl_nrf, sc_vn, vn_nrf]) (Nat.zero_le _) ?_ ?_
  · simp (disch := first | omega | (simp only [List.length_append, List.length_cons, List.length_nil, List.length_replicate, List.length_set, List.length_take, List.length_drop, vi_len, vb_len, vo_len, vl_len, vn_len]; omega)) only [↓EC, EV, EL, E2, E3, ER, seval, ↓reduceIte, false_imp_iff, ColV_def]
    rfl
  · rintro s h1
    have hnl := nameT_len (l := L) s
    simp (disch := first | omega | (simp only [List.length_append, List.length_cons, List.length_nil, List.length_replicate, List.length_set, List.length_take, List.length_drop, vi_len, vb_len, vo_len, vl_len, vn_len]; omega)) only [↓EC, EV, EL, E2, E3, ER, seval, ↓reduceIte, false_imp_iff, ColV_def, lheap_def]
    (refine Split.mk (fun h => ?_) (fun h => ?_) <;> (try simp only [decide_eq_true_eq, decide_eq_false_iff_not, beq_iff_eq, bne_iff_ne, beq_eq_false_iff_ne, bne_eq_false_iff_eq, Bool.not_eq_true', Bool.not_eq_false', Bool.and_eq_true, Bool.or_eq_true, Bool.and_eq_false_iff, Bool.or_eq_false_iff, Int.not_lt, Int.not_le, Bool.false_eq_true, Bool.true_eq_false, false_and, and_false, true_and, and_true, or_false, false_or, or_true, true_or, not_true_eq_false, not_false_eq_true] at h))
    · have hb := n2 s (by omega)
      (try simp (disch := first | omega | (simp only [List.length_append, List.length_cons, List.length_nil, List.length_replicate, List.length_set, List.length_take, List.length_drop, vi_len, vb_len, vo_len, vl_len, vn_len]; omega)) only [↓EC, EV, EL, E2, E3, ER, seval, ↓reduceIte, false_imp_iff])
      (refine ⟨s + 1, ?_⟩; repeat' (first | (refine And.intro ?_ ?_) | rfl | omega | trivial))
    · have : s = L.length := by omega
      subst this
      (try simp (disch := first | omega | (simp only [List.length_append, List.length_cons, List.length_nil, List.length_replicate, List.length_set, List.length_take, List.length_drop, vi_len, vb_len, vo_len, vl_len, vn_len]; omega)) only [↓EC, EV, EL, E2, E3, ER, seval, ↓reduceIte, false_imp_iff, hnl])
theorem c_spec_l02Naming {n : Int} {p q : List Int} {x : Int} (hp : lo16 p) (hq : lo16 q) (hx : 0 ≤ x ∧ x < 16) : PSpec Try.prog 77 [vD n p q, .int .i64 x] fun v => v = .agg (vi .u8 (nmgP p q x)) := by
  have hl := hp.1
  have hk := hq.1
  refine spec_l02Naming_f.f ?_
  unfold vD
  simp (disch := first | omega | (simp only [List.length_append, List.length_cons, List.length_nil, List.length_replicate, List.length_set, List.length_take, List.length_drop, vi_len, vb_len, vo_len, vl_len, vn_len]; omega)) only [↓EC, EV, EL, E2, E3, ER, seval, ↓reduceIte, false_imp_iff, spec_l02Naming_F, hl, hk]
  refine LP_of (σ := Sr × Nat) 100000 [(66, 25, 1), (68, 23, 1), (69, 23, 1), (70, 91, 1)] (fun s => [.own 5 1 s.1.1.length (vi .u8 s.1.1), .int .i64 s.2])
    (fun s => [.int .i64 n :: vi .u8 (p ++ q), vi .u8 (List.replicate 16 0), vi .u8 (nameT s.1.1 s.2), vb s.1.2])
    (fun s => SrOk s.1 ∧ s.2 ≤ s.1.1.length ∧ srRun p q (17 - s.2) s.2 s.1 = srRun p q 17 0 (srX x)) (fun s => 17 - s.2) (srX x, 0) (by simp [frameOk, names, lpz, sclp, scv, scvs, vi_nrf, vb_nrf, vt_nrf, v2_nrf, v3_nrf, nrfs, nrf, sc_vi, sc_vb, sc_vt, sc_v2, sc_v3, sc_vo, sc_vl, vo_nrf, vl_nrf, sc_vn, vn_nrf]) ⟨srX_ok hx, Nat.zero_le _, rfl⟩ ?_ ?_
  · simp (disch := first | omega | (simp only [List.length_append, List.length_cons, List.length_nil, List.length_replicate, List.length_set, List.length_take, List.length_drop, vi_len, vb_len, vo_len, vl_len, vn_len]; omega)) only [↓EC, EV, EL, E2, E3, ER, seval, ↓reduceIte, false_imp_iff, ColV_def]
    exact ⟨rfl, rfl⟩
  · rintro ⟨⟨l, m⟩, i⟩ ⟨h1, h2, h3⟩
    simp only at h1 h2 h3
    have hm := h1.len
    have hle := h1.le
    simp only at hm hle
    have hnl := nameT_len (l := l) i
    simp (disch := first | omega | (simp only [List.length_append, List.length_cons, List.length_nil, List.length_replicate, List.length_set, List.length_take, List.length_drop, vi_len, vb_len, vo_len, vl_len, vn_len]; omega)) only [↓EC, EV, EL, E2, E3, ER, seval, ↓reduceIte, false_imp_iff, ColV_def, lheap_def]
    (refine Split.mk (fun h => ?_) (fun h => ?_) <;> (try simp only [decide_eq_true_eq, decide_eq_false_iff_not, beq_iff_eq, bne_iff_ne, beq_eq_false_iff_ne, bne_eq_false_iff_eq, Bool.not_eq_true', Bool.not_eq_false', Bool.and_eq_true, Bool.or_eq_true, Bool.and_eq_false_iff, Bool.or_eq_false_iff, Int.not_lt, Int.not_le, Bool.false_eq_true, Bool.true_eq_false, false_and, and_false, true_and, and_true, or_false, false_or, or_true, true_or, not_true_eq_false, not_false_eq_true] at h))
    · have hi : i < l.length := by omega
      have hlo := h1.lo i hi
      simp only at hlo
      have hy1 := hp.2 (gi l i).toNat (by omega)
      have hy2 := hq.2 (gi l i).toNat (by omega)
      (try simp (disch := first | omega | (simp only [List.length_append, List.length_cons, List.length_nil, List.length_replicate, List.length_set, List.length_take, List.length_drop, vi_len, vb_len, vo_len, vl_len, vn_len]; omega)) only [↓EC, EV, EL, E2, E3, ER, seval, ↓reduceIte, false_imp_iff, hl, hk])
      refine LP_of (σ := Sr × Nat) 200000 [(66, 25, 1), (68, 23, 1), (69, 23, 1), (70, 91, 1)] (fun s => [.own 5 1 s.1.1.length (vi .u8 s.1.1), .int .i64 s.2])
        (fun s => [.int .i64 n :: vi .u8 (p ++ q), vi .u8 (List.replicate 16 0), vi .u8 (nameT l (i + 1)), vb s.1.2])
        (fun s => s.2 ≤ 2 ∧ s.1 = if s.2 = 0 then (l, m) else if s.2 = 1 then visit (gi p (gi l i).toNat) (l, m) else srStep p q i (l, m)) (fun s => 2 - s.2) ((l, m), 0) (by simp [frameOk, names, lpz, sclp, scv, scvs, vi_nrf, vb_nrf, vt_nrf, v2_nrf, v3_nrf, nrfs, nrf, sc_vi, sc_vb, sc_vt, sc_v2, sc_v3, sc_vo, sc_vl, vo_nrf, vl_nrf, sc_vn, vn_nrf]) ⟨Nat.zero_le 2, rfl⟩ ?_ ?_
      · simp (disch := first | omega | (simp only [List.length_append, List.length_cons, List.length_nil, List.length_replicate, List.length_set, List.length_take, List.length_drop, vi_len, vb_len, vo_len, vl_len, vn_len]; omega)) only [↓EC, EV, EL, E2, E3, ER, seval, ↓reduceIte, false_imp_iff, ColV_def]
        rfl
      · rintro ⟨s, j⟩ ⟨g1, g2⟩
        simp only at g1 g2
        obtain ⟨hs, hpre, hil⟩ := sr_mid (s0 := (l, m)) hp hq h1 hi g2
        simp only at hil
        have hsm := hs.len
        have hsl := hs.le
        have hnl2 := nameT_len (l := l) (i + 1)
        simp (disch := first | omega | (simp only [List.length_append, List.length_cons, List.length_nil, List.length_replicate, List.length_set, List.length_take, List.length_drop, vi_len, vb_len, vo_len, vl_len, vn_len]; omega)) only [↓EC, EV, EL, E2, E3, ER, seval, ↓reduceIte, false_imp_iff, ColV_def, lheap_def]
        (refine Split.mk (fun h => ?_) (fun h => ?_) <;> (try simp only [decide_eq_true_eq, decide_eq_false_iff_not, beq_iff_eq, bne_iff_ne, beq_eq_false_iff_ne, bne_eq_false_iff_eq, Bool.not_eq_true', Bool.not_eq_false', Bool.and_eq_true, Bool.or_eq_true, Bool.and_eq_false_iff, Bool.or_eq_false_iff, Int.not_lt, Int.not_le, Bool.false_eq_true, Bool.true_eq_false, false_and, and_false, true_and, and_true, or_false, false_or, or_true, true_or, not_true_eq_false, not_false_eq_true] at h))
        · have hj : j = 0 ∨ j = 1 := by omega
          rcases hj with rfl | rfl
          · (try simp (disch := first | omega | (simp only [List.length_append, List.length_cons, List.length_nil, List.length_replicate, List.length_set, List.length_take, List.length_drop, vi_len, vb_len, vo_len, vl_len, vn_len]; omega)) only [↓EC, EV, EL, E2, E3, ER, seval, ↓reduceIte, false_imp_iff, hl, hk])
            rw [if_pos rfl] at g2
            (refine Split.mk (fun h => ?_) (fun h => ?_) <;> (try simp only [decide_eq_true_eq, decide_eq_false_iff_not, beq_iff_eq, bne_iff_ne, beq_eq_false_iff_ne, bne_eq_false_iff_eq, Bool.not_eq_true', Bool.not_eq_false', Bool.and_eq_true, Bool.or_eq_true, Bool.and_eq_false_iff, Bool.or_eq_false_iff, Int.not_lt, Int.not_le, Bool.false_eq_true, Bool.true_eq_false, false_and, and_false, true_and, and_true, or_false, false_or, or_true, true_or, not_true_eq_false, not_false_eq_true] at h))
            · exact ⟨(visit (gi p (gi l i).toNat) s, 1), by rw [visit_no h]; simp, by rw [visit_no h], ⟨by simp, by rw [g2]; rfl⟩, by simp⟩
            · exact ⟨(visit (gi p (gi l i).toNat) s, 1), by rw [visit_yes h]; simp, by rw [visit_yes h], ⟨by simp, by rw [g2]; rfl⟩, by simp⟩
          · (try simp (disch := first | omega | (simp only [List.length_append, List.length_cons, List.length_nil, List.length_replicate, List.length_set, List.length_take, List.length_drop, vi_len, vb_len, vo_len, vl_len, vn_len]; omega)) only [↓EC, EV, EL, E2, E3, ER, seval, ↓reduceIte, false_imp_iff, hl, hk])
            rw [if_neg (by decide), if_pos rfl] at g2
            (refine Split.mk (fun h => ?_) (fun h => ?_) <;> (try simp only [decide_eq_true_eq, decide_eq_false_iff_not, beq_iff_eq, bne_iff_ne, beq_eq_false_iff_ne, bne_eq_false_iff_eq, Bool.not_eq_true', Bool.not_eq_false', Bool.and_eq_true, Bool.or_eq_true, Bool.and_eq_false_iff, Bool.or_eq_false_iff, Int.not_lt, Int.not_le, Bool.false_eq_true, Bool.true_eq_false, false_and, and_false, true_and, and_true, or_false, false_or, or_true, true_or, not_true_eq_false, not_false_eq_true] at h))
            · exact ⟨(visit (gi q (gi l i).toNat) s, 2), by rw [visit_no h]; simp, by rw [visit_no h], ⟨by simp, by rw [g2]; rfl⟩, by simp⟩
            · exact ⟨(visit (gi q (gi l i).toNat) s, 2), by rw [visit_yes h]; simp, by rw [visit_yes h], ⟨by simp, by rw [g2]; rfl⟩, by simp⟩
        · (try simp (disch := first | omega | (simp only [List.length_append, List.length_cons, List.length_nil, List.length_replicate, List.length_set, List.length_take, List.length_drop, vi_len, vb_len, vo_len, vl_len, vn_len]; omega)) only [↓EC, EV, EL, E2, E3, ER, seval, ↓reduceIte, false_imp_iff])
          rw [if_neg (by omega), if_neg (by omega)] at g2
          have hnc := nameT_congr (l := s.1) (m := l) (i + 1) fun k hk => hpre k (by simp only; omega)
          refine ⟨(s, i + 1), rfl, by simp only [hnc], ⟨hs, by simp only; omega, ?_⟩, by simp only; omega⟩
          rw [show 17 - i = 16 - i + 1 from by omega] at h3
          simp only [srRun, if_pos hi] at h3
          try simp only
          rw [g2, show 17 - (i + 1) = 16 - i from by omega]
          exact h3
    · have hL : nmdL p q x = l := by
        unfold nmdL
        rw [← h3, show 17 - i = 16 - i + 1 from by omega]
        simp only [srRun]
        rw [if_neg (by omega)]
      unfold nmgP
      rw [hL]
      have : i = l.length := by omega
      subst this
      (try simp (disch := first | omega | (simp only [List.length_append, List.length_cons, List.length_nil, List.length_replicate, List.length_set, List.length_take, List.length_drop, vi_len, vb_len, vo_len, vl_len, vn_len]; omega)) only [↓EC, EV, EL, E2, E3, ER, seval, ↓reduceIte, false_imp_iff, hnl])

/-! ### Renamed dessins -/
def rnT (p b : List Int) : Nat → List Int
  | 0 => List.replicate 16 0
  | s + 1 => (rnT p b s).set (gi p s).toNat (gi p (gi b s).toNat)
theorem rnT_len {p b : List Int} : ∀ s, (rnT p b s).length = 16
  | 0 => by simp [rnT]
  | s + 1 => by simp [rnT, rnT_len s]
theorem rnT_lo {p b : List Int} (hp : lo16 p) (hb : lo16 b) : ∀ s, s ≤ 16 → lo16 (rnT p b s)
  | 0, _ => ⟨by simp [rnT], fun i hi => by simp only [rnT]; rw [gi_rep]; split <;> omega⟩
  | s + 1, h => ⟨by simp [rnT, rnT_len], fun i hi => by
    have h1 := hb.2 s (by omega)
    simp only [rnT]
    rw [gi_set]
    split
    · exact hp.2 _ (by omega)
    · exact (rnT_lo hp hb s (by omega)).2 i hi⟩
theorem c_impl_rename {n : Int} {b w p : List Int} (hb : lo16 b) (hw : lo16 w) (hp : lo16 p) (hn : 1 ≤ n ∧ n ≤ 16) : PSpec Try.prog 79 [vD n b w, .agg (vi .u8 p)] fun v => v = vD n (rnT p b n.toNat) (rnT p w n.toNat) := by
  have hl := hb.1
  have hk := hw.1
  have hpl := hp.1
  refine impl_rename_f.f ?_
  unfold vD
  simp (disch := first | omega | (simp only [List.length_append, List.length_cons, List.length_nil, List.length_replicate, List.length_set, List.length_take, List.length_drop, vi_len, vb_len, vo_len, vl_len, vn_len]; omega)) only [↓EC, EV, EL, E2, E3, ER, seval, ↓reduceIte, false_imp_iff, impl_rename_F, hl, hk, hpl]
  refine LP_of (σ := Nat) 100000 [(66, 25, 1), (67, 23, 1), (68, 25, 1), (69, 25, 1)] (fun s => [.int .i64 s])
    (fun s => [.int .i64 n :: vi .u8 (b ++ w), vi .u8 p, .int .i64 0 :: vi .u8 (List.replicate 32 0), .int .i64 n :: vi .u8 (rnT p b s ++ rnT p w s)])
    (fun s => (s : Int) ≤ n) (fun s => (n - s).toNat) 0 (by simp [frameOk, names, lpz, sclp, scv, scvs, vi_nrf, vb_nrf, vt_nrf, v2_nrf, v3_nrf, nrfs, nrf, sc_vi, sc_vb, sc_vt, sc_v2, sc_v3, sc_vo, sc_vl, vo_nrf, vl_nrf, sc_vn, vn_nrf]) (by simp only [Int.natCast_zero]; omega) ?_ ?_
  · simp (disch := first | omega | (simp only [List.length_append, List.length_cons, List.length_nil, List.length_replicate, List.length_set, List.length_take, List.length_drop, vi_len, vb_len, vo_len, vl_len, vn_len]; omega)) only [↓EC, EV, EL, E2, E3, ER, seval, ↓reduceIte, false_imp_iff, ColV_def]
    rfl
  · rintro s h1
    have q1 := rnT_len (p := p) (b := b) s
    have q2 := rnT_len (p := p) (b := w) s
    simp (disch := first | omega | (simp only [List.length_append, List.length_cons, List.length_nil, List.length_replicate, List.length_set, List.length_take, List.length_drop, vi_len, vb_len, vo_len, vl_len, vn_len]; omega)) only [↓EC, EV, EL, E2, E3, ER, seval, ↓reduceIte, false_imp_iff, ColV_def, lheap_def]
    (refine Split.mk (fun h => ?_) (fun h => ?_) <;> (try simp only [decide_eq_true_eq, decide_eq_false_iff_not, beq_iff_eq, bne_iff_ne, beq_eq_false_iff_ne, bne_eq_false_iff_eq, Bool.not_eq_true', Bool.not_eq_false', Bool.and_eq_true, Bool.or_eq_true, Bool.and_eq_false_iff, Bool.or_eq_false_iff, Int.not_lt, Int.not_le, Bool.false_eq_true, Bool.true_eq_false, false_and, and_false, true_and, and_true, or_false, false_or, or_true, true_or, not_true_eq_false, not_false_eq_true] at h))
    · have a1 := hp.2 s (by omega)
      have a2 := hb.2 s (by omega)
      have a3 := hw.2 s (by omega)
      have a4 := hp.2 (gi b s).toNat (by omega)
      have a5 := hp.2 (gi w s).toNat (by omega)
      (try simp (disch := first | omega | (simp only [List.length_append, List.length_cons, List.length_nil, List.length_replicate, List.length_set, List.length_take, List.length_drop, vi_len, vb_len, vo_len, vl_len, vn_len]; omega)) only [↓EC, EV, EL, E2, E3, ER, seval, ↓reduceIte, false_imp_iff, hl, hk, hpl, q1, q2])
      exact ⟨s + 1, rfl, rfl, by omega, by omega⟩
    · have : s = n.toNat := by omega
      subst this
      (try simp (disch := first | omega | (simp only [List.length_append, List.length_cons, List.length_nil, List.length_replicate, List.length_set, List.length_take, List.length_drop, vi_len, vb_len, vo_len, vl_len, vn_len]; omega)) only [↓EC, EV, EL, E2, E3, ER, seval, ↓reduceIte, false_imp_iff, hl, hk, q1, q2])
theorem c_spec_l02Rename {n : Int} {b w p : List Int} (hb : lo16 b) (hw : lo16 w) (hp : lo16 p) (hn : 1 ≤ n ∧ n ≤ 16) : PSpec Try.prog 76 [vD n b w, .agg (vi .u8 p)] fun v => v = vD n (rnT p b n.toNat) (rnT p w n.toNat) := by
  have hl := hb.1
  have hk := hw.1
  have hpl := hp.1
  refine spec_l02Rename_f.f ?_
  unfold vD
  simp (disch := first | omega | (simp only [List.length_append, List.length_cons, List.length_nil, List.length_replicate, List.length_set, List.length_take, List.length_drop, vi_len, vb_len, vo_len, vl_len, vn_len]; omega)) only [↓EC, EV, EL, E2, E3, ER, seval, ↓reduceIte, false_imp_iff, spec_l02Rename_F, hl, hk, hpl]
  refine LP_of (σ := Nat) 100000 [(66, 25, 1), (67, 23, 1), (68, 25, 1), (69, 25, 1)] (fun s => [.int .i64 s])
    (fun s => [.int .i64 n :: vi .u8 (b ++ w), vi .u8 p, .int .i64 0 :: vi .u8 (List.replicate 32 0), .int .i64 n :: vi .u8 (rnT p b s ++ rnT p w s)])
    (fun s => (s : Int) ≤ n) (fun s => (n - s).toNat) 0 (by simp [frameOk, names, lpz, sclp, scv, scvs, vi_nrf, vb_nrf, vt_nrf, v2_nrf, v3_nrf, nrfs, nrf, sc_vi, sc_vb, sc_vt, sc_v2, sc_v3, sc_vo, sc_vl, vo_nrf, vl_nrf, sc_vn, vn_nrf]) (by simp only [Int.natCast_zero]; omega) ?_ ?_
  · simp (disch := first | omega | (simp only [List.length_append, List.length_cons, List.length_nil, List.length_replicate, List.length_set, List.length_take, List.length_drop, vi_len, vb_len, vo_len, vl_len, vn_len]; omega)) only [↓EC, EV, EL, E2, E3, ER, seval, ↓reduceIte, false_imp_iff, ColV_def]
    rfl
  · rintro s h1
    have q1 := rnT_len (p := p) (b := b) s
    have q2 := rnT_len (p := p) (b := w) s
    simp (disch := first | omega | (simp only [List.length_append, List.length_cons, List.length_nil, List.length_replicate, List.length_set, List.length_take, List.length_drop, vi_len, vb_len, vo_len, vl_len, vn_len]; omega)) only [↓EC, EV, EL, E2, E3, ER, seval, ↓reduceIte, false_imp_iff, ColV_def, lheap_def]
    (refine Split.mk (fun h => ?_) (fun h => ?_) <;> (try simp only [decide_eq_true_eq, decide_eq_false_iff_not, beq_iff_eq, bne_iff_ne, beq_eq_false_iff_ne, bne_eq_false_iff_eq, Bool.not_eq_true', Bool.not_eq_false', Bool.and_eq_true, Bool.or_eq_true, Bool.and_eq_false_iff, Bool.or_eq_false_iff, Int.not_lt, Int.not_le, Bool.false_eq_true, Bool.true_eq_false, false_and, and_false, true_and, and_true, or_false, false_or, or_true, true_or, not_true_eq_false, not_false_eq_true] at h))
    · have a1 := hp.2 s (by omega)
      have a2 := hb.2 s (by omega)
      have a3 := hw.2 s (by omega)
      have a4 := hp.2 (gi b s).toNat (by omega)
      have a5 := hp.2 (gi w s).toNat (by omega)
      (try simp (disch := first | omega | (simp only [List.length_append, List.length_cons, List.length_nil, List.length_replicate, List.length_set, List.length_take, List.length_drop, vi_len, vb_len, vo_len, vl_len, vn_len]; omega)) only [↓EC, EV, EL, E2, E3, ER, seval, ↓reduceIte, false_imp_iff, hl, hk, hpl, q1, q2])
      exact ⟨s + 1, rfl, rfl, by omega, by omega⟩
    · have : s = n.toNat := by omega
      subst this
      (try simp (disch := first | omega | (simp only [List.length_append, List.length_cons, List.length_nil, List.length_replicate, List.length_set, List.length_take, List.length_drop, vi_len, vb_len, vo_len, vl_len, vn_len]; omega)) only [↓EC, EV, EL, E2, E3, ER, seval, ↓reduceIte, false_imp_iff, hl, hk, q1, q2])

/-! ### Tables -/
theorem c_impl_isDart {n x : Int} {b w : List Int} (hb : b.length = 16) (hw : w.length = 16) : PSpec Try.prog 78 [vD n b w, .sl 1 [.int .i64 x]] fun v => v = .bool (decide (0 ≤ x ∧ x < n)) := by
  refine impl_isDart_f.f ?_
  unfold vD
  simp (disch := first | omega | (simp only [List.length_append, List.length_cons, List.length_nil, List.length_replicate, List.length_set, List.length_take, List.length_drop, vi_len, vb_len, vo_len, vl_len, vn_len]; omega)) only [↓EC, EV, EL, E2, E3, ER, seval, ↓reduceIte, false_imp_iff, impl_isDart_F, hb, hw]
  refine LP_of (σ := Nat) 100000 [(66, 25, 1)] (fun s => [.int .i64 s]) (fun s => [.int .i64 n :: vi .u8 (b ++ w)]) (fun s => s ≤ 1 ∧ (0 < s → 0 ≤ x ∧ x < n)) (fun s => 1 - s) 0 (by simp [frameOk, names, lpz, sclp, scv, scvs, vi_nrf, vb_nrf, vt_nrf, v2_nrf, v3_nrf, nrfs, nrf, sc_vi, sc_vb, sc_vt, sc_v2, sc_v3, sc_vo, sc_vl, vo_nrf, vl_nrf, sc_vn, vn_nrf]) ⟨Nat.zero_le _, fun h => absurd h (by decide)⟩ ?_ ?_
  · simp (disch := first | omega | (simp only [List.length_append, List.length_cons, List.length_nil, List.length_replicate, List.length_set, List.length_take, List.length_drop, vi_len, vb_len, vo_len, vl_len, vn_len]; omega)) only [↓EC, EV, EL, E2, E3, ER, seval, ↓reduceIte, false_imp_iff, ColV_def]
  · rintro s ⟨h1, h2⟩
    simp (disch := first | omega | (simp only [List.length_append, List.length_cons, List.length_nil, List.length_replicate, List.length_set, List.length_take, List.length_drop, vi_len, vb_len, vo_len, vl_len, vn_len]; omega)) only [↓EC, EV, EL, E2, E3, ER, seval, ↓reduceIte, false_imp_iff, ColV_def, lheap_def]
    (refine Split.mk (fun h => ?_) (fun h => ?_) <;> (try simp only [decide_eq_true_eq, decide_eq_false_iff_not, beq_iff_eq, bne_iff_ne, beq_eq_false_iff_ne, bne_eq_false_iff_eq, Bool.not_eq_true', Bool.not_eq_false', Bool.and_eq_true, Bool.or_eq_true, Bool.and_eq_false_iff, Bool.or_eq_false_iff, Int.not_lt, Int.not_le, Bool.false_eq_true, Bool.true_eq_false, false_and, and_false, true_and, and_true, or_false, false_or, or_true, true_or, not_true_eq_false, not_false_eq_true] at h))
    · have : s = 0 := by omega
      subst this
      (try simp (disch := first | omega | (simp only [List.length_append, List.length_cons, List.length_nil, List.length_replicate, List.length_set, List.length_take, List.length_drop, vi_len, vb_len, vo_len, vl_len, vn_len]; omega)) only [↓EC, EV, EL, E2, E3, ER, seval, ↓reduceIte, false_imp_iff])
      (refine Split.mk (fun h => ?_) (fun h => ?_) <;> (try simp only [decide_eq_true_eq, decide_eq_false_iff_not, beq_iff_eq, bne_iff_ne, beq_eq_false_iff_ne, bne_eq_false_iff_eq, Bool.not_eq_true', Bool.not_eq_false', Bool.and_eq_true, Bool.or_eq_true, Bool.and_eq_false_iff, Bool.or_eq_false_iff, Int.not_lt, Int.not_le, Bool.false_eq_true, Bool.true_eq_false, false_and, and_false, true_and, and_true, or_false, false_or, or_true, true_or, not_true_eq_false, not_false_eq_true] at h))
      · (try simp (disch := first | omega | (simp only [List.length_append, List.length_cons, List.length_nil, List.length_replicate, List.length_set, List.length_take, List.length_drop, vi_len, vb_len, vo_len, vl_len, vn_len]; omega)) only [↓EC, EV, EL, E2, E3, ER, seval, ↓reduceIte, false_imp_iff])
        rw [eq_comm, V.bool.injEq, decide_eq_false_iff_not]; omega
      · (try simp (disch := first | omega | (simp only [List.length_append, List.length_cons, List.length_nil, List.length_replicate, List.length_set, List.length_take, List.length_drop, vi_len, vb_len, vo_len, vl_len, vn_len]; omega)) only [↓EC, EV, EL, E2, E3, ER, seval, ↓reduceIte, false_imp_iff])
        (refine Split.mk (fun h => ?_) (fun h => ?_) <;> (try simp only [decide_eq_true_eq, decide_eq_false_iff_not, beq_iff_eq, bne_iff_ne, beq_eq_false_iff_ne, bne_eq_false_iff_eq, Bool.not_eq_true', Bool.not_eq_false', Bool.and_eq_true, Bool.or_eq_true, Bool.and_eq_false_iff, Bool.or_eq_false_iff, Int.not_lt, Int.not_le, Bool.false_eq_true, Bool.true_eq_false, false_and, and_false, true_and, and_true, or_false, false_or, or_true, true_or, not_true_eq_false, not_false_eq_true] at h))
        · (try simp (disch := first | omega | (simp only [List.length_append, List.length_cons, List.length_nil, List.length_replicate, List.length_set, List.length_take, List.length_drop, vi_len, vb_len, vo_len, vl_len, vn_len]; omega)) only [↓EC, EV, EL, E2, E3, ER, seval, ↓reduceIte, false_imp_iff])
          rw [eq_comm, V.bool.injEq, decide_eq_false_iff_not]; omega
        · (try simp (disch := first | omega | (simp only [List.length_append, List.length_cons, List.length_nil, List.length_replicate, List.length_set, List.length_take, List.length_drop, vi_len, vb_len, vo_len, vl_len, vn_len]; omega)) only [↓EC, EV, EL, E2, E3, ER, seval, ↓reduceIte, false_imp_iff])
          exact ⟨1, rfl, ⟨by omega, fun _ => by omega⟩, by omega⟩
    · (try simp (disch := first | omega | (simp only [List.length_append, List.length_cons, List.length_nil, List.length_replicate, List.length_set, List.length_take, List.length_drop, vi_len, vb_len, vo_len, vl_len, vn_len]; omega)) only [↓EC, EV, EL, E2, E3, ER, seval, ↓reduceIte, false_imp_iff])
      rw [eq_comm, V.bool.injEq, decide_eq_true_eq]
      exact h2 (by omega)
theorem isD.lo' {n : Int} {b w : List Int} (hb : okP b) (hw : okP w) (h : isD n b w) : lo16 b ∧ lo16 w ∧ (1 ≤ n ∧ n ≤ 16) := ⟨h.pb.lo hb, h.pw.lo hw, h.pb.1⟩
theorem rowsN_lim' {ls : List (List Int)} {k : Nat} (h : ∀ l ∈ ls, l.length ≤ k) : rowsN ls ≤ ls.length * k := by
  induction ls with
  | nil => simp [rowsN]
  | cons a r ih =>
    have h1 := h a (by simp)
    have h2 := ih fun l hl => h l (by simp [hl])
    simp only [rowsN, List.length_cons, Nat.add_mul, Nat.one_mul]
    omega
def tabT (E F : List Int) (s : Nat) : List (List Int) := (List.range s).map fun i => [gi E i, gi F i]
theorem tabT_len {E F : List Int} {s : Nat} : (tabT E F s).length = s := by simp [tabT]
theorem tabT_one {E F : List Int} {s : Nat} : tabT E F (s + 1) = tabT E F s ++ [[gi E s, gi F s]] := by simp [tabT, List.range_succ]
def tabR (n : Int) (b w : List Int) (x : Int) : List (List Int) := tabT (rnT (nmgP b w x) b n.toNat) (rnT (nmgP b w x) w n.toNat) n.toNat
theorem tabR_lim {n : Int} {b w : List Int} {x : Int} (hn : 1 ≤ n ∧ n ≤ 16) : (tabR n b w x).length ≤ 16 ∧ ∀ l ∈ tabR n b w x, l.length ≤ 16 := by
  unfold tabR
  refine ⟨by rw [tabT_len]; omega, fun l hl => ?_⟩
  simp only [tabT, List.mem_map] at hl
  obtain ⟨i, _, rfl⟩ := hl
  simp
theorem c_impl_TableOfDessin {n x : Int} {b w : List Int} (hb : okP b) (hw : okP w) (h0 : isDB n b w = true) (hx : 0 ≤ x ∧ x < n) : PSpec Try.prog 40 [vD n b w, .int .i64 x] fun v => v = .tup [.own 26 1 (tabR n b w x).length (vo 2 (tabR n b w x)), .int .i64 0] := by
  have hl := hb.len
  have hk := hw.len
  obtain ⟨lb, lw, hn⟩ := (isDB_iff.1 h0).lo' hb hw
  have lp := nmgP_lo (x := x) lb lw (by omega)
  have q1 := rnT_len (p := nmgP b w x) (b := b) n.toNat
  have q2 := rnT_len (p := nmgP b w x) (b := w) n.toNat
  have lE := rnT_lo lp lb n.toNat (by omega)
  have lF := rnT_lo lp lw n.toNat (by omega)
  refine impl_TableOfDessin_f.f ?_
  have h1 := c_impl_naming (n := n) (x := x) lb lw (by omega)
  have h2 := c_impl_rename (n := n) lb lw lp hn
  have h3 := c_impl_isDart (n := n) (x := x) (b := b) (w := w) hl hk
  unfold vD at *
  simp (disch := first | omega | (simp only [List.length_append, List.length_cons, List.length_nil, List.length_replicate, List.length_set, List.length_take, List.length_drop, vi_len, vb_len, vo_len, vl_len, vn_len]; omega)) only [↓EC, EV, EL, E2, E3, ER, seval, ↓reduceIte, false_imp_iff, impl_TableOfDessin_F, hl, hk]
  refine pcd_v (c_impl_IsDessin hb hw) ?_
  (try simp (disch := first | omega | (simp only [List.length_append, List.length_cons, List.length_nil, List.length_replicate, List.length_set, List.length_take, List.length_drop, vi_len, vb_len, vo_len, vl_len, vn_len]; omega)) only [↓EC, EV, EL, E2, E3, ER, seval, ↓reduceIte, false_imp_iff, hl, hk, h0])
  refine pcd_v h3 ?_
  have hxd : decide (0 ≤ x ∧ x < n) = true := by simpa using hx
  (try simp (disch := first | omega | (simp only [List.length_append, List.length_cons, List.length_nil, List.length_replicate, List.length_set, List.length_take, List.length_drop, vi_len, vb_len, vo_len, vl_len, vn_len]; omega)) only [↓EC, EV, EL, E2, E3, ER, seval, ↓reduceIte, false_imp_iff, hl, hk, hxd])
  refine pcd_v h1 ?_
  (try simp (disch := first | omega | (simp only [List.length_append, List.length_cons, List.length_nil, List.length_replicate, List.length_set, List.length_take, List.length_drop, vi_len, vb_len, vo_len, vl_len, vn_len]; omega)) only [↓EC, EV, EL, E2, E3, ER, seval, ↓reduceIte, false_imp_iff, hl, hk])
  refine pcd_v h2 ?_
  unfold tabR
  generalize rnT (nmgP b w x) b n.toNat = E at *
  generalize rnT (nmgP b w x) w n.toNat = F at *
  (try simp (disch := first | omega | (simp only [List.length_append, List.length_cons, List.length_nil, List.length_replicate, List.length_set, List.length_take, List.length_drop, vi_len, vb_len, vo_len, vl_len, vn_len]; omega)) only [↓EC, EV, EL, E2, E3, ER, seval, ↓reduceIte, false_imp_iff, hl, hk, q1, q2])
  refine LP_ofE (σ := Nat) [1, 1] 100000 [(66, 25, 1), (70, 25, 1)] (fun s => [.own 26 1 s (vo 2 (tabT E F s)), .int .i64 s]) (fun s => [.int .i64 n :: vi .u8 (b ++ w), .int .i64 n :: vi .u8 (E ++ F)])
    (fun s => (s : Int) ≤ n) (fun s => (n - s).toNat) 0 (by simp [frameOk, names, lpz, sclp, scv, scvs, vi_nrf, vb_nrf, vt_nrf, v2_nrf, v3_nrf, nrfs, nrf, sc_vi, sc_vb, sc_vt, sc_v2, sc_v3, sc_vo, sc_vl, vo_nrf, vl_nrf, sc_vn, vn_nrf]) (by simp only [Int.natCast_zero]; omega) ?_ ?_
  · simp (disch := first | omega | (simp only [List.length_append, List.length_cons, List.length_nil, List.length_replicate, List.length_set, List.length_take, List.length_drop, vi_len, vb_len, vo_len, vl_len, vn_len]; omega)) only [↓EC, EV, EL, E2, E3, ER, seval, ↓reduceIte, false_imp_iff, ColV_def]
    repeat' (first | (refine And.intro ?_ ?_) | rfl | (intro _; trivial) | trivial)
  · rintro s h3
    have ht := tabT_len (E := E) (F := F) (s := s)
    simp (disch := first | omega | (simp only [List.length_append, List.length_cons, List.length_nil, List.length_replicate, List.length_set, List.length_take, List.length_drop, vi_len, vb_len, vo_len, vl_len, vn_len]; omega)) only [↓EC, EV, EL, E2, E3, ER, seval, ↓reduceIte, false_imp_iff, ColV_def, lheap_def]
    (refine Split.mk (fun h => ?_) (fun h => ?_) <;> (try simp only [decide_eq_true_eq, decide_eq_false_iff_not, beq_iff_eq, bne_iff_ne, beq_eq_false_iff_ne, bne_eq_false_iff_eq, Bool.not_eq_true', Bool.not_eq_false', Bool.and_eq_true, Bool.or_eq_true, Bool.and_eq_false_iff, Bool.or_eq_false_iff, Int.not_lt, Int.not_le, Bool.false_eq_true, Bool.true_eq_false, false_and, and_false, true_and, and_true, or_false, false_or, or_true, true_or, not_true_eq_false, not_false_eq_true] at h))
    · have e1 := lE.2 s (by omega)
      have e2 := lF.2 s (by omega)
      (try simp (disch := first | omega | (simp only [List.length_append, List.length_cons, List.length_nil, List.length_replicate, List.length_set, List.length_take, List.length_drop, vi_len, vb_len, vo_len, vl_len, vn_len]; omega)) only [↓EC, EV, EL, E2, E3, ER, seval, ↓reduceIte, false_imp_iff, hl, hk, q1, q2, ht])
      refine ⟨s + 1, ?_⟩
      rw [tabT_one, ← vo_one rfl]
      repeat' (first | (refine And.intro ?_ ?_) | rfl | omega | trivial)
    · have : s = n.toNat := by omega
      subst this
      (try simp (disch := first | omega | (simp only [List.length_append, List.length_cons, List.length_nil, List.length_replicate, List.length_set, List.length_take, List.length_drop, vi_len, vb_len, vo_len, vl_len, vn_len]; omega)) only [↓EC, EV, EL, E2, E3, ER, seval, ↓reduceIte, false_imp_iff, ht])
theorem c_spec_TableOfDessin {n x : Int} {b w : List Int} (hb : okP b) (hw : okP w) (h0 : isDB n b w = true) (hx : 0 ≤ x ∧ x < n) : PSpec Try.prog 39 [vD n b w, .int .i64 x] fun v => v = .tup [.own 26 1 (tabR n b w x).length (vo 2 (tabR n b w x)), .int .i64 0] := by
  have hl := hb.len
  have hk := hw.len
  obtain ⟨lb, lw, hn⟩ := (isDB_iff.1 h0).lo' hb hw
  have lp := nmgP_lo (x := x) lb lw (by omega)
  have q1 := rnT_len (p := nmgP b w x) (b := b) n.toNat
  have q2 := rnT_len (p := nmgP b w x) (b := w) n.toNat
  have lE := rnT_lo lp lb n.toNat (by omega)
  have lF := rnT_lo lp lw n.toNat (by omega)
  refine spec_TableOfDessin_f.f ?_
  have h1 := c_spec_l02Naming (n := n) (x := x) lb lw (by omega)
  have h2 := c_spec_l02Rename (n := n) lb lw lp hn
  unfold vD at *
  simp (disch := first | omega | (simp only [List.length_append, List.length_cons, List.length_nil, List.length_replicate, List.length_set, List.length_take, List.length_drop, vi_len, vb_len, vo_len, vl_len, vn_len]; omega)) only [↓EC, EV, EL, E2, E3, ER, seval, ↓reduceIte, false_imp_iff, spec_TableOfDessin_F, hl, hk]
  refine pcd_v (c_spec_l01Is hb hw) ?_
  (try simp (disch := first | omega | (simp only [List.length_append, List.length_cons, List.length_nil, List.length_replicate, List.length_set, List.length_take, List.length_drop, vi_len, vb_len, vo_len, vl_len, vn_len]; omega)) only [↓EC, EV, EL, E2, E3, ER, seval, ↓reduceIte, false_imp_iff, hl, hk, h0])
  (refine pcd_v (c_spec_l01In) ?_; (try simp (disch := first | omega | (simp only [List.length_append, List.length_cons, List.length_nil, List.length_replicate, List.length_set, List.length_take, List.length_drop, vi_len, vb_len, vo_len, vl_len, vn_len]; omega)) only [↓EC, EV, EL, E2, E3, ER, seval, ↓reduceIte, false_imp_iff]))
  have hxd : decide (0 ≤ x ∧ x ≤ n - 1) = true := by simp; omega
  (try simp (disch := first | omega | (simp only [List.length_append, List.length_cons, List.length_nil, List.length_replicate, List.length_set, List.length_take, List.length_drop, vi_len, vb_len, vo_len, vl_len, vn_len]; omega)) only [↓EC, EV, EL, E2, E3, ER, seval, ↓reduceIte, false_imp_iff, hl, hk, hxd])
  refine pcd_v h1 ?_
  (try simp (disch := first | omega | (simp only [List.length_append, List.length_cons, List.length_nil, List.length_replicate, List.length_set, List.length_take, List.length_drop, vi_len, vb_len, vo_len, vl_len, vn_len]; omega)) only [↓EC, EV, EL, E2, E3, ER, seval, ↓reduceIte, false_imp_iff, hl, hk])
  refine pcd_v h2 ?_
  unfold tabR
  generalize rnT (nmgP b w x) b n.toNat = E at *
  generalize rnT (nmgP b w x) w n.toNat = F at *
  (try simp (disch := first | omega | (simp only [List.length_append, List.length_cons, List.length_nil, List.length_replicate, List.length_set, List.length_take, List.length_drop, vi_len, vb_len, vo_len, vl_len, vn_len]; omega)) only [↓EC, EV, EL, E2, E3, ER, seval, ↓reduceIte, false_imp_iff, hl, hk, q1, q2])
  refine LP_ofE (σ := Nat) [1, 1] 100000 [(66, 25, 1), (70, 25, 1)] (fun s => [.own 26 1 s (vo 2 (tabT E F s)), .int .i64 s]) (fun s => [.int .i64 n :: vi .u8 (b ++ w), .int .i64 n :: vi .u8 (E ++ F)])
    (fun s => (s : Int) ≤ n) (fun s => (n - s).toNat) 0 (by simp [frameOk, names, lpz, sclp, scv, scvs, vi_nrf, vb_nrf, vt_nrf, v2_nrf, v3_nrf, nrfs, nrf, sc_vi, sc_vb, sc_vt, sc_v2, sc_v3, sc_vo, sc_vl, vo_nrf, vl_nrf, sc_vn, vn_nrf]) (by simp only [Int.natCast_zero]; omega) ?_ ?_
  · simp (disch := first | omega | (simp only [List.length_append, List.length_cons, List.length_nil, List.length_replicate, List.length_set, List.length_take, List.length_drop, vi_len, vb_len, vo_len, vl_len, vn_len]; omega)) only [↓EC, EV, EL, E2, E3, ER, seval, ↓reduceIte, false_imp_iff, ColV_def]
    repeat' (first | (refine And.intro ?_ ?_) | rfl | (intro _; trivial) | trivial)
  · rintro s h3
    have ht := tabT_len (E := E) (F := F) (s := s)
    simp (disch := first | omega | (simp only [List.length_append, List.length_cons, List.length_nil, List.length_replicate, List.length_set, List.length_take, List.length_drop, vi_len, vb_len, vo_len, vl_len, vn_len]; omega)) only [↓EC, EV, EL, E2, E3, ER, seval, ↓reduceIte, false_imp_iff, ColV_def, lheap_def]
    (refine Split.mk (fun h => ?_) (fun h => ?_) <;> (try simp only [decide_eq_true_eq, decide_eq_false_iff_not, beq_iff_eq, bne_iff_ne, beq_eq_false_iff_ne, bne_eq_false_iff_eq, Bool.not_eq_true', Bool.not_eq_false', Bool.and_eq_true, Bool.or_eq_true, Bool.and_eq_false_iff, Bool.or_eq_false_iff, Int.not_lt, Int.not_le, Bool.false_eq_true, Bool.true_eq_false, false_and, and_false, true_and, and_true, or_false, false_or, or_true, true_or, not_true_eq_false, not_false_eq_true] at h))
    · have e1 := lE.2 s (by omega)
      have e2 := lF.2 s (by omega)
      (try simp (disch := first | omega | (simp only [List.length_append, List.length_cons, List.length_nil, List.length_replicate, List.length_set, List.length_take, List.length_drop, vi_len, vb_len, vo_len, vl_len, vn_len]; omega)) only [↓EC, EV, EL, E2, E3, ER, seval, ↓reduceIte, false_imp_iff, hl, hk, q1, q2, ht])
      refine ⟨s + 1, ?_⟩
      rw [tabT_one, ← vo_one rfl]
      repeat' (first | (refine And.intro ?_ ?_) | rfl | omega | trivial)
    · have : s = n.toNat := by omega
      subst this
      (try simp (disch := first | omega | (simp only [List.length_append, List.length_cons, List.length_nil, List.length_replicate, List.length_set, List.length_take, List.length_drop, vi_len, vb_len, vo_len, vl_len, vn_len]; omega)) only [↓EC, EV, EL, E2, E3, ER, seval, ↓reduceIte, false_imp_iff, ht])
theorem c_impl_TableOfDessin_no {n x : Int} {b w : List Int} (hb : okP b) (hw : okP w) (h0 : isDB n b w = false) : PSpec Try.prog 40 [vD n b w, .int .i64 x] fun v => v = .tup [.nils, .int .i64 1] := by
  have hl := hb.len
  have hk := hw.len
  refine impl_TableOfDessin_f.f ?_
  unfold vD
  simp (disch := first | omega | (simp only [List.length_append, List.length_cons, List.length_nil, List.length_replicate, List.length_set, List.length_take, List.length_drop, vi_len, vb_len, vo_len, vl_len, vn_len]; omega)) only [↓EC, EV, EL, E2, E3, ER, seval, ↓reduceIte, false_imp_iff, impl_TableOfDessin_F, hl, hk]
  refine pcd_v (c_impl_IsDessin hb hw) ?_
  (try simp (disch := first | omega | (simp only [List.length_append, List.length_cons, List.length_nil, List.length_replicate, List.length_set, List.length_take, List.length_drop, vi_len, vb_len, vo_len, vl_len, vn_len]; omega)) only [↓EC, EV, EL, E2, E3, ER, seval, ↓reduceIte, false_imp_iff, hl, hk, h0])
theorem c_impl_TableOfDessin_no2 {n x : Int} {b w : List Int} (hb : okP b) (hw : okP w) (h0 : isDB n b w = true) (hx : ¬ (0 ≤ x ∧ x < n)) : PSpec Try.prog 40 [vD n b w, .int .i64 x] fun v => v = .tup [.nils, .int .i64 2] := by
  have hl := hb.len
  have hk := hw.len
  have hn := (isDB_iff.1 h0).pb.1
  refine impl_TableOfDessin_f.f ?_
  have h3 := c_impl_isDart (n := n) (x := x) (b := b) (w := w) hl hk
  unfold vD at *
  simp (disch := first | omega | (simp only [List.length_append, List.length_cons, List.length_nil, List.length_replicate, List.length_set, List.length_take, List.length_drop, vi_len, vb_len, vo_len, vl_len, vn_len]; omega)) only [↓EC, EV, EL, E2, E3, ER, seval, ↓reduceIte, false_imp_iff, impl_TableOfDessin_F, hl, hk]
  refine pcd_v (c_impl_IsDessin hb hw) ?_
  (try simp (disch := first | omega | (simp only [List.length_append, List.length_cons, List.length_nil, List.length_replicate, List.length_set, List.length_take, List.length_drop, vi_len, vb_len, vo_len, vl_len, vn_len]; omega)) only [↓EC, EV, EL, E2, E3, ER, seval, ↓reduceIte, false_imp_iff, hl, hk, h0])
  refine pcd_v h3 ?_
  have hxd : decide (0 ≤ x ∧ x < n) = false := by simpa using hx
  (try simp (disch := first | omega | (simp only [List.length_append, List.length_cons, List.length_nil, List.length_replicate, List.length_set, List.length_take, List.length_drop, vi_len, vb_len, vo_len, vl_len, vn_len]; omega)) only [↓EC, EV, EL, E2, E3, ER, seval, ↓reduceIte, false_imp_iff, hl, hk, hxd])
theorem c_spec_TableOfDessin_no {n x : Int} {b w : List Int} (hb : okP b) (hw : okP w) (h0 : isDB n b w = false) : PSpec Try.prog 39 [vD n b w, .int .i64 x] fun v => v = .tup [.nils, .int .i64 1] := by
  have hl := hb.len
  have hk := hw.len
  refine spec_TableOfDessin_f.f ?_
  unfold vD
  simp (disch := first | omega | (simp only [List.length_append, List.length_cons, List.length_nil, List.length_replicate, List.length_set, List.length_take, List.length_drop, vi_len, vb_len, vo_len, vl_len, vn_len]; omega)) only [↓EC, EV, EL, E2, E3, ER, seval, ↓reduceIte, false_imp_iff, spec_TableOfDessin_F, hl, hk]
  refine pcd_v (c_spec_l01Is hb hw) ?_
  (try simp (disch := first | omega | (simp only [List.length_append, List.length_cons, List.length_nil, List.length_replicate, List.length_set, List.length_take, List.length_drop, vi_len, vb_len, vo_len, vl_len, vn_len]; omega)) only [↓EC, EV, EL, E2, E3, ER, seval, ↓reduceIte, false_imp_iff, hl, hk, h0])
theorem c_spec_TableOfDessin_no2 {n x : Int} {b w : List Int} (hb : okP b) (hw : okP w) (h0 : isDB n b w = true) (hx : ¬ (0 ≤ x ∧ x < n)) : PSpec Try.prog 39 [vD n b w, .int .i64 x] fun v => v = .tup [.nils, .int .i64 2] := by
  have hl := hb.len
  have hk := hw.len
  have hn := (isDB_iff.1 h0).pb.1
  refine spec_TableOfDessin_f.f ?_
  unfold vD at *
  simp (disch := first | omega | (simp only [List.length_append, List.length_cons, List.length_nil, List.length_replicate, List.length_set, List.length_take, List.length_drop, vi_len, vb_len, vo_len, vl_len, vn_len]; omega)) only [↓EC, EV, EL, E2, E3, ER, seval, ↓reduceIte, false_imp_iff, spec_TableOfDessin_F, hl, hk]
  refine pcd_v (c_spec_l01Is hb hw) ?_
  (try simp (disch := first | omega | (simp only [List.length_append, List.length_cons, List.length_nil, List.length_replicate, List.length_set, List.length_take, List.length_drop, vi_len, vb_len, vo_len, vl_len, vn_len]; omega)) only [↓EC, EV, EL, E2, E3, ER, seval, ↓reduceIte, false_imp_iff, hl, hk, h0])
  (refine pcd_v (c_spec_l01In) ?_; (try simp (disch := first | omega | (simp only [List.length_append, List.length_cons, List.length_nil, List.length_replicate, List.length_set, List.length_take, List.length_drop, vi_len, vb_len, vo_len, vl_len, vn_len]; omega)) only [↓EC, EV, EL, E2, E3, ER, seval, ↓reduceIte, false_imp_iff]))
  have hxd : decide (0 ≤ x ∧ x ≤ n - 1) = false := by simp; omega
  (try simp (disch := first | omega | (simp only [List.length_append, List.length_cons, List.length_nil, List.length_replicate, List.length_set, List.length_take, List.length_drop, vi_len, vb_len, vo_len, vl_len, vn_len]; omega)) only [↓EC, EV, EL, E2, E3, ER, seval, ↓reduceIte, false_imp_iff, hl, hk, hxd])

theorem c_FnExactTableOfDessin {n x : Int} {b w : List Int} (hb : okP b) (hw : okP w) : PSpec Try.prog 9 [vD n b w, .int .i64 x] fun v => v = .bool true := by
  have hl := hb.len
  have hk := hw.len
  refine laws_FnExactTableOfDessin_f.f ?_
  by_cases hno : ∃ c, (PSpec Try.prog 39 [vD n b w, .int .i64 x] fun v => v = .tup [.nils, .int .i64 c]) ∧ (PSpec Try.prog 40 [vD n b w, .int .i64 x] fun v => v = .tup [.nils, .int .i64 c])
  · obtain ⟨c, hs, hi⟩ := hno
    unfold vD at hs hi ⊢
    simp (disch := first | omega | (simp only [List.length_append, List.length_cons, List.length_nil, List.length_replicate, List.length_set, List.length_take, List.length_drop, vi_len, vb_len, vo_len, vl_len, vn_len]; omega)) only [↓EC, EV, EL, E2, E3, ER, seval, ↓reduceIte, false_imp_iff, laws_FnExactTableOfDessin_F, hl, hk]
    repeat' first
      | (refine Split.mk (fun h => ?_) (fun h => ?_) <;> (try simp only [decide_eq_true_eq, decide_eq_false_iff_not, beq_iff_eq, bne_iff_ne, beq_eq_false_iff_ne, bne_eq_false_iff_eq, Bool.not_eq_true', Bool.not_eq_false', Bool.and_eq_true, Bool.or_eq_true, Bool.and_eq_false_iff, Bool.or_eq_false_iff, Int.not_lt, Int.not_le, Bool.false_eq_true, Bool.true_eq_false, false_and, and_false, true_and, and_true, or_false, false_or, or_true, true_or, not_true_eq_false, not_false_eq_true] at h))
      | (refine pcd_v (c_laws_toDessin hb hw) ?_; (try simp (disch := first | omega | (simp only [List.length_append, List.length_cons, List.length_nil, List.length_replicate, List.length_set, List.length_take, List.length_drop, vi_len, vb_len, vo_len, vl_len, vn_len]; omega)) only [↓EC, EV, EL, E2, E3, ER, seval, ↓reduceIte, false_imp_iff, vD, hl, hk]))
      | (refine pcd_v hs ?_; (try simp (disch := first | omega | (simp only [List.length_append, List.length_cons, List.length_nil, List.length_replicate, List.length_set, List.length_take, List.length_drop, vi_len, vb_len, vo_len, vl_len, vn_len]; omega)) only [↓EC, EV, EL, E2, E3, ER, seval, ↓reduceIte, false_imp_iff, hl, hk]))
      | (refine pcd_v hi ?_; (try simp (disch := first | omega | (simp only [List.length_append, List.length_cons, List.length_nil, List.length_replicate, List.length_set, List.length_take, List.length_drop, vi_len, vb_len, vo_len, vl_len, vn_len]; omega)) only [↓EC, EV, EL, E2, E3, ER, seval, ↓reduceIte, false_imp_iff, hl, hk]))
      | (refine pcd_v c_laws_eqInt64SS_nil ?_; (try simp (disch := first | omega | (simp only [List.length_append, List.length_cons, List.length_nil, List.length_replicate, List.length_set, List.length_take, List.length_drop, vi_len, vb_len, vo_len, vl_len, vn_len]; omega)) only [↓EC, EV, EL, E2, E3, ER, seval, ↓reduceIte, false_imp_iff, hl, hk]))
      | (refine pcd_v c_laws_markInt64SS_nil ?_; (try simp (disch := first | omega | (simp only [List.length_append, List.length_cons, List.length_nil, List.length_replicate, List.length_set, List.length_take, List.length_drop, vi_len, vb_len, vo_len, vl_len, vn_len]; omega)) only [↓EC, EV, EL, E2, E3, ER, seval, ↓reduceIte, false_imp_iff, hl, hk]))
      | (refine pcd_v c_laws_heldInt64SS_nil ?_; (try simp (disch := first | omega | (simp only [List.length_append, List.length_cons, List.length_nil, List.length_replicate, List.length_set, List.length_take, List.length_drop, vi_len, vb_len, vo_len, vl_len, vn_len]; omega)) only [↓EC, EV, EL, E2, E3, ER, seval, ↓reduceIte, false_imp_iff, hl, hk]))
    all_goals first | trivial | simp_all | trace_state
  · have h0 : isDB n b w = true := by
      cases h : isDB n b w with
      | true => rfl
      | false => exact absurd ⟨1, c_spec_TableOfDessin_no hb hw h, c_impl_TableOfDessin_no hb hw h⟩ hno
    have hx : 0 ≤ x ∧ x < n := by
      refine Classical.byContradiction fun h => hno ⟨2, c_spec_TableOfDessin_no2 hb hw h0 h, c_impl_TableOfDessin_no2 hb hw h0 h⟩
    have hs := c_spec_TableOfDessin hb hw h0 hx
    have hi := c_impl_TableOfDessin hb hw h0 hx
    obtain ⟨r1, r2⟩ := tabR_lim (b := b) (w := w) (n := n) (x := x) (isDB_iff.1 h0).pb.1
    have r3 : rowsN (tabR n b w x) ≤ (tabR n b w x).length * 16 := rowsN_lim' r2
    generalize tabR n b w x = R at *
    have r4 : rowsN R ≤ 1048576 := by have := Nat.mul_le_mul_right 16 r1; omega
    have r5 : ∀ l ∈ R, l.length ≤ 1048576 := fun l hl => by have := r2 l hl; omega
    have r6 : (iotaSS R 1).length = R.length := iotaSS_len
    unfold vD at hs hi ⊢
    simp (disch := first | omega | (simp only [List.length_append, List.length_cons, List.length_nil, List.length_replicate, List.length_set, List.length_take, List.length_drop, vi_len, vb_len, vo_len, vl_len, vn_len]; omega)) only [↓EC, EV, EL, E2, E3, ER, seval, ↓reduceIte, false_imp_iff, laws_FnExactTableOfDessin_F, hl, hk]
    refine pcd_v (c_laws_toDessin hb hw) ?_; (try simp (disch := first | omega | (simp only [List.length_append, List.length_cons, List.length_nil, List.length_replicate, List.length_set, List.length_take, List.length_drop, vi_len, vb_len, vo_len, vl_len, vn_len]; omega)) only [↓EC, EV, EL, E2, E3, ER, seval, ↓reduceIte, false_imp_iff, vD, hl, hk])
    refine pcd_v hs ?_; (try simp (disch := first | omega | (simp only [List.length_append, List.length_cons, List.length_nil, List.length_replicate, List.length_set, List.length_take, List.length_drop, vi_len, vb_len, vo_len, vl_len, vn_len]; omega)) only [↓EC, EV, EL, E2, E3, ER, seval, ↓reduceIte, false_imp_iff, hl, hk])
    refine pcd_v (c_laws_toDessin hb hw) ?_; (try simp (disch := first | omega | (simp only [List.length_append, List.length_cons, List.length_nil, List.length_replicate, List.length_set, List.length_take, List.length_drop, vi_len, vb_len, vo_len, vl_len, vn_len]; omega)) only [↓EC, EV, EL, E2, E3, ER, seval, ↓reduceIte, false_imp_iff, vD, hl, hk])
    refine pcd_o hi ?_; (try simp (disch := first | omega | (simp only [List.length_append, List.length_cons, List.length_nil, List.length_replicate, List.length_set, List.length_take, List.length_drop, vi_len, vb_len, vo_len, vl_len, vn_len]; omega)) only [↓EC, EV, EL, E2, E3, ER, seval, ↓reduceIte, false_imp_iff, hl, hk])
    refine pcd_v (c_laws_eqInt64SS (by omega) r5) ?_; (try simp (disch := first | omega | (simp only [List.length_append, List.length_cons, List.length_nil, List.length_replicate, List.length_set, List.length_take, List.length_drop, vi_len, vb_len, vo_len, vl_len, vn_len]; omega)) only [↓EC, EV, EL, E2, E3, ER, seval, ↓reduceIte, false_imp_iff, hl, hk])
    refine pcm [88] rfl ?_; (try simp (disch := first | omega | (simp only [List.length_append, List.length_cons, List.length_nil, List.length_replicate, List.length_set, List.length_take, List.length_drop, vi_len, vb_len, vo_len, vl_len, vn_len]; omega)) only [↓EC, EV, EL, E2, E3, ER, seval, ↓reduceIte, false_imp_iff, hl, hk])
    refine callM_v (c_laws_markInt64SS (by omega) (by omega) r4) ?_
    (try simp (disch := first | omega | (simp only [List.length_append, List.length_cons, List.length_nil, List.length_replicate, List.length_set, List.length_take, List.length_drop, vi_len, vb_len, vo_len, vl_len, vn_len]; omega)) only [↓EC, EV, EL, E2, E3, ER, seval, ↓reduceIte, false_imp_iff, hl, hk, r6])
    refine pcd_v (c_laws_heldInt64SS (by omega) (by omega) r4) ?_; (try simp (disch := first | omega | (simp only [List.length_append, List.length_cons, List.length_nil, List.length_replicate, List.length_set, List.length_take, List.length_drop, vi_len, vb_len, vo_len, vl_len, vn_len]; omega)) only [↓EC, EV, EL, E2, E3, ER, seval, ↓reduceIte, false_imp_iff, hl, hk, r6])
    repeat' first
      | (refine Split.mk (fun h => ?_) (fun h => ?_) <;> (try simp only [decide_eq_true_eq, decide_eq_false_iff_not, beq_iff_eq, bne_iff_ne, beq_eq_false_iff_ne, bne_eq_false_iff_eq, Bool.not_eq_true', Bool.not_eq_false', Bool.and_eq_true, Bool.or_eq_true, Bool.and_eq_false_iff, Bool.or_eq_false_iff, Int.not_lt, Int.not_le, Bool.false_eq_true, Bool.true_eq_false, false_and, and_false, true_and, and_true, or_false, false_or, or_true, true_or, not_true_eq_false, not_false_eq_true] at h))
      | (refine pcd_v (c_laws_toDessin hb hw) ?_; (try simp (disch := first | omega | (simp only [List.length_append, List.length_cons, List.length_nil, List.length_replicate, List.length_set, List.length_take, List.length_drop, vi_len, vb_len, vo_len, vl_len, vn_len]; omega)) only [↓EC, EV, EL, E2, E3, ER, seval, ↓reduceIte, false_imp_iff, vD, hl, hk]))
      | (refine pcd_o hi ?_; (try simp (disch := first | omega | (simp only [List.length_append, List.length_cons, List.length_nil, List.length_replicate, List.length_set, List.length_take, List.length_drop, vi_len, vb_len, vo_len, vl_len, vn_len]; omega)) only [↓EC, EV, EL, E2, E3, ER, seval, ↓reduceIte, false_imp_iff, hl, hk]))
      | (refine pcd_v (c_laws_eqInt64SS (by omega) r5) ?_; (try simp (disch := first | omega | (simp only [List.length_append, List.length_cons, List.length_nil, List.length_replicate, List.length_set, List.length_take, List.length_drop, vi_len, vb_len, vo_len, vl_len, vn_len]; omega)) only [↓EC, EV, EL, E2, E3, ER, seval, ↓reduceIte, false_imp_iff, hl, hk]))
      | (refine pcd_v (c_laws_heldInt64SS (by omega) (by omega) r4) ?_; (try simp (disch := first | omega | (simp only [List.length_append, List.length_cons, List.length_nil, List.length_replicate, List.length_set, List.length_take, List.length_drop, vi_len, vb_len, vo_len, vl_len, vn_len]; omega)) only [↓EC, EV, EL, E2, E3, ER, seval, ↓reduceIte, false_imp_iff, hl, hk, r6]))
    all_goals first | trivial | omega | simp_all | trace_state
theorem t_FnExactTableOfDessin : ∀ xs, Ty.oks [tyD, .int .i64] xs → PSpec Try.prog 9 xs fun r => r = .bool true := by
  rintro xs ⟨v, r, rfl, hv, y, r, rfl, hy, rfl⟩
  obtain ⟨n, b, w, rfl, hb, hw', _⟩ := ok_dessin hv
  obtain ⟨m, rfl, _⟩ := ok_int hy
  exact c_FnExactTableOfDessin hb hw'
end Go.Proofs.Yteiiohmcamoldaa.Sep

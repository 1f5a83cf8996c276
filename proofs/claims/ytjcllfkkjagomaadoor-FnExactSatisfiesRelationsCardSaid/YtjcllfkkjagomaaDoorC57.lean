/- Relations of dessins: SatisfiesRelations. -/
import Derived.Test.YtjcllfkkjagomaaDoorC49
import Derived.Test.YtjcllfkkjagomaaDoorC56
namespace Go.Proofs.YtjcllfkkjagomaaDoor.Sep
open Go.RowKit
set_option linter.unusedVariables false
set_option linter.unusedSimpArgs false
set_option maxRecDepth 20000
set_option maxHeartbeats 1000000

/-! ### Texts that come in -/
theorem fits_str (x : List V) (h : Ty.fits .str x) : ∃ a : List UInt8, x = [.str a] ∧ a.length ≤ 9223372036854775807 := by simpa [Ty.fits, maxLen] using h
theorem flat_vt {l : List (List UInt8)} : (l.map fun a => [V.str a]).flatten = vt l := by
  induction l <;> simp_all [vt]
theorem ok_strs {v : V} (h : Ty.ok (.sl .str) v) : ∃ l : List (List UInt8), v = .sl l.length (vt l) ∧ l.length ≤ 9223372036854775807 ∧ ∀ a ∈ l, a.length ≤ 9223372036854775807 := by
  obtain ⟨xs, rfl, h1, h2⟩ := ok_sl h
  obtain ⟨l, rfl, h3⟩ := fits_list fits_str h2
  exact ⟨l, by rw [flat_vt]; simp, by simpa using h1, h3⟩
theorem gt_mem {l : List (List UInt8)} {i : Nat} (hi : i < l.length) : gt l i ∈ l := by
  rw [gt, List.getD, List.getElem?_eq_getElem hi]; exact List.getElem_mem hi
theorem gt_dropD {l : List (List UInt8)} {i : Nat} (hi : i < l.length) : l.drop i = gt l i :: l.drop (i + 1) := by
  rw [List.drop_eq_getElem_cons hi, gt, List.getD, List.getElem?_eq_getElem hi]; rfl
def szTr : List (List UInt8) → Int → Int
  | [], x => x
  | l :: r, x => if x - (l.length : Int) < 0 then -1 else szTr r (x - l.length)
def szT (x : Int) (ls : List (List UInt8)) : Int := if x - (ls.length : Int) < 0 then -1 else szTr ls (x - ls.length)
theorem szTr_le : ∀ {ls : List (List UInt8)} {x : Int}, x ≤ 1048576 → 0 ≤ szTr ls x → ∀ l ∈ ls, l.length ≤ 1048576
  | [], x, _, _, l, hl => by simp at hl
  | a :: r, x, h1, h2, l, hl => by
    simp only [szTr] at h2
    split at h2
    · omega
    · rcases List.mem_cons.1 hl with rfl | hl
      · omega
      · exact szTr_le (by omega) h2 l hl
theorem szT_le {ls : List (List UInt8)} (h : 0 ≤ szT 1048576 ls) : ls.length ≤ 1048576 ∧ ∀ l ∈ ls, l.length ≤ 1048576 := by
  unfold szT at h
  split at h
  · omega
  · exact ⟨by omega, szTr_le (by omega) h⟩
theorem c_laws_szStringS {ls : List (List UInt8)} (hl : ls.length ≤ 9223372036854775807) (hls : ∀ l ∈ ls, l.length ≤ 9223372036854775807) :
    PSpec Tryd.prog 25 [.sl ls.length (vt ls), .int .i64 1048576] fun v => v = .int .i64 (szT 1048576 ls) := by
  refine laws_szStringS_f.f ?_
  simp (disch := first | omega | (simp only [List.length_append, List.length_cons, List.length_nil, List.length_replicate, List.length_set, List.length_take, List.length_drop, vi_len, vb_len, vo_len, vl_len, vn_len]; omega)) only [↓EC, EV, EL, E2, E3, ER, seval, ↓reduceIte, false_imp_iff, laws_szStringS_F]
  (refine Split.mk (fun h => ?_) (fun h => ?_) <;> (try simp only [decide_eq_true_eq, decide_eq_false_iff_not, beq_iff_eq, bne_iff_ne, beq_eq_false_iff_ne, bne_eq_false_iff_eq, Bool.not_eq_true', Bool.not_eq_false', Bool.and_eq_true, Bool.or_eq_true, Bool.and_eq_false_iff, Bool.or_eq_false_iff, Int.not_lt, Int.not_le, Bool.false_eq_true, Bool.true_eq_false, false_and, and_false, true_and, and_true, or_false, false_or, or_true, true_or, not_true_eq_false, not_false_eq_true] at h))
  · unfold szT; rw [if_pos h]
  · refine LP_of (σ := Int × Nat) 100000 [] (fun s => [.int .i64 s.1, .int .i64 s.2]) (fun s => [])
      (fun s => s.2 ≤ ls.length ∧ (0 ≤ s.1 ∧ s.1 ≤ 1048576) ∧ szTr (ls.drop s.2) s.1 = szT 1048576 ls) (fun s => ls.length - s.2) (1048576 - ls.length, 0) (by simp [frameOk, names, lpz, sclp, scv, scvs, vi_nrf, vb_nrf, vt_nrf, v2_nrf, v3_nrf, nrfs, nrf, sc_vi, sc_vb, sc_vt, sc_v2, sc_v3, sc_vo, sc_vl, vo_nrf, vl_nrf, sc_vn, vn_nrf]) ⟨Nat.zero_le _, ⟨by simp only; omega, by simp only; omega⟩, by unfold szT; rw [if_neg (by omega)]; rfl⟩ ?_ ?_
    · simp (disch := first | omega | (simp only [List.length_append, List.length_cons, List.length_nil, List.length_replicate, List.length_set, List.length_take, List.length_drop, vi_len, vb_len, vo_len, vl_len, vn_len]; omega)) only [↓EC, EV, EL, E2, E3, ER, seval, ↓reduceIte, false_imp_iff, ColV_def]
    · rintro ⟨x, i⟩ ⟨h1, h2, h3⟩
      simp only at h1 h2 h3
      simp (disch := first | omega | (simp only [List.length_append, List.length_cons, List.length_nil, List.length_replicate, List.length_set, List.length_take, List.length_drop, vi_len, vb_len, vo_len, vl_len, vn_len]; omega)) only [↓EC, EV, EL, E2, E3, ER, seval, ↓reduceIte, false_imp_iff, ColV_def, lheap_def]
      (refine Split.mk (fun h => ?_) (fun h => ?_) <;> (try simp only [decide_eq_true_eq, decide_eq_false_iff_not, beq_iff_eq, bne_iff_ne, beq_eq_false_iff_ne, bne_eq_false_iff_eq, Bool.not_eq_true', Bool.not_eq_false', Bool.and_eq_true, Bool.or_eq_true, Bool.and_eq_false_iff, Bool.or_eq_false_iff, Int.not_lt, Int.not_le, Bool.false_eq_true, Bool.true_eq_false, false_and, and_false, true_and, and_true, or_false, false_or, or_true, true_or, not_true_eq_false, not_false_eq_true] at h))
      · have hi : i < ls.length := by omega
        have hlen := hls _ (gt_mem hi)
        rw [gt_dropD hi] at h3
        simp only [szTr] at h3
        (try simp (disch := first | omega | (simp only [List.length_append, List.length_cons, List.length_nil, List.length_replicate, List.length_set, List.length_take, List.length_drop, vi_len, vb_len, vo_len, vl_len, vn_len]; omega)) only [↓EC, EV, EL, E2, E3, ER, seval, ↓reduceIte, false_imp_iff])
        (refine Split.mk (fun h => ?_) (fun h => ?_) <;> (try simp only [decide_eq_true_eq, decide_eq_false_iff_not, beq_iff_eq, bne_iff_ne, beq_eq_false_iff_ne, bne_eq_false_iff_eq, Bool.not_eq_true', Bool.not_eq_false', Bool.and_eq_true, Bool.or_eq_true, Bool.and_eq_false_iff, Bool.or_eq_false_iff, Int.not_lt, Int.not_le, Bool.false_eq_true, Bool.true_eq_false, false_and, and_false, true_and, and_true, or_false, false_or, or_true, true_or, not_true_eq_false, not_false_eq_true] at h))
        · (try simp (disch := first | omega | (simp only [List.length_append, List.length_cons, List.length_nil, List.length_replicate, List.length_set, List.length_take, List.length_drop, vi_len, vb_len, vo_len, vl_len, vn_len]; omega)) only [↓EC, EV, EL, E2, E3, ER, seval, ↓reduceIte, false_imp_iff])
          rw [if_pos h] at h3
          rw [← h3]
        · (try simp (disch := first | omega | (simp only [List.length_append, List.length_cons, List.length_nil, List.length_replicate, List.length_set, List.length_take, List.length_drop, vi_len, vb_len, vo_len, vl_len, vn_len]; omega)) only [↓EC, EV, EL, E2, E3, ER, seval, ↓reduceIte, false_imp_iff])
          rw [if_neg (by omega)] at h3
          exact ⟨(_, i + 1), rfl, ⟨by omega, ⟨by simp only; omega, by simp only; omega⟩, h3⟩, by simp only; omega⟩
      · rw [List.drop_of_length_le (by omega)] at h3
        (try simp (disch := first | omega | (simp only [List.length_append, List.length_cons, List.length_nil, List.length_replicate, List.length_set, List.length_take, List.length_drop, vi_len, vb_len, vo_len, vl_len, vn_len]; omega)) only [↓EC, EV, EL, E2, E3, ER, seval, ↓reduceIte, false_imp_iff])
        rw [← h3]; rfl
theorem c_laws_toStringS {l : List (List UInt8)} (hl : l.length ≤ 1048576) : PSpec Tryd.prog 27 [.sl l.length (vt l)] fun v => v = .own 9 1 l.length (vt l) := by
  refine laws_toStringS_f.f ?_
  simp (disch := first | omega | (simp only [List.length_append, List.length_cons, List.length_nil, List.length_replicate, List.length_set, List.length_take, List.length_drop, vi_len, vb_len, vo_len, vl_len, vn_len]; omega)) only [↓EC, EV, EL, E2, E3, ER, seval, ↓reduceIte, false_imp_iff, laws_toStringS_F]
  refine LP_of (σ := Nat × List (List UInt8)) 100000 [(71, 9, 1)] (fun s => [.int .i64 s.1]) (fun s => [vt s.2])
    (fun s => s.1 ≤ l.length ∧ s.2.length = l.length ∧ ∀ j, j < s.1 → gt s.2 j = gt l j) (fun s => l.length - s.1) (0, List.replicate l.length []) (by simp [frameOk, names, lpz, sclp, scv, scvs, vi_nrf, vb_nrf, vt_nrf, v2_nrf, v3_nrf, nrfs, nrf, sc_vi, sc_vb, sc_vt, sc_v2, sc_v3, sc_vo, sc_vl, vo_nrf, vl_nrf, sc_vn, vn_nrf]) ⟨Nat.zero_le _, by simp, fun j hj => absurd hj (Nat.not_lt_zero j)⟩ ?_ ?_
  · simp (disch := first | omega | (simp only [List.length_append, List.length_cons, List.length_nil, List.length_replicate, List.length_set, List.length_take, List.length_drop, vi_len, vb_len, vo_len, vl_len, vn_len]; omega)) only [↓EC, EV, EL, E2, E3, ER, seval, ↓reduceIte, false_imp_iff, ColV_def]
  · rintro ⟨i, m⟩ ⟨h1, h2, h3⟩
    simp only at h1 h2 h3
    simp (disch := first | omega | (simp only [List.length_append, List.length_cons, List.length_nil, List.length_replicate, List.length_set, List.length_take, List.length_drop, vi_len, vb_len, vo_len, vl_len, vn_len]; omega)) only [↓EC, EV, EL, E2, E3, ER, seval, ↓reduceIte, false_imp_iff, ColV_def, lheap_def]
    (refine Split.mk (fun h => ?_) (fun h => ?_) <;> (try simp only [decide_eq_true_eq, decide_eq_false_iff_not, beq_iff_eq, bne_iff_ne, beq_eq_false_iff_ne, bne_eq_false_iff_eq, Bool.not_eq_true', Bool.not_eq_false', Bool.and_eq_true, Bool.or_eq_true, Bool.and_eq_false_iff, Bool.or_eq_false_iff, Int.not_lt, Int.not_le, Bool.false_eq_true, Bool.true_eq_false, false_and, and_false, true_and, and_true, or_false, false_or, or_true, true_or, not_true_eq_false, not_false_eq_true] at h))
    · (try simp (disch := first | omega | (simp only [List.length_append, List.length_cons, List.length_nil, List.length_replicate, List.length_set, List.length_take, List.length_drop, vi_len, vb_len, vo_len, vl_len, vn_len]; omega)) only [↓EC, EV, EL, E2, E3, ER, seval, ↓reduceIte, false_imp_iff])
      refine ⟨(i + 1, m.set i (gt l i)), rfl, rfl, ⟨by omega, by simpa using h2, fun j hj => ?_⟩, by omega⟩
      simp only at hj ⊢
      rw [gt_set]
      by_cases e : i = j
      · subst e; simp; omega
      · rw [if_neg (by omega)]; exact h3 j (by omega)
    · (try simp (disch := first | omega | (simp only [List.length_append, List.length_cons, List.length_nil, List.length_replicate, List.length_set, List.length_take, List.length_drop, vi_len, vb_len, vo_len, vl_len, vn_len]; omega)) only [↓EC, EV, EL, E2, E3, ER, seval, ↓reduceIte, false_imp_iff])
      rw [gt_ext h2 fun j hj => h3 j (by omega)]

/-! ### All texts are words -/
def allW (ts : List (List UInt8)) : Prop := ∀ i, i < ts.length → isW (gt ts i) = true
instance {ts : List (List UInt8)} : Decidable (allW ts) := by unfold allW; infer_instance
theorem c_impl_areWords {ts : List (List UInt8)} (hl : ts.length ≤ 1048576) (hls : ∀ l ∈ ts, l.length ≤ 1048576) : PSpec Tryd.prog 53 [.sl ts.length (vt ts)] fun v => v = .bool (decide (allW ts)) := by
  refine impl_areWords_f.f ?_
  simp (disch := first | omega | (simp only [List.length_append, List.length_cons, List.length_nil, List.length_replicate, List.length_set, List.length_take, List.length_drop, vi_len, vb_len, vo_len, vl_len, vn_len]; omega)) only [↓EC, EV, EL, E2, E3, ER, seval, ↓reduceIte, false_imp_iff, impl_areWords_F]
  refine LP_of (σ := Nat) 100000 [] (fun i => [.int .i64 i]) (fun i => []) (fun i => i ≤ ts.length ∧ ∀ j, j < i → isW (gt ts j) = true) (fun i => ts.length - i) 0 (by simp [frameOk, names, lpz, sclp, scv, scvs, vi_nrf, vb_nrf, vt_nrf, v2_nrf, v3_nrf, nrfs, nrf, sc_vi, sc_vb, sc_vt, sc_v2, sc_v3, sc_vo, sc_vl, vo_nrf, vl_nrf, sc_vn, vn_nrf]) ⟨Nat.zero_le _, fun j hj => absurd hj (Nat.not_lt_zero j)⟩ ?_ ?_
  · simp (disch := first | omega | (simp only [List.length_append, List.length_cons, List.length_nil, List.length_replicate, List.length_set, List.length_take, List.length_drop, vi_len, vb_len, vo_len, vl_len, vn_len]; omega)) only [↓EC, EV, EL, E2, E3, ER, seval, ↓reduceIte, false_imp_iff, ColV_def]
  · rintro i ⟨h1, h2⟩
    simp (disch := first | omega | (simp only [List.length_append, List.length_cons, List.length_nil, List.length_replicate, List.length_set, List.length_take, List.length_drop, vi_len, vb_len, vo_len, vl_len, vn_len]; omega)) only [↓EC, EV, EL, E2, E3, ER, seval, ↓reduceIte, false_imp_iff, ColV_def, lheap_def]
    (refine Split.mk (fun h => ?_) (fun h => ?_) <;> (try simp only [decide_eq_true_eq, decide_eq_false_iff_not, beq_iff_eq, bne_iff_ne, beq_eq_false_iff_ne, bne_eq_false_iff_eq, Bool.not_eq_true', Bool.not_eq_false', Bool.and_eq_true, Bool.or_eq_true, Bool.and_eq_false_iff, Bool.or_eq_false_iff, Int.not_lt, Int.not_le, Bool.false_eq_true, Bool.true_eq_false, false_and, and_false, true_and, and_true, or_false, false_or, or_true, true_or, not_true_eq_false, not_false_eq_true] at h))
    · have hi : i < ts.length := by omega
      (try simp (disch := first | omega | (simp only [List.length_append, List.length_cons, List.length_nil, List.length_replicate, List.length_set, List.length_take, List.length_drop, vi_len, vb_len, vo_len, vl_len, vn_len]; omega)) only [↓EC, EV, EL, E2, E3, ER, seval, ↓reduceIte, false_imp_iff])
      refine pcd_v (c_impl_IsWord (hls _ (gt_mem hi))) ?_
      cases hw : isW (gt ts i) with
      | false =>
        (try simp (disch := first | omega | (simp only [List.length_append, List.length_cons, List.length_nil, List.length_replicate, List.length_set, List.length_take, List.length_drop, vi_len, vb_len, vo_len, vl_len, vn_len]; omega)) only [↓EC, EV, EL, E2, E3, ER, seval, ↓reduceIte, false_imp_iff])
        have : ¬ allW ts := fun h => by rw [h i hi] at hw; cases hw
        rw [decide_eq_false this]
      | true =>
        (try simp (disch := first | omega | (simp only [List.length_append, List.length_cons, List.length_nil, List.length_replicate, List.length_set, List.length_take, List.length_drop, vi_len, vb_len, vo_len, vl_len, vn_len]; omega)) only [↓EC, EV, EL, E2, E3, ER, seval, ↓reduceIte, false_imp_iff])
        refine ⟨i + 1, by simp, ⟨by omega, fun j hj => ?_⟩, by omega⟩
        by_cases e : j = i
        · subst e; exact hw
        · exact h2 j (by omega)
    · (try simp (disch := first | omega | (simp only [List.length_append, List.length_cons, List.length_nil, List.length_replicate, List.length_set, List.length_take, List.length_drop, vi_len, vb_len, vo_len, vl_len, vn_len]; omega)) only [↓EC, EV, EL, E2, E3, ER, seval, ↓reduceIte, false_imp_iff])
      have : allW ts := fun j hj => h2 j (by omega)
      rw [decide_eq_true this]
def wdK (ts : List (List UInt8)) : Int := if allW ts then (if 20 < ts.length then 2 else 0) else 1
theorem c_spec_l08Words {ts : List (List UInt8)} (hl : ts.length ≤ 1048576) (hls : ∀ l ∈ ts, l.length ≤ 1048576) : PSpec Tryd.prog 51 [.sl 1 [.sl ts.length (vt ts)]] fun v => v = .int .i64 (wdK ts) := by
  refine spec_l08Words_f.f ?_
  simp (disch := first | omega | (simp only [List.length_append, List.length_cons, List.length_nil, List.length_replicate, List.length_set, List.length_take, List.length_drop, vi_len, vb_len, vo_len, vl_len, vn_len]; omega)) only [↓EC, EV, EL, E2, E3, ER, seval, ↓reduceIte, false_imp_iff, spec_l08Words_F]
  refine LP_of (σ := Nat) 100000 [] (fun i => [.int .i64 i]) (fun i => []) (fun i => i ≤ 1 ∧ (i = 1 → allW ts)) (fun i => 1 - i) 0 (by simp [frameOk, names, lpz, sclp, scv, scvs, vi_nrf, vb_nrf, vt_nrf, v2_nrf, v3_nrf, nrfs, nrf, sc_vi, sc_vb, sc_vt, sc_v2, sc_v3, sc_vo, sc_vl, vo_nrf, vl_nrf, sc_vn, vn_nrf]) ⟨Nat.zero_le _, fun h => by omega⟩ ?_ ?_
  · simp (disch := first | omega | (simp only [List.length_append, List.length_cons, List.length_nil, List.length_replicate, List.length_set, List.length_take, List.length_drop, vi_len, vb_len, vo_len, vl_len, vn_len]; omega)) only [↓EC, EV, EL, E2, E3, ER, seval, ↓reduceIte, false_imp_iff, ColV_def]
  · rintro i ⟨h1, h2⟩
    simp (disch := first | omega | (simp only [List.length_append, List.length_cons, List.length_nil, List.length_replicate, List.length_set, List.length_take, List.length_drop, vi_len, vb_len, vo_len, vl_len, vn_len]; omega)) only [↓EC, EV, EL, E2, E3, ER, seval, ↓reduceIte, false_imp_iff, ColV_def, lheap_def]
    (refine Split.mk (fun h => ?_) (fun h => ?_) <;> (try simp only [decide_eq_true_eq, decide_eq_false_iff_not, beq_iff_eq, bne_iff_ne, beq_eq_false_iff_ne, bne_eq_false_iff_eq, Bool.not_eq_true', Bool.not_eq_false', Bool.and_eq_true, Bool.or_eq_true, Bool.and_eq_false_iff, Bool.or_eq_false_iff, Int.not_lt, Int.not_le, Bool.false_eq_true, Bool.true_eq_false, false_and, and_false, true_and, and_true, or_false, false_or, or_true, true_or, not_true_eq_false, not_false_eq_true] at h))
    · obtain rfl : i = 0 := by omega
      (try simp (disch := first | omega | (simp only [List.length_append, List.length_cons, List.length_nil, List.length_replicate, List.length_set, List.length_take, List.length_drop, vi_len, vb_len, vo_len, vl_len, vn_len]; omega)) only [↓EC, EV, EL, E2, E3, ER, seval, ↓reduceIte, false_imp_iff])
      refine LP_of (σ := Nat) 200000 [] (fun i => [.int .i64 i]) (fun i => []) (fun i => i ≤ ts.length ∧ ∀ j, j < i → isW (gt ts j) = true) (fun i => ts.length - i) 0 (by simp [frameOk, names, lpz, sclp, scv, scvs, vi_nrf, vb_nrf, vt_nrf, v2_nrf, v3_nrf, nrfs, nrf, sc_vi, sc_vb, sc_vt, sc_v2, sc_v3, sc_vo, sc_vl, vo_nrf, vl_nrf, sc_vn, vn_nrf]) ⟨Nat.zero_le _, fun j hj => absurd hj (Nat.not_lt_zero j)⟩ ?_ ?_
      · simp (disch := first | omega | (simp only [List.length_append, List.length_cons, List.length_nil, List.length_replicate, List.length_set, List.length_take, List.length_drop, vi_len, vb_len, vo_len, vl_len, vn_len]; omega)) only [↓EC, EV, EL, E2, E3, ER, seval, ↓reduceIte, false_imp_iff, ColV_def]
      · rintro i ⟨h1, h2⟩
        simp (disch := first | omega | (simp only [List.length_append, List.length_cons, List.length_nil, List.length_replicate, List.length_set, List.length_take, List.length_drop, vi_len, vb_len, vo_len, vl_len, vn_len]; omega)) only [↓EC, EV, EL, E2, E3, ER, seval, ↓reduceIte, false_imp_iff, ColV_def, lheap_def]
        (refine Split.mk (fun h => ?_) (fun h => ?_) <;> (try simp only [decide_eq_true_eq, decide_eq_false_iff_not, beq_iff_eq, bne_iff_ne, beq_eq_false_iff_ne, bne_eq_false_iff_eq, Bool.not_eq_true', Bool.not_eq_false', Bool.and_eq_true, Bool.or_eq_true, Bool.and_eq_false_iff, Bool.or_eq_false_iff, Int.not_lt, Int.not_le, Bool.false_eq_true, Bool.true_eq_false, false_and, and_false, true_and, and_true, or_false, false_or, or_true, true_or, not_true_eq_false, not_false_eq_true] at h))
        · have hi : i < ts.length := by omega
          (try simp (disch := first | omega | (simp only [List.length_append, List.length_cons, List.length_nil, List.length_replicate, List.length_set, List.length_take, List.length_drop, vi_len, vb_len, vo_len, vl_len, vn_len]; omega)) only [↓EC, EV, EL, E2, E3, ER, seval, ↓reduceIte, false_imp_iff])
          refine pcd_v (c_spec_l08Word (hls _ (gt_mem hi))) ?_
          cases hw : isW (gt ts i) with
          | false =>
            (try simp (disch := first | omega | (simp only [List.length_append, List.length_cons, List.length_nil, List.length_replicate, List.length_set, List.length_take, List.length_drop, vi_len, vb_len, vo_len, vl_len, vn_len]; omega)) only [↓EC, EV, EL, E2, E3, ER, seval, ↓reduceIte, false_imp_iff])
            have : ¬ allW ts := fun h => by rw [h i hi] at hw; cases hw
            unfold wdK; rw [if_neg this]
          | true =>
            (try simp (disch := first | omega | (simp only [List.length_append, List.length_cons, List.length_nil, List.length_replicate, List.length_set, List.length_take, List.length_drop, vi_len, vb_len, vo_len, vl_len, vn_len]; omega)) only [↓EC, EV, EL, E2, E3, ER, seval, ↓reduceIte, false_imp_iff])
            refine ⟨i + 1, by simp, ⟨by omega, fun j hj => ?_⟩, by omega⟩
            by_cases e : j = i
            · subst e; exact hw
            · exact h2 j (by omega)
        · (try simp (disch := first | omega | (simp only [List.length_append, List.length_cons, List.length_nil, List.length_replicate, List.length_set, List.length_take, List.length_drop, vi_len, vb_len, vo_len, vl_len, vn_len]; omega)) only [↓EC, EV, EL, E2, E3, ER, seval, ↓reduceIte, false_imp_iff])
          have : allW ts := fun j hj => h2 j (by omega)
          exact ⟨1, by simp, ⟨by omega, fun _ => this⟩, by omega⟩
    · obtain rfl : i = 1 := by omega
      have ha := h2 rfl
      (try simp (disch := first | omega | (simp only [List.length_append, List.length_cons, List.length_nil, List.length_replicate, List.length_set, List.length_take, List.length_drop, vi_len, vb_len, vo_len, vl_len, vn_len]; omega)) only [↓EC, EV, EL, E2, E3, ER, seval, ↓reduceIte, false_imp_iff])
      refine LP_of (σ := Nat) 200000 [] (fun i => [.int .i64 i]) (fun i => []) (fun i => i ≤ 1 ∧ (i = 1 → ¬ 20 < ts.length)) (fun i => 1 - i) 0 (by simp [frameOk, names, lpz, sclp, scv, scvs, vi_nrf, vb_nrf, vt_nrf, v2_nrf, v3_nrf, nrfs, nrf, sc_vi, sc_vb, sc_vt, sc_v2, sc_v3, sc_vo, sc_vl, vo_nrf, vl_nrf, sc_vn, vn_nrf]) ⟨Nat.zero_le _, fun h => by omega⟩ ?_ ?_
      · simp (disch := first | omega | (simp only [List.length_append, List.length_cons, List.length_nil, List.length_replicate, List.length_set, List.length_take, List.length_drop, vi_len, vb_len, vo_len, vl_len, vn_len]; omega)) only [↓EC, EV, EL, E2, E3, ER, seval, ↓reduceIte, false_imp_iff, ColV_def]
      · rintro i ⟨h1, h2⟩
        simp (disch := first | omega | (simp only [List.length_append, List.length_cons, List.length_nil, List.length_replicate, List.length_set, List.length_take, List.length_drop, vi_len, vb_len, vo_len, vl_len, vn_len]; omega)) only [↓EC, EV, EL, E2, E3, ER, seval, ↓reduceIte, false_imp_iff, ColV_def, lheap_def]
        (refine Split.mk (fun h => ?_) (fun h => ?_) <;> (try simp only [decide_eq_true_eq, decide_eq_false_iff_not, beq_iff_eq, bne_iff_ne, beq_eq_false_iff_ne, bne_eq_false_iff_eq, Bool.not_eq_true', Bool.not_eq_false', Bool.and_eq_true, Bool.or_eq_true, Bool.and_eq_false_iff, Bool.or_eq_false_iff, Int.not_lt, Int.not_le, Bool.false_eq_true, Bool.true_eq_false, false_and, and_false, true_and, and_true, or_false, false_or, or_true, true_or, not_true_eq_false, not_false_eq_true] at h))
        · obtain rfl : i = 0 := by omega
          (try simp (disch := first | omega | (simp only [List.length_append, List.length_cons, List.length_nil, List.length_replicate, List.length_set, List.length_take, List.length_drop, vi_len, vb_len, vo_len, vl_len, vn_len]; omega)) only [↓EC, EV, EL, E2, E3, ER, seval, ↓reduceIte, false_imp_iff])
          (refine Split.mk (fun h => ?_) (fun h => ?_) <;> (try simp only [decide_eq_true_eq, decide_eq_false_iff_not, beq_iff_eq, bne_iff_ne, beq_eq_false_iff_ne, bne_eq_false_iff_eq, Bool.not_eq_true', Bool.not_eq_false', Bool.and_eq_true, Bool.or_eq_true, Bool.and_eq_false_iff, Bool.or_eq_false_iff, Int.not_lt, Int.not_le, Bool.false_eq_true, Bool.true_eq_false, false_and, and_false, true_and, and_true, or_false, false_or, or_true, true_or, not_true_eq_false, not_false_eq_true] at h))
          · (try simp (disch := first | omega | (simp only [List.length_append, List.length_cons, List.length_nil, List.length_replicate, List.length_set, List.length_take, List.length_drop, vi_len, vb_len, vo_len, vl_len, vn_len]; omega)) only [↓EC, EV, EL, E2, E3, ER, seval, ↓reduceIte, false_imp_iff])
            unfold wdK; rw [if_pos ha, if_pos (by omega)]
          · (try simp (disch := first | omega | (simp only [List.length_append, List.length_cons, List.length_nil, List.length_replicate, List.length_set, List.length_take, List.length_drop, vi_len, vb_len, vo_len, vl_len, vn_len]; omega)) only [↓EC, EV, EL, E2, E3, ER, seval, ↓reduceIte, false_imp_iff])
            exact ⟨1, by simp, ⟨by omega, fun _ => by omega⟩, by omega⟩
        · obtain rfl : i = 1 := by omega
          (try simp (disch := first | omega | (simp only [List.length_append, List.length_cons, List.length_nil, List.length_replicate, List.length_set, List.length_take, List.length_drop, vi_len, vb_len, vo_len, vl_len, vn_len]; omega)) only [↓EC, EV, EL, E2, E3, ER, seval, ↓reduceIte, false_imp_iff])
          unfold wdK; rw [if_pos ha, if_neg (h2 rfl)]

/-! ### Words that lead every dart back -/
theorem vleq_vi {k : IntKind} : ∀ {l m : List Int}, l.length = m.length → vleq (List.replicate l.length (.i k)) (vi k l) (vi k m) = some (decide (l = m))
  | [], [], _ => rfl
  | a :: l, [], h => by simp at h
  | [], c :: m, h => by simp at h
  | a :: l, c :: m, h => by
    have ih := vleq_vi (k := k) (l := l) (m := m) (by simpa using h)
    simp only [List.length_cons, List.replicate_succ, vi, List.map_cons, vleq_cons, vveq_i, Option.bind_some] at ih ⊢
    rw [ih]
    by_cases e : a = c
    · subst e; simp
    · simp [e]
def fitW (n : Int) (b w : List Int) (ts : List (List UInt8)) : Prop := ∀ i, i < ts.length → wpT n b w (ub (gt ts i)) (gt ts i).length = sameP n
noncomputable instance {n : Int} {b w : List Int} {ts : List (List UInt8)} : Decidable (fitW n b w ts) := Classical.propDecidable _
theorem c_impl_satisfies {n : Int} {b w : List Int} {ts : List (List UInt8)} (hb : lo16 b) (hw : lo16 w) (hn : 1 ≤ n ∧ n ≤ 16) (ha : allW ts) (hl' : ts.length ≤ 1048576) :
    PSpec Tryd.prog 54 [vD n b w, .sl ts.length (vt ts)] fun v => v = .bool (decide (fitW n b w ts)) := by
  have hl := hb.1
  have hk := hw.1
  have hsl := (sameP_lo hn).1
  have g1 := c_impl_same hn
  change PSpec _ _ _ (fun v => v = .agg (vi .u8 (sameP n))) at g1
  have g2 := fun s hs hl => c_impl_wordPlaces (n := n) (b := b) (w := w) (s := s) hb hw hn hs hl
  refine impl_satisfies_f.f ?_
  unfold vD at g2 ⊢
  simp (config := { maxSteps := 10000000 }) (disch := first | omega | (simp only [List.length_append, List.length_cons, List.length_nil, List.length_replicate, List.length_set, List.length_take, List.length_drop, vi_len, vb_len, vo_len, vl_len, vn_len]; omega)) only [↓EC, EV, EL, E2, E3, ER, seval, ↓reduceIte, false_imp_iff, impl_satisfies_F, hl, hk]
  refine LP_of (σ := Nat) 100000 [(66, 30, 1)] (fun i => [.int .i64 i]) (fun i => [.int .i64 n :: vi .u8 (b ++ w)])
    (fun i => i ≤ ts.length ∧ ∀ j, j < i → wpT n b w (ub (gt ts j)) (gt ts j).length = sameP n) (fun i => ts.length - i) 0 (by simp [frameOk, names, lpz, sclp, scv, scvs, vi_nrf, vb_nrf, vt_nrf, v2_nrf, v3_nrf, nrfs, nrf, sc_vi, sc_vb, sc_vt, sc_v2, sc_v3, sc_vo, sc_vl, vo_nrf, vl_nrf, sc_vn, vn_nrf]) ⟨Nat.zero_le _, fun j hj => absurd hj (Nat.not_lt_zero j)⟩ ?_ ?_
  · simp (disch := first | omega | (simp only [List.length_append, List.length_cons, List.length_nil, List.length_replicate, List.length_set, List.length_take, List.length_drop, vi_len, vb_len, vo_len, vl_len, vn_len]; omega)) only [↓EC, EV, EL, E2, E3, ER, seval, ↓reduceIte, false_imp_iff, ColV_def]
  · rintro i ⟨h1, h2⟩
    simp (disch := first | omega | (simp only [List.length_append, List.length_cons, List.length_nil, List.length_replicate, List.length_set, List.length_take, List.length_drop, vi_len, vb_len, vo_len, vl_len, vn_len]; omega)) only [↓EC, EV, EL, E2, E3, ER, seval, ↓reduceIte, false_imp_iff, ColV_def, lheap_def]
    (refine Split.mk (fun h => ?_) (fun h => ?_) <;> (try simp only [decide_eq_true_eq, decide_eq_false_iff_not, beq_iff_eq, bne_iff_ne, beq_eq_false_iff_ne, bne_eq_false_iff_eq, Bool.not_eq_true', Bool.not_eq_false', Bool.and_eq_true, Bool.or_eq_true, Bool.and_eq_false_iff, Bool.or_eq_false_iff, Int.not_lt, Int.not_le, Bool.false_eq_true, Bool.true_eq_false, false_and, and_false, true_and, and_true, or_false, false_or, or_true, true_or, not_true_eq_false, not_false_eq_true] at h))
    · have hi : i < ts.length := by omega
      obtain ⟨w1, w2⟩ := isW_lets (ha i hi)
      have e3 := (wpT_lo (t := ub (gt ts i)) hb hw hn (gt ts i).length).1
      (try simp (disch := first | omega | (simp only [List.length_append, List.length_cons, List.length_nil, List.length_replicate, List.length_set, List.length_take, List.length_drop, vi_len, vb_len, vo_len, vl_len, vn_len]; omega)) only [↓EC, EV, EL, E2, E3, ER, seval, ↓reduceIte, false_imp_iff, hl, hk])
      refine pcd_v (g2 _ w1 w2) ?_
      (try simp (disch := first | omega | (simp only [List.length_append, List.length_cons, List.length_nil, List.length_replicate, List.length_set, List.length_take, List.length_drop, vi_len, vb_len, vo_len, vl_len, vn_len]; omega)) only [↓EC, EV, EL, E2, E3, ER, seval, ↓reduceIte, false_imp_iff, hl, hk, e3])
      refine pcd_v g1 ?_
      have hv := vleq_vi (k := .u8) (l := wpT n b w (ub (gt ts i)) (gt ts i).length) (m := sameP n) (by omega)
      rw [e3] at hv
      have hv2 : vleq [.i .u8, .i .u8, .i .u8, .i .u8, .i .u8, .i .u8, .i .u8, .i .u8, .i .u8, .i .u8, .i .u8, .i .u8, .i .u8, .i .u8, .i .u8, .i .u8] (vi .u8 (wpT n b w (ub (gt ts i)) (gt ts i).length)) (vi .u8 (sameP n)) = some (decide (wpT n b w (ub (gt ts i)) (gt ts i).length = sameP n)) := hv
      (try simp (disch := first | omega | (simp only [List.length_append, List.length_cons, List.length_nil, List.length_replicate, List.length_set, List.length_take, List.length_drop, vi_len, vb_len, vo_len, vl_len, vn_len]; omega)) only [↓EC, EV, EL, E2, E3, ER, seval, ↓reduceIte, false_imp_iff, hl, hk, e3, hsl, hv, hv2])
      (refine Split.mk (fun h => ?_) (fun h => ?_) <;> (try simp only [decide_eq_true_eq, decide_eq_false_iff_not, beq_iff_eq, bne_iff_ne, beq_eq_false_iff_ne, bne_eq_false_iff_eq, Bool.not_eq_true', Bool.not_eq_false', Bool.and_eq_true, Bool.or_eq_true, Bool.and_eq_false_iff, Bool.or_eq_false_iff, Int.not_lt, Int.not_le, Bool.false_eq_true, Bool.true_eq_false, false_and, and_false, true_and, and_true, or_false, false_or, or_true, true_or, not_true_eq_false, not_false_eq_true] at h))
      · (try simp (disch := first | omega | (simp only [List.length_append, List.length_cons, List.length_nil, List.length_replicate, List.length_set, List.length_take, List.length_drop, vi_len, vb_len, vo_len, vl_len, vn_len]; omega)) only [↓EC, EV, EL, E2, E3, ER, seval, ↓reduceIte, false_imp_iff, hl, hk])
        have : ¬ fitW n b w ts := fun hf => h (hf i hi)
        rw [decide_eq_false this]
      · (try simp (disch := first | omega | (simp only [List.length_append, List.length_cons, List.length_nil, List.length_replicate, List.length_set, List.length_take, List.length_drop, vi_len, vb_len, vo_len, vl_len, vn_len]; omega)) only [↓EC, EV, EL, E2, E3, ER, seval, ↓reduceIte, false_imp_iff, hl, hk])
        refine ⟨i + 1, by simp, ⟨by omega, fun j hj => ?_⟩, by omega⟩
        by_cases e : j = i
        · subst e; exact h
        · exact h2 j (by omega)
    · (try simp (disch := first | omega | (simp only [List.length_append, List.length_cons, List.length_nil, List.length_replicate, List.length_set, List.length_take, List.length_drop, vi_len, vb_len, vo_len, vl_len, vn_len]; omega)) only [↓EC, EV, EL, E2, E3, ER, seval, ↓reduceIte, false_imp_iff, hl, hk])
      have : fitW n b w ts := fun j hj => h2 j (by omega)
      rw [decide_eq_true this]
theorem c_spec_l08Fits {n : Int} {b w : List Int} {ts : List (List UInt8)} (hb : lo16 b) (hw : lo16 w) (hn : 1 ≤ n ∧ n ≤ 16) (ha : allW ts) (hl' : ts.length ≤ 1048576) :
    PSpec Tryd.prog 52 [vD n b w, .sl ts.length (vt ts)] fun v => v = .bool (decide (fitW n b w ts)) := by
  have hl := hb.1
  have hk := hw.1
  have hsl := (sameP_lo hn).1
  have g1 := c_spec_l01Same hn
  change PSpec _ _ _ (fun v => v = .agg (vi .u8 (sameP n))) at g1
  have g2 := fun s hs hl => c_spec_l08Places (n := n) (b := b) (w := w) (s := s) hb hw hn hs hl
  refine spec_l08Fits_f.f ?_
  unfold vD at g2 ⊢
  simp (config := { maxSteps := 10000000 }) (disch := first | omega | (simp only [List.length_append, List.length_cons, List.length_nil, List.length_replicate, List.length_set, List.length_take, List.length_drop, vi_len, vb_len, vo_len, vl_len, vn_len]; omega)) only [↓EC, EV, EL, E2, E3, ER, seval, ↓reduceIte, false_imp_iff, spec_l08Fits_F, hl, hk]
  refine LP_of (σ := Nat) 100000 [(66, 30, 1)] (fun i => [.int .i64 i]) (fun i => [.int .i64 n :: vi .u8 (b ++ w)])
    (fun i => i ≤ ts.length ∧ ∀ j, j < i → wpT n b w (ub (gt ts j)) (gt ts j).length = sameP n) (fun i => ts.length - i) 0 (by simp [frameOk, names, lpz, sclp, scv, scvs, vi_nrf, vb_nrf, vt_nrf, v2_nrf, v3_nrf, nrfs, nrf, sc_vi, sc_vb, sc_vt, sc_v2, sc_v3, sc_vo, sc_vl, vo_nrf, vl_nrf, sc_vn, vn_nrf]) ⟨Nat.zero_le _, fun j hj => absurd hj (Nat.not_lt_zero j)⟩ ?_ ?_
  · simp (disch := first | omega | (simp only [List.length_append, List.length_cons, List.length_nil, List.length_replicate, List.length_set, List.length_take, List.length_drop, vi_len, vb_len, vo_len, vl_len, vn_len]; omega)) only [↓EC, EV, EL, E2, E3, ER, seval, ↓reduceIte, false_imp_iff, ColV_def]
  · rintro i ⟨h1, h2⟩
    simp (disch := first | omega | (simp only [List.length_append, List.length_cons, List.length_nil, List.length_replicate, List.length_set, List.length_take, List.length_drop, vi_len, vb_len, vo_len, vl_len, vn_len]; omega)) only [↓EC, EV, EL, E2, E3, ER, seval, ↓reduceIte, false_imp_iff, ColV_def, lheap_def]
    (refine Split.mk (fun h => ?_) (fun h => ?_) <;> (try simp only [decide_eq_true_eq, decide_eq_false_iff_not, beq_iff_eq, bne_iff_ne, beq_eq_false_iff_ne, bne_eq_false_iff_eq, Bool.not_eq_true', Bool.not_eq_false', Bool.and_eq_true, Bool.or_eq_true, Bool.and_eq_false_iff, Bool.or_eq_false_iff, Int.not_lt, Int.not_le, Bool.false_eq_true, Bool.true_eq_false, false_and, and_false, true_and, and_true, or_false, false_or, or_true, true_or, not_true_eq_false, not_false_eq_true] at h))
    · have hi : i < ts.length := by omega
      obtain ⟨w1, w2⟩ := isW_lets (ha i hi)
      have e3 := (wpT_lo (t := ub (gt ts i)) hb hw hn (gt ts i).length).1
      (try simp (disch := first | omega | (simp only [List.length_append, List.length_cons, List.length_nil, List.length_replicate, List.length_set, List.length_take, List.length_drop, vi_len, vb_len, vo_len, vl_len, vn_len]; omega)) only [↓EC, EV, EL, E2, E3, ER, seval, ↓reduceIte, false_imp_iff, hl, hk])
      refine pcd_v (g2 _ w1 w2) ?_
      (try simp (disch := first | omega | (simp only [List.length_append, List.length_cons, List.length_nil, List.length_replicate, List.length_set, List.length_take, List.length_drop, vi_len, vb_len, vo_len, vl_len, vn_len]; omega)) only [↓EC, EV, EL, E2, E3, ER, seval, ↓reduceIte, false_imp_iff, hl, hk, e3])
      refine pcd_v g1 ?_
      have hv := vleq_vi (k := .u8) (l := wpT n b w (ub (gt ts i)) (gt ts i).length) (m := sameP n) (by omega)
      rw [e3] at hv
      have hv2 : vleq [.i .u8, .i .u8, .i .u8, .i .u8, .i .u8, .i .u8, .i .u8, .i .u8, .i .u8, .i .u8, .i .u8, .i .u8, .i .u8, .i .u8, .i .u8, .i .u8] (vi .u8 (wpT n b w (ub (gt ts i)) (gt ts i).length)) (vi .u8 (sameP n)) = some (decide (wpT n b w (ub (gt ts i)) (gt ts i).length = sameP n)) := hv
      (try simp (disch := first | omega | (simp only [List.length_append, List.length_cons, List.length_nil, List.length_replicate, List.length_set, List.length_take, List.length_drop, vi_len, vb_len, vo_len, vl_len, vn_len]; omega)) only [↓EC, EV, EL, E2, E3, ER, seval, ↓reduceIte, false_imp_iff, hl, hk, e3, hsl, hv, hv2])
      (refine Split.mk (fun h => ?_) (fun h => ?_) <;> (try simp only [decide_eq_true_eq, decide_eq_false_iff_not, beq_iff_eq, bne_iff_ne, beq_eq_false_iff_ne, bne_eq_false_iff_eq, Bool.not_eq_true', Bool.not_eq_false', Bool.and_eq_true, Bool.or_eq_true, Bool.and_eq_false_iff, Bool.or_eq_false_iff, Int.not_lt, Int.not_le, Bool.false_eq_true, Bool.true_eq_false, false_and, and_false, true_and, and_true, or_false, false_or, or_true, true_or, not_true_eq_false, not_false_eq_true] at h))
      · (try simp (disch := first | omega | (simp only [List.length_append, List.length_cons, List.length_nil, List.length_replicate, List.length_set, List.length_take, List.length_drop, vi_len, vb_len, vo_len, vl_len, vn_len]; omega)) only [↓EC, EV, EL, E2, E3, ER, seval, ↓reduceIte, false_imp_iff, hl, hk])
        have : ¬ fitW n b w ts := fun hf => h (hf i hi)
        rw [decide_eq_false this]
      · (try simp (disch := first | omega | (simp only [List.length_append, List.length_cons, List.length_nil, List.length_replicate, List.length_set, List.length_take, List.length_drop, vi_len, vb_len, vo_len, vl_len, vn_len]; omega)) only [↓EC, EV, EL, E2, E3, ER, seval, ↓reduceIte, false_imp_iff, hl, hk])
        refine ⟨i + 1, by simp, ⟨by omega, fun j hj => ?_⟩, by omega⟩
        by_cases e : j = i
        · subst e; exact h
        · exact h2 j (by omega)
    · (try simp (disch := first | omega | (simp only [List.length_append, List.length_cons, List.length_nil, List.length_replicate, List.length_set, List.length_take, List.length_drop, vi_len, vb_len, vo_len, vl_len, vn_len]; omega)) only [↓EC, EV, EL, E2, E3, ER, seval, ↓reduceIte, false_imp_iff, hl, hk])
      have : fitW n b w ts := fun j hj => h2 j (by omega)
      rw [decide_eq_true this]
noncomputable def srR (n : Int) (b w : List Int) (ts : List (List UInt8)) : Bool × Int :=
  if isDB n b w = true then (if wdK ts = 0 then (decide (fitW n b w ts), 0) else (false, wdK ts)) else (false, 1)
theorem wdK_0 {ts : List (List UInt8)} (h : wdK ts = 0) : allW ts ∧ ¬ 20 < ts.length := by
  unfold wdK at h
  split at h
  · rename_i ha
    split at h
    · omega
    · rename_i hb; exact ⟨ha, hb⟩
  · omega
theorem c_spec_SatisfiesRelations {n : Int} {b w : List Int} {ts : List (List UInt8)} (hb : okP b) (hw : okP w) (hl' : ts.length ≤ 1048576) (hls : ∀ l ∈ ts, l.length ≤ 1048576) :
    PSpec Tryd.prog 26 [vD n b w, .sl ts.length (vt ts)] fun v => v = .tup [.bool (srR n b w ts).1, .int .i64 (srR n b w ts).2] := by
  have hl := hb.len
  have hk := hw.len
  refine spec_SatisfiesRelations_f.f ?_
  have g2 := c_spec_l01Is (n := n) hb hw
  have g3 := fun lb lw hn ha => c_spec_l08Fits (n := n) (b := b) (w := w) (ts := ts) lb lw hn ha hl'
  unfold vD at g2 g3 ⊢
  simp (config := { maxSteps := 10000000 }) (disch := first | omega | (simp only [List.length_append, List.length_cons, List.length_nil, List.length_replicate, List.length_set, List.length_take, List.length_drop, vi_len, vb_len, vo_len, vl_len, vn_len]; omega)) only [↓EC, EV, EL, E2, E3, ER, seval, ↓reduceIte, false_imp_iff, spec_SatisfiesRelations_F, hl, hk]
  refine pcd_v g2 ?_
  cases h0 : isDB n b w with
  | false =>
    have e1 : srR n b w ts = (false, 1) := by unfold srR; rw [if_neg (by rw [h0]; decide)]
    rw [e1]
    (try simp (disch := first | omega | (simp only [List.length_append, List.length_cons, List.length_nil, List.length_replicate, List.length_set, List.length_take, List.length_drop, vi_len, vb_len, vo_len, vl_len, vn_len]; omega)) only [↓EC, EV, EL, E2, E3, ER, seval, ↓reduceIte, false_imp_iff, hl, hk])
  | true =>
    obtain ⟨lb, lw, hn⟩ := isDB_lo hb hw h0
    (try simp (disch := first | omega | (simp only [List.length_append, List.length_cons, List.length_nil, List.length_replicate, List.length_set, List.length_take, List.length_drop, vi_len, vb_len, vo_len, vl_len, vn_len]; omega)) only [↓EC, EV, EL, E2, E3, ER, seval, ↓reduceIte, false_imp_iff, hl, hk])
    refine pcd_v (c_spec_l08Words hl' hls) ?_
    (try simp (disch := first | omega | (simp only [List.length_append, List.length_cons, List.length_nil, List.length_replicate, List.length_set, List.length_take, List.length_drop, vi_len, vb_len, vo_len, vl_len, vn_len]; omega)) only [↓EC, EV, EL, E2, E3, ER, seval, ↓reduceIte, false_imp_iff, hl, hk])
    (refine Split.mk (fun h => ?_) (fun h => ?_) <;> (try simp only [decide_eq_true_eq, decide_eq_false_iff_not, beq_iff_eq, bne_iff_ne, beq_eq_false_iff_ne, bne_eq_false_iff_eq, Bool.not_eq_true', Bool.not_eq_false', Bool.and_eq_true, Bool.or_eq_true, Bool.and_eq_false_iff, Bool.or_eq_false_iff, Int.not_lt, Int.not_le, Bool.false_eq_true, Bool.true_eq_false, false_and, and_false, true_and, and_true, or_false, false_or, or_true, true_or, not_true_eq_false, not_false_eq_true] at h))
    · have e1 : srR n b w ts = (false, wdK ts) := by unfold srR; rw [if_pos h0, if_neg h]
      rw [e1]
      (try simp (disch := first | omega | (simp only [List.length_append, List.length_cons, List.length_nil, List.length_replicate, List.length_set, List.length_take, List.length_drop, vi_len, vb_len, vo_len, vl_len, vn_len]; omega)) only [↓EC, EV, EL, E2, E3, ER, seval, ↓reduceIte, false_imp_iff, hl, hk])
    · have e0 : wdK ts = 0 := by simpa using h
      have e1 : srR n b w ts = (decide (fitW n b w ts), 0) := by unfold srR; rw [if_pos h0, if_pos e0]
      rw [e1]
      (try simp (disch := first | omega | (simp only [List.length_append, List.length_cons, List.length_nil, List.length_replicate, List.length_set, List.length_take, List.length_drop, vi_len, vb_len, vo_len, vl_len, vn_len]; omega)) only [↓EC, EV, EL, E2, E3, ER, seval, ↓reduceIte, false_imp_iff, hl, hk])
      refine pcd_v (g3 lb lw hn (wdK_0 e0).1) ?_
      (try simp (disch := first | omega | (simp only [List.length_append, List.length_cons, List.length_nil, List.length_replicate, List.length_set, List.length_take, List.length_drop, vi_len, vb_len, vo_len, vl_len, vn_len]; omega)) only [↓EC, EV, EL, E2, E3, ER, seval, ↓reduceIte, false_imp_iff, hl, hk])
theorem c_impl_SatisfiesRelations {n : Int} {b w : List Int} {ts : List (List UInt8)} (hb : okP b) (hw : okP w) (hl' : ts.length ≤ 1048576) (hls : ∀ l ∈ ts, l.length ≤ 1048576) :
    PSpec Tryd.prog 28 [vD n b w, .sl ts.length (vt ts)] fun v => v = .tup [.bool (srR n b w ts).1, .int .i64 (srR n b w ts).2] := by
  have hl := hb.len
  have hk := hw.len
  refine impl_SatisfiesRelations_f.f ?_
  have g2 := c_impl_IsDessin (n := n) hb hw
  have g3 := fun lb lw hn ha => c_impl_satisfies (n := n) (b := b) (w := w) (ts := ts) lb lw hn ha hl'
  unfold vD at g2 g3 ⊢
  simp (config := { maxSteps := 10000000 }) (disch := first | omega | (simp only [List.length_append, List.length_cons, List.length_nil, List.length_replicate, List.length_set, List.length_take, List.length_drop, vi_len, vb_len, vo_len, vl_len, vn_len]; omega)) only [↓EC, EV, EL, E2, E3, ER, seval, ↓reduceIte, false_imp_iff, impl_SatisfiesRelations_F, hl, hk]
  refine pcd_v (c_impl_areWords hl' hls) ?_
  by_cases ha : allW ts
  · have hd : decide (allW ts) = true := decide_eq_true ha
    (try simp (disch := first | omega | (simp only [List.length_append, List.length_cons, List.length_nil, List.length_replicate, List.length_set, List.length_take, List.length_drop, vi_len, vb_len, vo_len, vl_len, vn_len]; omega)) only [↓EC, EV, EL, E2, E3, ER, seval, ↓reduceIte, false_imp_iff, hl, hk, hd])
    refine pcd_v g2 ?_
    cases h0 : isDB n b w with
    | false =>
      have e1 : srR n b w ts = (false, 1) := by unfold srR; rw [if_neg (by rw [h0]; decide)]
      rw [e1]
      (try simp (disch := first | omega | (simp only [List.length_append, List.length_cons, List.length_nil, List.length_replicate, List.length_set, List.length_take, List.length_drop, vi_len, vb_len, vo_len, vl_len, vn_len]; omega)) only [↓EC, EV, EL, E2, E3, ER, seval, ↓reduceIte, false_imp_iff, hl, hk])
    | true =>
      obtain ⟨lb, lw, hn⟩ := isDB_lo hb hw h0
      (try simp (disch := first | omega | (simp only [List.length_append, List.length_cons, List.length_nil, List.length_replicate, List.length_set, List.length_take, List.length_drop, vi_len, vb_len, vo_len, vl_len, vn_len]; omega)) only [↓EC, EV, EL, E2, E3, ER, seval, ↓reduceIte, false_imp_iff, hl, hk])
      (refine Split.mk (fun h => ?_) (fun h => ?_) <;> (try simp only [decide_eq_true_eq, decide_eq_false_iff_not, beq_iff_eq, bne_iff_ne, beq_eq_false_iff_ne, bne_eq_false_iff_eq, Bool.not_eq_true', Bool.not_eq_false', Bool.and_eq_true, Bool.or_eq_true, Bool.and_eq_false_iff, Bool.or_eq_false_iff, Int.not_lt, Int.not_le, Bool.false_eq_true, Bool.true_eq_false, false_and, and_false, true_and, and_true, or_false, false_or, or_true, true_or, not_true_eq_false, not_false_eq_true] at h))
      · have e0 : wdK ts = 2 := by unfold wdK; rw [if_pos ha, if_pos (by omega)]
        have e1 : srR n b w ts = (false, 2) := by unfold srR; rw [if_pos h0, e0, if_neg (by decide)]
        rw [e1]
      · have e0 : wdK ts = 0 := by unfold wdK; rw [if_pos ha, if_neg (by omega)]
        have e1 : srR n b w ts = (decide (fitW n b w ts), 0) := by unfold srR; rw [if_pos h0, if_pos e0]
        rw [e1]
        (try simp (disch := first | omega | (simp only [List.length_append, List.length_cons, List.length_nil, List.length_replicate, List.length_set, List.length_take, List.length_drop, vi_len, vb_len, vo_len, vl_len, vn_len]; omega)) only [↓EC, EV, EL, E2, E3, ER, seval, ↓reduceIte, false_imp_iff, hl, hk])
        refine pcd_v (g3 lb lw hn ha) ?_
        (try simp (disch := first | omega | (simp only [List.length_append, List.length_cons, List.length_nil, List.length_replicate, List.length_set, List.length_take, List.length_drop, vi_len, vb_len, vo_len, vl_len, vn_len]; omega)) only [↓EC, EV, EL, E2, E3, ER, seval, ↓reduceIte, false_imp_iff, hl, hk])
  · have hd : decide (allW ts) = false := decide_eq_false ha
    have e0 : wdK ts = 1 := by unfold wdK; rw [if_neg ha]
    have e1 : srR n b w ts = (false, 1) := by
      unfold srR
      split
      · rw [e0, if_neg (by decide)]
      · rfl
    rw [e1]
    (try simp (disch := first | omega | (simp only [List.length_append, List.length_cons, List.length_nil, List.length_replicate, List.length_set, List.length_take, List.length_drop, vi_len, vb_len, vo_len, vl_len, vn_len]; omega)) only [↓EC, EV, EL, E2, E3, ER, seval, ↓reduceIte, false_imp_iff, hl, hk, hd])
theorem c_FnExactSatisfiesRelations {n : Int} {b w : List Int} {ts : List (List UInt8)} (hb : okP b) (hw : okP w) (h1 : ts.length ≤ 9223372036854775807) (h2 : ∀ l ∈ ts, l.length ≤ 9223372036854775807) :
    PSpec Tryd.prog 8 [vD n b w, .sl ts.length (vt ts)] fun v => v = .bool true := by
  have hl := hb.len
  have hk := hw.len
  refine laws_FnExactSatisfiesRelations_f.f ?_
  unfold vD
  simp (config := { maxSteps := 10000000 }) (disch := first | omega | (simp only [List.length_append, List.length_cons, List.length_nil, List.length_replicate, List.length_set, List.length_take, List.length_drop, vi_len, vb_len, vo_len, vl_len, vn_len]; omega)) only [↓EC, EV, EL, E2, E3, ER, seval, ↓reduceIte, false_imp_iff, laws_FnExactSatisfiesRelations_F, hl, hk]
  refine pcd_v (c_laws_szStringS h1 h2) ?_
  (try simp (disch := first | omega | (simp only [List.length_append, List.length_cons, List.length_nil, List.length_replicate, List.length_set, List.length_take, List.length_drop, vi_len, vb_len, vo_len, vl_len, vn_len]; omega)) only [↓EC, EV, EL, E2, E3, ER, seval, ↓reduceIte, false_imp_iff, hl, hk])
  (refine Split.mk (fun h => ?_) (fun h => ?_) <;> (try simp only [decide_eq_true_eq, decide_eq_false_iff_not, beq_iff_eq, bne_iff_ne, beq_eq_false_iff_ne, bne_eq_false_iff_eq, Bool.not_eq_true', Bool.not_eq_false', Bool.and_eq_true, Bool.or_eq_true, Bool.and_eq_false_iff, Bool.or_eq_false_iff, Int.not_lt, Int.not_le, Bool.false_eq_true, Bool.true_eq_false, false_and, and_false, true_and, and_true, or_false, false_or, or_true, true_or, not_true_eq_false, not_false_eq_true] at h))
  · trivial
  obtain ⟨h3, h4⟩ := szT_le (ls := ts) (by omega)
  have hs := c_spec_SatisfiesRelations (n := n) hb hw h3 h4
  have hi := c_impl_SatisfiesRelations (n := n) hb hw h3 h4
  generalize srR n b w ts = R at *
  obtain ⟨B, K⟩ := R
  simp only at hs hi
  unfold vD at hs hi
  (try simp (disch := first | omega | (simp only [List.length_append, List.length_cons, List.length_nil, List.length_replicate, List.length_set, List.length_take, List.length_drop, vi_len, vb_len, vo_len, vl_len, vn_len]; omega)) only [↓EC, EV, EL, E2, E3, ER, seval, ↓reduceIte, false_imp_iff, hl, hk])
  repeat' first
    | (refine Split.mk (fun h => ?_) (fun h => ?_) <;> (try simp only [decide_eq_true_eq, decide_eq_false_iff_not, beq_iff_eq, bne_iff_ne, beq_eq_false_iff_ne, bne_eq_false_iff_eq, Bool.not_eq_true', Bool.not_eq_false', Bool.and_eq_true, Bool.or_eq_true, Bool.and_eq_false_iff, Bool.or_eq_false_iff, Int.not_lt, Int.not_le, Bool.false_eq_true, Bool.true_eq_false, false_and, and_false, true_and, and_true, or_false, false_or, or_true, true_or, not_true_eq_false, not_false_eq_true] at h))
    | (refine pcd_v (c_laws_toDessin hb hw) ?_; (try simp (disch := first | omega | (simp only [List.length_append, List.length_cons, List.length_nil, List.length_replicate, List.length_set, List.length_take, List.length_drop, vi_len, vb_len, vo_len, vl_len, vn_len]; omega)) only [↓EC, EV, EL, E2, E3, ER, seval, ↓reduceIte, false_imp_iff, vD, hl, hk]))
    | (refine pcd_v (c_laws_toStringS h3) ?_; (try simp (disch := first | omega | (simp only [List.length_append, List.length_cons, List.length_nil, List.length_replicate, List.length_set, List.length_take, List.length_drop, vi_len, vb_len, vo_len, vl_len, vn_len]; omega)) only [↓EC, EV, EL, E2, E3, ER, seval, ↓reduceIte, false_imp_iff, hl, hk]))
    | (refine pcd_v hs ?_; (try simp (disch := first | omega | (simp only [List.length_append, List.length_cons, List.length_nil, List.length_replicate, List.length_set, List.length_take, List.length_drop, vi_len, vb_len, vo_len, vl_len, vn_len]; omega)) only [↓EC, EV, EL, E2, E3, ER, seval, ↓reduceIte, false_imp_iff, hl, hk]))
    | (refine pcd_v hi ?_; (try simp (disch := first | omega | (simp only [List.length_append, List.length_cons, List.length_nil, List.length_replicate, List.length_set, List.length_take, List.length_drop, vi_len, vb_len, vo_len, vl_len, vn_len]; omega)) only [↓EC, EV, EL, E2, E3, ER, seval, ↓reduceIte, false_imp_iff, hl, hk]))
    | (refine pcd_v (c_laws_eqStringS h3) ?_; (try simp (disch := first | omega | (simp only [List.length_append, List.length_cons, List.length_nil, List.length_replicate, List.length_set, List.length_take, List.length_drop, vi_len, vb_len, vo_len, vl_len, vn_len]; omega)) only [↓EC, EV, EL, E2, E3, ER, seval, ↓reduceIte, false_imp_iff, hl, hk]))
  all_goals first | trivial | (cases B <;> simp_all; done) | simp_all | trace_state
theorem t_FnExactSatisfiesRelations : ∀ xs, Ty.oks [tyD, .sl .str] xs → PSpec Tryd.prog 8 xs fun r => r = .bool true := by
  rintro xs ⟨v, r, rfl, hv, u, r, rfl, hu, rfl⟩
  obtain ⟨n, b, w, rfl, hb, hw', _⟩ := ok_dessin hv
  obtain ⟨ts, rfl, h1, h2⟩ := ok_strs hu
  exact c_FnExactSatisfiesRelations hb hw' h1 h2
end Go.Proofs.YtjcllfkkjagomaaDoor.Sep

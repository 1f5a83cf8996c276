/- The homology basis: the walks. -/
import Derived.Test.YtcleiehdddjicaaC47
namespace Go.Proofs.Ytcleiehdddjicaa.Sep
open Go.RowKit
set_option linter.unusedVariables false
set_option linter.unusedSimpArgs false
set_option maxRecDepth 20000
set_option maxHeartbeats 4000000

section
variable {n : Int} {b w : List Int}
theorem bI_tree {k : Nat} (h : gb (treeM b w n) k = true) : bI b w n (k + 1) = bI b w n k := by simp only [bI, if_pos h]
theorem bI_yes {k : Nat} (h : gb (treeM b w n) k = false) (hj : gi (bI b w n k).1 (gi (numL b w n) k).toNat = gi (bI b w n k).1 (gi (numL b w n) (bkx b n k)).toNat) :
    bI b w n (k + 1) = (jnL (bI b w n k).1 (max (gi (bI b w n k).1 (gi (numL b w n) k).toNat) (gi (bI b w n k).1 (gi (numL b w n) (bkx b n k)).toNat)) (min (gi (bI b w n k).1 (gi (numL b w n) k).toNat) (gi (bI b w n k).1 (gi (numL b w n) (bkx b n k)).toNat)), (bI b w n k).2 ++ [cyL b w n k]) := by
  simp only [bI]; rw [if_neg (by rw [h]; decide), if_pos hj]
theorem bI_no {k : Nat} (h : gb (treeM b w n) k = false) (hj : ¬ gi (bI b w n k).1 (gi (numL b w n) k).toNat = gi (bI b w n k).1 (gi (numL b w n) (bkx b n k)).toNat) :
    bI b w n (k + 1) = (jnL (bI b w n k).1 (max (gi (bI b w n k).1 (gi (numL b w n) k).toNat) (gi (bI b w n k).1 (gi (numL b w n) (bkx b n k)).toNat)) (min (gi (bI b w n k).1 (gi (numL b w n) k).toNat) (gi (bI b w n k).1 (gi (numL b w n) (bkx b n k)).toNat)), (bI b w n k).2) := by
  simp only [bI]; rw [if_neg (by rw [h]; decide), if_neg hj]
theorem c_impl_basis (hb : okP b) (hw : okP w) (h0 : isD n b w) : PSpec Try.prog 34 [vD n b w] fun v => v = .own 25 1 (basL b w n).length (vo 2 (basL b w n)) := by
  have hl := hb.len
  have hk := hw.len
  have hn := h0.pb.1
  have lb := h0.pb.lo hb
  have lw := h0.pw.lo hw
  have htl := treeL_le (b := b) (w := w) hn
  have hT := c_impl_treeEdges hb hw h0
  have hfc := c_impl_face lb lw hn
  have hC := fun (x : Nat) (h1 : x < n.toNat) h2 => c_impl_cycleOf1 hb hw h0 (x := x) h1 h2
  have hFl := fc_len (b := b) (w := w) hn
  have hFa : ∀ l ∈ fcL b w n, (∀ y ∈ l, 0 ≤ y ∧ y < n) ∧ l.length ≤ 16 := cyc_at (fc_lt hn) hn
  have hbpl : (backP b n).length = 16 := putL_len _ _
  have hcy := c_impl_cycles (fc_lo (b := b) (w := w) hn) hn
  have hfd : cyc (faceP b w n) n = fcL b w n := rfl
  rw [hfd] at hcy
  refine impl_basis_f.f ?_
  unfold vD at hT hfc hC ⊢
  simp (config := { maxSteps := 10000000 }) (disch := first | omega | (simp only [List.length_append, List.length_cons, List.length_nil, List.length_replicate, List.length_set, List.length_take, List.length_drop, vi_len, vb_len, vo_len, vl_len, vn_len]; omega)) only [↓EC, EV, EL, E2, E3, ER, seval, ↓reduceIte, false_imp_iff, impl_basis_F, hl, hk]
  refine pcd_v hT ?_
  (try simp (disch := first | omega | (simp only [List.length_append, List.length_cons, List.length_nil, List.length_replicate, List.length_set, List.length_take, List.length_drop, vi_len, vb_len, vo_len, vl_len, vn_len]; omega)) only [↓EC, EV, EL, E2, E3, ER, seval, ↓reduceIte, false_imp_iff, hl, hk])
  refine pcd_v hfc ?_
  (try simp (disch := first | omega | (simp only [List.length_append, List.length_cons, List.length_nil, List.length_replicate, List.length_set, List.length_take, List.length_drop, vi_len, vb_len, vo_len, vl_len, vn_len]; omega)) only [↓EC, EV, EL, E2, E3, ER, seval, ↓reduceIte, false_imp_iff, hl, hk])
  refine pcd_v hcy ?_
  (try simp (disch := first | omega | (simp only [List.length_append, List.length_cons, List.length_nil, List.length_replicate, List.length_set, List.length_take, List.length_drop, vi_len, vb_len, vo_len, vl_len, vn_len]; omega)) only [↓EC, EV, EL, E2, E3, ER, seval, ↓reduceIte, false_imp_iff, hl, hk])
  refine LP_of (σ := Nat) 100000 [(65, 30, 1), (86, 2, 1)] (fun s => [.int .i64 s]) (fun s => [.int .i64 n :: vi .u8 (b ++ w), vi .i64 (nO (fcL b w n) n.toNat s)])
    (fun s => s ≤ (fcL b w n).length) (fun s => (fcL b w n).length - s) 0 (by simp [frameOk, names, lpz, sclp, scv, scvs, vi_nrf, vb_nrf, vt_nrf, v2_nrf, v3_nrf, nrfs, nrf, sc_vi, sc_vb, sc_vt, sc_v2, sc_v3, sc_vo, sc_vl, vo_nrf, vl_nrf, sc_vn, vn_nrf]) (Nat.zero_le _) ?_ ?_
  · simp (disch := first | omega | (simp only [List.length_append, List.length_cons, List.length_nil, List.length_replicate, List.length_set, List.length_take, List.length_drop, vi_len, vb_len, vo_len, vl_len, vn_len]; omega)) only [↓EC, EV, EL, E2, E3, ER, seval, ↓reduceIte, false_imp_iff, ColV_def]
    try rfl
  · rintro s h1
    have hol := nO_len (A := fcL b w n) (n := n.toNat) s
    simp (disch := first | omega | (simp only [List.length_append, List.length_cons, List.length_nil, List.length_replicate, List.length_set, List.length_take, List.length_drop, vi_len, vb_len, vo_len, vl_len, vn_len]; omega)) only [↓EC, EV, EL, E2, E3, ER, seval, ↓reduceIte, false_imp_iff, ColV_def, lheap_def, hl, hk, hol]
    (refine Split.mk (fun h => ?_) (fun h => ?_) <;> (try simp only [decide_eq_true_eq, decide_eq_false_iff_not, beq_iff_eq, bne_iff_ne, beq_eq_false_iff_ne, bne_eq_false_iff_eq, Bool.not_eq_true', Bool.not_eq_false', Bool.and_eq_true, Bool.or_eq_true, Bool.and_eq_false_iff, Bool.or_eq_false_iff, Int.not_lt, Int.not_le, Bool.false_eq_true, Bool.true_eq_false, false_and, and_false, true_and, and_true, or_false, false_or, or_true, true_or, not_true_eq_false, not_false_eq_true] at h))
    · have hs : s < (fcL b w n).length := by omega
      have hsa := hFa _ (gl_mem hs)
      (try simp (disch := first | omega | (simp only [List.length_append, List.length_cons, List.length_nil, List.length_replicate, List.length_set, List.length_take, List.length_drop, vi_len, vb_len, vo_len, vl_len, vn_len]; omega)) only [↓EC, EV, EL, E2, E3, ER, seval, ↓reduceIte, false_imp_iff, hl, hk, hol])
      refine LP_of (σ := Nat) 200000 [(65, 30, 1), (86, 2, 1)] (fun t => [.int .i64 t]) (fun t => [.int .i64 n :: vi .u8 (b ++ w), vi .i64 (wI s (gl (fcL b w n) s) t (nO (fcL b w n) n.toNat s))])
        (fun t => t ≤ (gl (fcL b w n) s).length) (fun t => (gl (fcL b w n) s).length - t) 0 (by simp [frameOk, names, lpz, sclp, scv, scvs, vi_nrf, vb_nrf, vt_nrf, v2_nrf, v3_nrf, nrfs, nrf, sc_vi, sc_vb, sc_vt, sc_v2, sc_v3, sc_vo, sc_vl, vo_nrf, vl_nrf, sc_vn, vn_nrf]) (Nat.zero_le _) ?_ ?_
      · simp (disch := first | omega | (simp only [List.length_append, List.length_cons, List.length_nil, List.length_replicate, List.length_set, List.length_take, List.length_drop, vi_len, vb_len, vo_len, vl_len, vn_len]; omega)) only [↓EC, EV, EL, E2, E3, ER, seval, ↓reduceIte, false_imp_iff, ColV_def]
        try rfl
      · rintro t g1
        have hwl := wI_len (v := s) (c := gl (fcL b w n) s) (L := nO (fcL b w n) n.toNat s) t
        rw [hol] at hwl
        simp (disch := first | omega | (simp only [List.length_append, List.length_cons, List.length_nil, List.length_replicate, List.length_set, List.length_take, List.length_drop, vi_len, vb_len, vo_len, vl_len, vn_len]; omega)) only [↓EC, EV, EL, E2, E3, ER, seval, ↓reduceIte, false_imp_iff, ColV_def, lheap_def, hl, hk, hwl]
        (refine Split.mk (fun h => ?_) (fun h => ?_) <;> (try simp only [decide_eq_true_eq, decide_eq_false_iff_not, beq_iff_eq, bne_iff_ne, beq_eq_false_iff_ne, bne_eq_false_iff_eq, Bool.not_eq_true', Bool.not_eq_false', Bool.and_eq_true, Bool.or_eq_true, Bool.and_eq_false_iff, Bool.or_eq_false_iff, Int.not_lt, Int.not_le, Bool.false_eq_true, Bool.true_eq_false, false_and, and_false, true_and, and_true, or_false, false_or, or_true, true_or, not_true_eq_false, not_false_eq_true] at h))
        · have ht : t < (gl (fcL b w n) s).length := by omega
          have hy := hsa.1 (gi (gl (fcL b w n) s) t) (by rw [gi_of ht]; exact List.getElem_mem ht)
          (try simp (disch := first | omega | (simp only [List.length_append, List.length_cons, List.length_nil, List.length_replicate, List.length_set, List.length_take, List.length_drop, vi_len, vb_len, vo_len, vl_len, vn_len]; omega)) only [↓EC, EV, EL, E2, E3, ER, seval, ↓reduceIte, false_imp_iff, hl, hk, hwl])
          exact ⟨t + 1, by simp, rfl, by omega, by omega⟩
        · have ht : t = (gl (fcL b w n) s).length := by omega
          subst ht
          (try simp (disch := first | omega | (simp only [List.length_append, List.length_cons, List.length_nil, List.length_replicate, List.length_set, List.length_take, List.length_drop, vi_len, vb_len, vo_len, vl_len, vn_len]; omega)) only [↓EC, EV, EL, E2, E3, ER, seval, ↓reduceIte, false_imp_iff, hl, hk, hwl])
          exact ⟨s + 1, by simp, rfl, by omega, by omega⟩
    · have hs : s = (fcL b w n).length := by omega
      subst hs
      have hnu : nO (fcL b w n) n.toNat (fcL b w n).length = numL b w n := rfl
      rw [hnu] at hol ⊢
      (try simp (disch := first | omega | (simp only [List.length_append, List.length_cons, List.length_nil, List.length_replicate, List.length_set, List.length_take, List.length_drop, vi_len, vb_len, vo_len, vl_len, vn_len]; omega)) only [↓EC, EV, EL, E2, E3, ER, seval, ↓reduceIte, false_imp_iff, hl, hk, hol])
      refine pcd_o (c_impl_newClasses (by omega)) ?_
      (try simp (disch := first | omega | (simp only [List.length_append, List.length_cons, List.length_nil, List.length_replicate, List.length_set, List.length_take, List.length_drop, vi_len, vb_len, vo_len, vl_len, vn_len]; omega)) only [↓EC, EV, EL, E2, E3, ER, seval, ↓reduceIte, false_imp_iff, hl, hk, hol])
      refine LP_ofE (σ := Nat) [1, 1] 200000 [(65, 30, 1), (86, 2, 1), (108, 2, 1)] (fun k => [.own 25 1 (bI b w n k).2.length (vo 2 (bI b w n k).2), .int .i64 k])
        (fun k => [.int .i64 n :: vi .u8 (b ++ w), vi .i64 (numL b w n), vi .i64 (bI b w n k).1])
        (fun k => (k : Int) ≤ n) (fun k => (n - k).toNat) 0 (by simp [frameOk, names, lpz, sclp, scv, scvs, vi_nrf, vb_nrf, vt_nrf, v2_nrf, v3_nrf, nrfs, nrf, sc_vi, sc_vb, sc_vt, sc_v2, sc_v3, sc_vo, sc_vl, vo_nrf, vl_nrf, sc_vn, vn_nrf]) (by simp only [Int.natCast_zero]; omega) ?_ ?_
      · simp (disch := first | omega | (simp only [List.length_append, List.length_cons, List.length_nil, List.length_replicate, List.length_set, List.length_take, List.length_drop, vi_len, vb_len, vo_len, vl_len, vn_len]; omega)) only [↓EC, EV, EL, E2, E3, ER, seval, ↓reduceIte, false_imp_iff, ColV_def]
        exact ⟨fun _ => trivial, rfl, rfl⟩
      · rintro k k1
        obtain ⟨hc1, hc2⟩ := bI_len (b := b) (w := w) (n := n) k
        simp (disch := first | omega | (simp only [List.length_append, List.length_cons, List.length_nil, List.length_replicate, List.length_set, List.length_take, List.length_drop, vi_len, vb_len, vo_len, vl_len, vn_len]; omega)) only [↓EC, EV, EL, E2, E3, ER, seval, ↓reduceIte, false_imp_iff, ColV_def, lheap_def, hl, hk, hol, hc1]
        (refine Split.mk (fun h => ?_) (fun h => ?_) <;> (try simp only [decide_eq_true_eq, decide_eq_false_iff_not, beq_iff_eq, bne_iff_ne, beq_eq_false_iff_ne, bne_eq_false_iff_eq, Bool.not_eq_true', Bool.not_eq_false', Bool.and_eq_true, Bool.or_eq_true, Bool.and_eq_false_iff, Bool.or_eq_false_iff, Int.not_lt, Int.not_le, Bool.false_eq_true, Bool.true_eq_false, false_and, and_false, true_and, and_true, or_false, false_or, or_true, true_or, not_true_eq_false, not_false_eq_true] at h))
        · (try simp (disch := first | omega | (simp only [List.length_append, List.length_cons, List.length_nil, List.length_replicate, List.length_set, List.length_take, List.length_drop, vi_len, vb_len, vo_len, vl_len, vn_len]; omega)) only [↓EC, EV, EL, E2, E3, ER, seval, ↓reduceIte, false_imp_iff, hl, hk, hol, hc1])
          refine pcd_v (c_Contains0 rfl (by omega)) ?_
          (try simp (disch := first | omega | (simp only [List.length_append, List.length_cons, List.length_nil, List.length_replicate, List.length_set, List.length_take, List.length_drop, vi_len, vb_len, vo_len, vl_len, vn_len]; omega)) only [↓EC, EV, EL, E2, E3, ER, seval, ↓reduceIte, false_imp_iff, hl, hk, hol, hc1])
          have htm := tree_mem hb hw h0 (x := k) (by omega)
          (refine Split.mk (fun h => ?_) (fun h => ?_) <;> (try simp only [decide_eq_true_eq, decide_eq_false_iff_not, beq_iff_eq, bne_iff_ne, beq_eq_false_iff_ne, bne_eq_false_iff_eq, Bool.not_eq_true', Bool.not_eq_false', Bool.and_eq_true, Bool.or_eq_true, Bool.and_eq_false_iff, Bool.or_eq_false_iff, Int.not_lt, Int.not_le, Bool.false_eq_true, Bool.true_eq_false, false_and, and_false, true_and, and_true, or_false, false_or, or_true, true_or, not_true_eq_false, not_false_eq_true] at h))
          · (try simp (disch := first | omega | (simp only [List.length_append, List.length_cons, List.length_nil, List.length_replicate, List.length_set, List.length_take, List.length_drop, vi_len, vb_len, vo_len, vl_len, vn_len]; omega)) only [↓EC, EV, EL, E2, E3, ER, seval, ↓reduceIte, false_imp_iff, hl, hk, hol, hc1])
            have e := bI_tree (htm.1 h)
            exact ⟨k + 1, by rw [e]; simp, by rw [e], by omega, by omega⟩
          · have hg : gb (treeM b w n) k = false := by
              cases hg : gb (treeM b w n) k with
              | false => rfl
              | true => exact absurd (htm.2 hg) h
            have n0 := num_at (b := b) (w := w) hn (x := k) (by omega)
            have n1 := num_at (b := b) (w := w) hn (bkx_lt (b := b) hn (k := k) (by omega))
            have f0 := fw_lim (b := b) (w := w) hn (x := k)
            have f1 := fw_lim (b := b) (w := w) hn (x := bkx b n k)
            have hbk : (gi (backP b n) k).toNat = bkx b n k := rfl
            have hbr := backP_lt (p := b) hn k (by omega)
            (try simp (disch := first | omega | (simp only [List.length_append, List.length_cons, List.length_nil, List.length_replicate, List.length_set, List.length_take, List.length_drop, vi_len, vb_len, vo_len, vl_len, vn_len]; omega)) only [↓EC, EV, EL, E2, E3, ER, seval, ↓reduceIte, false_imp_iff, hl, hk, hol, hc1])
            refine pcd_v (c_impl_back lb hn) ?_
            have hbp : putL (backF b) n.toNat = backP b n := rfl
            rw [hbp]
            (try simp (disch := first | omega | (simp only [List.length_append, List.length_cons, List.length_nil, List.length_replicate, List.length_set, List.length_take, List.length_drop, vi_len, vb_len, vo_len, vl_len, vn_len]; omega)) only [↓EC, EV, EL, E2, E3, ER, seval, ↓reduceIte, false_imp_iff, hl, hk, hol, hc1, hbpl, hbk])
            refine pcm [108] rfl ?_
            (try simp (disch := first | omega | (simp only [List.length_append, List.length_cons, List.length_nil, List.length_replicate, List.length_set, List.length_take, List.length_drop, vi_len, vb_len, vo_len, vl_len, vn_len]; omega)) only [↓EC, EV, EL, E2, E3, ER, seval, ↓reduceIte, false_imp_iff, hl, hk, hol, hc1])
            rw [← hc1] at f0 f1
            have hjn := c_impl_join (c := (bI b w n k).1) (x := gi (numL b w n) k) (y := gi (numL b w n) (bkx b n k)) (by omega) (by rw [n0]; omega) (by rw [n1]; omega)
            rw [hc1] at hjn
            refine callM_v hjn ?_
            have hj := jnL_len (c := (bI b w n k).1) (f := max (gi (bI b w n k).1 (gi (numL b w n) k).toNat) (gi (bI b w n k).1 (gi (numL b w n) (bkx b n k)).toNat)) (t := min (gi (bI b w n k).1 (gi (numL b w n) k).toNat) (gi (bI b w n k).1 (gi (numL b w n) (bkx b n k)).toNat))
            (try simp (disch := first | omega | (simp only [List.length_append, List.length_cons, List.length_nil, List.length_replicate, List.length_set, List.length_take, List.length_drop, vi_len, vb_len, vo_len, vl_len, vn_len]; omega)) only [↓EC, EV, EL, E2, E3, ER, seval, ↓reduceIte, false_imp_iff, hl, hk, hol, hc1, hj])
            (refine Split.mk (fun h => ?_) (fun h => ?_) <;> (try simp only [decide_eq_true_eq, decide_eq_false_iff_not, beq_iff_eq, bne_iff_ne, beq_eq_false_iff_ne, bne_eq_false_iff_eq, Bool.not_eq_true', Bool.not_eq_false', Bool.and_eq_true, Bool.or_eq_true, Bool.and_eq_false_iff, Bool.or_eq_false_iff, Int.not_lt, Int.not_le, Bool.false_eq_true, Bool.true_eq_false, false_and, and_false, true_and, and_true, or_false, false_or, or_true, true_or, not_true_eq_false, not_false_eq_true] at h))
            · have e := bI_yes hg (by simpa using h)
              (try simp (disch := first | omega | (simp only [List.length_append, List.length_cons, List.length_nil, List.length_replicate, List.length_set, List.length_take, List.length_drop, vi_len, vb_len, vo_len, vl_len, vn_len]; omega)) only [↓EC, EV, EL, E2, E3, ER, seval, ↓reduceIte, false_imp_iff, hl, hk, hol])
              refine pcd_o (hC k (by omega) hg) ?_
              (try simp (disch := first | omega | (simp only [List.length_append, List.length_cons, List.length_nil, List.length_replicate, List.length_set, List.length_take, List.length_drop, vi_len, vb_len, vo_len, vl_len, vn_len]; omega)) only [↓EC, EV, EL, E2, E3, ER, seval, ↓reduceIte, false_imp_iff, hl, hk, hol])
              exact ⟨k + 1, by rw [e]; simp, by rw [e], by omega, by omega⟩
            · have e := bI_no hg (by simpa using h)
              (try simp (disch := first | omega | (simp only [List.length_append, List.length_cons, List.length_nil, List.length_replicate, List.length_set, List.length_take, List.length_drop, vi_len, vb_len, vo_len, vl_len, vn_len]; omega)) only [↓EC, EV, EL, E2, E3, ER, seval, ↓reduceIte, false_imp_iff, hl, hk, hol])
              exact ⟨k + 1, by rw [e]; simp, by rw [e], by omega, by omega⟩
        · have hkn : k = n.toNat := by omega
          subst hkn
          (try simp (disch := first | omega | (simp only [List.length_append, List.length_cons, List.length_nil, List.length_replicate, List.length_set, List.length_take, List.length_drop, vi_len, vb_len, vo_len, vl_len, vn_len]; omega)) only [↓EC, EV, EL, E2, E3, ER, seval, ↓reduceIte, false_imp_iff, hl, hk])
          rfl
theorem bS_tree {k : Nat} (h : gb (treeM b w n) k = true) : bS b w n (k + 1) = bS b w n k := by simp only [bS, if_pos h]
theorem bS_yes {k : Nat} (h : gb (treeM b w n) k = false) (hj : gi (bS b w n k).1 (gi (fwL b w n) (bkx b n k)).toNat = gi (bS b w n k).1 (gi (fwL b w n) k).toNat) :
    bS b w n (k + 1) = (jnL (bS b w n k).1 (gi (bS b w n k).1 (gi (fwL b w n) (bkx b n k)).toNat) (gi (bS b w n k).1 (gi (fwL b w n) k).toNat), (bS b w n k).2 ++ [cyL b w n k]) := by
  simp only [bS]; rw [if_neg (by rw [h]; decide), if_pos hj]
theorem bS_no {k : Nat} (h : gb (treeM b w n) k = false) (hj : ¬ gi (bS b w n k).1 (gi (fwL b w n) (bkx b n k)).toNat = gi (bS b w n k).1 (gi (fwL b w n) k).toNat) :
    bS b w n (k + 1) = (jnL (bS b w n k).1 (gi (bS b w n k).1 (gi (fwL b w n) (bkx b n k)).toNat) (gi (bS b w n k).1 (gi (fwL b w n) k).toNat), (bS b w n k).2) := by
  simp only [bS]; rw [if_neg (by rw [h]; decide), if_neg hj]
theorem c_spec_l09Basis (hb : okP b) (hw : okP w) (h0 : isD n b w) : PSpec Try.prog 33 [vD n b w] fun v => v = .own 25 1 (basL b w n).length (vo 2 (basL b w n)) := by
  have hl := hb.len
  have hk := hw.len
  have hn := h0.pb.1
  have lb := h0.pb.lo hb
  have lw := h0.pw.lo hw
  have hrel := b_rel (b := b) (w := w) hn
  have hbas : basL b w n = (bS b w n n.toNat).2 := (hrel n.toNat (Nat.le_refl _)).2
  have htl := treeM_len (b := b) (w := w) (n := n)
  have hT := c_spec_l09Tree hb hw h0
  have hfc := c_spec_l01Face lb lw hn
  have hwh := c_spec_l01Which (fc_lo (b := b) (w := w) hn) (fc_lt (b := b) (w := w) hn) hn
  have hC := fun (x : Nat) (h1 : x < n.toNat) h2 => c_spec_l09Of1 hb hw h0 (x := x) h1 h2
  have hFl := fc_len (b := b) (w := w) hn
  have hbpl : (backP b n).length = 16 := putL_len _ _
  have hfl : (fwL b w n).length = 16 := wO_len _
  have hfd : whichL (faceP b w n) n = fwL b w n := rfl
  rw [hfd] at hwh
  have hbp : putL (backF b) n.toNat = backP b n := rfl
  have hbk := c_spec_l01Back (p := b) (n := n) lb hn
  rw [hbp] at hbk
  rw [hbas]
  refine spec_l09Basis_f.f ?_
  unfold vD at hT hfc hC ⊢
  simp (config := { maxSteps := 10000000 }) (disch := first | omega | (simp only [List.length_append, List.length_cons, List.length_nil, List.length_replicate, List.length_set, List.length_take, List.length_drop, vi_len, vb_len, vo_len, vl_len, vn_len]; omega)) only [↓EC, EV, EL, E2, E3, ER, seval, ↓reduceIte, false_imp_iff, spec_l09Basis_F, hl, hk]
  refine pcd_v hT ?_
  (try simp (disch := first | omega | (simp only [List.length_append, List.length_cons, List.length_nil, List.length_replicate, List.length_set, List.length_take, List.length_drop, vi_len, vb_len, vo_len, vl_len, vn_len]; omega)) only [↓EC, EV, EL, E2, E3, ER, seval, ↓reduceIte, false_imp_iff, hl, hk, htl])
  refine pcd_v hfc ?_
  (try simp (disch := first | omega | (simp only [List.length_append, List.length_cons, List.length_nil, List.length_replicate, List.length_set, List.length_take, List.length_drop, vi_len, vb_len, vo_len, vl_len, vn_len]; omega)) only [↓EC, EV, EL, E2, E3, ER, seval, ↓reduceIte, false_imp_iff, hl, hk, htl])
  refine pcd_v hwh ?_
  (try simp (disch := first | omega | (simp only [List.length_append, List.length_cons, List.length_nil, List.length_replicate, List.length_set, List.length_take, List.length_drop, vi_len, vb_len, vo_len, vl_len, vn_len]; omega)) only [↓EC, EV, EL, E2, E3, ER, seval, ↓reduceIte, false_imp_iff, hl, hk, htl, hfl])
  refine pcd_v hbk ?_
  (try simp (disch := first | omega | (simp only [List.length_append, List.length_cons, List.length_nil, List.length_replicate, List.length_set, List.length_take, List.length_drop, vi_len, vb_len, vo_len, vl_len, vn_len]; omega)) only [↓EC, EV, EL, E2, E3, ER, seval, ↓reduceIte, false_imp_iff, hl, hk, htl, hfl, hbpl])
  refine pcd_o (c_spec_l09Alone (n := 16) (by decide)) ?_
  (try simp (disch := first | omega | (simp only [List.length_append, List.length_cons, List.length_nil, List.length_replicate, List.length_set, List.length_take, List.length_drop, vi_len, vb_len, vo_len, vl_len, vn_len]; omega)) only [↓EC, EV, EL, E2, E3, ER, seval, ↓reduceIte, false_imp_iff, hl, hk, htl, hfl, hbpl])
  refine LP_ofE (σ := Nat) [1, 1] 200000 [(65, 30, 1), (67, 47, 1), (68, 60, 1), (69, 28, 1), (85, 2, 1)] (fun k => [.own 25 1 (bS b w n k).2.length (vo 2 (bS b w n k).2), .int .i64 k])
    (fun k => [.int .i64 n :: vi .u8 (b ++ w), vb (treeM b w n), vi .i64 (fwL b w n), vi .u8 (backP b n), vi .i64 (bS b w n k).1])
    (fun k => (k : Int) ≤ n) (fun k => (n - k).toNat) 0 (by simp [frameOk, names, lpz, sclp, scv, scvs, vi_nrf, vb_nrf, vt_nrf, v2_nrf, v3_nrf, nrfs, nrf, sc_vi, sc_vb, sc_vt, sc_v2, sc_v3, sc_vo, sc_vl, vo_nrf, vl_nrf, sc_vn, vn_nrf]) (by simp only [Int.natCast_zero]; omega) ?_ ?_
  · simp (disch := first | omega | (simp only [List.length_append, List.length_cons, List.length_nil, List.length_replicate, List.length_set, List.length_take, List.length_drop, vi_len, vb_len, vo_len, vl_len, vn_len]; omega)) only [↓EC, EV, EL, E2, E3, ER, seval, ↓reduceIte, false_imp_iff, ColV_def]
    exact ⟨fun _ => trivial, rfl, rfl⟩
  · rintro k k1
    have hc1 := bS_len (b := b) (w := w) (n := n) k
    have hc2 := (bI_len (b := b) (w := w) (n := n) k).2
    simp (disch := first | omega | (simp only [List.length_append, List.length_cons, List.length_nil, List.length_replicate, List.length_set, List.length_take, List.length_drop, vi_len, vb_len, vo_len, vl_len, vn_len]; omega)) only [↓EC, EV, EL, E2, E3, ER, seval, ↓reduceIte, false_imp_iff, ColV_def, lheap_def, hl, hk, htl, hfl, hbpl, hc1]
    (refine Split.mk (fun h => ?_) (fun h => ?_) <;> (try simp only [decide_eq_true_eq, decide_eq_false_iff_not, beq_iff_eq, bne_iff_ne, beq_eq_false_iff_ne, bne_eq_false_iff_eq, Bool.not_eq_true', Bool.not_eq_false', Bool.and_eq_true, Bool.or_eq_true, Bool.and_eq_false_iff, Bool.or_eq_false_iff, Int.not_lt, Int.not_le, Bool.false_eq_true, Bool.true_eq_false, false_and, and_false, true_and, and_true, or_false, false_or, or_true, true_or, not_true_eq_false, not_false_eq_true] at h))
    · have hr2 := (hrel k (by omega)).2
      rw [hr2] at hc2
      have f0 := fw_lim (b := b) (w := w) hn (x := k)
      have f1 := fw_lim (b := b) (w := w) hn (x := bkx b n k)
      have hbk2 : (gi (backP b n) k).toNat = bkx b n k := rfl
      have hbr := backP_lt (p := b) hn k (by omega)
      (try simp (disch := first | omega | (simp only [List.length_append, List.length_cons, List.length_nil, List.length_replicate, List.length_set, List.length_take, List.length_drop, vi_len, vb_len, vo_len, vl_len, vn_len]; omega)) only [↓EC, EV, EL, E2, E3, ER, seval, ↓reduceIte, false_imp_iff, hl, hk, htl, hfl, hbpl, hc1])
      cases hg : gb (treeM b w n) k with
      | true =>
        have e := bS_tree hg
        (try simp (disch := first | omega | (simp only [List.length_append, List.length_cons, List.length_nil, List.length_replicate, List.length_set, List.length_take, List.length_drop, vi_len, vb_len, vo_len, vl_len, vn_len]; omega)) only [↓EC, EV, EL, E2, E3, ER, seval, ↓reduceIte, false_imp_iff, hl, hk, htl, hfl, hbpl, hc1, hg])
        exact ⟨k + 1, by rw [e]; simp, by rw [e], by omega, by omega⟩
      | false =>
        (try simp (disch := first | omega | (simp only [List.length_append, List.length_cons, List.length_nil, List.length_replicate, List.length_set, List.length_take, List.length_drop, vi_len, vb_len, vo_len, vl_len, vn_len]; omega)) only [↓EC, EV, EL, E2, E3, ER, seval, ↓reduceIte, false_imp_iff, hl, hk, htl, hfl, hbpl, hc1, hg, hbk2])
        refine pcm [85] rfl ?_
        (try simp (disch := first | omega | (simp only [List.length_append, List.length_cons, List.length_nil, List.length_replicate, List.length_set, List.length_take, List.length_drop, vi_len, vb_len, vo_len, vl_len, vn_len]; omega)) only [↓EC, EV, EL, E2, E3, ER, seval, ↓reduceIte, false_imp_iff, hl, hk, htl, hfl, hbpl, hc1, hbk2])
        have hjn := c_spec_l09Join (c := (bS b w n k).1) (x := gi (fwL b w n) k) (y := gi (fwL b w n) (bkx b n k)) (by omega) (by omega) (by omega)
        rw [hc1] at hjn
        refine callM_v hjn ?_
        have hj := jnL_len (c := (bS b w n k).1) (f := gi (bS b w n k).1 (gi (fwL b w n) (bkx b n k)).toNat) (t := gi (bS b w n k).1 (gi (fwL b w n) k).toNat)
        (try simp (disch := first | omega | (simp only [List.length_append, List.length_cons, List.length_nil, List.length_replicate, List.length_set, List.length_take, List.length_drop, vi_len, vb_len, vo_len, vl_len, vn_len]; omega)) only [↓EC, EV, EL, E2, E3, ER, seval, ↓reduceIte, false_imp_iff, hl, hk, htl, hfl, hbpl, hc1, hj])
        (refine Split.mk (fun h => ?_) (fun h => ?_) <;> (try simp only [decide_eq_true_eq, decide_eq_false_iff_not, beq_iff_eq, bne_iff_ne, beq_eq_false_iff_ne, bne_eq_false_iff_eq, Bool.not_eq_true', Bool.not_eq_false', Bool.and_eq_true, Bool.or_eq_true, Bool.and_eq_false_iff, Bool.or_eq_false_iff, Int.not_lt, Int.not_le, Bool.false_eq_true, Bool.true_eq_false, false_and, and_false, true_and, and_true, or_false, false_or, or_true, true_or, not_true_eq_false, not_false_eq_true] at h))
        · have e := bS_yes hg (by simpa using h)
          (try simp (disch := first | omega | (simp only [List.length_append, List.length_cons, List.length_nil, List.length_replicate, List.length_set, List.length_take, List.length_drop, vi_len, vb_len, vo_len, vl_len, vn_len]; omega)) only [↓EC, EV, EL, E2, E3, ER, seval, ↓reduceIte, false_imp_iff, hl, hk, htl, hfl, hbpl, hj])
          refine pcd_o (hC k (by omega) hg) ?_
          (try simp (disch := first | omega | (simp only [List.length_append, List.length_cons, List.length_nil, List.length_replicate, List.length_set, List.length_take, List.length_drop, vi_len, vb_len, vo_len, vl_len, vn_len]; omega)) only [↓EC, EV, EL, E2, E3, ER, seval, ↓reduceIte, false_imp_iff, hl, hk, htl, hfl, hbpl, hj])
          exact ⟨k + 1, by rw [e]; simp, by rw [e], by omega, by omega⟩
        · have e := bS_no hg (by simpa using h)
          (try simp (disch := first | omega | (simp only [List.length_append, List.length_cons, List.length_nil, List.length_replicate, List.length_set, List.length_take, List.length_drop, vi_len, vb_len, vo_len, vl_len, vn_len]; omega)) only [↓EC, EV, EL, E2, E3, ER, seval, ↓reduceIte, false_imp_iff, hl, hk, htl, hfl, hbpl, hj])
          exact ⟨k + 1, by rw [e]; simp, by rw [e], by omega, by omega⟩
    · have hkn : k = n.toNat := by omega
      subst hkn
      (try simp (disch := first | omega | (simp only [List.length_append, List.length_cons, List.length_nil, List.length_replicate, List.length_set, List.length_take, List.length_drop, vi_len, vb_len, vo_len, vl_len, vn_len]; omega)) only [↓EC, EV, EL, E2, E3, ER, seval, ↓reduceIte, false_imp_iff, hl, hk])
end
end Go.Proofs.Ytcleiehdddjicaa.Sep

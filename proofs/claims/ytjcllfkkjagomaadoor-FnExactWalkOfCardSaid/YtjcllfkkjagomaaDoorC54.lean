/- Walks along words in covers: the reference. -/
import Derived.Test.YtjcllfkkjagomaaDoorC53
namespace Go.Proofs.YtjcllfkkjagomaaDoor.Sep
open Go.RowKit
set_option linter.unusedVariables false
set_option linter.unusedSimpArgs false
set_option maxRecDepth 20000
set_option maxHeartbeats 1000000

theorem wkX_S {n m : Int} {b w a c u : List Int} {s : Int × Int} {k : Nat} : wkX n m b w a c s u (k + 1) = wk1 n m b w a c (gi u k) (wkX n m b w a c s u k) := rfl
section
variable {n m : Int} {b w a c : List Int} {s : Int × Int} {L : Int}
theorem wk1_98 (h : L = 98) : wk1 n m b w a c L s = stF b a m s := by subst h; rfl
theorem wk1_119 (h : L = 119) : wk1 n m b w a c L s = stF w c m s := by subst h; rfl
theorem wk1_66 (h : L = 66) : wk1 n m b w a c L s = stB b a n m s := by subst h; rfl
theorem wk1_87 (h : L = 87) : wk1 n m b w a c L s = stB w c n m s := by subst h; rfl
theorem wk1_else (h1 : ¬ L = 98) (h2 : ¬ L = 119) (h4 : ¬ L = 66) (h5 : ¬ L = 87) : wk1 n m b w a c L s = s := by
  simp only [wk1, if_neg h1, if_neg h2, if_neg h4, if_neg h5]
end
theorem c_spec_WalkOf {n m x y : Int} {b w a c : List Int} {s : List UInt8} (hb : okP b) (hw : okP w) (ha : a.length ≤ 1048576) (hc : c.length ≤ 1048576) (hs : s.length ≤ 1048576) (h0 : covC n b w m a c = 0) (hx : StOk n m (x, y)) (hsp : isSp s = true) :
    PSpec Tryd.prog 9 [vD n b w, .int .i64 m, .sl a.length (vi .i64 a), .sl c.length (vi .i64 c), .int .i64 x, .int .i64 y, .str s] fun v =>
      v = .tup [.own 2 1 2 (vi .i64 [(wkT n m b w a c (x, y) (ub s) s.length).1, (wkT n m b w a c (x, y) (ub s) s.length).2]), .int .i64 0] := by
  have hl := hb.len
  have hk := hw.len
  have hcv := CvOk.of hb hw h0
  obtain ⟨⟨x0, x1⟩, y0, y1⟩ := id hx
  simp only at x0 x1 y0 y1
  have hm := hcv.hm
  have hn := hcv.hn
  have hal := hcv.al
  have hcl := hcv.cl
  refine spec_WalkOf_f.f ?_
  have g1 := c_spec_l09Code (n := n) (m := m) hb hw ha hc
  have g3 := c_spec_l03Value (n := n) hcv.lb hcv.lw hcv.hn hs
  rw [hsp] at g3
  have d1 : decide (0 ≤ x ∧ x ≤ n - 1) = true := by simp only [decide_eq_true_eq]; omega
  have d2 : decide (0 ≤ y ∧ y ≤ m - 1) = true := by simp only [decide_eq_true_eq]; omega
  have k1 := c_spec_l01In (n := x) (a := 0) (b := n - 1)
  have k2 := c_spec_l01In (n := y) (a := 0) (b := m - 1)
  rw [d1] at k1; rw [d2] at k2
  unfold vD at g1 g3 ⊢
  simp (config := { maxSteps := 10000000 }) (disch := first | omega | (simp only [List.length_append, List.length_cons, List.length_nil, List.length_replicate, List.length_set, List.length_take, List.length_drop, vi_len, vb_len, vo_len, vl_len, vn_len]; omega)) only [↓EC, EV, EL, E2, E3, ER, seval, ↓reduceIte, false_imp_iff, spec_WalkOf_F, hl, hk]
  refine pcd_v g1 ?_
  (try simp (disch := first | omega | (simp only [List.length_append, List.length_cons, List.length_nil, List.length_replicate, List.length_set, List.length_take, List.length_drop, vi_len, vb_len, vo_len, vl_len, vn_len]; omega)) only [↓EC, EV, EL, E2, E3, ER, seval, ↓reduceIte, false_imp_iff, hl, hk, h0])
  refine pcd_v k1 ?_
  (try simp (disch := first | omega | (simp only [List.length_append, List.length_cons, List.length_nil, List.length_replicate, List.length_set, List.length_take, List.length_drop, vi_len, vb_len, vo_len, vl_len, vn_len]; omega)) only [↓EC, EV, EL, E2, E3, ER, seval, ↓reduceIte, false_imp_iff, hl, hk])
  refine pcd_v k2 ?_
  (try simp (disch := first | omega | (simp only [List.length_append, List.length_cons, List.length_nil, List.length_replicate, List.length_set, List.length_take, List.length_drop, vi_len, vb_len, vo_len, vl_len, vn_len]; omega)) only [↓EC, EV, EL, E2, E3, ER, seval, ↓reduceIte, false_imp_iff, hl, hk])
  refine pcd_r g3 ?_
  rintro _ ⟨Q, hQ, rfl⟩
  (try simp (disch := first | omega | (simp only [List.length_append, List.length_cons, List.length_nil, List.length_replicate, List.length_set, List.length_take, List.length_drop, vi_len, vb_len, vo_len, vl_len, vn_len]; omega)) only [↓EC, EV, EL, E2, E3, ER, seval, ↓reduceIte, false_imp_iff, hl, hk, hQ, setV_vv])
  have kb : PSpec Tryd.prog 33 [.agg (vi .u8 b), .int .i64 n] fun v => v = .agg (vi .u8 (backP b n)) := c_spec_l01Back hcv.lb hn
  have kw : PSpec Tryd.prog 33 [.agg (vi .u8 w), .int .i64 n] fun v => v = .agg (vi .u8 (backP w n)) := c_spec_l01Back hcv.lw hn
  have blb := (backP_lo (p := b) hn).1
  have blw := (backP_lo (p := w) hn).1
  refine LP_of (σ := Nat) 100000 [(71, 30, 1)] (fun i => [.int .i64 (wkT n m b w a c (x, y) (ub s) i).1, .int .i64 (wkT n m b w a c (x, y) (ub s) i).2, .int .i64 i])
    (fun i => [.int .i64 n :: vi .u8 (b ++ w)])
    (fun i => i ≤ s.length) (fun i => s.length - i) 0 (by simp [frameOk, names, lpz, sclp, scv, scvs, vi_nrf, vb_nrf, vt_nrf, v2_nrf, v3_nrf, nrfs, nrf, sc_vi, sc_vb, sc_vt, sc_v2, sc_v3, sc_vo, sc_vl, vo_nrf, vl_nrf, sc_vn, vn_nrf]) (Nat.zero_le _) ?_ ?_
  · simp (disch := first | omega | (simp only [List.length_append, List.length_cons, List.length_nil, List.length_replicate, List.length_set, List.length_take, List.length_drop, vi_len, vb_len, vo_len, vl_len, vn_len]; omega)) only [↓EC, EV, EL, E2, E3, ER, seval, ↓reduceIte, false_imp_iff, ColV_def]
    rfl
  · rintro i h1
    have hT := wkT_ok hcv (t := ub s) hx i
    have hus : ub (sb [gi (ub s) i]) = [gi (ub s) i] := ub_sb fun j hj => by
      have : j = 0 := by simp at hj; exact hj
      subst this; exact ub_lim
    have hlim := ub_lim (s := s) (i := i)
    obtain ⟨T, hTe⟩ : ∃ T, wkT n m b w a c (x, y) (ub s) i = T := ⟨_, rfl⟩
    simp (disch := first | omega | (simp only [List.length_append, List.length_cons, List.length_nil, List.length_replicate, List.length_set, List.length_take, List.length_drop, vi_len, vb_len, vo_len, vl_len, vn_len]; omega)) only [↓EC, EV, EL, E2, E3, ER, seval, ↓reduceIte, false_imp_iff, ColV_def, lheap_def]
    (refine Split.mk (fun h => ?_) (fun h => ?_) <;> (try simp only [decide_eq_true_eq, decide_eq_false_iff_not, beq_iff_eq, bne_iff_ne, beq_eq_false_iff_ne, bne_eq_false_iff_eq, Bool.not_eq_true', Bool.not_eq_false', Bool.and_eq_true, Bool.or_eq_true, Bool.and_eq_false_iff, Bool.or_eq_false_iff, Int.not_lt, Int.not_le, Bool.false_eq_true, Bool.true_eq_false, false_and, and_false, true_and, and_true, or_false, false_or, or_true, true_or, not_true_eq_false, not_false_eq_true] at h))
    · rw [hTe] at hT ⊢
      (try simp (disch := first | omega | (simp only [List.length_append, List.length_cons, List.length_nil, List.length_replicate, List.length_set, List.length_take, List.length_drop, vi_len, vb_len, vo_len, vl_len, vn_len]; omega)) only [↓EC, EV, EL, E2, E3, ER, seval, ↓reduceIte, false_imp_iff, EB, hl, hk])
      (refine Split.mk (fun h => ?_) (fun h => ?_) <;> (try simp only [decide_eq_true_eq, decide_eq_false_iff_not, beq_iff_eq, bne_iff_ne, beq_eq_false_iff_ne, bne_eq_false_iff_eq, Bool.not_eq_true', Bool.not_eq_false', Bool.and_eq_true, Bool.or_eq_true, Bool.and_eq_false_iff, Bool.or_eq_false_iff, Int.not_lt, Int.not_le, Bool.false_eq_true, Bool.true_eq_false, false_and, and_false, true_and, and_true, or_false, false_or, or_true, true_or, not_true_eq_false, not_false_eq_true] at h))
      · have hL := h
        have hW : wkT n m b w a c (x, y) (ub s) (i + 1) = wkX n m b w a c T [87, 66] 2 := by simp only [wkT, wkL, expL, hTe]; rw [hL]; rfl
        refine LP_of (σ := (Int × Int) × Nat) 200000 [(71, 30, 1)] (fun t => [.int .i64 t.1.1, .int .i64 t.1.2, .int .i64 t.2]) (fun t => [.int .i64 n :: vi .u8 (b ++ w)])
          (fun t => t.2 ≤ 2 ∧ t.1 = wkX n m b w a c T [87, 66] t.2) (fun t => 2 - t.2) (T, 0) (by simp [frameOk, names, lpz, sclp, scv, scvs, vi_nrf, vb_nrf, vt_nrf, v2_nrf, v3_nrf, nrfs, nrf, sc_vi, sc_vb, sc_vt, sc_v2, sc_v3, sc_vo, sc_vl, vo_nrf, vl_nrf, sc_vn, vn_nrf]) ⟨Nat.zero_le _, rfl⟩ ?_ ?_
        · simp (disch := first | omega | (simp only [List.length_append, List.length_cons, List.length_nil, List.length_replicate, List.length_set, List.length_take, List.length_drop, vi_len, vb_len, vo_len, vl_len, vn_len]; omega)) only [↓EC, EV, EL, E2, E3, ER, seval, ↓reduceIte, false_imp_iff, ColV_def]
        · rintro ⟨⟨u, v⟩, k⟩ ⟨j1, j2⟩
          simp only at j1 j2
          have hst := wkX_ok hcv (s := T) (u := [87, 66]) hT k
          rw [← j2] at hst
          obtain ⟨⟨u0, u1⟩, v0, v1⟩ := id hst
          simp only at u0 u1 v0 v1
          have f1 := hcv.av u.toNat (by omega)
          have f2 := hcv.cv u.toNat (by omega)
          have f3 := hcv.bt u.toNat (by omega)
          have f4 := hcv.wt u.toNat (by omega)
          have B1 := backP_lt (p := b) hn u.toNat (by omega)
          have B2 := backP_lt (p := w) hn u.toNat (by omega)
          have f5 := hcv.av (gi (backP b n) u.toNat).toNat (by omega)
          have f6 := hcv.cv (gi (backP w n) u.toNat).toNat (by omega)
          simp (disch := first | omega | (simp only [List.length_append, List.length_cons, List.length_nil, List.length_replicate, List.length_set, List.length_take, List.length_drop, vi_len, vb_len, vo_len, vl_len, vn_len]; omega)) only [↓EC, EV, EL, E2, E3, ER, seval, ↓reduceIte, false_imp_iff, ColV_def, lheap_def]
          (refine Split.mk (fun h => ?_) (fun h => ?_) <;> (try simp only [decide_eq_true_eq, decide_eq_false_iff_not, beq_iff_eq, bne_iff_ne, beq_eq_false_iff_ne, bne_eq_false_iff_eq, Bool.not_eq_true', Bool.not_eq_false', Bool.and_eq_true, Bool.or_eq_true, Bool.and_eq_false_iff, Bool.or_eq_false_iff, Int.not_lt, Int.not_le, Bool.false_eq_true, Bool.true_eq_false, false_and, and_false, true_and, and_true, or_false, false_or, or_true, true_or, not_true_eq_false, not_false_eq_true] at h))
          · have hk2 : k = 0 ∨ k = 1 := by omega
            rcases hk2 with rfl | rfl
            · have E0 : gi (ub [87, 66]) 0 = 87 := rfl
              (try simp (disch := first | omega | (simp only [List.length_append, List.length_cons, List.length_nil, List.length_replicate, List.length_set, List.length_take, List.length_drop, vi_len, vb_len, vo_len, vl_len, vn_len]; omega)) only [↓EC, EV, EL, E2, E3, ER, seval, ↓reduceIte, false_imp_iff, EB, hl, hk, blb, blw, E0])
              refine pcd_v kw ?_
              (try simp (disch := first | omega | (simp only [List.length_append, List.length_cons, List.length_nil, List.length_replicate, List.length_set, List.length_take, List.length_drop, vi_len, vb_len, vo_len, vl_len, vn_len]; omega)) only [↓EC, EV, EL, E2, E3, ER, seval, ↓reduceIte, false_imp_iff, EB, hl, hk, blb, blw, E0])
              exact ⟨(stB w c n m (u, v), 1), rfl, ⟨by simp only; omega, by show _ = wk1 n m b w a c (gi [87, 66] 0) (wkX n m b w a c T [87, 66] 0); rw [← j2]; exact (wk1_87 rfl).symm⟩, by simp only; omega⟩
            · have E0 : gi (ub [87, 66]) 1 = 66 := rfl
              (try simp (disch := first | omega | (simp only [List.length_append, List.length_cons, List.length_nil, List.length_replicate, List.length_set, List.length_take, List.length_drop, vi_len, vb_len, vo_len, vl_len, vn_len]; omega)) only [↓EC, EV, EL, E2, E3, ER, seval, ↓reduceIte, false_imp_iff, EB, hl, hk, blb, blw, E0])
              refine pcd_v kb ?_
              (try simp (disch := first | omega | (simp only [List.length_append, List.length_cons, List.length_nil, List.length_replicate, List.length_set, List.length_take, List.length_drop, vi_len, vb_len, vo_len, vl_len, vn_len]; omega)) only [↓EC, EV, EL, E2, E3, ER, seval, ↓reduceIte, false_imp_iff, EB, hl, hk, blb, blw, E0])
              exact ⟨(stB b a n m (u, v), 2), rfl, ⟨by simp only; omega, by show _ = wk1 n m b w a c (gi [87, 66] 1) (wkX n m b w a c T [87, 66] 1); rw [← j2]; exact (wk1_66 rfl).symm⟩, by simp only; omega⟩
          · (try simp (disch := first | omega | (simp only [List.length_append, List.length_cons, List.length_nil, List.length_replicate, List.length_set, List.length_take, List.length_drop, vi_len, vb_len, vo_len, vl_len, vn_len]; omega)) only [↓EC, EV, EL, E2, E3, ER, seval, ↓reduceIte, false_imp_iff])
            obtain rfl : k = 2 := by omega
            refine ⟨i + 1, ?_, by omega, by omega⟩
            rw [hW, ← j2]
            simp
      have h102 := h
      (try simp (disch := first | omega | (simp only [List.length_append, List.length_cons, List.length_nil, List.length_replicate, List.length_set, List.length_take, List.length_drop, vi_len, vb_len, vo_len, vl_len, vn_len]; omega)) only [↓EC, EV, EL, E2, E3, ER, seval, ↓reduceIte, false_imp_iff, EB, hl, hk])
      (refine Split.mk (fun h => ?_) (fun h => ?_) <;> (try simp only [decide_eq_true_eq, decide_eq_false_iff_not, beq_iff_eq, bne_iff_ne, beq_eq_false_iff_ne, bne_eq_false_iff_eq, Bool.not_eq_true', Bool.not_eq_false', Bool.and_eq_true, Bool.or_eq_true, Bool.and_eq_false_iff, Bool.or_eq_false_iff, Int.not_lt, Int.not_le, Bool.false_eq_true, Bool.true_eq_false, false_and, and_false, true_and, and_true, or_false, false_or, or_true, true_or, not_true_eq_false, not_false_eq_true] at h))
      · have hL := h
        have hW : wkT n m b w a c (x, y) (ub s) (i + 1) = wkX n m b w a c T [98, 119] 2 := by simp only [wkT, wkL, expL, hTe]; rw [hL]; rfl
        refine LP_of (σ := (Int × Int) × Nat) 200000 [(71, 30, 1)] (fun t => [.int .i64 t.1.1, .int .i64 t.1.2, .int .i64 t.2]) (fun t => [.int .i64 n :: vi .u8 (b ++ w)])
          (fun t => t.2 ≤ 2 ∧ t.1 = wkX n m b w a c T [98, 119] t.2) (fun t => 2 - t.2) (T, 0) (by simp [frameOk, names, lpz, sclp, scv, scvs, vi_nrf, vb_nrf, vt_nrf, v2_nrf, v3_nrf, nrfs, nrf, sc_vi, sc_vb, sc_vt, sc_v2, sc_v3, sc_vo, sc_vl, vo_nrf, vl_nrf, sc_vn, vn_nrf]) ⟨Nat.zero_le _, rfl⟩ ?_ ?_
        · simp (disch := first | omega | (simp only [List.length_append, List.length_cons, List.length_nil, List.length_replicate, List.length_set, List.length_take, List.length_drop, vi_len, vb_len, vo_len, vl_len, vn_len]; omega)) only [↓EC, EV, EL, E2, E3, ER, seval, ↓reduceIte, false_imp_iff, ColV_def]
        · rintro ⟨⟨u, v⟩, k⟩ ⟨j1, j2⟩
          simp only at j1 j2
          have hst := wkX_ok hcv (s := T) (u := [98, 119]) hT k
          rw [← j2] at hst
          obtain ⟨⟨u0, u1⟩, v0, v1⟩ := id hst
          simp only at u0 u1 v0 v1
          have f1 := hcv.av u.toNat (by omega)
          have f2 := hcv.cv u.toNat (by omega)
          have f3 := hcv.bt u.toNat (by omega)
          have f4 := hcv.wt u.toNat (by omega)
          have B1 := backP_lt (p := b) hn u.toNat (by omega)
          have B2 := backP_lt (p := w) hn u.toNat (by omega)
          have f5 := hcv.av (gi (backP b n) u.toNat).toNat (by omega)
          have f6 := hcv.cv (gi (backP w n) u.toNat).toNat (by omega)
          simp (disch := first | omega | (simp only [List.length_append, List.length_cons, List.length_nil, List.length_replicate, List.length_set, List.length_take, List.length_drop, vi_len, vb_len, vo_len, vl_len, vn_len]; omega)) only [↓EC, EV, EL, E2, E3, ER, seval, ↓reduceIte, false_imp_iff, ColV_def, lheap_def]
          (refine Split.mk (fun h => ?_) (fun h => ?_) <;> (try simp only [decide_eq_true_eq, decide_eq_false_iff_not, beq_iff_eq, bne_iff_ne, beq_eq_false_iff_ne, bne_eq_false_iff_eq, Bool.not_eq_true', Bool.not_eq_false', Bool.and_eq_true, Bool.or_eq_true, Bool.and_eq_false_iff, Bool.or_eq_false_iff, Int.not_lt, Int.not_le, Bool.false_eq_true, Bool.true_eq_false, false_and, and_false, true_and, and_true, or_false, false_or, or_true, true_or, not_true_eq_false, not_false_eq_true] at h))
          · have hk2 : k = 0 ∨ k = 1 := by omega
            rcases hk2 with rfl | rfl
            · have E0 : gi (ub [98, 119]) 0 = 98 := rfl
              (try simp (disch := first | omega | (simp only [List.length_append, List.length_cons, List.length_nil, List.length_replicate, List.length_set, List.length_take, List.length_drop, vi_len, vb_len, vo_len, vl_len, vn_len]; omega)) only [↓EC, EV, EL, E2, E3, ER, seval, ↓reduceIte, false_imp_iff, EB, hl, hk, blb, blw, E0])
              exact ⟨(stF b a m (u, v), 1), rfl, ⟨by simp only; omega, by show _ = wk1 n m b w a c (gi [98, 119] 0) (wkX n m b w a c T [98, 119] 0); rw [← j2]; exact (wk1_98 rfl).symm⟩, by simp only; omega⟩
            · have E0 : gi (ub [98, 119]) 1 = 119 := rfl
              (try simp (disch := first | omega | (simp only [List.length_append, List.length_cons, List.length_nil, List.length_replicate, List.length_set, List.length_take, List.length_drop, vi_len, vb_len, vo_len, vl_len, vn_len]; omega)) only [↓EC, EV, EL, E2, E3, ER, seval, ↓reduceIte, false_imp_iff, EB, hl, hk, blb, blw, E0])
              exact ⟨(stF w c m (u, v), 2), rfl, ⟨by simp only; omega, by show _ = wk1 n m b w a c (gi [98, 119] 1) (wkX n m b w a c T [98, 119] 1); rw [← j2]; exact (wk1_119 rfl).symm⟩, by simp only; omega⟩
          · (try simp (disch := first | omega | (simp only [List.length_append, List.length_cons, List.length_nil, List.length_replicate, List.length_set, List.length_take, List.length_drop, vi_len, vb_len, vo_len, vl_len, vn_len]; omega)) only [↓EC, EV, EL, E2, E3, ER, seval, ↓reduceIte, false_imp_iff])
            obtain rfl : k = 2 := by omega
            refine ⟨i + 1, ?_, by omega, by omega⟩
            rw [hW, ← j2]
            simp
      · have h70 := h
        have hW : wkT n m b w a c (x, y) (ub s) (i + 1) = wkX n m b w a c T [gi (ub s) i] 1 := by simp only [wkT, wkL, expL, hTe]; rw [if_neg h102, if_neg h70]; rfl
        have hsl : (sb [gi (ub s) i]).length = 1 := sb_len
        refine LP_of (σ := (Int × Int) × Nat) 200000 [(71, 30, 1)] (fun t => [.int .i64 t.1.1, .int .i64 t.1.2, .int .i64 t.2]) (fun t => [.int .i64 n :: vi .u8 (b ++ w)])
          (fun t => t.2 ≤ 1 ∧ t.1 = wkX n m b w a c T [gi (ub s) i] t.2) (fun t => 1 - t.2) (T, 0) (by simp [frameOk, names, lpz, sclp, scv, scvs, vi_nrf, vb_nrf, vt_nrf, v2_nrf, v3_nrf, nrfs, nrf, sc_vi, sc_vb, sc_vt, sc_v2, sc_v3, sc_vo, sc_vl, vo_nrf, vl_nrf, sc_vn, vn_nrf]) ⟨Nat.zero_le _, rfl⟩ ?_ ?_
        · simp (disch := first | omega | (simp only [List.length_append, List.length_cons, List.length_nil, List.length_replicate, List.length_set, List.length_take, List.length_drop, vi_len, vb_len, vo_len, vl_len, vn_len]; omega)) only [↓EC, EV, EL, E2, E3, ER, seval, ↓reduceIte, false_imp_iff, ColV_def]
        · rintro ⟨⟨u, v⟩, k⟩ ⟨j1, j2⟩
          simp only at j1 j2
          have hst := wkX_ok hcv (s := T) (u := [gi (ub s) i]) hT k
          rw [← j2] at hst
          obtain ⟨⟨u0, u1⟩, v0, v1⟩ := id hst
          simp only at u0 u1 v0 v1
          have f1 := hcv.av u.toNat (by omega)
          have f2 := hcv.cv u.toNat (by omega)
          have f3 := hcv.bt u.toNat (by omega)
          have f4 := hcv.wt u.toNat (by omega)
          have B1 := backP_lt (p := b) hn u.toNat (by omega)
          have B2 := backP_lt (p := w) hn u.toNat (by omega)
          have f5 := hcv.av (gi (backP b n) u.toNat).toNat (by omega)
          have f6 := hcv.cv (gi (backP w n) u.toNat).toNat (by omega)
          simp (disch := first | omega | (simp only [List.length_append, List.length_cons, List.length_nil, List.length_replicate, List.length_set, List.length_take, List.length_drop, vi_len, vb_len, vo_len, vl_len, vn_len]; omega)) only [↓EC, EV, EL, E2, E3, ER, seval, ↓reduceIte, false_imp_iff, ColV_def, lheap_def]
          (refine Split.mk (fun h => ?_) (fun h => ?_) <;> (try simp only [decide_eq_true_eq, decide_eq_false_iff_not, beq_iff_eq, bne_iff_ne, beq_eq_false_iff_ne, bne_eq_false_iff_eq, Bool.not_eq_true', Bool.not_eq_false', Bool.and_eq_true, Bool.or_eq_true, Bool.and_eq_false_iff, Bool.or_eq_false_iff, Int.not_lt, Int.not_le, Bool.false_eq_true, Bool.true_eq_false, false_and, and_false, true_and, and_true, or_false, false_or, or_true, true_or, not_true_eq_false, not_false_eq_true] at h))
          · have hk2 : k = 0 := by omega
            subst hk2
            have E0 : gi (ub (sb [gi (ub s) i])) 0 = gi (ub s) i := by rw [hus]; rfl
            (try simp (disch := first | omega | (simp only [List.length_append, List.length_cons, List.length_nil, List.length_replicate, List.length_set, List.length_take, List.length_drop, vi_len, vb_len, vo_len, vl_len, vn_len]; omega)) only [↓EC, EV, EL, E2, E3, ER, seval, ↓reduceIte, false_imp_iff, EB, hl, hk, blb, blw, E0])
            (refine Split.mk (fun h => ?_) (fun h => ?_) <;> (try simp only [decide_eq_true_eq, decide_eq_false_iff_not, beq_iff_eq, bne_iff_ne, beq_eq_false_iff_ne, bne_eq_false_iff_eq, Bool.not_eq_true', Bool.not_eq_false', Bool.and_eq_true, Bool.or_eq_true, Bool.and_eq_false_iff, Bool.or_eq_false_iff, Int.not_lt, Int.not_le, Bool.false_eq_true, Bool.true_eq_false, false_and, and_false, true_and, and_true, or_false, false_or, or_true, true_or, not_true_eq_false, not_false_eq_true] at h))
            · have q98 := h
              (try simp (disch := first | omega | (simp only [List.length_append, List.length_cons, List.length_nil, List.length_replicate, List.length_set, List.length_take, List.length_drop, vi_len, vb_len, vo_len, vl_len, vn_len]; omega)) only [↓EC, EV, EL, E2, E3, ER, seval, ↓reduceIte, false_imp_iff, EB, hl, hk, blb, blw])
              exact ⟨(stF b a m (u, v), 1), rfl, ⟨by simp only; omega, by show _ = wk1 n m b w a c (gi [gi (ub s) i] 0) (wkX n m b w a c T [gi (ub s) i] 0); rw [← j2]; exact (wk1_98 q98).symm⟩, by simp only; omega⟩
            have q98 := h
            (try simp (disch := first | omega | (simp only [List.length_append, List.length_cons, List.length_nil, List.length_replicate, List.length_set, List.length_take, List.length_drop, vi_len, vb_len, vo_len, vl_len, vn_len]; omega)) only [↓EC, EV, EL, E2, E3, ER, seval, ↓reduceIte, false_imp_iff, EB, hl, hk, blb, blw])
            (refine Split.mk (fun h => ?_) (fun h => ?_) <;> (try simp only [decide_eq_true_eq, decide_eq_false_iff_not, beq_iff_eq, bne_iff_ne, beq_eq_false_iff_ne, bne_eq_false_iff_eq, Bool.not_eq_true', Bool.not_eq_false', Bool.and_eq_true, Bool.or_eq_true, Bool.and_eq_false_iff, Bool.or_eq_false_iff, Int.not_lt, Int.not_le, Bool.false_eq_true, Bool.true_eq_false, false_and, and_false, true_and, and_true, or_false, false_or, or_true, true_or, not_true_eq_false, not_false_eq_true] at h))
            · have q119 := h
              (try simp (disch := first | omega | (simp only [List.length_append, List.length_cons, List.length_nil, List.length_replicate, List.length_set, List.length_take, List.length_drop, vi_len, vb_len, vo_len, vl_len, vn_len]; omega)) only [↓EC, EV, EL, E2, E3, ER, seval, ↓reduceIte, false_imp_iff, EB, hl, hk, blb, blw])
              exact ⟨(stF w c m (u, v), 1), rfl, ⟨by simp only; omega, by show _ = wk1 n m b w a c (gi [gi (ub s) i] 0) (wkX n m b w a c T [gi (ub s) i] 0); rw [← j2]; exact (wk1_119 q119).symm⟩, by simp only; omega⟩
            have q119 := h
            (try simp (disch := first | omega | (simp only [List.length_append, List.length_cons, List.length_nil, List.length_replicate, List.length_set, List.length_take, List.length_drop, vi_len, vb_len, vo_len, vl_len, vn_len]; omega)) only [↓EC, EV, EL, E2, E3, ER, seval, ↓reduceIte, false_imp_iff, EB, hl, hk, blb, blw])
            (refine Split.mk (fun h => ?_) (fun h => ?_) <;> (try simp only [decide_eq_true_eq, decide_eq_false_iff_not, beq_iff_eq, bne_iff_ne, beq_eq_false_iff_ne, bne_eq_false_iff_eq, Bool.not_eq_true', Bool.not_eq_false', Bool.and_eq_true, Bool.or_eq_true, Bool.and_eq_false_iff, Bool.or_eq_false_iff, Int.not_lt, Int.not_le, Bool.false_eq_true, Bool.true_eq_false, false_and, and_false, true_and, and_true, or_false, false_or, or_true, true_or, not_true_eq_false, not_false_eq_true] at h))
            · have q66 := h
              (try simp (disch := first | omega | (simp only [List.length_append, List.length_cons, List.length_nil, List.length_replicate, List.length_set, List.length_take, List.length_drop, vi_len, vb_len, vo_len, vl_len, vn_len]; omega)) only [↓EC, EV, EL, E2, E3, ER, seval, ↓reduceIte, false_imp_iff, EB, hl, hk, blb, blw])
              refine pcd_v kb ?_
              (try simp (disch := first | omega | (simp only [List.length_append, List.length_cons, List.length_nil, List.length_replicate, List.length_set, List.length_take, List.length_drop, vi_len, vb_len, vo_len, vl_len, vn_len]; omega)) only [↓EC, EV, EL, E2, E3, ER, seval, ↓reduceIte, false_imp_iff, EB, hl, hk, blb, blw])
              exact ⟨(stB b a n m (u, v), 1), rfl, ⟨by simp only; omega, by show _ = wk1 n m b w a c (gi [gi (ub s) i] 0) (wkX n m b w a c T [gi (ub s) i] 0); rw [← j2]; exact (wk1_66 q66).symm⟩, by simp only; omega⟩
            have q66 := h
            (try simp (disch := first | omega | (simp only [List.length_append, List.length_cons, List.length_nil, List.length_replicate, List.length_set, List.length_take, List.length_drop, vi_len, vb_len, vo_len, vl_len, vn_len]; omega)) only [↓EC, EV, EL, E2, E3, ER, seval, ↓reduceIte, false_imp_iff, EB, hl, hk, blb, blw])
            (refine Split.mk (fun h => ?_) (fun h => ?_) <;> (try simp only [decide_eq_true_eq, decide_eq_false_iff_not, beq_iff_eq, bne_iff_ne, beq_eq_false_iff_ne, bne_eq_false_iff_eq, Bool.not_eq_true', Bool.not_eq_false', Bool.and_eq_true, Bool.or_eq_true, Bool.and_eq_false_iff, Bool.or_eq_false_iff, Int.not_lt, Int.not_le, Bool.false_eq_true, Bool.true_eq_false, false_and, and_false, true_and, and_true, or_false, false_or, or_true, true_or, not_true_eq_false, not_false_eq_true] at h))
            · have q87 := h
              (try simp (disch := first | omega | (simp only [List.length_append, List.length_cons, List.length_nil, List.length_replicate, List.length_set, List.length_take, List.length_drop, vi_len, vb_len, vo_len, vl_len, vn_len]; omega)) only [↓EC, EV, EL, E2, E3, ER, seval, ↓reduceIte, false_imp_iff, EB, hl, hk, blb, blw])
              refine pcd_v kw ?_
              (try simp (disch := first | omega | (simp only [List.length_append, List.length_cons, List.length_nil, List.length_replicate, List.length_set, List.length_take, List.length_drop, vi_len, vb_len, vo_len, vl_len, vn_len]; omega)) only [↓EC, EV, EL, E2, E3, ER, seval, ↓reduceIte, false_imp_iff, EB, hl, hk, blb, blw])
              exact ⟨(stB w c n m (u, v), 1), rfl, ⟨by simp only; omega, by show _ = wk1 n m b w a c (gi [gi (ub s) i] 0) (wkX n m b w a c T [gi (ub s) i] 0); rw [← j2]; exact (wk1_87 q87).symm⟩, by simp only; omega⟩
            · have q87 := h
              (try simp (disch := first | omega | (simp only [List.length_append, List.length_cons, List.length_nil, List.length_replicate, List.length_set, List.length_take, List.length_drop, vi_len, vb_len, vo_len, vl_len, vn_len]; omega)) only [↓EC, EV, EL, E2, E3, ER, seval, ↓reduceIte, false_imp_iff, EB, hl, hk, blb, blw])
              exact ⟨((u, v), 1), rfl, ⟨by simp only; omega, by show _ = wk1 n m b w a c (gi [gi (ub s) i] 0) (wkX n m b w a c T [gi (ub s) i] 0); rw [← j2]; exact (wk1_else q98 q119 q66 q87).symm⟩, by simp only; omega⟩
          · (try simp (disch := first | omega | (simp only [List.length_append, List.length_cons, List.length_nil, List.length_replicate, List.length_set, List.length_take, List.length_drop, vi_len, vb_len, vo_len, vl_len, vn_len]; omega)) only [↓EC, EV, EL, E2, E3, ER, seval, ↓reduceIte, false_imp_iff])
            obtain rfl : k = 1 := by omega
            refine ⟨i + 1, ?_, by omega, by omega⟩
            rw [hW, ← j2]
            simp
    · have : i = s.length := by omega
      subst this
      (try simp (disch := first | omega | (simp only [List.length_append, List.length_cons, List.length_nil, List.length_replicate, List.length_set, List.length_take, List.length_drop, vi_len, vb_len, vo_len, vl_len, vn_len]; omega)) only [↓EC, EV, EL, E2, E3, ER, seval, ↓reduceIte, false_imp_iff])
      rfl
end Go.Proofs.YtjcllfkkjagomaaDoor.Sep

/- What BoundariesOf computes. -/
import Derived.Test.YteiiohmcamoldaaC27
import Derived.Test.YteiiohmcamoldaaC29
namespace Go.Proofs.Yteiiohmcamoldaa.Sep
open Go.RowKit
set_option linter.unusedVariables false
set_option linter.unusedSimpArgs false
set_option maxRecDepth 20000

theorem isD.lo {n : Int} {b w : List Int} (hb : okP b) (hw : okP w) (h : isD n b w) : lo16 b ∧ lo16 w ∧ (1 ≤ n ∧ n ≤ 16) := ⟨h.pb.lo hb, h.pw.lo hw, h.pb.1⟩
theorem c_impl_BoundariesOf {n : Int} {b w : List Int} (hb : okP b) (hw : okP w) (h0 : isDB n b w = true) : PSpec Try.prog 44 [vD n b w] fun v => v = .tup [.own 26 1 (bndL b w n).length (vo 2 (bndL b w n)), .int .i64 0] := by
  have hl := hb.len
  have hk := hw.len
  obtain ⟨lb, lw, hn⟩ := (isDB_iff.1 h0).lo hb hw
  refine impl_BoundariesOf_f.f ?_
  unfold vD
  simp (disch := first | omega | (simp only [List.length_append, List.length_cons, List.length_nil, List.length_replicate, List.length_set, List.length_take, List.length_drop, vi_len, vb_len, vo_len, vl_len, vn_len]; omega)) only [↓EC, EV, EL, E2, E3, ER, seval, ↓reduceIte, false_imp_iff, impl_BoundariesOf_F, hl, hk]
  refine pcd_v (c_impl_IsDessin hb hw) ?_
  (try simp (disch := first | omega | (simp only [List.length_append, List.length_cons, List.length_nil, List.length_replicate, List.length_set, List.length_take, List.length_drop, vi_len, vb_len, vo_len, vl_len, vn_len]; omega)) only [↓EC, EV, EL, E2, E3, ER, seval, ↓reduceIte, false_imp_iff, hl, hk, h0])
  refine pcd_v (c_impl_face lb lw hn) ?_
  (try simp (disch := first | omega | (simp only [List.length_append, List.length_cons, List.length_nil, List.length_replicate, List.length_set, List.length_take, List.length_drop, vi_len, vb_len, vo_len, vl_len, vn_len]; omega)) only [↓EC, EV, EL, E2, E3, ER, seval, ↓reduceIte, false_imp_iff, hl, hk])
  refine pcd_v (c_impl_cycles (backP_lo hn) hn) ?_
  (try simp (disch := first | omega | (simp only [List.length_append, List.length_cons, List.length_nil, List.length_replicate, List.length_set, List.length_take, List.length_drop, vi_len, vb_len, vo_len, vl_len, vn_len]; omega)) only [↓EC, EV, EL, E2, E3, ER, seval, ↓reduceIte, false_imp_iff, hl, hk])
  have hcl : ∀ l ∈ cyc (faceP b w n) n, (∀ y ∈ l, 0 ≤ y ∧ y < n) ∧ l.length ≤ 16 := cycO_lt (backP_lt (p := thenP b w n) hn) n.toNat (by omega)
  have hcn : (cyc (faceP b w n) n).length ≤ 16 := Nat.le_trans (cycO_len (p := faceP b w n) n.toNat).2 (by omega)
  unfold bndL
  generalize cyc (faceP b w n) n = C at *
  refine LP_ofE (σ := Nat) [1, 1] 100000 [(65, 25, 1)] (fun s => [.own 26 1 s (vo 2 ((C.take s).map fun c => chT b n c c.length)), .int .i64 s]) (fun s => [.int .i64 n :: vi .u8 (b ++ w)])
    (fun s => s ≤ C.length) (fun s => C.length - s) 0 (by simp [frameOk, names, lpz, sclp, scv, scvs, vi_nrf, vb_nrf, vt_nrf, v2_nrf, v3_nrf, nrfs, nrf, sc_vi, sc_vb, sc_vt, sc_v2, sc_v3, sc_vo, sc_vl, vo_nrf, vl_nrf, sc_vn, vn_nrf]) (Nat.zero_le _) ?_ ?_
  · simp (disch := first | omega | (simp only [List.length_append, List.length_cons, List.length_nil, List.length_replicate, List.length_set, List.length_take, List.length_drop, vi_len, vb_len, vo_len, vl_len, vn_len]; omega)) only [↓EC, EV, EL, E2, E3, ER, seval, ↓reduceIte, false_imp_iff, ColV_def]
    exact ⟨fun _ => trivial, trivial⟩
  · rintro i h1
    simp (disch := first | omega | (simp only [List.length_append, List.length_cons, List.length_nil, List.length_replicate, List.length_set, List.length_take, List.length_drop, vi_len, vb_len, vo_len, vl_len, vn_len]; omega)) only [↓EC, EV, EL, E2, E3, ER, seval, ↓reduceIte, false_imp_iff, ColV_def, lheap_def]
    (refine Split.mk (fun h => ?_) (fun h => ?_) <;> (try simp only [decide_eq_true_eq, decide_eq_false_iff_not, beq_iff_eq, bne_iff_ne, beq_eq_false_iff_ne, bne_eq_false_iff_eq, Bool.not_eq_true', Bool.not_eq_false', Bool.and_eq_true, Bool.or_eq_true, Bool.and_eq_false_iff, Bool.or_eq_false_iff, Int.not_lt, Int.not_le, Bool.false_eq_true, Bool.true_eq_false, false_and, and_false, true_and, and_true, or_false, false_or, or_true, true_or, not_true_eq_false, not_false_eq_true] at h))
    · have hi : i < C.length := by omega
      have hci := hcl _ (gl_mem hi)
      (try simp (disch := first | omega | (simp only [List.length_append, List.length_cons, List.length_nil, List.length_replicate, List.length_set, List.length_take, List.length_drop, vi_len, vb_len, vo_len, vl_len, vn_len]; omega)) only [↓EC, EV, EL, E2, E3, ER, seval, ↓reduceIte, false_imp_iff, hl, hk])
      refine LP_of (σ := Nat) 200000 [(65, 25, 1), (90, 2, 1), (100000, 26, 1)] (fun s => [.int .i64 s])
        (fun s => [.int .i64 n :: vi .u8 (b ++ w), vi .i64 (chT b n (gl C i) s), vo 2 ((C.take i).map fun c => chT b n c c.length)])
        (fun s => s ≤ (gl C i).length) (fun s => (gl C i).length - s) 0 (by simp [frameOk, names, lpz, sclp, scv, scvs, vi_nrf, vb_nrf, vt_nrf, v2_nrf, v3_nrf, nrfs, nrf, sc_vi, sc_vb, sc_vt, sc_v2, sc_v3, sc_vo, sc_vl, vo_nrf, vl_nrf, sc_vn, vn_nrf]) (Nat.zero_le _) ?_ ?_
      · simp (disch := first | omega | (simp only [List.length_append, List.length_cons, List.length_nil, List.length_replicate, List.length_set, List.length_take, List.length_drop, vi_len, vb_len, vo_len, vl_len, vn_len]; omega)) only [↓EC, EV, EL, E2, E3, ER, seval, ↓reduceIte, false_imp_iff, ColV_def]
        rfl
      · rintro s g1
        have hlt := chT_len (b := b) (n := n) (c := gl C i) s
        simp (disch := first | omega | (simp only [List.length_append, List.length_cons, List.length_nil, List.length_replicate, List.length_set, List.length_take, List.length_drop, vi_len, vb_len, vo_len, vl_len, vn_len]; omega)) only [↓EC, EV, EL, E2, E3, ER, seval, ↓reduceIte, false_imp_iff, ColV_def, lheap_def]
        (refine Split.mk (fun h => ?_) (fun h => ?_) <;> (try simp only [decide_eq_true_eq, decide_eq_false_iff_not, beq_iff_eq, bne_iff_ne, beq_eq_false_iff_ne, bne_eq_false_iff_eq, Bool.not_eq_true', Bool.not_eq_false', Bool.and_eq_true, Bool.or_eq_true, Bool.and_eq_false_iff, Bool.or_eq_false_iff, Int.not_lt, Int.not_le, Bool.false_eq_true, Bool.true_eq_false, false_and, and_false, true_and, and_true, or_false, false_or, or_true, true_or, not_true_eq_false, not_false_eq_true] at h))
        · have hs : s < (gl C i).length := by omega
          have hv := hci.1 (gi (gl C i) s) (by rw [gi_of hs]; exact List.getElem_mem hs)
          have hbv := (isDB_iff.1 h0).pb.ltP hb (gi (gl C i) s).toNat (by omega)
          have q1 := chT_lim (b := b) (n := n) (c := gl C i) s (gi b (gi (gl C i) s).toNat).toNat
          have q2 := chT_lim (b := b) (n := n) (c := gl C i) s (gi (gl C i) s).toNat
          have q3 : -(2 * (s : Int) + 1) ≤ gi ((chT b n (gl C i) s).set (gi b (gi (gl C i) s).toNat).toNat (gi (chT b n (gl C i) s) (gi b (gi (gl C i) s).toNat).toNat + 1)) (gi (gl C i) s).toNat := by
            rw [gi_set]; split <;> omega
          have q4 : gi ((chT b n (gl C i) s).set (gi b (gi (gl C i) s).toNat).toNat (gi (chT b n (gl C i) s) (gi b (gi (gl C i) s).toNat).toNat + 1)) (gi (gl C i) s).toNat ≤ 2 * (s : Int) + 1 := by
            rw [gi_set]; split <;> omega
          have q5 := hci.2
          (try simp (disch := first | omega | (simp only [List.length_append, List.length_cons, List.length_nil, List.length_replicate, List.length_set, List.length_take, List.length_drop, vi_len, vb_len, vo_len, vl_len, vn_len]; omega)) only [↓EC, EV, EL, E2, E3, ER, seval, ↓reduceIte, false_imp_iff, hl, hk])
          exact ⟨s + 1, rfl, rfl, by omega, by omega⟩
        · have hml : ((C.take i).map fun c => chT b n c c.length).length = i := by simp; omega
          have hse : s = (gl C i).length := by omega
          subst hse
          (try simp (disch := first | omega | (simp only [List.length_append, List.length_cons, List.length_nil, List.length_replicate, List.length_set, List.length_take, List.length_drop, vi_len, vb_len, vo_len, vl_len, vn_len]; omega)) only [↓EC, EV, EL, E2, E3, ER, seval, ↓reduceIte, false_imp_iff, hml])
          refine ⟨i + 1, ?_, by omega, by omega⟩
          rw [take_gl hi, List.map_append]
          rfl
    · have hie : i = C.length := by omega
      subst hie
      (try simp (disch := first | omega | (simp only [List.length_append, List.length_cons, List.length_nil, List.length_replicate, List.length_set, List.length_take, List.length_drop, vi_len, vb_len, vo_len, vl_len, vn_len]; omega)) only [↓EC, EV, EL, E2, E3, ER, seval, ↓reduceIte, false_imp_iff, List.length_map])
      rw [List.take_of_length_le (by simp)]
theorem c_spec_BoundariesOf {n : Int} {b w : List Int} (hb : okP b) (hw : okP w) (h0 : isDB n b w = true) : PSpec Try.prog 43 [vD n b w] fun v => v = .tup [.own 26 1 (bndL b w n).length (vo 2 (bndL b w n)), .int .i64 0] := by
  have hl := hb.len
  have hk := hw.len
  obtain ⟨lb, lw, hn⟩ := (isDB_iff.1 h0).lo hb hw
  refine spec_BoundariesOf_f.f ?_
  unfold vD
  simp (disch := first | omega | (simp only [List.length_append, List.length_cons, List.length_nil, List.length_replicate, List.length_set, List.length_take, List.length_drop, vi_len, vb_len, vo_len, vl_len, vn_len]; omega)) only [↓EC, EV, EL, E2, E3, ER, seval, ↓reduceIte, false_imp_iff, spec_BoundariesOf_F, hl, hk]
  refine pcd_v (c_spec_l01Is hb hw) ?_
  (try simp (disch := first | omega | (simp only [List.length_append, List.length_cons, List.length_nil, List.length_replicate, List.length_set, List.length_take, List.length_drop, vi_len, vb_len, vo_len, vl_len, vn_len]; omega)) only [↓EC, EV, EL, E2, E3, ER, seval, ↓reduceIte, false_imp_iff, hl, hk, h0])
  refine pcd_v (c_spec_l01Face lb lw hn) ?_
  (try simp (disch := first | omega | (simp only [List.length_append, List.length_cons, List.length_nil, List.length_replicate, List.length_set, List.length_take, List.length_drop, vi_len, vb_len, vo_len, vl_len, vn_len]; omega)) only [↓EC, EV, EL, E2, E3, ER, seval, ↓reduceIte, false_imp_iff, hl, hk])
  refine pcd_v (c_spec_l01Cycles (backP_lo hn) hn) ?_
  (try simp (disch := first | omega | (simp only [List.length_append, List.length_cons, List.length_nil, List.length_replicate, List.length_set, List.length_take, List.length_drop, vi_len, vb_len, vo_len, vl_len, vn_len]; omega)) only [↓EC, EV, EL, E2, E3, ER, seval, ↓reduceIte, false_imp_iff, hl, hk])
  have hcl : ∀ l ∈ cyc (faceP b w n) n, (∀ y ∈ l, 0 ≤ y ∧ y < n) ∧ l.length ≤ 16 := cycO_lt (backP_lt (p := thenP b w n) hn) n.toNat (by omega)
  have hcn : (cyc (faceP b w n) n).length ≤ 16 := Nat.le_trans (cycO_len (p := faceP b w n) n.toNat).2 (by omega)
  unfold bndL
  generalize cyc (faceP b w n) n = C at *
  refine LP_ofE (σ := Nat) [1, 1] 100000 [(65, 25, 1)] (fun s => [.own 26 1 s (vo 2 ((C.take s).map fun c => chT b n c c.length)), .int .i64 s]) (fun s => [.int .i64 n :: vi .u8 (b ++ w)])
    (fun s => s ≤ C.length) (fun s => C.length - s) 0 (by simp [frameOk, names, lpz, sclp, scv, scvs, vi_nrf, vb_nrf, vt_nrf, v2_nrf, v3_nrf, nrfs, nrf, sc_vi, sc_vb, sc_vt, sc_v2, sc_v3, sc_vo, sc_vl, vo_nrf, vl_nrf, sc_vn, vn_nrf]) (Nat.zero_le _) ?_ ?_
  · simp (disch := first | omega | (simp only [List.length_append, List.length_cons, List.length_nil, List.length_replicate, List.length_set, List.length_take, List.length_drop, vi_len, vb_len, vo_len, vl_len, vn_len]; omega)) only [↓EC, EV, EL, E2, E3, ER, seval, ↓reduceIte, false_imp_iff, ColV_def]
    exact ⟨fun _ => trivial, trivial⟩
  · rintro i h1
    simp (disch := first | omega | (simp only [List.length_append, List.length_cons, List.length_nil, List.length_replicate, List.length_set, List.length_take, List.length_drop, vi_len, vb_len, vo_len, vl_len, vn_len]; omega)) only [↓EC, EV, EL, E2, E3, ER, seval, ↓reduceIte, false_imp_iff, ColV_def, lheap_def]
    (refine Split.mk (fun h => ?_) (fun h => ?_) <;> (try simp only [decide_eq_true_eq, decide_eq_false_iff_not, beq_iff_eq, bne_iff_ne, beq_eq_false_iff_ne, bne_eq_false_iff_eq, Bool.not_eq_true', Bool.not_eq_false', Bool.and_eq_true, Bool.or_eq_true, Bool.and_eq_false_iff, Bool.or_eq_false_iff, Int.not_lt, Int.not_le, Bool.false_eq_true, Bool.true_eq_false, false_and, and_false, true_and, and_true, or_false, false_or, or_true, true_or, not_true_eq_false, not_false_eq_true] at h))
    · have hi : i < C.length := by omega
      have hci := hcl _ (gl_mem hi)
      (try simp (disch := first | omega | (simp only [List.length_append, List.length_cons, List.length_nil, List.length_replicate, List.length_set, List.length_take, List.length_drop, vi_len, vb_len, vo_len, vl_len, vn_len]; omega)) only [↓EC, EV, EL, E2, E3, ER, seval, ↓reduceIte, false_imp_iff, hl, hk])
      refine LP_of (σ := Nat) 200000 [(65, 25, 1), (91, 2, 1), (100000, 26, 1)] (fun s => [.int .i64 s])
        (fun s => [.int .i64 n :: vi .u8 (b ++ w), vi .i64 (chT b n (gl C i) s), vo 2 ((C.take i).map fun c => chT b n c c.length)])
        (fun s => s ≤ (gl C i).length) (fun s => (gl C i).length - s) 0 (by simp [frameOk, names, lpz, sclp, scv, scvs, vi_nrf, vb_nrf, vt_nrf, v2_nrf, v3_nrf, nrfs, nrf, sc_vi, sc_vb, sc_vt, sc_v2, sc_v3, sc_vo, sc_vl, vo_nrf, vl_nrf, sc_vn, vn_nrf]) (Nat.zero_le _) ?_ ?_
      · simp (disch := first | omega | (simp only [List.length_append, List.length_cons, List.length_nil, List.length_replicate, List.length_set, List.length_take, List.length_drop, vi_len, vb_len, vo_len, vl_len, vn_len]; omega)) only [↓EC, EV, EL, E2, E3, ER, seval, ↓reduceIte, false_imp_iff, ColV_def]
        rfl
      · rintro s g1
        have hlt := chT_len (b := b) (n := n) (c := gl C i) s
        simp (disch := first | omega | (simp only [List.length_append, List.length_cons, List.length_nil, List.length_replicate, List.length_set, List.length_take, List.length_drop, vi_len, vb_len, vo_len, vl_len, vn_len]; omega)) only [↓EC, EV, EL, E2, E3, ER, seval, ↓reduceIte, false_imp_iff, ColV_def, lheap_def]
        (refine Split.mk (fun h => ?_) (fun h => ?_) <;> (try simp only [decide_eq_true_eq, decide_eq_false_iff_not, beq_iff_eq, bne_iff_ne, beq_eq_false_iff_ne, bne_eq_false_iff_eq, Bool.not_eq_true', Bool.not_eq_false', Bool.and_eq_true, Bool.or_eq_true, Bool.and_eq_false_iff, Bool.or_eq_false_iff, Int.not_lt, Int.not_le, Bool.false_eq_true, Bool.true_eq_false, false_and, and_false, true_and, and_true, or_false, false_or, or_true, true_or, not_true_eq_false, not_false_eq_true] at h))
        · have hs : s < (gl C i).length := by omega
          have hv := hci.1 (gi (gl C i) s) (by rw [gi_of hs]; exact List.getElem_mem hs)
          have hbv := (isDB_iff.1 h0).pb.ltP hb (gi (gl C i) s).toNat (by omega)
          have q1 := chT_lim (b := b) (n := n) (c := gl C i) s (gi b (gi (gl C i) s).toNat).toNat
          have q2 := chT_lim (b := b) (n := n) (c := gl C i) s (gi (gl C i) s).toNat
          have q3 : -(2 * (s : Int) + 1) ≤ gi ((chT b n (gl C i) s).set (gi b (gi (gl C i) s).toNat).toNat (gi (chT b n (gl C i) s) (gi b (gi (gl C i) s).toNat).toNat + 1)) (gi (gl C i) s).toNat := by
            rw [gi_set]; split <;> omega
          have q4 : gi ((chT b n (gl C i) s).set (gi b (gi (gl C i) s).toNat).toNat (gi (chT b n (gl C i) s) (gi b (gi (gl C i) s).toNat).toNat + 1)) (gi (gl C i) s).toNat ≤ 2 * (s : Int) + 1 := by
            rw [gi_set]; split <;> omega
          have q5 := hci.2
          (try simp (disch := first | omega | (simp only [List.length_append, List.length_cons, List.length_nil, List.length_replicate, List.length_set, List.length_take, List.length_drop, vi_len, vb_len, vo_len, vl_len, vn_len]; omega)) only [↓EC, EV, EL, E2, E3, ER, seval, ↓reduceIte, false_imp_iff, hl, hk])
          exact ⟨s + 1, rfl, rfl, by omega, by omega⟩
        · have hml : ((C.take i).map fun c => chT b n c c.length).length = i := by simp; omega
          have hse : s = (gl C i).length := by omega
          subst hse
          (try simp (disch := first | omega | (simp only [List.length_append, List.length_cons, List.length_nil, List.length_replicate, List.length_set, List.length_take, List.length_drop, vi_len, vb_len, vo_len, vl_len, vn_len]; omega)) only [↓EC, EV, EL, E2, E3, ER, seval, ↓reduceIte, false_imp_iff, hml])
          refine ⟨i + 1, ?_, by omega, by omega⟩
          rw [take_gl hi, List.map_append]
          rfl
    · have hie : i = C.length := by omega
      subst hie
      (try simp (disch := first | omega | (simp only [List.length_append, List.length_cons, List.length_nil, List.length_replicate, List.length_set, List.length_take, List.length_drop, vi_len, vb_len, vo_len, vl_len, vn_len]; omega)) only [↓EC, EV, EL, E2, E3, ER, seval, ↓reduceIte, false_imp_iff, List.length_map])
      rw [List.take_of_length_le (by simp)]
theorem c_impl_BoundariesOf_no {n : Int} {b w : List Int} (hb : okP b) (hw : okP w) (h0 : isDB n b w = false) : PSpec Try.prog 44 [vD n b w] fun v => v = .tup [.nils, .int .i64 1] := by
  have hl := hb.len
  have hk := hw.len
  refine impl_BoundariesOf_f.f ?_
  unfold vD
  simp (disch := first | omega | (simp only [List.length_append, List.length_cons, List.length_nil, List.length_replicate, List.length_set, List.length_take, List.length_drop, vi_len, vb_len, vo_len, vl_len, vn_len]; omega)) only [↓EC, EV, EL, E2, E3, ER, seval, ↓reduceIte, false_imp_iff, impl_BoundariesOf_F, hl, hk]
  refine pcd_v (c_impl_IsDessin hb hw) ?_
  (try simp (disch := first | omega | (simp only [List.length_append, List.length_cons, List.length_nil, List.length_replicate, List.length_set, List.length_take, List.length_drop, vi_len, vb_len, vo_len, vl_len, vn_len]; omega)) only [↓EC, EV, EL, E2, E3, ER, seval, ↓reduceIte, false_imp_iff, hl, hk, h0])
theorem c_spec_BoundariesOf_no {n : Int} {b w : List Int} (hb : okP b) (hw : okP w) (h0 : isDB n b w = false) : PSpec Try.prog 43 [vD n b w] fun v => v = .tup [.nils, .int .i64 1] := by
  have hl := hb.len
  have hk := hw.len
  refine spec_BoundariesOf_f.f ?_
  unfold vD
  simp (disch := first | omega | (simp only [List.length_append, List.length_cons, List.length_nil, List.length_replicate, List.length_set, List.length_take, List.length_drop, vi_len, vb_len, vo_len, vl_len, vn_len]; omega)) only [↓EC, EV, EL, E2, E3, ER, seval, ↓reduceIte, false_imp_iff, spec_BoundariesOf_F, hl, hk]
  refine pcd_v (c_spec_l01Is hb hw) ?_
  (try simp (disch := first | omega | (simp only [List.length_append, List.length_cons, List.length_nil, List.length_replicate, List.length_set, List.length_take, List.length_drop, vi_len, vb_len, vo_len, vl_len, vn_len]; omega)) only [↓EC, EV, EL, E2, E3, ER, seval, ↓reduceIte, false_imp_iff, hl, hk, h0])

theorem bndL_lim {b w : List Int} {n : Int} (hn : 1 ≤ n ∧ n ≤ 16) : (bndL b w n).length ≤ 16 ∧ (∀ l ∈ bndL b w n, l.length ≤ 16) := by
  have hcn : (cyc (faceP b w n) n).length ≤ 16 := Nat.le_trans (cycO_len (p := faceP b w n) n.toNat).2 (by omega)
  refine ⟨by unfold bndL; simpa using hcn, fun l hl => ?_⟩
  unfold bndL at hl
  simp only [List.mem_map] at hl
  obtain ⟨c, _, rfl⟩ := hl
  rw [chT_len]; omega
theorem rowsN_lim {ls : List (List Int)} {k : Nat} (h : ∀ l ∈ ls, l.length ≤ k) : rowsN ls ≤ ls.length * k := by
  induction ls with
  | nil => simp [rowsN]
  | cons a r ih =>
    have h1 := h a (by simp)
    have h2 := ih fun l hl => h l (by simp [hl])
    simp only [rowsN, List.length_cons, Nat.add_mul, Nat.one_mul]
    omega
theorem c_FnExactBoundariesOf {n : Int} {b w : List Int} (hb : okP b) (hw : okP w) : PSpec Try.prog 10 [vD n b w] fun v => v = .bool true := by
  have hl := hb.len
  have hk := hw.len
  refine laws_FnExactBoundariesOf_f.f ?_
  cases h0 : isDB n b w with
  | false =>
    have hs := c_spec_BoundariesOf_no hb hw h0
    have hi := c_impl_BoundariesOf_no hb hw h0
    unfold vD at hs hi ⊢
    simp (disch := first | omega | (simp only [List.length_append, List.length_cons, List.length_nil, List.length_replicate, List.length_set, List.length_take, List.length_drop, vi_len, vb_len, vo_len, vl_len, vn_len]; omega)) only [↓EC, EV, EL, E2, E3, ER, seval, ↓reduceIte, false_imp_iff, laws_FnExactBoundariesOf_F, hl, hk]
    repeat' first
      | (refine Split.mk (fun h => ?_) (fun h => ?_) <;> (try simp only [decide_eq_true_eq, decide_eq_false_iff_not, beq_iff_eq, bne_iff_ne, beq_eq_false_iff_ne, bne_eq_false_iff_eq, Bool.not_eq_true', Bool.not_eq_false', Bool.and_eq_true, Bool.or_eq_true, Bool.and_eq_false_iff, Bool.or_eq_false_iff, Int.not_lt, Int.not_le, Bool.false_eq_true, Bool.true_eq_false, false_and, and_false, true_and, and_true, or_false, false_or, or_true, true_or, not_true_eq_false, not_false_eq_true] at h))
      | (refine pcd_v (c_laws_toDessin hb hw) ?_; (try simp (disch := first | omega | (simp only [List.length_append, List.length_cons, List.length_nil, List.length_replicate, List.length_set, List.length_take, List.length_drop, vi_len, vb_len, vo_len, vl_len, vn_len]; omega)) only [↓EC, EV, EL, E2, E3, ER, seval, ↓reduceIte, false_imp_iff, vD, hl, hk]))
      | (refine pcd_v hs ?_; (try simp (disch := first | omega | (simp only [List.length_append, List.length_cons, List.length_nil, List.length_replicate, List.length_set, List.length_take, List.length_drop, vi_len, vb_len, vo_len, vl_len, vn_len]; omega)) only [↓EC, EV, EL, E2, E3, ER, seval, ↓reduceIte, false_imp_iff, hl, hk]))
      | (refine pcd_v hi ?_; (try simp (disch := first | omega | (simp only [List.length_append, List.length_cons, List.length_nil, List.length_replicate, List.length_set, List.length_take, List.length_drop, vi_len, vb_len, vo_len, vl_len, vn_len]; omega)) only [↓EC, EV, EL, E2, E3, ER, seval, ↓reduceIte, false_imp_iff, hl, hk]))
      | (refine pcd_v c_laws_eqInt64SS_nil ?_; (try simp (disch := first | omega | (simp only [List.length_append, List.length_cons, List.length_nil, List.length_replicate, List.length_set, List.length_take, List.length_drop, vi_len, vb_len, vo_len, vl_len, vn_len]; omega)) only [↓EC, EV, EL, E2, E3, ER, seval, ↓reduceIte, false_imp_iff, hl, hk]))
      | (refine pcd_v c_laws_markInt64SS_nil ?_; (try simp (disch := first | omega | (simp only [List.length_append, List.length_cons, List.length_nil, List.length_replicate, List.length_set, List.length_take, List.length_drop, vi_len, vb_len, vo_len, vl_len, vn_len]; omega)) only [↓EC, EV, EL, E2, E3, ER, seval, ↓reduceIte, false_imp_iff, hl, hk]))
      | (refine pcd_v c_laws_heldInt64SS_nil ?_; (try simp (disch := first | omega | (simp only [List.length_append, List.length_cons, List.length_nil, List.length_replicate, List.length_set, List.length_take, List.length_drop, vi_len, vb_len, vo_len, vl_len, vn_len]; omega)) only [↓EC, EV, EL, E2, E3, ER, seval, ↓reduceIte, false_imp_iff, hl, hk]))
    all_goals first | trivial | simp_all | trace_state
  | true =>
    have hs := c_spec_BoundariesOf hb hw h0
    have hi := c_impl_BoundariesOf hb hw h0
    obtain ⟨r1, r2⟩ := bndL_lim (b := b) (w := w) (n := n) (isDB_iff.1 h0).pb.1
    have r3 := rowsN_lim r2
    generalize bndL b w n = R at *
    have r4 : rowsN R ≤ 1048576 := by have := Nat.mul_le_mul_right 16 r1; omega
    have r5 : ∀ l ∈ R, l.length ≤ 1048576 := fun l hl => by have := r2 l hl; omega
    unfold vD at hs hi ⊢
    simp (disch := first | omega | (simp only [List.length_append, List.length_cons, List.length_nil, List.length_replicate, List.length_set, List.length_take, List.length_drop, vi_len, vb_len, vo_len, vl_len, vn_len]; omega)) only [↓EC, EV, EL, E2, E3, ER, seval, ↓reduceIte, false_imp_iff, laws_FnExactBoundariesOf_F, hl, hk]
    refine pcd_v (c_laws_toDessin hb hw) ?_; (try simp (disch := first | omega | (simp only [List.length_append, List.length_cons, List.length_nil, List.length_replicate, List.length_set, List.length_take, List.length_drop, vi_len, vb_len, vo_len, vl_len, vn_len]; omega)) only [↓EC, EV, EL, E2, E3, ER, seval, ↓reduceIte, false_imp_iff, vD, hl, hk])
    refine pcd_v hs ?_; (try simp (disch := first | omega | (simp only [List.length_append, List.length_cons, List.length_nil, List.length_replicate, List.length_set, List.length_take, List.length_drop, vi_len, vb_len, vo_len, vl_len, vn_len]; omega)) only [↓EC, EV, EL, E2, E3, ER, seval, ↓reduceIte, false_imp_iff, hl, hk])
    refine pcd_v (c_laws_toDessin hb hw) ?_; (try simp (disch := first | omega | (simp only [List.length_append, List.length_cons, List.length_nil, List.length_replicate, List.length_set, List.length_take, List.length_drop, vi_len, vb_len, vo_len, vl_len, vn_len]; omega)) only [↓EC, EV, EL, E2, E3, ER, seval, ↓reduceIte, false_imp_iff, vD, hl, hk])
    refine pcd_o hi ?_; (try simp (disch := first | omega | (simp only [List.length_append, List.length_cons, List.length_nil, List.length_replicate, List.length_set, List.length_take, List.length_drop, vi_len, vb_len, vo_len, vl_len, vn_len]; omega)) only [↓EC, EV, EL, E2, E3, ER, seval, ↓reduceIte, false_imp_iff, hl, hk])
    refine pcd_v (c_laws_eqInt64SS (by omega) r5) ?_; (try simp (disch := first | omega | (simp only [List.length_append, List.length_cons, List.length_nil, List.length_replicate, List.length_set, List.length_take, List.length_drop, vi_len, vb_len, vo_len, vl_len, vn_len]; omega)) only [↓EC, EV, EL, E2, E3, ER, seval, ↓reduceIte, false_imp_iff, hl, hk])
    refine pcm [84] rfl ?_; (try simp (disch := first | omega | (simp only [List.length_append, List.length_cons, List.length_nil, List.length_replicate, List.length_set, List.length_take, List.length_drop, vi_len, vb_len, vo_len, vl_len, vn_len]; omega)) only [↓EC, EV, EL, E2, E3, ER, seval, ↓reduceIte, false_imp_iff, hl, hk])
    refine callM_v (c_laws_markInt64SS (by omega) (by omega) r4) ?_
    have r6 : (iotaSS R 1).length = R.length := iotaSS_len
    (try simp (disch := first | omega | (simp only [List.length_append, List.length_cons, List.length_nil, List.length_replicate, List.length_set, List.length_take, List.length_drop, vi_len, vb_len, vo_len, vl_len, vn_len]; omega)) only [↓EC, EV, EL, E2, E3, ER, seval, ↓reduceIte, false_imp_iff, hl, hk, r6])
    refine pcd_v (c_laws_heldInt64SS (by omega) (by omega) r4) ?_; (try simp (disch := first | omega | (simp only [List.length_append, List.length_cons, List.length_nil, List.length_replicate, List.length_set, List.length_take, List.length_drop, vi_len, vb_len, vo_len, vl_len, vn_len]; omega)) only [↓EC, EV, EL, E2, E3, ER, seval, ↓reduceIte, false_imp_iff, hl, hk, r6])
    repeat' first
      | (refine Split.mk (fun h => ?_) (fun h => ?_) <;> (try simp only [decide_eq_true_eq, decide_eq_false_iff_not, beq_iff_eq, bne_iff_ne, beq_eq_false_iff_ne, bne_eq_false_iff_eq, Bool.not_eq_true', Bool.not_eq_false', Bool.and_eq_true, Bool.or_eq_true, Bool.and_eq_false_iff, Bool.or_eq_false_iff, Int.not_lt, Int.not_le, Bool.false_eq_true, Bool.true_eq_false, false_and, and_false, true_and, and_true, or_false, false_or, or_true, true_or, not_true_eq_false, not_false_eq_true] at h))
      | (refine pcd_v (c_laws_toDessin hb hw) ?_; (try simp (disch := first | omega | (simp only [List.length_append, List.length_cons, List.length_nil, List.length_replicate, List.length_set, List.length_take, List.length_drop, vi_len, vb_len, vo_len, vl_len, vn_len]; omega)) only [↓EC, EV, EL, E2, E3, ER, seval, ↓reduceIte, false_imp_iff, vD, hl, hk]))
      | (refine pcd_o hi ?_; (try simp (disch := first | omega | (simp only [List.length_append, List.length_cons, List.length_nil, List.length_replicate, List.length_set, List.length_take, List.length_drop, vi_len, vb_len, vo_len, vl_len, vn_len]; omega)) only [↓EC, EV, EL, E2, E3, ER, seval, ↓reduceIte, false_imp_iff, hl, hk]))
      | (refine pcd_v (c_laws_eqInt64SS (by omega) r5) ?_; (try simp (disch := first | omega | (simp only [List.length_append, List.length_cons, List.length_nil, List.length_replicate, List.length_set, List.length_take, List.length_drop, vi_len, vb_len, vo_len, vl_len, vn_len]; omega)) only [↓EC, EV, EL, E2, E3, ER, seval, ↓reduceIte, false_imp_iff, hl, hk]))
      | (refine pcd_v (c_laws_heldInt64SS (by omega) (by omega) r4) ?_; (try simp (disch := first | omega | (simp only [List.length_append, List.length_cons, List.length_nil, List.length_replicate, List.length_set, List.length_take, List.length_drop, vi_len, vb_len, vo_len, vl_len, vn_len]; omega)) only [↓EC, EV, EL, E2, E3, ER, seval, ↓reduceIte, false_imp_iff, hl, hk, r6]))
    all_goals first | trivial | omega | simp_all | trace_state
theorem t_FnExactBoundariesOf : ∀ xs, Ty.oks [tyD] xs → PSpec Try.prog 10 xs fun r => r = .bool true := by
  rintro xs ⟨v, r, rfl, hv, rfl⟩
  obtain ⟨n, b, w, rfl, hb, hw', _⟩ := ok_dessin hv
  exact c_FnExactBoundariesOf hb hw'
end Go.Proofs.Yteiiohmcamoldaa.Sep

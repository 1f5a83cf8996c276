/- The cycle of an edge: the walk through spec.l09Of. -/
import Derived.Test.YtcleiehdddjicaaC39
import Derived.Test.YtcleiehdddjicaaC43
namespace Go.Proofs.Ytcleiehdddjicaa.Sep
open Go.RowKit
set_option linter.unusedVariables false
set_option linter.unusedSimpArgs false
set_option maxRecDepth 20000
set_option maxHeartbeats 4000000

def knL (t : List Bool) : Nat → List Bool
  | 0 => List.replicate 16 false
  | k + 1 => (knL t k).set k (!gb t k)
theorem knL_len {t : List Bool} : ∀ k, (knL t k).length = 16
  | 0 => by simp [knL]
  | k + 1 => by simp [knL, knL_len k]
theorem knL_at {t : List Bool} : ∀ k, k ≤ 16 → ∀ e, e < k → gb (knL t k) e = !gb t e
  | 0, _, e, he => absurd he (Nat.not_lt_zero e)
  | k + 1, hk, e, he => by
    simp only [knL]
    rw [gb_set, knL_len]
    by_cases h : k = e
    · subst h; rw [if_pos ⟨rfl, by omega⟩]
    · rw [if_neg (fun h' => h h'.1)]; exact knL_at k (by omega) e (by omega)
theorem c_spec_l09Of {n : Int} {b w : List Int} {x : Nat} {a : Nat → Int} (hb : okP b) (hw : okP w) (h0 : isD n b w) (hx : x < n.toNat) (hxt : gb (treeM b w n) x = false) (hs : SolD b w n x a) :
    PSpec Try.prog 26 [vD n b w, .agg (vb (treeM b w n)), .int .i64 x] fun v => v = .own 2 1 n.toNat (vi .i64 ((List.range n.toNat).map a)) := by
  have hl := hb.len
  have hk := hw.len
  have hn := h0.pb.1
  have lb := h0.pb.lo hb
  have lw := h0.pw.lo hw
  have pb := h0.pb.ltP hb
  have pw := h0.pw.ltP hw
  obtain ⟨-, hal2⟩ := allV_len (b := b) (w := w) hn
  have hat := allV_at pb pw hn
  have hbl := cyc_lim (p := b) hn
  have hwl := cyc_lim (p := w) hn
  have htl : (treeM b w n).length = 16 := (trS_len _).2
  have hinit := Cs.init lb lw pb pw hn hs hx hxt (knL_len n.toNat) (knL_at (t := treeM b w n) n.toNat (by omega))
  refine spec_l09Of_f.f ?_
  unfold vD
  simp (config := { maxSteps := 10000000 }) (disch := first | omega | (simp only [List.length_append, List.length_cons, List.length_nil, List.length_replicate, List.length_set, List.length_take, List.length_drop, vi_len, vb_len, vo_len, vl_len, vn_len]; omega)) only [↓EC, EV, EL, E2, E3, ER, seval, ↓reduceIte, false_imp_iff, spec_l09Of_F, hl, hk, htl]
  refine LP_of (σ := Nat) 100000 [(67, 30, 1), (68, 47, 1), (72, 47, 1), (84, 2, 1)] (fun s => [.int .i64 s])
    (fun s => [.int .i64 n :: vi .u8 (b ++ w), vb (treeM b w n), vb (knL (treeM b w n) s), vi .i64 (List.replicate n.toNat 0)])
    (fun s => (s : Int) ≤ n) (fun s => (n - s).toNat) 0 (by simp [frameOk, names, lpz, sclp, scv, scvs, vi_nrf, vb_nrf, vt_nrf, v2_nrf, v3_nrf, nrfs, nrf, sc_vi, sc_vb, sc_vt, sc_v2, sc_v3, sc_vo, sc_vl, vo_nrf, vl_nrf, sc_vn, vn_nrf]) (by simp only [Int.natCast_zero]; omega) ?_ ?_
  · simp (disch := first | omega | (simp only [List.length_append, List.length_cons, List.length_nil, List.length_replicate, List.length_set, List.length_take, List.length_drop, vi_len, vb_len, vo_len, vl_len, vn_len]; omega)) only [↓EC, EV, EL, E2, E3, ER, seval, ↓reduceIte, false_imp_iff, ColV_def]
    try rfl
  · rintro s h1
    have hkl := knL_len (t := treeM b w n) s
    simp (disch := first | omega | (simp only [List.length_append, List.length_cons, List.length_nil, List.length_replicate, List.length_set, List.length_take, List.length_drop, vi_len, vb_len, vo_len, vl_len, vn_len]; omega)) only [↓EC, EV, EL, E2, E3, ER, seval, ↓reduceIte, false_imp_iff, ColV_def, lheap_def, hl, hk, htl, hkl]
    (refine Split.mk (fun h => ?_) (fun h => ?_) <;> (try simp only [decide_eq_true_eq, decide_eq_false_iff_not, beq_iff_eq, bne_iff_ne, beq_eq_false_iff_ne, bne_eq_false_iff_eq, Bool.not_eq_true', Bool.not_eq_false', Bool.and_eq_true, Bool.or_eq_true, Bool.and_eq_false_iff, Bool.or_eq_false_iff, Int.not_lt, Int.not_le, Bool.false_eq_true, Bool.true_eq_false, false_and, and_false, true_and, and_true, or_false, false_or, or_true, true_or, not_true_eq_false, not_false_eq_true] at h))
    · (try simp (disch := first | omega | (simp only [List.length_append, List.length_cons, List.length_nil, List.length_replicate, List.length_set, List.length_take, List.length_drop, vi_len, vb_len, vo_len, vl_len, vn_len]; omega)) only [↓EC, EV, EL, E2, E3, ER, seval, ↓reduceIte, false_imp_iff, hl, hk, htl, hkl])
      exact ⟨s + 1, by simp, rfl, by omega, by omega⟩
    · have hsn : s = n.toNat := by omega
      subst hsn
      (try simp (disch := first | omega | (simp only [List.length_append, List.length_cons, List.length_nil, List.length_replicate, List.length_set, List.length_take, List.length_drop, vi_len, vb_len, vo_len, vl_len, vn_len]; omega)) only [↓EC, EV, EL, E2, E3, ER, seval, ↓reduceIte, false_imp_iff, hl, hk, htl, hkl])
      refine pcd_v (c_spec_l01Cycles lb hn) ?_
      (try simp (disch := first | omega | (simp only [List.length_append, List.length_cons, List.length_nil, List.length_replicate, List.length_set, List.length_take, List.length_drop, vi_len, vb_len, vo_len, vl_len, vn_len]; omega)) only [↓EC, EV, EL, E2, E3, ER, seval, ↓reduceIte, false_imp_iff, hl, hk, htl, hkl])
      refine pcd_v (c_spec_l01Cycles lw hn) ?_
      (try simp (disch := first | omega | (simp only [List.length_append, List.length_cons, List.length_nil, List.length_replicate, List.length_set, List.length_take, List.length_drop, vi_len, vb_len, vo_len, vl_len, vn_len]; omega)) only [↓EC, EV, EL, E2, E3, ER, seval, ↓reduceIte, false_imp_iff, hl, hk, htl, hkl, vl_app])
      have hA : cyc b n ++ cyc w n = allV b w n := rfl
      have hA2 : (cyc b n).length + (cyc w n).length = (allV b w n).length := by rw [← hA]; simp
      rw [hA, hA2]
      refine LP_of (σ := Nat × List Int × List Bool) 200000 [(67, 30, 1), (68, 47, 1), (72, 47, 1), (84, 2, 1), (113, 25, 1)] (fun s => [.int .i64 s.1]) (fun s => [.int .i64 n :: vi .u8 (b ++ w), vb (treeM b w n), vb (s.2.2), vi .i64 (s.2.1), vl (allV b w n)])
        (fun s => s.1 ≤ n.toNat + 1 ∧ Cs b w n a s.2.1 s.2.2 ∧ unk s.2.2 n.toNat ≤ n.toNat - s.1) (fun s => n.toNat + 1 - s.1) (0, (List.replicate n.toNat 0).set x 1, knL (treeM b w n) n.toNat) (by simp [frameOk, names, lpz, sclp, scv, scvs, vi_nrf, vb_nrf, vt_nrf, v2_nrf, v3_nrf, nrfs, nrf, sc_vi, sc_vb, sc_vt, sc_v2, sc_v3, sc_vo, sc_vl, vo_nrf, vl_nrf, sc_vn, vn_nrf]) ⟨by simp, hinit, unk_le _⟩ ?_ ?_
      · simp (disch := first | omega | (simp only [List.length_append, List.length_cons, List.length_nil, List.length_replicate, List.length_set, List.length_take, List.length_drop, vi_len, vb_len, vo_len, vl_len, vn_len]; omega)) only [↓EC, EV, EL, E2, E3, ER, seval, ↓reduceIte, false_imp_iff, ColV_def]
      · rintro ⟨r, O, K⟩ ⟨r1, hC0, hU⟩
        simp only at r1 hC0 hU
        have ol0 := hC0.ol
        have kl0 := hC0.kl
        simp (disch := first | omega | (simp only [List.length_append, List.length_cons, List.length_nil, List.length_replicate, List.length_set, List.length_take, List.length_drop, vi_len, vb_len, vo_len, vl_len, vn_len]; omega)) only [↓EC, EV, EL, E2, E3, ER, seval, ↓reduceIte, false_imp_iff, ColV_def, lheap_def, hl, hk, ol0, kl0]
        (refine Split.mk (fun h => ?_) (fun h => ?_) <;> (try simp only [decide_eq_true_eq, decide_eq_false_iff_not, beq_iff_eq, bne_iff_ne, beq_eq_false_iff_ne, bne_eq_false_iff_eq, Bool.not_eq_true', Bool.not_eq_false', Bool.and_eq_true, Bool.or_eq_true, Bool.and_eq_false_iff, Bool.or_eq_false_iff, Int.not_lt, Int.not_le, Bool.false_eq_true, Bool.true_eq_false, false_and, and_false, true_and, and_true, or_false, false_or, or_true, true_or, not_true_eq_false, not_false_eq_true] at h))
        · (try simp (disch := first | omega | (simp only [List.length_append, List.length_cons, List.length_nil, List.length_replicate, List.length_set, List.length_take, List.length_drop, vi_len, vb_len, vo_len, vl_len, vn_len]; omega)) only [↓EC, EV, EL, E2, E3, ER, seval, ↓reduceIte, false_imp_iff, hl, hk, ol0, kl0])
          refine LP_of (σ := Nat × List Int × List Bool) 300000 [(67, 30, 1), (68, 47, 1), (72, 47, 1), (84, 2, 1), (113, 25, 1)] (fun s => [.int .i64 s.1]) (fun s => [.int .i64 n :: vi .u8 (b ++ w), vb (treeM b w n), vb (s.2.2), vi .i64 (s.2.1), vl (allV b w n)])
            (fun s => s.1 ≤ (allV b w n).length ∧ Cs b w n a s.2.1 s.2.2 ∧ (unk s.2.2 n.toNat < unk K n.toNat ∨ s.2.2 = K ∧ ∀ t, t < s.1 → mis K (gl (allV b w n) t) (gl (allV b w n) t).length ≠ 1))
            (fun s => (allV b w n).length - s.1) (0, O, K) (by simp [frameOk, names, lpz, sclp, scv, scvs, vi_nrf, vb_nrf, vt_nrf, v2_nrf, v3_nrf, nrfs, nrf, sc_vi, sc_vb, sc_vt, sc_v2, sc_v3, sc_vo, sc_vl, vo_nrf, vl_nrf, sc_vn, vn_nrf]) ⟨by simp, hC0, .inr ⟨rfl, fun t ht => absurd ht (Nat.not_lt_zero t)⟩⟩ ?_ ?_
          · simp (disch := first | omega | (simp only [List.length_append, List.length_cons, List.length_nil, List.length_replicate, List.length_set, List.length_take, List.length_drop, vi_len, vb_len, vo_len, vl_len, vn_len]; omega)) only [↓EC, EV, EL, E2, E3, ER, seval, ↓reduceIte, false_imp_iff, ColV_def]
          · rintro ⟨v, O, K2⟩ ⟨v1, hC, hV⟩
            simp only at v1 hC hV
            have ol := hC.ol
            have kl := hC.kl
            simp (disch := first | omega | (simp only [List.length_append, List.length_cons, List.length_nil, List.length_replicate, List.length_set, List.length_take, List.length_drop, vi_len, vb_len, vo_len, vl_len, vn_len]; omega)) only [↓EC, EV, EL, E2, E3, ER, seval, ↓reduceIte, false_imp_iff, ColV_def, lheap_def, hl, hk, ol, kl]
            (refine Split.mk (fun h => ?_) (fun h => ?_) <;> (try simp only [decide_eq_true_eq, decide_eq_false_iff_not, beq_iff_eq, bne_iff_ne, beq_eq_false_iff_ne, bne_eq_false_iff_eq, Bool.not_eq_true', Bool.not_eq_false', Bool.and_eq_true, Bool.or_eq_true, Bool.and_eq_false_iff, Bool.or_eq_false_iff, Int.not_lt, Int.not_le, Bool.false_eq_true, Bool.true_eq_false, false_and, and_false, true_and, and_true, or_false, false_or, or_true, true_or, not_true_eq_false, not_false_eq_true] at h))
            · have hv : v < (allV b w n).length := by omega
              have hva := hat _ (gl_mem hv)
              have hstep := fun hm => hC.step lb lw pb pw hn hs hv hm
              (try simp (disch := first | omega | (simp only [List.length_append, List.length_cons, List.length_nil, List.length_replicate, List.length_set, List.length_take, List.length_drop, vi_len, vb_len, vo_len, vl_len, vn_len]; omega)) only [↓EC, EV, EL, E2, E3, ER, seval, ↓reduceIte, false_imp_iff, hl, hk, ol, kl])
              refine LP_of (σ := Nat) 400000 [(67, 30, 1), (68, 47, 1), (72, 47, 1), (84, 2, 1), (113, 25, 1)] (fun s => [.int .i64 (sumT O (gl (allV b w n) v) s), .int .i64 (mis K2 (gl (allV b w n) v) s), .int .i64 (atF K2 (gl (allV b w n) v) s), .int .i64 s]) (fun s => [.int .i64 n :: vi .u8 (b ++ w), vb (treeM b w n), vb (K2), vi .i64 (O), vl (allV b w n)])
                (fun s => s ≤ (gl (allV b w n) v).length) (fun s => (gl (allV b w n) v).length - s) 0 (by simp [frameOk, names, lpz, sclp, scv, scvs, vi_nrf, vb_nrf, vt_nrf, v2_nrf, v3_nrf, nrfs, nrf, sc_vi, sc_vb, sc_vt, sc_v2, sc_v3, sc_vo, sc_vl, vo_nrf, vl_nrf, sc_vn, vn_nrf]) (Nat.zero_le _) ?_ ?_
              · simp (disch := first | omega | (simp only [List.length_append, List.length_cons, List.length_nil, List.length_replicate, List.length_set, List.length_take, List.length_drop, vi_len, vb_len, vo_len, vl_len, vn_len]; omega)) only [↓EC, EV, EL, E2, E3, ER, seval, ↓reduceIte, false_imp_iff, ColV_def]
                rfl
              · rintro s g1
                have q1 := sumT_lim (a := O) (c := gl (allV b w n) v) (M := 65536) (hC.lim hs) s
                have q2 := mis_le (kn := K2) (c := gl (allV b w n) v) s
                simp (disch := first | omega | (simp only [List.length_append, List.length_cons, List.length_nil, List.length_replicate, List.length_set, List.length_take, List.length_drop, vi_len, vb_len, vo_len, vl_len, vn_len]; omega)) only [↓EC, EV, EL, E2, E3, ER, seval, ↓reduceIte, false_imp_iff, ColV_def, lheap_def, hl, hk, ol, kl]
                (refine Split.mk (fun h => ?_) (fun h => ?_) <;> (try simp only [decide_eq_true_eq, decide_eq_false_iff_not, beq_iff_eq, bne_iff_ne, beq_eq_false_iff_ne, bne_eq_false_iff_eq, Bool.not_eq_true', Bool.not_eq_false', Bool.and_eq_true, Bool.or_eq_true, Bool.and_eq_false_iff, Bool.or_eq_false_iff, Int.not_lt, Int.not_le, Bool.false_eq_true, Bool.true_eq_false, false_and, and_false, true_and, and_true, or_false, false_or, or_true, true_or, not_true_eq_false, not_false_eq_true] at h))
                · have hsl : s < (gl (allV b w n) v).length := by omega
                  have hxr := hva.1 (gi (gl (allV b w n) v) s) (by rw [gi_of hsl]; exact List.getElem_mem hsl)
                  have q3 := hC.lim hs (gi (gl (allV b w n) v) s).toNat
                  (try simp (disch := first | omega | (simp only [List.length_append, List.length_cons, List.length_nil, List.length_replicate, List.length_set, List.length_take, List.length_drop, vi_len, vb_len, vo_len, vl_len, vn_len]; omega)) only [↓EC, EV, EL, E2, E3, ER, seval, ↓reduceIte, false_imp_iff, hl, hk, ol, kl])
                  (refine Split.mk (fun h => ?_) (fun h => ?_) <;> (try simp only [decide_eq_true_eq, decide_eq_false_iff_not, beq_iff_eq, bne_iff_ne, beq_eq_false_iff_ne, bne_eq_false_iff_eq, Bool.not_eq_true', Bool.not_eq_false', Bool.and_eq_true, Bool.or_eq_true, Bool.and_eq_false_iff, Bool.or_eq_false_iff, Int.not_lt, Int.not_le, Bool.false_eq_true, Bool.true_eq_false, false_and, and_false, true_and, and_true, or_false, false_or, or_true, true_or, not_true_eq_false, not_false_eq_true] at h))
                  · (try simp (disch := first | omega | (simp only [List.length_append, List.length_cons, List.length_nil, List.length_replicate, List.length_set, List.length_take, List.length_drop, vi_len, vb_len, vo_len, vl_len, vn_len]; omega)) only [↓EC, EV, EL, E2, E3, ER, seval, ↓reduceIte, false_imp_iff, hl, hk, ol, kl])
                    refine ⟨s + 1, ?_, by omega, by omega⟩
                    simp [sumT, mis, atF, h]
                  · (try simp (disch := first | omega | (simp only [List.length_append, List.length_cons, List.length_nil, List.length_replicate, List.length_set, List.length_take, List.length_drop, vi_len, vb_len, vo_len, vl_len, vn_len]; omega)) only [↓EC, EV, EL, E2, E3, ER, seval, ↓reduceIte, false_imp_iff, hl, hk, ol, kl])
                    refine ⟨s + 1, ?_, by omega, by omega⟩
                    simp [sumT, mis, atF, h]
                · have hsl : s = (gl (allV b w n) v).length := by omega
                  subst hsl
                  (try simp (disch := first | omega | (simp only [List.length_append, List.length_cons, List.length_nil, List.length_replicate, List.length_set, List.length_take, List.length_drop, vi_len, vb_len, vo_len, vl_len, vn_len]; omega)) only [↓EC, EV, EL, E2, E3, ER, seval, ↓reduceIte, false_imp_iff, hl, hk, ol, kl])
                  (refine Split.mk (fun h => ?_) (fun h => ?_) <;> (try simp only [decide_eq_true_eq, decide_eq_false_iff_not, beq_iff_eq, bne_iff_ne, beq_eq_false_iff_ne, bne_eq_false_iff_eq, Bool.not_eq_true', Bool.not_eq_false', Bool.and_eq_true, Bool.or_eq_true, Bool.and_eq_false_iff, Bool.or_eq_false_iff, Int.not_lt, Int.not_le, Bool.false_eq_true, Bool.true_eq_false, false_and, and_false, true_and, and_true, or_false, false_or, or_true, true_or, not_true_eq_false, not_false_eq_true] at h))
                  · have hm : mis K2 (gl (allV b w n) v) (gl (allV b w n) v).length = 1 := by omega
                    obtain ⟨e, e1, e2, e3, e4⟩ := hstep hm
                    have hun := unk_set (kn := K2) (e := e) (by omega) e3 n.toNat
                    rw [if_pos e2] at hun
                    (try simp (disch := first | omega | (simp only [List.length_append, List.length_cons, List.length_nil, List.length_replicate, List.length_set, List.length_take, List.length_drop, vi_len, vb_len, vo_len, vl_len, vn_len]; omega)) only [↓EC, EV, EL, E2, E3, ER, seval, ↓reduceIte, false_imp_iff, hl, hk, ol, kl, e1])
                    refine ⟨(v + 1, _, _), ?_, rfl, ⟨by simp only; omega, e4, .inl ?_⟩, by simp only; omega⟩
                    · simp
                    · simp only
                      rcases hV with hV | ⟨hV, -⟩
                      · omega
                      · subst hV; omega
                  · (try simp (disch := first | omega | (simp only [List.length_append, List.length_cons, List.length_nil, List.length_replicate, List.length_set, List.length_take, List.length_drop, vi_len, vb_len, vo_len, vl_len, vn_len]; omega)) only [↓EC, EV, EL, E2, E3, ER, seval, ↓reduceIte, false_imp_iff, hl, hk, ol, kl])
                    refine ⟨(v + 1, O, K2), ?_, rfl, ⟨by simp only; omega, hC, ?_⟩, by simp only; omega⟩
                    · simp
                    · rcases hV with hV | ⟨rfl, hV⟩
                      · exact .inl hV
                      · refine .inr ⟨rfl, fun t ht => ?_⟩
                        by_cases htv : t = v
                        · subst htv; omega
                        · exact hV t (by simp only at ht; omega)
            · have hvl : v = (allV b w n).length := by omega
              subst hvl
              (try simp (disch := first | omega | (simp only [List.length_append, List.length_cons, List.length_nil, List.length_replicate, List.length_set, List.length_take, List.length_drop, vi_len, vb_len, vo_len, vl_len, vn_len]; omega)) only [↓EC, EV, EL, E2, E3, ER, seval, ↓reduceIte, false_imp_iff, hl, hk, ol, kl])
              refine ⟨(r + 1, O, K2), ?_, rfl, ⟨by simp only; omega, hC, ?_⟩, by simp only; omega⟩
              · simp
              · simp only
                by_cases hz : unk K2 n.toNat = 0
                · omega
                · rcases hV with hV | ⟨rfl, hV⟩
                  · omega
                  · obtain ⟨t, t1, t2⟩ := hC.leaf lb lw pb pw hn (by omega)
                    exact absurd t2 (hV t t1)
        · (try simp (disch := first | omega | (simp only [List.length_append, List.length_cons, List.length_nil, List.length_replicate, List.length_set, List.length_take, List.length_drop, vi_len, vb_len, vo_len, vl_len, vn_len]; omega)) only [↓EC, EV, EL, E2, E3, ER, seval, ↓reduceIte, false_imp_iff, hl, hk, ol0, kl0])
          have hz := unk_zero (kn := K) n.toNat (by omega)
          have hO : O = (List.range n.toNat).map a := gi_ext (by simp [ol0]) fun j hj => by
            rw [hC0.don j (by omega) (hz j (by omega)), gi_of (by simp; omega)]
            simp
          rw [hO]
end Go.Proofs.Ytcleiehdddjicaa.Sep

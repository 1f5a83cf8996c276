/- The laws of HomologyBasis and IntersectionTable. -/
import Derived.Test.YtcleiehdddjicaaC48
namespace Go.Proofs.Ytcleiehdddjicaa.Sep
open Go.RowKit
set_option linter.unusedVariables false
set_option linter.unusedSimpArgs false
set_option maxRecDepth 20000
set_option maxHeartbeats 4000000

theorem rowsN_limP {ls : List (List Int)} {k : Nat} (h : ∀ l ∈ ls, l.length ≤ k) : rowsN ls ≤ ls.length * k := by
  induction ls with
  | nil => simp [rowsN]
  | cons a r ih =>
    have h1 := h a (by simp)
    have h2 := ih fun l hl => h l (by simp [hl])
    simp only [rowsN, List.length_cons, Nat.add_mul, Nat.one_mul]
    omega
noncomputable def rwF (b w : List Int) (n : Int) (B : List (List Int)) (x : List Int) : List Int := B.map (meetV b w n x)
noncomputable def tbL (b w : List Int) (n : Int) : List (List Int) := (basL b w n).map (rwF b w n (basL b w n))
theorem basL_lim {b w : List Int} {n : Int} (hn : 1 ≤ n ∧ n ≤ 16) : (basL b w n).length ≤ 16 ∧ ∀ l ∈ basL b w n, l.length ≤ 16 := by
  refine ⟨by have := basL_len (b := b) (w := w) (n := n); omega, fun l hl => ?_⟩
  obtain ⟨e, e1, e2, e3⟩ := basL_mem hl
  rw [e3, cyL_len]; omega
theorem tbL_lim {b w : List Int} {n : Int} (hn : 1 ≤ n ∧ n ≤ 16) : (tbL b w n).length ≤ 16 ∧ ∀ l ∈ tbL b w n, l.length ≤ 16 := by
  have h := (basL_lim (b := b) (w := w) hn).1
  refine ⟨by unfold tbL; simpa using h, fun l hl => ?_⟩
  unfold tbL at hl
  obtain ⟨x, _, rfl⟩ := List.mem_map.1 hl
  unfold rwF
  simpa using h
section
variable {n : Int} {b w : List Int}
theorem c_impl_HomologyBasis (hb : okP b) (hw : okP w) (h0 : isDB n b w = true) : PSpec Try.prog 14 [vD n b w] fun v => v = .tup [.own 25 1 (basL b w n).length (vo 2 (basL b w n)), .int .i64 0] := by
  have hl := hb.len
  have hk := hw.len
  have hI := c_impl_IsDessin hb hw (n := n)
  have hB := c_impl_basis hb hw (isDB_iff.1 h0)
  refine impl_HomologyBasis_f.f ?_
  unfold vD at hI hB ⊢
  simp (disch := first | omega | (simp only [List.length_append, List.length_cons, List.length_nil, List.length_replicate, List.length_set, List.length_take, List.length_drop, vi_len, vb_len, vo_len, vl_len, vn_len]; omega)) only [↓EC, EV, EL, E2, E3, ER, seval, ↓reduceIte, false_imp_iff, impl_HomologyBasis_F, hl, hk]
  refine pcd_v hI ?_
  (try simp (disch := first | omega | (simp only [List.length_append, List.length_cons, List.length_nil, List.length_replicate, List.length_set, List.length_take, List.length_drop, vi_len, vb_len, vo_len, vl_len, vn_len]; omega)) only [↓EC, EV, EL, E2, E3, ER, seval, ↓reduceIte, false_imp_iff, hl, hk, h0])
  refine pcd_o hB ?_
  (try simp (disch := first | omega | (simp only [List.length_append, List.length_cons, List.length_nil, List.length_replicate, List.length_set, List.length_take, List.length_drop, vi_len, vb_len, vo_len, vl_len, vn_len]; omega)) only [↓EC, EV, EL, E2, E3, ER, seval, ↓reduceIte, false_imp_iff, hl, hk])
theorem c_impl_HomologyBasis_no (hb : okP b) (hw : okP w) (h0 : isDB n b w = false) : PSpec Try.prog 14 [vD n b w] fun v => v = .tup [.nils, .int .i64 1] := by
  have hl := hb.len
  have hk := hw.len
  have hI := c_impl_IsDessin hb hw (n := n)
  refine impl_HomologyBasis_f.f ?_
  unfold vD at hI ⊢
  simp (disch := first | omega | (simp only [List.length_append, List.length_cons, List.length_nil, List.length_replicate, List.length_set, List.length_take, List.length_drop, vi_len, vb_len, vo_len, vl_len, vn_len]; omega)) only [↓EC, EV, EL, E2, E3, ER, seval, ↓reduceIte, false_imp_iff, impl_HomologyBasis_F, hl, hk]
  refine pcd_v hI ?_
  (try simp (disch := first | omega | (simp only [List.length_append, List.length_cons, List.length_nil, List.length_replicate, List.length_set, List.length_take, List.length_drop, vi_len, vb_len, vo_len, vl_len, vn_len]; omega)) only [↓EC, EV, EL, E2, E3, ER, seval, ↓reduceIte, false_imp_iff, hl, hk, h0])
theorem c_impl_IntersectionTable (hb : okP b) (hw : okP w) (h0 : isDB n b w = true) : PSpec Try.prog 22 [vD n b w] fun v => v = .tup [.own 25 1 (tbL b w n).length (vo 2 (tbL b w n)), .int .i64 0] := by
  have hl := hb.len
  have hk := hw.len
  have hd := isDB_iff.1 h0
  have hn := hd.pb.1
  have hI := c_impl_IsDessin hb hw (n := n)
  have hB := c_impl_basis hb hw hd
  have hmem : ∀ k, k < (basL b w n).length → ((gl (basL b w n) k).length : Int) = n ∧ lmM (gl (basL b w n) k) := fun k hk => by
    obtain ⟨e, e1, e2, e3⟩ := basL_mem (gl_mem hk)
    rw [e3]
    exact ⟨by rw [cyL_len]; omega, cyL_lm hb hw hd e1 e2⟩
  have hmm := fun (i j : Nat) hi hj => c_impl_intersection (x := gl (basL b w n) i) (y := gl (basL b w n) j) hb hw hd (hmem i hi).1 (hmem j hj).1 (hmem i hi).2 (hmem j hj).2
  have hbl := basL_len (b := b) (w := w) (n := n)
  refine impl_IntersectionTable_f.f ?_
  unfold tbL
  unfold vD at hI hB hmm ⊢
  simp (disch := first | omega | (simp only [List.length_append, List.length_cons, List.length_nil, List.length_replicate, List.length_set, List.length_take, List.length_drop, vi_len, vb_len, vo_len, vl_len, vn_len]; omega)) only [↓EC, EV, EL, E2, E3, ER, seval, ↓reduceIte, false_imp_iff, impl_IntersectionTable_F, hl, hk]
  refine pcd_v hI ?_
  (try simp (disch := first | omega | (simp only [List.length_append, List.length_cons, List.length_nil, List.length_replicate, List.length_set, List.length_take, List.length_drop, vi_len, vb_len, vo_len, vl_len, vn_len]; omega)) only [↓EC, EV, EL, E2, E3, ER, seval, ↓reduceIte, false_imp_iff, hl, hk, h0])
  refine pcd_v hB ?_
  (try simp (disch := first | omega | (simp only [List.length_append, List.length_cons, List.length_nil, List.length_replicate, List.length_set, List.length_take, List.length_drop, vi_len, vb_len, vo_len, vl_len, vn_len]; omega)) only [↓EC, EV, EL, E2, E3, ER, seval, ↓reduceIte, false_imp_iff, hl, hk])
  generalize basL b w n = B at *
  refine LP_ofE (σ := Nat) [1, 1] 100000 [(65, 30, 1)] (fun k => [.own 25 1 k (vo 2 ((B.take k).map (rwF b w n B))), .int .i64 k]) (fun k => [.int .i64 n :: vi .u8 (b ++ w)])
    (fun k => k ≤ B.length) (fun k => B.length - k) 0 (by simp [frameOk, names, lpz, sclp, scv, scvs, vi_nrf, vb_nrf, vt_nrf, v2_nrf, v3_nrf, nrfs, nrf, sc_vi, sc_vb, sc_vt, sc_v2, sc_v3, sc_vo, sc_vl, vo_nrf, vl_nrf, sc_vn, vn_nrf]) (Nat.zero_le _) ?_ ?_
  · simp (disch := first | omega | (simp only [List.length_append, List.length_cons, List.length_nil, List.length_replicate, List.length_set, List.length_take, List.length_drop, vi_len, vb_len, vo_len, vl_len, vn_len]; omega)) only [↓EC, EV, EL, E2, E3, ER, seval, ↓reduceIte, false_imp_iff, ColV_def]
    exact ⟨fun _ => trivial, trivial⟩
  · rintro k k1
    have hml : ((B.take k).map (rwF b w n B)).length = k := by simp; omega
    simp (disch := first | omega | (simp only [List.length_append, List.length_cons, List.length_nil, List.length_replicate, List.length_set, List.length_take, List.length_drop, vi_len, vb_len, vo_len, vl_len, vn_len]; omega)) only [↓EC, EV, EL, E2, E3, ER, seval, ↓reduceIte, false_imp_iff, ColV_def, lheap_def, hl, hk, hml]
    (refine Split.mk (fun h => ?_) (fun h => ?_) <;> (try simp only [decide_eq_true_eq, decide_eq_false_iff_not, beq_iff_eq, bne_iff_ne, beq_eq_false_iff_ne, bne_eq_false_iff_eq, Bool.not_eq_true', Bool.not_eq_false', Bool.and_eq_true, Bool.or_eq_true, Bool.and_eq_false_iff, Bool.or_eq_false_iff, Int.not_lt, Int.not_le, Bool.false_eq_true, Bool.true_eq_false, false_and, and_false, true_and, and_true, or_false, false_or, or_true, true_or, not_true_eq_false, not_false_eq_true] at h))
    · have hkb : k < B.length := by omega
      (try simp (disch := first | omega | (simp only [List.length_append, List.length_cons, List.length_nil, List.length_replicate, List.length_set, List.length_take, List.length_drop, vi_len, vb_len, vo_len, vl_len, vn_len]; omega)) only [↓EC, EV, EL, E2, E3, ER, seval, ↓reduceIte, false_imp_iff, hl, hk, hml])
      refine LP_ofE (σ := Nat) [1, 1] 200000 [(65, 30, 1), (100000, 25, 1)] (fun j => [.own 2 1 j (vi .i64 ((B.take j).map (meetV b w n (gl B k)))), .int .i64 j]) (fun j => [.int .i64 n :: vi .u8 (b ++ w), vo 2 ((B.take k).map (rwF b w n B))])
        (fun j => j ≤ B.length) (fun j => B.length - j) 0 (by simp [frameOk, names, lpz, sclp, scv, scvs, vi_nrf, vb_nrf, vt_nrf, v2_nrf, v3_nrf, nrfs, nrf, sc_vi, sc_vb, sc_vt, sc_v2, sc_v3, sc_vo, sc_vl, vo_nrf, vl_nrf, sc_vn, vn_nrf]) (Nat.zero_le _) ?_ ?_
      · simp (disch := first | omega | (simp only [List.length_append, List.length_cons, List.length_nil, List.length_replicate, List.length_set, List.length_take, List.length_drop, vi_len, vb_len, vo_len, vl_len, vn_len]; omega)) only [↓EC, EV, EL, E2, E3, ER, seval, ↓reduceIte, false_imp_iff, ColV_def]
        first | exact ⟨fun _ => trivial, trivial⟩ | exact ⟨fun _ => trivial, rfl⟩ | exact ⟨fun _ => trivial, rfl, rfl⟩ | trace_state
      · rintro j j1
        have hrl : ((B.take j).map (meetV b w n (gl B k))).length = j := by simp; omega
        simp (disch := first | omega | (simp only [List.length_append, List.length_cons, List.length_nil, List.length_replicate, List.length_set, List.length_take, List.length_drop, vi_len, vb_len, vo_len, vl_len, vn_len]; omega)) only [↓EC, EV, EL, E2, E3, ER, seval, ↓reduceIte, false_imp_iff, ColV_def, lheap_def, hl, hk, hml, hrl]
        (refine Split.mk (fun h => ?_) (fun h => ?_) <;> (try simp only [decide_eq_true_eq, decide_eq_false_iff_not, beq_iff_eq, bne_iff_ne, beq_eq_false_iff_ne, bne_eq_false_iff_eq, Bool.not_eq_true', Bool.not_eq_false', Bool.and_eq_true, Bool.or_eq_true, Bool.and_eq_false_iff, Bool.or_eq_false_iff, Int.not_lt, Int.not_le, Bool.false_eq_true, Bool.true_eq_false, false_and, and_false, true_and, and_true, or_false, false_or, or_true, true_or, not_true_eq_false, not_false_eq_true] at h))
        · have hjb : j < B.length := by omega
          (try simp (disch := first | omega | (simp only [List.length_append, List.length_cons, List.length_nil, List.length_replicate, List.length_set, List.length_take, List.length_drop, vi_len, vb_len, vo_len, vl_len, vn_len]; omega)) only [↓EC, EV, EL, E2, E3, ER, seval, ↓reduceIte, false_imp_iff, hl, hk, hml, hrl])
          refine pcd_v (hmm k j hkb hjb) ?_
          (try simp (disch := first | omega | (simp only [List.length_append, List.length_cons, List.length_nil, List.length_replicate, List.length_set, List.length_take, List.length_drop, vi_len, vb_len, vo_len, vl_len, vn_len]; omega)) only [↓EC, EV, EL, E2, E3, ER, seval, ↓reduceIte, false_imp_iff, hl, hk, hml, hrl])
          refine ⟨j + 1, ?_, by omega, by omega⟩
          rw [take_gl hjb, List.map_append]
          simp [vi]
        · have hjb : j = B.length := by omega
          subst hjb
          (try simp (disch := first | omega | (simp only [List.length_append, List.length_cons, List.length_nil, List.length_replicate, List.length_set, List.length_take, List.length_drop, vi_len, vb_len, vo_len, vl_len, vn_len]; omega)) only [↓EC, EV, EL, E2, E3, ER, seval, ↓reduceIte, false_imp_iff, hl, hk, hml, hrl])
          refine ⟨k + 1, ?_, by omega, by omega⟩
          rw [take_gl hkb, List.map_append]
          simp [rwF]
    · have hkb : k = B.length := by omega
      subst hkb
      (try simp (disch := first | omega | (simp only [List.length_append, List.length_cons, List.length_nil, List.length_replicate, List.length_set, List.length_take, List.length_drop, vi_len, vb_len, vo_len, vl_len, vn_len]; omega)) only [↓EC, EV, EL, E2, E3, ER, seval, ↓reduceIte, false_imp_iff, hl, hk])
      simp
theorem c_impl_IntersectionTable_no (hb : okP b) (hw : okP w) (h0 : isDB n b w = false) : PSpec Try.prog 22 [vD n b w] fun v => v = .tup [.nils, .int .i64 1] := by
  have hl := hb.len
  have hk := hw.len
  have hI := c_impl_IsDessin hb hw (n := n)
  refine impl_IntersectionTable_f.f ?_
  unfold vD at hI ⊢
  simp (disch := first | omega | (simp only [List.length_append, List.length_cons, List.length_nil, List.length_replicate, List.length_set, List.length_take, List.length_drop, vi_len, vb_len, vo_len, vl_len, vn_len]; omega)) only [↓EC, EV, EL, E2, E3, ER, seval, ↓reduceIte, false_imp_iff, impl_IntersectionTable_F, hl, hk]
  refine pcd_v hI ?_
  (try simp (disch := first | omega | (simp only [List.length_append, List.length_cons, List.length_nil, List.length_replicate, List.length_set, List.length_take, List.length_drop, vi_len, vb_len, vo_len, vl_len, vn_len]; omega)) only [↓EC, EV, EL, E2, E3, ER, seval, ↓reduceIte, false_imp_iff, hl, hk, h0])
theorem c_spec_HomologyBasis (hb : okP b) (hw : okP w) (h0 : isDB n b w = true) : PSpec Try.prog 13 [vD n b w] fun v => v = .tup [.own 25 1 (basL b w n).length (vo 2 (basL b w n)), .int .i64 0] := by
  have hl := hb.len
  have hk := hw.len
  have hI := c_spec_l01Is hb hw (n := n)
  have hB := c_spec_l09Basis hb hw (isDB_iff.1 h0)
  refine spec_HomologyBasis_f.f ?_
  unfold vD at hI hB ⊢
  simp (disch := first | omega | (simp only [List.length_append, List.length_cons, List.length_nil, List.length_replicate, List.length_set, List.length_take, List.length_drop, vi_len, vb_len, vo_len, vl_len, vn_len]; omega)) only [↓EC, EV, EL, E2, E3, ER, seval, ↓reduceIte, false_imp_iff, spec_HomologyBasis_F, hl, hk]
  refine pcd_v hI ?_
  (try simp (disch := first | omega | (simp only [List.length_append, List.length_cons, List.length_nil, List.length_replicate, List.length_set, List.length_take, List.length_drop, vi_len, vb_len, vo_len, vl_len, vn_len]; omega)) only [↓EC, EV, EL, E2, E3, ER, seval, ↓reduceIte, false_imp_iff, hl, hk, h0])
  refine pcd_o hB ?_
  (try simp (disch := first | omega | (simp only [List.length_append, List.length_cons, List.length_nil, List.length_replicate, List.length_set, List.length_take, List.length_drop, vi_len, vb_len, vo_len, vl_len, vn_len]; omega)) only [↓EC, EV, EL, E2, E3, ER, seval, ↓reduceIte, false_imp_iff, hl, hk])
theorem c_spec_HomologyBasis_no (hb : okP b) (hw : okP w) (h0 : isDB n b w = false) : PSpec Try.prog 13 [vD n b w] fun v => v = .tup [.nils, .int .i64 1] := by
  have hl := hb.len
  have hk := hw.len
  have hI := c_spec_l01Is hb hw (n := n)
  refine spec_HomologyBasis_f.f ?_
  unfold vD at hI ⊢
  simp (disch := first | omega | (simp only [List.length_append, List.length_cons, List.length_nil, List.length_replicate, List.length_set, List.length_take, List.length_drop, vi_len, vb_len, vo_len, vl_len, vn_len]; omega)) only [↓EC, EV, EL, E2, E3, ER, seval, ↓reduceIte, false_imp_iff, spec_HomologyBasis_F, hl, hk]
  refine pcd_v hI ?_
  (try simp (disch := first | omega | (simp only [List.length_append, List.length_cons, List.length_nil, List.length_replicate, List.length_set, List.length_take, List.length_drop, vi_len, vb_len, vo_len, vl_len, vn_len]; omega)) only [↓EC, EV, EL, E2, E3, ER, seval, ↓reduceIte, false_imp_iff, hl, hk, h0])
theorem c_spec_IntersectionTable (hb : okP b) (hw : okP w) (h0 : isDB n b w = true) : PSpec Try.prog 21 [vD n b w] fun v => v = .tup [.own 25 1 (tbL b w n).length (vo 2 (tbL b w n)), .int .i64 0] := by
  have hl := hb.len
  have hk := hw.len
  have hd := isDB_iff.1 h0
  have hn := hd.pb.1
  have hI := c_spec_l01Is hb hw (n := n)
  have hB := c_spec_l09Basis hb hw hd
  have hmem : ∀ k, k < (basL b w n).length → ((gl (basL b w n) k).length : Int) = n ∧ lmM (gl (basL b w n) k) := fun k hk => by
    obtain ⟨e, e1, e2, e3⟩ := basL_mem (gl_mem hk)
    rw [e3]
    exact ⟨by rw [cyL_len]; omega, cyL_lm hb hw hd e1 e2⟩
  have hmm := fun (i j : Nat) hi hj => c_spec_l09Meet (x := gl (basL b w n) i) (y := gl (basL b w n) j) hb hw hd (hmem i hi).1 (hmem j hj).1 (hmem i hi).2 (hmem j hj).2
  have hbl := basL_len (b := b) (w := w) (n := n)
  refine spec_IntersectionTable_f.f ?_
  unfold tbL
  unfold vD at hI hB hmm ⊢
  simp (disch := first | omega | (simp only [List.length_append, List.length_cons, List.length_nil, List.length_replicate, List.length_set, List.length_take, List.length_drop, vi_len, vb_len, vo_len, vl_len, vn_len]; omega)) only [↓EC, EV, EL, E2, E3, ER, seval, ↓reduceIte, false_imp_iff, spec_IntersectionTable_F, hl, hk]
  refine pcd_v hI ?_
  (try simp (disch := first | omega | (simp only [List.length_append, List.length_cons, List.length_nil, List.length_replicate, List.length_set, List.length_take, List.length_drop, vi_len, vb_len, vo_len, vl_len, vn_len]; omega)) only [↓EC, EV, EL, E2, E3, ER, seval, ↓reduceIte, false_imp_iff, hl, hk, h0])
  refine pcd_v hB ?_
  (try simp (disch := first | omega | (simp only [List.length_append, List.length_cons, List.length_nil, List.length_replicate, List.length_set, List.length_take, List.length_drop, vi_len, vb_len, vo_len, vl_len, vn_len]; omega)) only [↓EC, EV, EL, E2, E3, ER, seval, ↓reduceIte, false_imp_iff, hl, hk])
  generalize basL b w n = B at *
  refine LP_ofE (σ := Nat) [1, 1] 100000 [(65, 30, 1)] (fun k => [.own 25 1 k (vo 2 ((B.take k).map (rwF b w n B))), .int .i64 k]) (fun k => [.int .i64 n :: vi .u8 (b ++ w)])
    (fun k => k ≤ B.length) (fun k => B.length - k) 0 (by simp [frameOk, names, lpz, sclp, scv, scvs, vi_nrf, vb_nrf, vt_nrf, v2_nrf, v3_nrf, nrfs, nrf, sc_vi, sc_vb, sc_vt, sc_v2, sc_v3, sc_vo, sc_vl, vo_nrf, vl_nrf, sc_vn, vn_nrf]) (Nat.zero_le _) ?_ ?_
  · simp (disch := first | omega | (simp only [List.length_append, List.length_cons, List.length_nil, List.length_replicate, List.length_set, List.length_take, List.length_drop, vi_len, vb_len, vo_len, vl_len, vn_len]; omega)) only [↓EC, EV, EL, E2, E3, ER, seval, ↓reduceIte, false_imp_iff, ColV_def]
    exact ⟨fun _ => trivial, trivial⟩
  · rintro k k1
    have hml : ((B.take k).map (rwF b w n B)).length = k := by simp; omega
    simp (disch := first | omega | (simp only [List.length_append, List.length_cons, List.length_nil, List.length_replicate, List.length_set, List.length_take, List.length_drop, vi_len, vb_len, vo_len, vl_len, vn_len]; omega)) only [↓EC, EV, EL, E2, E3, ER, seval, ↓reduceIte, false_imp_iff, ColV_def, lheap_def, hl, hk, hml]
    (refine Split.mk (fun h => ?_) (fun h => ?_) <;> (try simp only [decide_eq_true_eq, decide_eq_false_iff_not, beq_iff_eq, bne_iff_ne, beq_eq_false_iff_ne, bne_eq_false_iff_eq, Bool.not_eq_true', Bool.not_eq_false', Bool.and_eq_true, Bool.or_eq_true, Bool.and_eq_false_iff, Bool.or_eq_false_iff, Int.not_lt, Int.not_le, Bool.false_eq_true, Bool.true_eq_false, false_and, and_false, true_and, and_true, or_false, false_or, or_true, true_or, not_true_eq_false, not_false_eq_true] at h))
    · have hkb : k < B.length := by omega
      (try simp (disch := first | omega | (simp only [List.length_append, List.length_cons, List.length_nil, List.length_replicate, List.length_set, List.length_take, List.length_drop, vi_len, vb_len, vo_len, vl_len, vn_len]; omega)) only [↓EC, EV, EL, E2, E3, ER, seval, ↓reduceIte, false_imp_iff, hl, hk, hml])
      refine LP_ofE (σ := Nat) [1, 1] 200000 [(65, 30, 1), (100000, 25, 1)] (fun j => [.own 2 1 j (vi .i64 ((B.take j).map (meetV b w n (gl B k)))), .int .i64 j]) (fun j => [.int .i64 n :: vi .u8 (b ++ w), vo 2 ((B.take k).map (rwF b w n B))])
        (fun j => j ≤ B.length) (fun j => B.length - j) 0 (by simp [frameOk, names, lpz, sclp, scv, scvs, vi_nrf, vb_nrf, vt_nrf, v2_nrf, v3_nrf, nrfs, nrf, sc_vi, sc_vb, sc_vt, sc_v2, sc_v3, sc_vo, sc_vl, vo_nrf, vl_nrf, sc_vn, vn_nrf]) (Nat.zero_le _) ?_ ?_
      · simp (disch := first | omega | (simp only [List.length_append, List.length_cons, List.length_nil, List.length_replicate, List.length_set, List.length_take, List.length_drop, vi_len, vb_len, vo_len, vl_len, vn_len]; omega)) only [↓EC, EV, EL, E2, E3, ER, seval, ↓reduceIte, false_imp_iff, ColV_def]
        first | exact ⟨fun _ => trivial, trivial⟩ | exact ⟨fun _ => trivial, rfl⟩ | exact ⟨fun _ => trivial, rfl, rfl⟩ | trace_state
      · rintro j j1
        have hrl : ((B.take j).map (meetV b w n (gl B k))).length = j := by simp; omega
        simp (disch := first | omega | (simp only [List.length_append, List.length_cons, List.length_nil, List.length_replicate, List.length_set, List.length_take, List.length_drop, vi_len, vb_len, vo_len, vl_len, vn_len]; omega)) only [↓EC, EV, EL, E2, E3, ER, seval, ↓reduceIte, false_imp_iff, ColV_def, lheap_def, hl, hk, hml, hrl]
        (refine Split.mk (fun h => ?_) (fun h => ?_) <;> (try simp only [decide_eq_true_eq, decide_eq_false_iff_not, beq_iff_eq, bne_iff_ne, beq_eq_false_iff_ne, bne_eq_false_iff_eq, Bool.not_eq_true', Bool.not_eq_false', Bool.and_eq_true, Bool.or_eq_true, Bool.and_eq_false_iff, Bool.or_eq_false_iff, Int.not_lt, Int.not_le, Bool.false_eq_true, Bool.true_eq_false, false_and, and_false, true_and, and_true, or_false, false_or, or_true, true_or, not_true_eq_false, not_false_eq_true] at h))
        · have hjb : j < B.length := by omega
          (try simp (disch := first | omega | (simp only [List.length_append, List.length_cons, List.length_nil, List.length_replicate, List.length_set, List.length_take, List.length_drop, vi_len, vb_len, vo_len, vl_len, vn_len]; omega)) only [↓EC, EV, EL, E2, E3, ER, seval, ↓reduceIte, false_imp_iff, hl, hk, hml, hrl])
          refine pcd_v (hmm k j hkb hjb) ?_
          (try simp (disch := first | omega | (simp only [List.length_append, List.length_cons, List.length_nil, List.length_replicate, List.length_set, List.length_take, List.length_drop, vi_len, vb_len, vo_len, vl_len, vn_len]; omega)) only [↓EC, EV, EL, E2, E3, ER, seval, ↓reduceIte, false_imp_iff, hl, hk, hml, hrl])
          refine ⟨j + 1, ?_, by omega, by omega⟩
          rw [take_gl hjb, List.map_append]
          simp [vi]
        · have hjb : j = B.length := by omega
          subst hjb
          (try simp (disch := first | omega | (simp only [List.length_append, List.length_cons, List.length_nil, List.length_replicate, List.length_set, List.length_take, List.length_drop, vi_len, vb_len, vo_len, vl_len, vn_len]; omega)) only [↓EC, EV, EL, E2, E3, ER, seval, ↓reduceIte, false_imp_iff, hl, hk, hml, hrl])
          refine ⟨k + 1, ?_, by omega, by omega⟩
          rw [take_gl hkb, List.map_append]
          simp [rwF]
    · have hkb : k = B.length := by omega
      subst hkb
      (try simp (disch := first | omega | (simp only [List.length_append, List.length_cons, List.length_nil, List.length_replicate, List.length_set, List.length_take, List.length_drop, vi_len, vb_len, vo_len, vl_len, vn_len]; omega)) only [↓EC, EV, EL, E2, E3, ER, seval, ↓reduceIte, false_imp_iff, hl, hk])
      simp
theorem c_spec_IntersectionTable_no (hb : okP b) (hw : okP w) (h0 : isDB n b w = false) : PSpec Try.prog 21 [vD n b w] fun v => v = .tup [.nils, .int .i64 1] := by
  have hl := hb.len
  have hk := hw.len
  have hI := c_spec_l01Is hb hw (n := n)
  refine spec_IntersectionTable_f.f ?_
  unfold vD at hI ⊢
  simp (disch := first | omega | (simp only [List.length_append, List.length_cons, List.length_nil, List.length_replicate, List.length_set, List.length_take, List.length_drop, vi_len, vb_len, vo_len, vl_len, vn_len]; omega)) only [↓EC, EV, EL, E2, E3, ER, seval, ↓reduceIte, false_imp_iff, spec_IntersectionTable_F, hl, hk]
  refine pcd_v hI ?_
  (try simp (disch := first | omega | (simp only [List.length_append, List.length_cons, List.length_nil, List.length_replicate, List.length_set, List.length_take, List.length_drop, vi_len, vb_len, vo_len, vl_len, vn_len]; omega)) only [↓EC, EV, EL, E2, E3, ER, seval, ↓reduceIte, false_imp_iff, hl, hk, h0])
end
theorem c_FnExactHomologyBasis {n : Int} {b w : List Int} (hb : okP b) (hw : okP w) : PSpec Try.prog 4 [vD n b w] fun v => v = .bool true := by
  have hl := hb.len
  have hk := hw.len
  refine laws_FnExactHomologyBasis_f.f ?_
  cases h0 : isDB n b w with
  | false =>
    have hs := c_spec_HomologyBasis_no hb hw h0
    have hi := c_impl_HomologyBasis_no hb hw h0
    unfold vD at hs hi ⊢
    simp (disch := first | omega | (simp only [List.length_append, List.length_cons, List.length_nil, List.length_replicate, List.length_set, List.length_take, List.length_drop, vi_len, vb_len, vo_len, vl_len, vn_len]; omega)) only [↓EC, EV, EL, E2, E3, ER, seval, ↓reduceIte, false_imp_iff, laws_FnExactHomologyBasis_F, hl, hk]
    repeat' first
      | (refine Split.mk (fun h => ?_) (fun h => ?_) <;> (try simp only [decide_eq_true_eq, decide_eq_false_iff_not, beq_iff_eq, bne_iff_ne, beq_eq_false_iff_ne, bne_eq_false_iff_eq, Bool.not_eq_true', Bool.not_eq_false', Bool.and_eq_true, Bool.or_eq_true, Bool.and_eq_false_iff, Bool.or_eq_false_iff, Int.not_lt, Int.not_le, Bool.false_eq_true, Bool.true_eq_false, false_and, and_false, true_and, and_true, or_false, false_or, or_true, true_or, not_true_eq_false, not_false_eq_true] at h))
      | (refine pcd_v (c_laws_toDessin hb hw) ?_; (try simp (disch := first | omega | (simp only [List.length_append, List.length_cons, List.length_nil, List.length_replicate, List.length_set, List.length_take, List.length_drop, vi_len, vb_len, vo_len, vl_len, vn_len]; omega)) only [↓EC, EV, EL, E2, E3, ER, seval, ↓reduceIte, false_imp_iff, vD, hl, hk]))
      | (refine pcd_v hs ?_; (try simp (disch := first | omega | (simp only [List.length_append, List.length_cons, List.length_nil, List.length_replicate, List.length_set, List.length_take, List.length_drop, vi_len, vb_len, vo_len, vl_len, vn_len]; omega)) only [↓EC, EV, EL, E2, E3, ER, seval, ↓reduceIte, false_imp_iff, hl, hk]))
      | (refine pcd_v hi ?_; (try simp (disch := first | omega | (simp only [List.length_append, List.length_cons, List.length_nil, List.length_replicate, List.length_set, List.length_take, List.length_drop, vi_len, vb_len, vo_len, vl_len, vn_len]; omega)) only [↓EC, EV, EL, E2, E3, ER, seval, ↓reduceIte, false_imp_iff, hl, hk]))
      | (refine pcd_v c_laws_eqInt64SS_nil ?_; (try simp (disch := first | omega | (simp only [List.length_append, List.length_cons, List.length_nil, List.length_replicate, List.length_set, List.length_take, List.length_drop, vi_len, vb_len, vo_len, vl_len, vn_len]; omega)) only [↓EC, EV, EL, E2, E3, ER, seval, ↓reduceIte, false_imp_iff, hl, hk]))
      | (refine pcd_v c_laws_markInt64SS_nil ?_; (try simp (disch := first | omega | (simp only [List.length_append, List.length_cons, List.length_nil, List.length_replicate, List.length_set, List.length_take, List.length_drop, vi_len, vb_len, vo_len, vl_len, vn_len]; omega)) only [↓EC, EV, EL, E2, E3, ER, seval, ↓reduceIte, false_imp_iff, hl, hk]))
      | (refine pcd_v c_laws_heldInt64SS_nil ?_; (try simp (disch := first | omega | (simp only [List.length_append, List.length_cons, List.length_nil, List.length_replicate, List.length_set, List.length_take, List.length_drop, vi_len, vb_len, vo_len, vl_len, vn_len]; omega)) only [↓EC, EV, EL, E2, E3, ER, seval, ↓reduceIte, false_imp_iff, hl, hk]))
    all_goals first | trivial | simp_all | trace_state
  | true =>
    have hs := c_spec_HomologyBasis hb hw h0
    have hi := c_impl_HomologyBasis hb hw h0
    obtain ⟨r1, r2⟩ := basL_lim (b := b) (w := w) (n := n) (isDB_iff.1 h0).pb.1
    have r3 := rowsN_limP r2
    generalize basL b w n = R at *
    have r4 : rowsN R ≤ 1048576 := by have := Nat.mul_le_mul_right 16 r1; omega
    have r5 : ∀ l ∈ R, l.length ≤ 1048576 := fun l hl => by have := r2 l hl; omega
    unfold vD at hs hi ⊢
    simp (disch := first | omega | (simp only [List.length_append, List.length_cons, List.length_nil, List.length_replicate, List.length_set, List.length_take, List.length_drop, vi_len, vb_len, vo_len, vl_len, vn_len]; omega)) only [↓EC, EV, EL, E2, E3, ER, seval, ↓reduceIte, false_imp_iff, laws_FnExactHomologyBasis_F, hl, hk]
    refine pcd_v (c_laws_toDessin hb hw) ?_; (try simp (disch := first | omega | (simp only [List.length_append, List.length_cons, List.length_nil, List.length_replicate, List.length_set, List.length_take, List.length_drop, vi_len, vb_len, vo_len, vl_len, vn_len]; omega)) only [↓EC, EV, EL, E2, E3, ER, seval, ↓reduceIte, false_imp_iff, vD, hl, hk])
    refine pcd_v hs ?_; (try simp (disch := first | omega | (simp only [List.length_append, List.length_cons, List.length_nil, List.length_replicate, List.length_set, List.length_take, List.length_drop, vi_len, vb_len, vo_len, vl_len, vn_len]; omega)) only [↓EC, EV, EL, E2, E3, ER, seval, ↓reduceIte, false_imp_iff, hl, hk])
    refine pcd_v (c_laws_toDessin hb hw) ?_; (try simp (disch := first | omega | (simp only [List.length_append, List.length_cons, List.length_nil, List.length_replicate, List.length_set, List.length_take, List.length_drop, vi_len, vb_len, vo_len, vl_len, vn_len]; omega)) only [↓EC, EV, EL, E2, E3, ER, seval, ↓reduceIte, false_imp_iff, vD, hl, hk])
    refine pcd_o hi ?_; (try simp (disch := first | omega | (simp only [List.length_append, List.length_cons, List.length_nil, List.length_replicate, List.length_set, List.length_take, List.length_drop, vi_len, vb_len, vo_len, vl_len, vn_len]; omega)) only [↓EC, EV, EL, E2, E3, ER, seval, ↓reduceIte, false_imp_iff, hl, hk])
    refine pcd_v (c_laws_eqInt64SS (by omega) r5) ?_; (try simp (disch := first | omega | (simp only [List.length_append, List.length_cons, List.length_nil, List.length_replicate, List.length_set, List.length_take, List.length_drop, vi_len, vb_len, vo_len, vl_len, vn_len]; omega)) only [↓EC, EV, EL, E2, E3, ER, seval, ↓reduceIte, false_imp_iff, hl, hk])
    refine pcm [84] rfl ?_; (try simp (disch := first | omega | (simp only [List.length_append, List.length_cons, List.length_nil, List.length_replicate, List.length_set, List.length_take, List.length_drop, vi_len, vb_len, vo_len, vl_len, vn_len]; omega)) only [↓EC, EV, EL, E2, E3, ER, seval, ↓reduceIte, false_imp_iff, hl, hk])
    refine callM_v (c_laws_markInt64SS (by omega) (by omega) r4) ?_
    have r6 : (iotaSS R 1).length = R.length := iotaSS_len
    (try simp (disch := first | omega | (simp only [List.length_append, List.length_cons, List.length_nil, List.length_replicate, List.length_set, List.length_take, List.length_drop, vi_len, vb_len, vo_len, vl_len, vn_len]; omega)) only [↓EC, EV, EL, E2, E3, ER, seval, ↓reduceIte, false_imp_iff, hl, hk, r6])
    refine pcd_v (c_laws_heldInt64SS (by omega) (by omega) r4) ?_; (try simp (disch := first | omega | (simp only [List.length_append, List.length_cons, List.length_nil, List.length_replicate, List.length_set, List.length_take, List.length_drop, vi_len, vb_len, vo_len, vl_len, vn_len]; omega)) only [↓EC, EV, EL, E2, E3, ER, seval, ↓reduceIte, false_imp_iff, hl, hk, r6])
    repeat' first
      | (refine Split.mk (fun h => ?_) (fun h => ?_) <;> (try simp only [decide_eq_true_eq, decide_eq_false_iff_not, beq_iff_eq, bne_iff_ne, beq_eq_false_iff_ne, bne_eq_false_iff_eq, Bool.not_eq_true', Bool.not_eq_false', Bool.and_eq_true, Bool.or_eq_true, Bool.and_eq_false_iff, Bool.or_eq_false_iff, Int.not_lt, Int.not_le, Bool.false_eq_true, Bool.true_eq_false, false_and, and_false, true_and, and_true, or_false, false_or, or_true, true_or, not_true_eq_false, not_false_eq_true] at h))
      | (refine pcd_v (c_laws_toDessin hb hw) ?_; (try simp (disch := first | omega | (simp only [List.length_append, List.length_cons, List.length_nil, List.length_replicate, List.length_set, List.length_take, List.length_drop, vi_len, vb_len, vo_len, vl_len, vn_len]; omega)) only [↓EC, EV, EL, E2, E3, ER, seval, ↓reduceIte, false_imp_iff, vD, hl, hk]))
      | (refine pcd_o hi ?_; (try simp (disch := first | omega | (simp only [List.length_append, List.length_cons, List.length_nil, List.length_replicate, List.length_set, List.length_take, List.length_drop, vi_len, vb_len, vo_len, vl_len, vn_len]; omega)) only [↓EC, EV, EL, E2, E3, ER, seval, ↓reduceIte, false_imp_iff, hl, hk]))
      | (refine pcd_v (c_laws_eqInt64SS (by omega) r5) ?_; (try simp (disch := first | omega | (simp only [List.length_append, List.length_cons, List.length_nil, List.length_replicate, List.length_set, List.length_take, List.length_drop, vi_len, vb_len, vo_len, vl_len, vn_len]; omega)) only [↓EC, EV, EL, E2, E3, ER, seval, ↓reduceIte, false_imp_iff, hl, hk]))
      | (refine pcd_v (c_laws_heldInt64SS (by omega) (by omega) r4) ?_; (try simp (disch := first | omega | (simp only [List.length_append, List.length_cons, List.length_nil, List.length_replicate, List.length_set, List.length_take, List.length_drop, vi_len, vb_len, vo_len, vl_len, vn_len]; omega)) only [↓EC, EV, EL, E2, E3, ER, seval, ↓reduceIte, false_imp_iff, hl, hk, r6]))
    all_goals first | trivial | omega | simp_all | trace_state
theorem t_FnExactHomologyBasis : ∀ xs, Ty.oks [tyD] xs → PSpec Try.prog 4 xs fun r => r = .bool true := by
  rintro xs ⟨v, r, rfl, hv, rfl⟩
  obtain ⟨n, b, w, rfl, hb, hw', _⟩ := ok_dessin hv
  exact c_FnExactHomologyBasis hb hw'
theorem c_FnExactIntersectionTable {n : Int} {b w : List Int} (hb : okP b) (hw : okP w) : PSpec Try.prog 6 [vD n b w] fun v => v = .bool true := by
  have hl := hb.len
  have hk := hw.len
  refine laws_FnExactIntersectionTable_f.f ?_
  cases h0 : isDB n b w with
  | false =>
    have hs := c_spec_IntersectionTable_no hb hw h0
    have hi := c_impl_IntersectionTable_no hb hw h0
    unfold vD at hs hi ⊢
    simp (disch := first | omega | (simp only [List.length_append, List.length_cons, List.length_nil, List.length_replicate, List.length_set, List.length_take, List.length_drop, vi_len, vb_len, vo_len, vl_len, vn_len]; omega)) only [↓EC, EV, EL, E2, E3, ER, seval, ↓reduceIte, false_imp_iff, laws_FnExactIntersectionTable_F, hl, hk]
    repeat' first
      | (refine Split.mk (fun h => ?_) (fun h => ?_) <;> (try simp only [decide_eq_true_eq, decide_eq_false_iff_not, beq_iff_eq, bne_iff_ne, beq_eq_false_iff_ne, bne_eq_false_iff_eq, Bool.not_eq_true', Bool.not_eq_false', Bool.and_eq_true, Bool.or_eq_true, Bool.and_eq_false_iff, Bool.or_eq_false_iff, Int.not_lt, Int.not_le, Bool.false_eq_true, Bool.true_eq_false, false_and, and_false, true_and, and_true, or_false, false_or, or_true, true_or, not_true_eq_false, not_false_eq_true] at h))
      | (refine pcd_v (c_laws_toDessin hb hw) ?_; (try simp (disch := first | omega | (simp only [List.length_append, List.length_cons, List.length_nil, List.length_replicate, List.length_set, List.length_take, List.length_drop, vi_len, vb_len, vo_len, vl_len, vn_len]; omega)) only [↓EC, EV, EL, E2, E3, ER, seval, ↓reduceIte, false_imp_iff, vD, hl, hk]))
      | (refine pcd_v hs ?_; (try simp (disch := first | omega | (simp only [List.length_append, List.length_cons, List.length_nil, List.length_replicate, List.length_set, List.length_take, List.length_drop, vi_len, vb_len, vo_len, vl_len, vn_len]; omega)) only [↓EC, EV, EL, E2, E3, ER, seval, ↓reduceIte, false_imp_iff, hl, hk]))
      | (refine pcd_v hi ?_; (try simp (disch := first | omega | (simp only [List.length_append, List.length_cons, List.length_nil, List.length_replicate, List.length_set, List.length_take, List.length_drop, vi_len, vb_len, vo_len, vl_len, vn_len]; omega)) only [↓EC, EV, EL, E2, E3, ER, seval, ↓reduceIte, false_imp_iff, hl, hk]))
      | (refine pcd_v c_laws_eqInt64SS_nil ?_; (try simp (disch := first | omega | (simp only [List.length_append, List.length_cons, List.length_nil, List.length_replicate, List.length_set, List.length_take, List.length_drop, vi_len, vb_len, vo_len, vl_len, vn_len]; omega)) only [↓EC, EV, EL, E2, E3, ER, seval, ↓reduceIte, false_imp_iff, hl, hk]))
      | (refine pcd_v c_laws_markInt64SS_nil ?_; (try simp (disch := first | omega | (simp only [List.length_append, List.length_cons, List.length_nil, List.length_replicate, List.length_set, List.length_take, List.length_drop, vi_len, vb_len, vo_len, vl_len, vn_len]; omega)) only [↓EC, EV, EL, E2, E3, ER, seval, ↓reduceIte, false_imp_iff, hl, hk]))
      | (refine pcd_v c_laws_heldInt64SS_nil ?_; (try simp (disch := first | omega | (simp only [List.length_append, List.length_cons, List.length_nil, List.length_replicate, List.length_set, List.length_take, List.length_drop, vi_len, vb_len, vo_len, vl_len, vn_len]; omega)) only [↓EC, EV, EL, E2, E3, ER, seval, ↓reduceIte, false_imp_iff, hl, hk]))
    all_goals first | trivial | simp_all | trace_state
  | true =>
    have hs := c_spec_IntersectionTable hb hw h0
    have hi := c_impl_IntersectionTable hb hw h0
    obtain ⟨r1, r2⟩ := tbL_lim (b := b) (w := w) (n := n) (isDB_iff.1 h0).pb.1
    have r3 := rowsN_limP r2
    generalize tbL b w n = R at *
    have r4 : rowsN R ≤ 1048576 := by have := Nat.mul_le_mul_right 16 r1; omega
    have r5 : ∀ l ∈ R, l.length ≤ 1048576 := fun l hl => by have := r2 l hl; omega
    unfold vD at hs hi ⊢
    simp (disch := first | omega | (simp only [List.length_append, List.length_cons, List.length_nil, List.length_replicate, List.length_set, List.length_take, List.length_drop, vi_len, vb_len, vo_len, vl_len, vn_len]; omega)) only [↓EC, EV, EL, E2, E3, ER, seval, ↓reduceIte, false_imp_iff, laws_FnExactIntersectionTable_F, hl, hk]
    refine pcd_v (c_laws_toDessin hb hw) ?_; (try simp (disch := first | omega | (simp only [List.length_append, List.length_cons, List.length_nil, List.length_replicate, List.length_set, List.length_take, List.length_drop, vi_len, vb_len, vo_len, vl_len, vn_len]; omega)) only [↓EC, EV, EL, E2, E3, ER, seval, ↓reduceIte, false_imp_iff, vD, hl, hk])
    refine pcd_v hs ?_; (try simp (disch := first | omega | (simp only [List.length_append, List.length_cons, List.length_nil, List.length_replicate, List.length_set, List.length_take, List.length_drop, vi_len, vb_len, vo_len, vl_len, vn_len]; omega)) only [↓EC, EV, EL, E2, E3, ER, seval, ↓reduceIte, false_imp_iff, hl, hk])
    refine pcd_v (c_laws_toDessin hb hw) ?_; (try simp (disch := first | omega | (simp only [List.length_append, List.length_cons, List.length_nil, List.length_replicate, List.length_set, List.length_take, List.length_drop, vi_len, vb_len, vo_len, vl_len, vn_len]; omega)) only [↓EC, EV, EL, E2, E3, ER, seval, ↓reduceIte, false_imp_iff, vD, hl, hk])
    refine pcd_o hi ?_; (try simp (disch := first | omega | (simp only [List.length_append, List.length_cons, List.length_nil, List.length_replicate, List.length_set, List.length_take, List.length_drop, vi_len, vb_len, vo_len, vl_len, vn_len]; omega)) only [↓EC, EV, EL, E2, E3, ER, seval, ↓reduceIte, false_imp_iff, hl, hk])
    refine pcd_v (c_laws_eqInt64SS (by omega) r5) ?_; (try simp (disch := first | omega | (simp only [List.length_append, List.length_cons, List.length_nil, List.length_replicate, List.length_set, List.length_take, List.length_drop, vi_len, vb_len, vo_len, vl_len, vn_len]; omega)) only [↓EC, EV, EL, E2, E3, ER, seval, ↓reduceIte, false_imp_iff, hl, hk])
    refine pcm [84] rfl ?_; (try simp (disch := first | omega | (simp only [List.length_append, List.length_cons, List.length_nil, List.length_replicate, List.length_set, List.length_take, List.length_drop, vi_len, vb_len, vo_len, vl_len, vn_len]; omega)) only [↓EC, EV, EL, E2, E3, ER, seval, ↓reduceIte, false_imp_iff, hl, hk])
    refine callM_v (c_laws_markInt64SS (by omega) (by omega) r4) ?_
    have r6 : (iotaSS R 1).length = R.length := iotaSS_len
    (try simp (disch := first | omega | (simp only [List.length_append, List.length_cons, List.length_nil, List.length_replicate, List.length_set, List.length_take, List.length_drop, vi_len, vb_len, vo_len, vl_len, vn_len]; omega)) only [↓EC, EV, EL, E2, E3, ER, seval, ↓reduceIte, false_imp_iff, hl, hk, r6])
    refine pcd_v (c_laws_heldInt64SS (by omega) (by omega) r4) ?_; (try simp (disch := first | omega | (simp only [List.length_append, List.length_cons, List.length_nil, List.length_replicate, List.length_set, List.length_take, List.length_drop, vi_len, vb_len, vo_len, vl_len, vn_len]; omega)) only [↓EC, EV, EL, E2, E3, ER, seval, ↓reduceIte, false_imp_iff, hl, hk, r6])
    repeat' first
      | (refine Split.mk (fun h => ?_) (fun h => ?_) <;> (try simp only [decide_eq_true_eq, decide_eq_false_iff_not, beq_iff_eq, bne_iff_ne, beq_eq_false_iff_ne, bne_eq_false_iff_eq, Bool.not_eq_true', Bool.not_eq_false', Bool.and_eq_true, Bool.or_eq_true, Bool.and_eq_false_iff, Bool.or_eq_false_iff, Int.not_lt, Int.not_le, Bool.false_eq_true, Bool.true_eq_false, false_and, and_false, true_and, and_true, or_false, false_or, or_true, true_or, not_true_eq_false, not_false_eq_true] at h))
      | (refine pcd_v (c_laws_toDessin hb hw) ?_; (try simp (disch := first | omega | (simp only [List.length_append, List.length_cons, List.length_nil, List.length_replicate, List.length_set, List.length_take, List.length_drop, vi_len, vb_len, vo_len, vl_len, vn_len]; omega)) only [↓EC, EV, EL, E2, E3, ER, seval, ↓reduceIte, false_imp_iff, vD, hl, hk]))
      | (refine pcd_o hi ?_; (try simp (disch := first | omega | (simp only [List.length_append, List.length_cons, List.length_nil, List.length_replicate, List.length_set, List.length_take, List.length_drop, vi_len, vb_len, vo_len, vl_len, vn_len]; omega)) only [↓EC, EV, EL, E2, E3, ER, seval, ↓reduceIte, false_imp_iff, hl, hk]))
      | (refine pcd_v (c_laws_eqInt64SS (by omega) r5) ?_; (try simp (disch := first | omega | (simp only [List.length_append, List.length_cons, List.length_nil, List.length_replicate, List.length_set, List.length_take, List.length_drop, vi_len, vb_len, vo_len, vl_len, vn_len]; omega)) only [↓EC, EV, EL, E2, E3, ER, seval, ↓reduceIte, false_imp_iff, hl, hk]))
      | (refine pcd_v (c_laws_heldInt64SS (by omega) (by omega) r4) ?_; (try simp (disch := first | omega | (simp only [List.length_append, List.length_cons, List.length_nil, List.length_replicate, List.length_set, List.length_take, List.length_drop, vi_len, vb_len, vo_len, vl_len, vn_len]; omega)) only [↓EC, EV, EL, E2, E3, ER, seval, ↓reduceIte, false_imp_iff, hl, hk, r6]))
    all_goals first | trivial | omega | simp_all | trace_state
theorem t_FnExactIntersectionTable : ∀ xs, Ty.oks [tyD] xs → PSpec Try.prog 6 xs fun r => r = .bool true := by
  rintro xs ⟨v, r, rfl, hv, rfl⟩
  obtain ⟨n, b, w, rfl, hb, hw', _⟩ := ok_dessin hv
  exact c_FnExactIntersectionTable hb hw'
end Go.Proofs.Ytcleiehdddjicaa.Sep

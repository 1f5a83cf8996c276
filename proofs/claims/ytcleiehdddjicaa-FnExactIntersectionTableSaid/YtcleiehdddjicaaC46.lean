/- The law of IsBounding. -/
import Derived.Test.YtcleiehdddjicaaC45
namespace Go.Proofs.Ytcleiehdddjicaa.Sep
open Go.RowKit
set_option linter.unusedVariables false
set_option linter.unusedSimpArgs false
set_option maxRecDepth 20000
set_option maxHeartbeats 4000000

/-- The cycles of the edges that are no tree edges. -/
noncomputable def nonL (b w : List Int) (n : Int) : Nat → List (List Int)
  | 0 => []
  | k + 1 => if gb (treeM b w n) k = true then nonL b w n k else nonL b w n k ++ [cyL b w n k]
section
variable {n : Int} {b w : List Int}
theorem nonL_len : ∀ k, (nonL b w n k).length ≤ k
  | 0 => by simp [nonL]
  | k + 1 => by
    have := nonL_len k
    simp only [nonL]; split <;> simp <;> omega
theorem nonL_mem {y : List Int} : ∀ k, y ∈ nonL b w n k ↔ ∃ e, e < k ∧ gb (treeM b w n) e = false ∧ y = cyL b w n e
  | 0 => by simp [nonL]
  | k + 1 => by
    have ih := nonL_mem (y := y) k
    simp only [nonL]
    split
    · rename_i hg
      rw [ih]
      constructor
      · rintro ⟨e, h1, h2, h3⟩; exact ⟨e, by omega, h2, h3⟩
      · rintro ⟨e, h1, h2, h3⟩
        by_cases h : e = k
        · subst h; rw [hg] at h2; cases h2
        · exact ⟨e, by omega, h2, h3⟩
    · rename_i hg
      have hg' : gb (treeM b w n) k = false := by simpa using hg
      rw [List.mem_append, ih]
      simp only [List.mem_cons, List.not_mem_nil, or_false]
      constructor
      · rintro (⟨e, h1, h2, h3⟩ | h1)
        · exact ⟨e, by omega, h2, h3⟩
        · exact ⟨k, by omega, hg', h1⟩
      · rintro ⟨e, h1, h2, h3⟩
        by_cases h : e = k
        · subst h; exact .inr h3
        · exact .inl ⟨e, by omega, h2, h3⟩
theorem c_impl_allCycles (hb : okP b) (hw : okP w) (h0 : isD n b w) : PSpec Try.prog 39 [vD n b w] fun v => v = .own 25 1 (nonL b w n n.toNat).length (vo 2 (nonL b w n n.toNat)) := by
  have hl := hb.len
  have hk := hw.len
  have hn := h0.pb.1
  have htl := treeL_le (b := b) (w := w) hn
  have hT := c_impl_treeEdges hb hw h0
  have hC := fun (x : Nat) (h1 : x < n.toNat) h2 => c_impl_cycleOf1 hb hw h0 (x := x) h1 h2
  refine impl_allCycles_f.f ?_
  unfold vD at hT hC ⊢
  simp (disch := first | omega | (simp only [List.length_append, List.length_cons, List.length_nil, List.length_replicate, List.length_set, List.length_take, List.length_drop, vi_len, vb_len, vo_len, vl_len, vn_len]; omega)) only [↓EC, EV, EL, E2, E3, ER, seval, ↓reduceIte, false_imp_iff, impl_allCycles_F, hl, hk]
  refine pcd_v hT ?_
  (try simp (disch := first | omega | (simp only [List.length_append, List.length_cons, List.length_nil, List.length_replicate, List.length_set, List.length_take, List.length_drop, vi_len, vb_len, vo_len, vl_len, vn_len]; omega)) only [↓EC, EV, EL, E2, E3, ER, seval, ↓reduceIte, false_imp_iff, hl, hk])
  refine LP_ofE (σ := Nat) [1, 1] 100000 [(65, 30, 1)] (fun s => [.own 25 1 (nonL b w n s).length (vo 2 (nonL b w n s)), .int .i64 s]) (fun s => [.int .i64 n :: vi .u8 (b ++ w)])
    (fun s => (s : Int) ≤ n) (fun s => (n - s).toNat) 0 (by simp [frameOk, names, lpz, sclp, scv, scvs, vi_nrf, vb_nrf, vt_nrf, v2_nrf, v3_nrf, nrfs, nrf, sc_vi, sc_vb, sc_vt, sc_v2, sc_v3, sc_vo, sc_vl, vo_nrf, vl_nrf, sc_vn, vn_nrf]) (by simp only [Int.natCast_zero]; omega) ?_ ?_
  · simp (disch := first | omega | (simp only [List.length_append, List.length_cons, List.length_nil, List.length_replicate, List.length_set, List.length_take, List.length_drop, vi_len, vb_len, vo_len, vl_len, vn_len]; omega)) only [↓EC, EV, EL, E2, E3, ER, seval, ↓reduceIte, false_imp_iff, ColV_def]
    exact ⟨fun _ => trivial, rfl⟩
  · rintro s h1
    have hnl := nonL_len (b := b) (w := w) (n := n) s
    simp (disch := first | omega | (simp only [List.length_append, List.length_cons, List.length_nil, List.length_replicate, List.length_set, List.length_take, List.length_drop, vi_len, vb_len, vo_len, vl_len, vn_len]; omega)) only [↓EC, EV, EL, E2, E3, ER, seval, ↓reduceIte, false_imp_iff, ColV_def, lheap_def, hl, hk]
    (refine Split.mk (fun h => ?_) (fun h => ?_) <;> (try simp only [decide_eq_true_eq, decide_eq_false_iff_not, beq_iff_eq, bne_iff_ne, beq_eq_false_iff_ne, bne_eq_false_iff_eq, Bool.not_eq_true', Bool.not_eq_false', Bool.and_eq_true, Bool.or_eq_true, Bool.and_eq_false_iff, Bool.or_eq_false_iff, Int.not_lt, Int.not_le, Bool.false_eq_true, Bool.true_eq_false, false_and, and_false, true_and, and_true, or_false, false_or, or_true, true_or, not_true_eq_false, not_false_eq_true] at h))
    · (try simp (disch := first | omega | (simp only [List.length_append, List.length_cons, List.length_nil, List.length_replicate, List.length_set, List.length_take, List.length_drop, vi_len, vb_len, vo_len, vl_len, vn_len]; omega)) only [↓EC, EV, EL, E2, E3, ER, seval, ↓reduceIte, false_imp_iff, hl, hk])
      refine pcd_v (c_Contains0 rfl (by omega)) ?_
      (try simp (disch := first | omega | (simp only [List.length_append, List.length_cons, List.length_nil, List.length_replicate, List.length_set, List.length_take, List.length_drop, vi_len, vb_len, vo_len, vl_len, vn_len]; omega)) only [↓EC, EV, EL, E2, E3, ER, seval, ↓reduceIte, false_imp_iff, hl, hk])
      have htm := tree_mem hb hw h0 (x := s) (by omega)
      (refine Split.mk (fun h => ?_) (fun h => ?_) <;> (try simp only [decide_eq_true_eq, decide_eq_false_iff_not, beq_iff_eq, bne_iff_ne, beq_eq_false_iff_ne, bne_eq_false_iff_eq, Bool.not_eq_true', Bool.not_eq_false', Bool.and_eq_true, Bool.or_eq_true, Bool.and_eq_false_iff, Bool.or_eq_false_iff, Int.not_lt, Int.not_le, Bool.false_eq_true, Bool.true_eq_false, false_and, and_false, true_and, and_true, or_false, false_or, or_true, true_or, not_true_eq_false, not_false_eq_true] at h))
      · have hg : gb (treeM b w n) s = false := by
          cases hg : gb (treeM b w n) s with
          | false => rfl
          | true => exact absurd (htm.2 hg) h
        have e : nonL b w n (s + 1) = nonL b w n s ++ [cyL b w n s] := by simp only [nonL]; rw [if_neg (by rw [hg]; decide)]
        (try simp (disch := first | omega | (simp only [List.length_append, List.length_cons, List.length_nil, List.length_replicate, List.length_set, List.length_take, List.length_drop, vi_len, vb_len, vo_len, vl_len, vn_len]; omega)) only [↓EC, EV, EL, E2, E3, ER, seval, ↓reduceIte, false_imp_iff, hl, hk])
        refine pcd_o (hC s (by omega) hg) ?_
        (try simp (disch := first | omega | (simp only [List.length_append, List.length_cons, List.length_nil, List.length_replicate, List.length_set, List.length_take, List.length_drop, vi_len, vb_len, vo_len, vl_len, vn_len]; omega)) only [↓EC, EV, EL, E2, E3, ER, seval, ↓reduceIte, false_imp_iff, hl, hk])
        exact ⟨s + 1, by rw [e]; simp, by omega, by omega⟩
      · (try simp (disch := first | omega | (simp only [List.length_append, List.length_cons, List.length_nil, List.length_replicate, List.length_set, List.length_take, List.length_drop, vi_len, vb_len, vo_len, vl_len, vn_len]; omega)) only [↓EC, EV, EL, E2, E3, ER, seval, ↓reduceIte, false_imp_iff, hl, hk])
        have e : nonL b w n (s + 1) = nonL b w n s := by simp only [nonL]; rw [if_pos (htm.1 h)]
        exact ⟨s + 1, by rw [e]; simp, by omega, by omega⟩
    · have : s = n.toNat := by omega
      subst this
      (try simp (disch := first | omega | (simp only [List.length_append, List.length_cons, List.length_nil, List.length_replicate, List.length_set, List.length_take, List.length_drop, vi_len, vb_len, vo_len, vl_len, vn_len]; omega)) only [↓EC, EV, EL, E2, E3, ER, seval, ↓reduceIte, false_imp_iff, hl, hk])
open Classical in
noncomputable def ibR (n : Int) (b w l : List Int) : Bool × Int :=
  if (icR n b w l).2 = 0 ∧ (icR n b w l).1 = true then (decide (∀ x, x < n.toNat → gb (treeM b w n) x = false → meetV b w n l (cyL b w n x) = 0), 0) else (false, (icR n b w l).2)
theorem icR_yes {l : List Int} (h : (icR n b w l).2 = 0 ∧ (icR n b w l).1 = true) : isDB n b w = true ∧ chnB n l = true ∧ cycB l (allV b w n) = true := by
  unfold icR at h
  split at h
  · split at h
    · exact ⟨by assumption, by assumption, h.2⟩
    · cases h.2
  · cases h.2
theorem ibR_no {l : List Int} {x : Nat} (h : (icR n b w l).2 = 0 ∧ (icR n b w l).1 = true) (hx : x < n.toNat) (hg : gb (treeM b w n) x = false) (hm : meetV b w n l (cyL b w n x) ≠ 0) : ibR n b w l = (false, 0) := by
  unfold ibR
  rw [if_pos h]
  congr 1
  rw [decide_eq_false_iff_not]
  intro h'
  exact hm (h' x hx hg)
theorem ibR_yes {l : List Int} (h : (icR n b w l).2 = 0 ∧ (icR n b w l).1 = true) (hm : ∀ x, x < n.toNat → gb (treeM b w n) x = false → meetV b w n l (cyL b w n x) = 0) : ibR n b w l = (true, 0) := by
  unfold ibR
  rw [if_pos h]
  congr 1
  rw [decide_eq_true_eq]
  exact hm
theorem c_impl_IsBounding {l : List Int} (hb : okP b) (hw : okP w) (hll : l.length ≤ 1048576) : PSpec Try.prog 20 [vD n b w, .sl l.length (vi .i64 l)] fun v => v = .tup [.bool (ibR n b w l).1, .int .i64 (ibR n b w l).2] := by
  have hl := hb.len
  have hk := hw.len
  have hI := c_impl_IsCycle (n := n) hb hw hll
  by_cases hic : (icR n b w l).2 = 0 ∧ (icR n b w l).1 = true
  · obtain ⟨h0, h1, h2⟩ := icR_yes hic
    have hd := isDB_iff.1 h0
    have hn := hd.pb.1
    have hcl := chnB_at h1
    have hA := c_impl_allCycles hb hw hd
    have hmm := fun (y : List Int) h2 h4 => c_impl_intersection (x := l) (y := y) hb hw hd hcl.1 h2 (chnB_lm h1) h4
    have hnl := nonL_len (b := b) (w := w) (n := n) n.toNat
    refine impl_IsBounding_f.f ?_
    rw [hic.1, hic.2] at hI
    unfold vD at hI hA hmm ⊢
    simp (disch := first | omega | (simp only [List.length_append, List.length_cons, List.length_nil, List.length_replicate, List.length_set, List.length_take, List.length_drop, vi_len, vb_len, vo_len, vl_len, vn_len]; omega)) only [↓EC, EV, EL, E2, E3, ER, seval, ↓reduceIte, false_imp_iff, impl_IsBounding_F, hl, hk]
    refine pcd_v hI ?_
    (try simp (disch := first | omega | (simp only [List.length_append, List.length_cons, List.length_nil, List.length_replicate, List.length_set, List.length_take, List.length_drop, vi_len, vb_len, vo_len, vl_len, vn_len]; omega)) only [↓EC, EV, EL, E2, E3, ER, seval, ↓reduceIte, false_imp_iff, hl, hk])
    refine pcd_v hA ?_
    (try simp (disch := first | omega | (simp only [List.length_append, List.length_cons, List.length_nil, List.length_replicate, List.length_set, List.length_take, List.length_drop, vi_len, vb_len, vo_len, vl_len, vn_len]; omega)) only [↓EC, EV, EL, E2, E3, ER, seval, ↓reduceIte, false_imp_iff, hl, hk])
    refine LP_of (σ := Nat) 100000 [(66, 30, 1)] (fun s => [.int .i64 s]) (fun s => [.int .i64 n :: vi .u8 (b ++ w)])
      (fun s => s ≤ (nonL b w n n.toNat).length ∧ ∀ t, t < s → meetV b w n l (gl (nonL b w n n.toNat) t) = 0) (fun s => (nonL b w n n.toNat).length - s) 0 (by simp [frameOk, names, lpz, sclp, scv, scvs, vi_nrf, vb_nrf, vt_nrf, v2_nrf, v3_nrf, nrfs, nrf, sc_vi, sc_vb, sc_vt, sc_v2, sc_v3, sc_vo, sc_vl, vo_nrf, vl_nrf, sc_vn, vn_nrf]) ⟨Nat.zero_le _, fun t ht => absurd ht (Nat.not_lt_zero t)⟩ ?_ ?_
    · simp (disch := first | omega | (simp only [List.length_append, List.length_cons, List.length_nil, List.length_replicate, List.length_set, List.length_take, List.length_drop, vi_len, vb_len, vo_len, vl_len, vn_len]; omega)) only [↓EC, EV, EL, E2, E3, ER, seval, ↓reduceIte, false_imp_iff, ColV_def]
    · rintro s ⟨s1, s2⟩
      simp (disch := first | omega | (simp only [List.length_append, List.length_cons, List.length_nil, List.length_replicate, List.length_set, List.length_take, List.length_drop, vi_len, vb_len, vo_len, vl_len, vn_len]; omega)) only [↓EC, EV, EL, E2, E3, ER, seval, ↓reduceIte, false_imp_iff, ColV_def, lheap_def, hl, hk]
      (refine Split.mk (fun h => ?_) (fun h => ?_) <;> (try simp only [decide_eq_true_eq, decide_eq_false_iff_not, beq_iff_eq, bne_iff_ne, beq_eq_false_iff_ne, bne_eq_false_iff_eq, Bool.not_eq_true', Bool.not_eq_false', Bool.and_eq_true, Bool.or_eq_true, Bool.and_eq_false_iff, Bool.or_eq_false_iff, Int.not_lt, Int.not_le, Bool.false_eq_true, Bool.true_eq_false, false_and, and_false, true_and, and_true, or_false, false_or, or_true, true_or, not_true_eq_false, not_false_eq_true] at h))
      · have hs : s < (nonL b w n n.toNat).length := by omega
        obtain ⟨e, e1, e2, e3⟩ := (nonL_mem n.toNat).1 (gl_mem hs)
        (try simp (disch := first | omega | (simp only [List.length_append, List.length_cons, List.length_nil, List.length_replicate, List.length_set, List.length_take, List.length_drop, vi_len, vb_len, vo_len, vl_len, vn_len]; omega)) only [↓EC, EV, EL, E2, E3, ER, seval, ↓reduceIte, false_imp_iff, hl, hk])
        refine pcd_v (hmm (gl (nonL b w n n.toNat) s) (by rw [e3, cyL_len]; omega) (by rw [e3]; exact cyL_lm hb hw hd e1 e2)) ?_
        (try simp (disch := first | omega | (simp only [List.length_append, List.length_cons, List.length_nil, List.length_replicate, List.length_set, List.length_take, List.length_drop, vi_len, vb_len, vo_len, vl_len, vn_len]; omega)) only [↓EC, EV, EL, E2, E3, ER, seval, ↓reduceIte, false_imp_iff, hl, hk])
        (refine Split.mk (fun h => ?_) (fun h => ?_) <;> (try simp only [decide_eq_true_eq, decide_eq_false_iff_not, beq_iff_eq, bne_iff_ne, beq_eq_false_iff_ne, bne_eq_false_iff_eq, Bool.not_eq_true', Bool.not_eq_false', Bool.and_eq_true, Bool.or_eq_true, Bool.and_eq_false_iff, Bool.or_eq_false_iff, Int.not_lt, Int.not_le, Bool.false_eq_true, Bool.true_eq_false, false_and, and_false, true_and, and_true, or_false, false_or, or_true, true_or, not_true_eq_false, not_false_eq_true] at h))
        · (try simp (disch := first | omega | (simp only [List.length_append, List.length_cons, List.length_nil, List.length_replicate, List.length_set, List.length_take, List.length_drop, vi_len, vb_len, vo_len, vl_len, vn_len]; omega)) only [↓EC, EV, EL, E2, E3, ER, seval, ↓reduceIte, false_imp_iff, hl, hk])
          rw [ibR_no hic e1 e2 (by rw [← e3]; exact h)]
        · (try simp (disch := first | omega | (simp only [List.length_append, List.length_cons, List.length_nil, List.length_replicate, List.length_set, List.length_take, List.length_drop, vi_len, vb_len, vo_len, vl_len, vn_len]; omega)) only [↓EC, EV, EL, E2, E3, ER, seval, ↓reduceIte, false_imp_iff, hl, hk])
          refine ⟨s + 1, by simp, ⟨by omega, fun t ht => ?_⟩, by omega⟩
          by_cases hts : t = s
          · subst hts; exact h
          · exact s2 t (by omega)
      · (try simp (disch := first | omega | (simp only [List.length_append, List.length_cons, List.length_nil, List.length_replicate, List.length_set, List.length_take, List.length_drop, vi_len, vb_len, vo_len, vl_len, vn_len]; omega)) only [↓EC, EV, EL, E2, E3, ER, seval, ↓reduceIte, false_imp_iff, hl, hk])
        rw [ibR_yes hic fun x hx hg => ?_]
        obtain ⟨t, ht, hte⟩ := List.getElem_of_mem ((nonL_mem (b := b) (w := w) (n := n) n.toNat).2 ⟨x, hx, hg, rfl⟩)
        have := s2 t (by omega)
        rw [gl_of ht, hte] at this
        exact this
  · have e : ibR n b w l = (false, (icR n b w l).2) := by unfold ibR; rw [if_neg hic]
    refine impl_IsBounding_f.f ?_
    rw [e]
    unfold vD at hI ⊢
    simp (disch := first | omega | (simp only [List.length_append, List.length_cons, List.length_nil, List.length_replicate, List.length_set, List.length_take, List.length_drop, vi_len, vb_len, vo_len, vl_len, vn_len]; omega)) only [↓EC, EV, EL, E2, E3, ER, seval, ↓reduceIte, false_imp_iff, impl_IsBounding_F, hl, hk]
    refine pcd_v hI ?_
    generalize icR n b w l = R at *
    obtain ⟨is, code⟩ := R
    simp only at hic
    (try simp (disch := first | omega | (simp only [List.length_append, List.length_cons, List.length_nil, List.length_replicate, List.length_set, List.length_take, List.length_drop, vi_len, vb_len, vo_len, vl_len, vn_len]; omega)) only [↓EC, EV, EL, E2, E3, ER, seval, ↓reduceIte, false_imp_iff, hl, hk])
    (refine Split.mk (fun h => ?_) (fun h => ?_) <;> (try simp only [decide_eq_true_eq, decide_eq_false_iff_not, beq_iff_eq, bne_iff_ne, beq_eq_false_iff_ne, bne_eq_false_iff_eq, Bool.not_eq_true', Bool.not_eq_false', Bool.and_eq_true, Bool.or_eq_true, Bool.and_eq_false_iff, Bool.or_eq_false_iff, Int.not_lt, Int.not_le, Bool.false_eq_true, Bool.true_eq_false, false_and, and_false, true_and, and_true, or_false, false_or, or_true, true_or, not_true_eq_false, not_false_eq_true] at h))
    · (try simp (disch := first | omega | (simp only [List.length_append, List.length_cons, List.length_nil, List.length_replicate, List.length_set, List.length_take, List.length_drop, vi_len, vb_len, vo_len, vl_len, vn_len]; omega)) only [↓EC, EV, EL, E2, E3, ER, seval, ↓reduceIte, false_imp_iff, hl, hk])
    · have hc : code = 0 := by simpa using h
      subst hc
      have his : is = false := by simpa using hic
      subst his
      (try simp (disch := first | omega | (simp only [List.length_append, List.length_cons, List.length_nil, List.length_replicate, List.length_set, List.length_take, List.length_drop, vi_len, vb_len, vo_len, vl_len, vn_len]; omega)) only [↓EC, EV, EL, E2, E3, ER, seval, ↓reduceIte, false_imp_iff, hl, hk])
theorem c_spec_IsBounding {l : List Int} (hb : okP b) (hw : okP w) (hll : l.length ≤ 1048576) : PSpec Try.prog 18 [vD n b w, .sl l.length (vi .i64 l)] fun v => v = .tup [.bool (ibR n b w l).1, .int .i64 (ibR n b w l).2] := by
  have hl := hb.len
  have hk := hw.len
  have hI := c_spec_l01Is hb hw (n := n)
  have hH := c_spec_l09Chain (n := n) hl hk hll
  refine spec_IsBounding_f.f ?_
  cases h0 : isDB n b w with
  | false =>
    have ic : icR n b w l = (false, 1) := by unfold icR; rw [h0]; rfl
    have e : ibR n b w l = (false, 1) := by unfold ibR; rw [ic, if_neg (by simp)]
    rw [e]
    unfold vD at hI ⊢
    simp (disch := first | omega | (simp only [List.length_append, List.length_cons, List.length_nil, List.length_replicate, List.length_set, List.length_take, List.length_drop, vi_len, vb_len, vo_len, vl_len, vn_len]; omega)) only [↓EC, EV, EL, E2, E3, ER, seval, ↓reduceIte, false_imp_iff, spec_IsBounding_F, hl, hk]
    refine pcd_v hI ?_
    (try simp (disch := first | omega | (simp only [List.length_append, List.length_cons, List.length_nil, List.length_replicate, List.length_set, List.length_take, List.length_drop, vi_len, vb_len, vo_len, vl_len, vn_len]; omega)) only [↓EC, EV, EL, E2, E3, ER, seval, ↓reduceIte, false_imp_iff, hl, hk, h0])
  | true =>
    have hd := isDB_iff.1 h0
    cases h1 : chnB n l with
    | false =>
      have ic : icR n b w l = (false, 2) := by unfold icR; rw [h0, h1]; rfl
      have e : ibR n b w l = (false, 2) := by unfold ibR; rw [ic, if_neg (by simp)]
      rw [e]
      unfold vD at hI hH ⊢
      simp (disch := first | omega | (simp only [List.length_append, List.length_cons, List.length_nil, List.length_replicate, List.length_set, List.length_take, List.length_drop, vi_len, vb_len, vo_len, vl_len, vn_len]; omega)) only [↓EC, EV, EL, E2, E3, ER, seval, ↓reduceIte, false_imp_iff, spec_IsBounding_F, hl, hk]
      refine pcd_v hI ?_
      (try simp (disch := first | omega | (simp only [List.length_append, List.length_cons, List.length_nil, List.length_replicate, List.length_set, List.length_take, List.length_drop, vi_len, vb_len, vo_len, vl_len, vn_len]; omega)) only [↓EC, EV, EL, E2, E3, ER, seval, ↓reduceIte, false_imp_iff, hl, hk, h0])
      refine pcd_v hH ?_
      (try simp (disch := first | omega | (simp only [List.length_append, List.length_cons, List.length_nil, List.length_replicate, List.length_set, List.length_take, List.length_drop, vi_len, vb_len, vo_len, vl_len, vn_len]; omega)) only [↓EC, EV, EL, E2, E3, ER, seval, ↓reduceIte, false_imp_iff, hl, hk, h1])
    | true =>
      have hY := c_spec_l09Cycle (n := n) (a := l) hb hw hd h1
      cases h2 : cycB l (allV b w n) with
      | false =>
        have ic : icR n b w l = (false, 0) := by unfold icR; rw [h0, h1, h2]; rfl
        have e : ibR n b w l = (false, 0) := by unfold ibR; rw [ic, if_neg (by simp)]
        rw [e]
        unfold vD at hI hH hY ⊢
        simp (disch := first | omega | (simp only [List.length_append, List.length_cons, List.length_nil, List.length_replicate, List.length_set, List.length_take, List.length_drop, vi_len, vb_len, vo_len, vl_len, vn_len]; omega)) only [↓EC, EV, EL, E2, E3, ER, seval, ↓reduceIte, false_imp_iff, spec_IsBounding_F, hl, hk]
        refine pcd_v hI ?_
        (try simp (disch := first | omega | (simp only [List.length_append, List.length_cons, List.length_nil, List.length_replicate, List.length_set, List.length_take, List.length_drop, vi_len, vb_len, vo_len, vl_len, vn_len]; omega)) only [↓EC, EV, EL, E2, E3, ER, seval, ↓reduceIte, false_imp_iff, hl, hk, h0])
        refine pcd_v hH ?_
        (try simp (disch := first | omega | (simp only [List.length_append, List.length_cons, List.length_nil, List.length_replicate, List.length_set, List.length_take, List.length_drop, vi_len, vb_len, vo_len, vl_len, vn_len]; omega)) only [↓EC, EV, EL, E2, E3, ER, seval, ↓reduceIte, false_imp_iff, hl, hk, h1])
        refine pcd_v hY ?_
        (try simp (disch := first | omega | (simp only [List.length_append, List.length_cons, List.length_nil, List.length_replicate, List.length_set, List.length_take, List.length_drop, vi_len, vb_len, vo_len, vl_len, vn_len]; omega)) only [↓EC, EV, EL, E2, E3, ER, seval, ↓reduceIte, false_imp_iff, hl, hk, h2])
      | true =>
        have hic : (icR n b w l).2 = 0 ∧ (icR n b w l).1 = true := by unfold icR; rw [if_pos h0, if_pos h1]; exact ⟨rfl, h2⟩
        have hn := hd.pb.1
        have hcl := chnB_at h1
        have htl := treeM_len (b := b) (w := w) (n := n)
        have hT := c_spec_l09Tree hb hw hd
        have hC := fun (x : Nat) (h1 : x < n.toNat) h2 => c_spec_l09Of1 hb hw hd (x := x) h1 h2
        have hmm := fun (y : List Int) h2 h4 => c_spec_l09Meet (x := l) (y := y) hb hw hd hcl.1 h2 (chnB_lm h1) h4
        unfold vD at hI hH hY hT hC hmm ⊢
        simp (disch := first | omega | (simp only [List.length_append, List.length_cons, List.length_nil, List.length_replicate, List.length_set, List.length_take, List.length_drop, vi_len, vb_len, vo_len, vl_len, vn_len]; omega)) only [↓EC, EV, EL, E2, E3, ER, seval, ↓reduceIte, false_imp_iff, spec_IsBounding_F, hl, hk]
        refine pcd_v hI ?_
        (try simp (disch := first | omega | (simp only [List.length_append, List.length_cons, List.length_nil, List.length_replicate, List.length_set, List.length_take, List.length_drop, vi_len, vb_len, vo_len, vl_len, vn_len]; omega)) only [↓EC, EV, EL, E2, E3, ER, seval, ↓reduceIte, false_imp_iff, hl, hk, h0])
        refine pcd_v hH ?_
        (try simp (disch := first | omega | (simp only [List.length_append, List.length_cons, List.length_nil, List.length_replicate, List.length_set, List.length_take, List.length_drop, vi_len, vb_len, vo_len, vl_len, vn_len]; omega)) only [↓EC, EV, EL, E2, E3, ER, seval, ↓reduceIte, false_imp_iff, hl, hk, h1])
        refine pcd_v hY ?_
        (try simp (disch := first | omega | (simp only [List.length_append, List.length_cons, List.length_nil, List.length_replicate, List.length_set, List.length_take, List.length_drop, vi_len, vb_len, vo_len, vl_len, vn_len]; omega)) only [↓EC, EV, EL, E2, E3, ER, seval, ↓reduceIte, false_imp_iff, hl, hk, h2])
        refine pcd_v hT ?_
        (try simp (disch := first | omega | (simp only [List.length_append, List.length_cons, List.length_nil, List.length_replicate, List.length_set, List.length_take, List.length_drop, vi_len, vb_len, vo_len, vl_len, vn_len]; omega)) only [↓EC, EV, EL, E2, E3, ER, seval, ↓reduceIte, false_imp_iff, hl, hk, htl])
        refine LP_of (σ := Nat) 100000 [(66, 30, 1), (70, 47, 1)] (fun s => [.int .i64 s]) (fun s => [.int .i64 n :: vi .u8 (b ++ w), vb (treeM b w n)])
          (fun s => (s : Int) ≤ n ∧ ∀ t, t < s → gb (treeM b w n) t = false → meetV b w n l (cyL b w n t) = 0) (fun s => (n - s).toNat) 0 (by simp [frameOk, names, lpz, sclp, scv, scvs, vi_nrf, vb_nrf, vt_nrf, v2_nrf, v3_nrf, nrfs, nrf, sc_vi, sc_vb, sc_vt, sc_v2, sc_v3, sc_vo, sc_vl, vo_nrf, vl_nrf, sc_vn, vn_nrf]) ⟨by simp only [Int.natCast_zero]; omega, fun t ht => absurd ht (Nat.not_lt_zero t)⟩ ?_ ?_
        · simp (disch := first | omega | (simp only [List.length_append, List.length_cons, List.length_nil, List.length_replicate, List.length_set, List.length_take, List.length_drop, vi_len, vb_len, vo_len, vl_len, vn_len]; omega)) only [↓EC, EV, EL, E2, E3, ER, seval, ↓reduceIte, false_imp_iff, ColV_def]
        · rintro s ⟨s1, s2⟩
          simp (disch := first | omega | (simp only [List.length_append, List.length_cons, List.length_nil, List.length_replicate, List.length_set, List.length_take, List.length_drop, vi_len, vb_len, vo_len, vl_len, vn_len]; omega)) only [↓EC, EV, EL, E2, E3, ER, seval, ↓reduceIte, false_imp_iff, ColV_def, lheap_def, hl, hk, htl]
          (refine Split.mk (fun h => ?_) (fun h => ?_) <;> (try simp only [decide_eq_true_eq, decide_eq_false_iff_not, beq_iff_eq, bne_iff_ne, beq_eq_false_iff_ne, bne_eq_false_iff_eq, Bool.not_eq_true', Bool.not_eq_false', Bool.and_eq_true, Bool.or_eq_true, Bool.and_eq_false_iff, Bool.or_eq_false_iff, Int.not_lt, Int.not_le, Bool.false_eq_true, Bool.true_eq_false, false_and, and_false, true_and, and_true, or_false, false_or, or_true, true_or, not_true_eq_false, not_false_eq_true] at h))
          · (try simp (disch := first | omega | (simp only [List.length_append, List.length_cons, List.length_nil, List.length_replicate, List.length_set, List.length_take, List.length_drop, vi_len, vb_len, vo_len, vl_len, vn_len]; omega)) only [↓EC, EV, EL, E2, E3, ER, seval, ↓reduceIte, false_imp_iff, hl, hk, htl])
            cases hg : gb (treeM b w n) s with
            | true =>
              (try simp (disch := first | omega | (simp only [List.length_append, List.length_cons, List.length_nil, List.length_replicate, List.length_set, List.length_take, List.length_drop, vi_len, vb_len, vo_len, vl_len, vn_len]; omega)) only [↓EC, EV, EL, E2, E3, ER, seval, ↓reduceIte, false_imp_iff, hl, hk, htl, hg])
              refine ⟨s + 1, by simp, ⟨by omega, fun t ht hgt => ?_⟩, by omega⟩
              by_cases hts : t = s
              · subst hts; rw [hg] at hgt; cases hgt
              · exact s2 t (by omega) hgt
            | false =>
              (try simp (disch := first | omega | (simp only [List.length_append, List.length_cons, List.length_nil, List.length_replicate, List.length_set, List.length_take, List.length_drop, vi_len, vb_len, vo_len, vl_len, vn_len]; omega)) only [↓EC, EV, EL, E2, E3, ER, seval, ↓reduceIte, false_imp_iff, hl, hk, htl, hg])
              refine pcd_v (hC s (by omega) hg) ?_
              (try simp (disch := first | omega | (simp only [List.length_append, List.length_cons, List.length_nil, List.length_replicate, List.length_set, List.length_take, List.length_drop, vi_len, vb_len, vo_len, vl_len, vn_len]; omega)) only [↓EC, EV, EL, E2, E3, ER, seval, ↓reduceIte, false_imp_iff, hl, hk, htl])
              refine pcd_v (hmm (cyL b w n s) (by rw [cyL_len]; omega) (cyL_lm hb hw hd (by omega) hg)) ?_
              (try simp (disch := first | omega | (simp only [List.length_append, List.length_cons, List.length_nil, List.length_replicate, List.length_set, List.length_take, List.length_drop, vi_len, vb_len, vo_len, vl_len, vn_len]; omega)) only [↓EC, EV, EL, E2, E3, ER, seval, ↓reduceIte, false_imp_iff, hl, hk, htl])
              (refine Split.mk (fun h => ?_) (fun h => ?_) <;> (try simp only [decide_eq_true_eq, decide_eq_false_iff_not, beq_iff_eq, bne_iff_ne, beq_eq_false_iff_ne, bne_eq_false_iff_eq, Bool.not_eq_true', Bool.not_eq_false', Bool.and_eq_true, Bool.or_eq_true, Bool.and_eq_false_iff, Bool.or_eq_false_iff, Int.not_lt, Int.not_le, Bool.false_eq_true, Bool.true_eq_false, false_and, and_false, true_and, and_true, or_false, false_or, or_true, true_or, not_true_eq_false, not_false_eq_true] at h))
              · (try simp (disch := first | omega | (simp only [List.length_append, List.length_cons, List.length_nil, List.length_replicate, List.length_set, List.length_take, List.length_drop, vi_len, vb_len, vo_len, vl_len, vn_len]; omega)) only [↓EC, EV, EL, E2, E3, ER, seval, ↓reduceIte, false_imp_iff, hl, hk, htl])
                rw [ibR_no hic (by omega) hg h]
              · (try simp (disch := first | omega | (simp only [List.length_append, List.length_cons, List.length_nil, List.length_replicate, List.length_set, List.length_take, List.length_drop, vi_len, vb_len, vo_len, vl_len, vn_len]; omega)) only [↓EC, EV, EL, E2, E3, ER, seval, ↓reduceIte, false_imp_iff, hl, hk, htl])
                refine ⟨s + 1, by simp, ⟨by omega, fun t ht hgt => ?_⟩, by omega⟩
                by_cases hts : t = s
                · subst hts; exact h
                · exact s2 t (by omega) hgt
          · (try simp (disch := first | omega | (simp only [List.length_append, List.length_cons, List.length_nil, List.length_replicate, List.length_set, List.length_take, List.length_drop, vi_len, vb_len, vo_len, vl_len, vn_len]; omega)) only [↓EC, EV, EL, E2, E3, ER, seval, ↓reduceIte, false_imp_iff, hl, hk, htl])
            rw [ibR_yes hic fun x hx hg => s2 x (by omega) hg]
end
theorem c_FnExactIsBounding {n : Int} {b w l : List Int} (hb : okP b) (hw : okP w) (hll : l.length ≤ 9223372036854775807) : PSpec Try.prog 5 [vD n b w, .sl l.length (vi .i64 l)] fun v => v = .bool true := by
  have hl := hb.len
  have hk := hw.len
  refine laws_FnExactIsBounding_f.f ?_
  unfold vD
  simp (disch := first | omega | (simp only [List.length_append, List.length_cons, List.length_nil, List.length_replicate, List.length_set, List.length_take, List.length_drop, vi_len, vb_len, vo_len, vl_len, vn_len]; omega)) only [↓EC, EV, EL, E2, E3, ER, seval, ↓reduceIte, false_imp_iff, laws_FnExactIsBounding_F, hl, hk]
  (refine Split.mk (fun h => ?_) (fun h => ?_) <;> (try simp only [decide_eq_true_eq, decide_eq_false_iff_not, beq_iff_eq, bne_iff_ne, beq_eq_false_iff_ne, bne_eq_false_iff_eq, Bool.not_eq_true', Bool.not_eq_false', Bool.and_eq_true, Bool.or_eq_true, Bool.and_eq_false_iff, Bool.or_eq_false_iff, Int.not_lt, Int.not_le, Bool.false_eq_true, Bool.true_eq_false, false_and, and_false, true_and, and_true, or_false, false_or, or_true, true_or, not_true_eq_false, not_false_eq_true] at h))
  · trivial
  have hl' : l.length ≤ 1048576 := by omega
  have hs := c_spec_IsBounding (n := n) hb hw hl'
  have hi := c_impl_IsBounding (n := n) hb hw hl'
  unfold vD at hs hi
  generalize ibR n b w l = R at *
  (try simp (disch := first | omega | (simp only [List.length_append, List.length_cons, List.length_nil, List.length_replicate, List.length_set, List.length_take, List.length_drop, vi_len, vb_len, vo_len, vl_len, vn_len]; omega)) only [↓EC, EV, EL, E2, E3, ER, seval, ↓reduceIte, false_imp_iff, hl, hk])
  repeat' first
    | (refine Split.mk (fun h => ?_) (fun h => ?_) <;> (try simp only [decide_eq_true_eq, decide_eq_false_iff_not, beq_iff_eq, bne_iff_ne, beq_eq_false_iff_ne, bne_eq_false_iff_eq, Bool.not_eq_true', Bool.not_eq_false', Bool.and_eq_true, Bool.or_eq_true, Bool.and_eq_false_iff, Bool.or_eq_false_iff, Int.not_lt, Int.not_le, Bool.false_eq_true, Bool.true_eq_false, false_and, and_false, true_and, and_true, or_false, false_or, or_true, true_or, not_true_eq_false, not_false_eq_true] at h))
    | (refine pcd_v (c_laws_toDessin hb hw) ?_; (try simp (disch := first | omega | (simp only [List.length_append, List.length_cons, List.length_nil, List.length_replicate, List.length_set, List.length_take, List.length_drop, vi_len, vb_len, vo_len, vl_len, vn_len]; omega)) only [↓EC, EV, EL, E2, E3, ER, seval, ↓reduceIte, false_imp_iff, vD, hl, hk]))
    | (refine pcd_v (c_laws_toInt64S hl') ?_; (try simp (disch := first | omega | (simp only [List.length_append, List.length_cons, List.length_nil, List.length_replicate, List.length_set, List.length_take, List.length_drop, vi_len, vb_len, vo_len, vl_len, vn_len]; omega)) only [↓EC, EV, EL, E2, E3, ER, seval, ↓reduceIte, false_imp_iff, hl, hk]))
    | (refine pcd_v hs ?_; (try simp (disch := first | omega | (simp only [List.length_append, List.length_cons, List.length_nil, List.length_replicate, List.length_set, List.length_take, List.length_drop, vi_len, vb_len, vo_len, vl_len, vn_len]; omega)) only [↓EC, EV, EL, E2, E3, ER, seval, ↓reduceIte, false_imp_iff, hl, hk]))
    | (refine pcd_v hi ?_; (try simp (disch := first | omega | (simp only [List.length_append, List.length_cons, List.length_nil, List.length_replicate, List.length_set, List.length_take, List.length_drop, vi_len, vb_len, vo_len, vl_len, vn_len]; omega)) only [↓EC, EV, EL, E2, E3, ER, seval, ↓reduceIte, false_imp_iff, hl, hk]))
    | (refine pcd_v (c_laws_eqInt64S hl') ?_; (try simp (disch := first | omega | (simp only [List.length_append, List.length_cons, List.length_nil, List.length_replicate, List.length_set, List.length_take, List.length_drop, vi_len, vb_len, vo_len, vl_len, vn_len]; omega)) only [↓EC, EV, EL, E2, E3, ER, seval, ↓reduceIte, false_imp_iff, hl, hk]))
  all_goals first | trivial | simp_all | trace_state
theorem t_FnExactIsBounding : ∀ xs, Ty.oks [tyD, .sl (.int .i64)] xs → PSpec Try.prog 5 xs fun r => r = .bool true := by
  rintro xs ⟨v, r, rfl, hv, y, r, rfl, hy, rfl⟩
  obtain ⟨n, b, w, rfl, hb, hw', _⟩ := ok_dessin hv
  obtain ⟨a, rfl, ha, _⟩ := ok_ints hy
  exact c_FnExactIsBounding hb hw' ha
end Go.Proofs.Ytcleiehdddjicaa.Sep

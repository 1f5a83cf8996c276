/- The law of CycleOfEdge. -/
import Derived.Test.YtcleiehdddjicaaC44
namespace Go.Proofs.Ytcleiehdddjicaa.Sep
open Go.RowKit
set_option linter.unusedVariables false
set_option linter.unusedSimpArgs false
set_option maxRecDepth 20000
set_option maxHeartbeats 4000000

/-- The cycle of an edge that is no tree edge. -/
noncomputable def cyA (b w : List Int) (n : Int) (x : Nat) : Nat → Int := open Classical in if h : ∃ a, SolD b w n x a then h.choose else fun _ => 0
noncomputable def cyL (b w : List Int) (n : Int) (x : Nat) : List Int := (List.range n.toNat).map (cyA b w n x)
theorem cyL_len {b w : List Int} {n : Int} {x : Nat} : (cyL b w n x).length = n.toNat := by simp [cyL]
section
variable {n : Int} {b w : List Int}
theorem cyA_sol (hb : okP b) (hw : okP w) (h0 : isD n b w) {x : Nat} (hx : x < n.toNat) (hxt : gb (treeM b w n) x = false) : SolD b w n x (cyA b w n x) := by
  have hn := h0.pb.1
  have lb := h0.pb.lo hb
  have lw := h0.pw.lo hw
  have pb := h0.pb.ltP hb
  have pw := h0.pw.ltP hw
  have h := sol_ex (dFo lb lw pb pw hn) (by omega) hx (fun ht => by
    rw [(tree_iff lb lw pb pw hn (by omega)).2 ht] at hxt; cases hxt)
  unfold cyA
  rw [dif_pos h]
  exact h.choose_spec
theorem cyL_lm (hb : okP b) (hw : okP w) (h0 : isD n b w) {x : Nat} (hx : x < n.toNat) (hxt : gb (treeM b w n) x = false) : lmM (cyL b w n x) := fun k => by
  by_cases hk : k < n.toNat
  · rw [gi_of (by rw [cyL_len]; exact hk)]
    have := (cyA_sol hb hw h0 hx hxt).lim k
    simp only [cyL, List.getElem_map, List.getElem_range]
    omega
  · rw [gi_over (by rw [cyL_len]; omega)]; omega
theorem tree_mem (hb : okP b) (hw : okP w) (h0 : isD n b w) {x : Nat} (hx : x < n.toNat) : (x : Int) ∈ treeL b w n ↔ gb (treeM b w n) x = true := by
  unfold treeL
  rw [collect_mem]
  constructor
  · rintro ⟨e, h1, h2, h3⟩
    have : e = x := by omega
    subst this; exact h3
  · intro h; exact ⟨x, rfl, hx, h⟩
theorem c_impl_cycleOf1 (hb : okP b) (hw : okP w) (h0 : isD n b w) {x : Nat} (hx : x < n.toNat) (hxt : gb (treeM b w n) x = false) :
    PSpec Try.prog 32 [vD n b w, .int .i64 x, .sl (treeL b w n).length (vi .i64 (treeL b w n))] fun v => v = .own 2 1 (cyL b w n x).length (vi .i64 (cyL b w n x)) := by
  rw [cyL_len]
  exact c_impl_cycleOf hb hw h0 hx (fun h => by rw [(tree_mem hb hw h0 hx).1 h] at hxt; cases hxt) (cyA_sol hb hw h0 hx hxt)
theorem c_spec_l09Of1 (hb : okP b) (hw : okP w) (h0 : isD n b w) {x : Nat} (hx : x < n.toNat) (hxt : gb (treeM b w n) x = false) :
    PSpec Try.prog 26 [vD n b w, .agg (vb (treeM b w n)), .int .i64 x] fun v => v = .own 2 1 (cyL b w n x).length (vi .i64 (cyL b w n x)) := by
  rw [cyL_len]
  exact c_spec_l09Of hb hw h0 hx hxt (cyA_sol hb hw h0 hx hxt)
theorem treeM_len : (treeM b w n).length = 16 := (trS_len _).2
theorem treeL_le (hn : 1 ≤ n ∧ n ≤ 16) : (treeL b w n).length ≤ 16 := by
  have h1 := collect_len (m := treeM b w n) n.toNat; unfold treeL; omega
theorem c_impl_isDart {x : Int} (hb : b.length = 16) (hw : w.length = 16) : PSpec Try.prog 29 [vD n b w, .sl 1 (vi .i64 [x])] fun v => v = .bool (decide (0 ≤ x ∧ x < n)) := by
  refine impl_isDart_f.f ?_
  unfold vD
  simp (disch := first | omega | (simp only [List.length_append, List.length_cons, List.length_nil, List.length_replicate, List.length_set, List.length_take, List.length_drop, vi_len, vb_len, vo_len, vl_len, vn_len]; omega)) only [↓EC, EV, EL, E2, E3, ER, seval, ↓reduceIte, false_imp_iff, impl_isDart_F, hb, hw]
  refine LP_of (σ := Nat) 100000 [(66, 30, 1)] (fun s => [.int .i64 s]) (fun s => [.int .i64 n :: vi .u8 (b ++ w)])
    (fun s => s ≤ 1 ∧ (0 < s → 0 ≤ x ∧ x < n)) (fun s => 1 - s) 0 (by simp [frameOk, names, lpz, sclp, scv, scvs, vi_nrf, vb_nrf, vt_nrf, v2_nrf, v3_nrf, nrfs, nrf, sc_vi, sc_vb, sc_vt, sc_v2, sc_v3, sc_vo, sc_vl, vo_nrf, vl_nrf, sc_vn, vn_nrf]) ⟨by omega, fun h => absurd h (by omega)⟩ ?_ ?_
  · simp (disch := first | omega | (simp only [List.length_append, List.length_cons, List.length_nil, List.length_replicate, List.length_set, List.length_take, List.length_drop, vi_len, vb_len, vo_len, vl_len, vn_len]; omega)) only [↓EC, EV, EL, E2, E3, ER, seval, ↓reduceIte, false_imp_iff, ColV_def]
  · rintro s ⟨h1, h2⟩
    have hs : s = 0 ∨ s = 1 := by omega
    rcases hs with rfl | rfl
    · simp (disch := first | omega | (simp only [List.length_append, List.length_cons, List.length_nil, List.length_replicate, List.length_set, List.length_take, List.length_drop, vi_len, vb_len, vo_len, vl_len, vn_len]; omega)) only [↓EC, EV, EL, E2, E3, ER, seval, ↓reduceIte, false_imp_iff, ColV_def, lheap_def, hb, hw]
      repeat' (refine Split.mk (fun h => ?_) (fun h => ?_) <;> (try simp only [decide_eq_true_eq, decide_eq_false_iff_not, beq_iff_eq, bne_iff_ne, beq_eq_false_iff_ne, bne_eq_false_iff_eq, Bool.not_eq_true', Bool.not_eq_false', Bool.and_eq_true, Bool.or_eq_true, Bool.and_eq_false_iff, Bool.or_eq_false_iff, Int.not_lt, Int.not_le, Bool.false_eq_true, Bool.true_eq_false, false_and, and_false, true_and, and_true, or_false, false_or, or_true, true_or, not_true_eq_false, not_false_eq_true] at h))
      · (try simp (disch := first | omega | (simp only [List.length_append, List.length_cons, List.length_nil, List.length_replicate, List.length_set, List.length_take, List.length_drop, vi_len, vb_len, vo_len, vl_len, vn_len]; omega)) only [↓EC, EV, EL, E2, E3, ER, seval, ↓reduceIte, false_imp_iff])
        rw [eq_comm, V.bool.injEq, decide_eq_false_iff_not]; omega
      · (try simp (disch := first | omega | (simp only [List.length_append, List.length_cons, List.length_nil, List.length_replicate, List.length_set, List.length_take, List.length_drop, vi_len, vb_len, vo_len, vl_len, vn_len]; omega)) only [↓EC, EV, EL, E2, E3, ER, seval, ↓reduceIte, false_imp_iff])
        rw [eq_comm, V.bool.injEq, decide_eq_false_iff_not]; omega
      · (try simp (disch := first | omega | (simp only [List.length_append, List.length_cons, List.length_nil, List.length_replicate, List.length_set, List.length_take, List.length_drop, vi_len, vb_len, vo_len, vl_len, vn_len]; omega)) only [↓EC, EV, EL, E2, E3, ER, seval, ↓reduceIte, false_imp_iff])
        exact ⟨1, by simp, ⟨by omega, fun _ => by omega⟩, by omega⟩
    · simp (disch := first | omega | (simp only [List.length_append, List.length_cons, List.length_nil, List.length_replicate, List.length_set, List.length_take, List.length_drop, vi_len, vb_len, vo_len, vl_len, vn_len]; omega)) only [↓EC, EV, EL, E2, E3, ER, seval, ↓reduceIte, false_imp_iff, ColV_def, lheap_def, hb, hw]
      have := h2 (by omega)
      rw [eq_comm, V.bool.injEq, decide_eq_true_eq]; omega
noncomputable def ceO (n : Int) (b w : List Int) (x : Int) : Option (List Int) × Int :=
  if isDB n b w = true then (if 0 ≤ x ∧ x < n then (if gb (treeM b w n) x.toNat = true then (none, 5) else (some (cyL b w n x.toNat), 0)) else (none, 2)) else (none, 1)
def ceV : Option (List Int) × Int → V
  | (some r, c) => .tup [.own 2 1 r.length (vi .i64 r), .int .i64 c]
  | (none, c) => .tup [.nils, .int .i64 c]
theorem ceO_cases (n : Int) (b w : List Int) (x : Int) : (∃ r, ceO n b w x = (some r, 0) ∧ r.length ≤ 16) ∨ ∃ c, ceO n b w x = (none, c) := by
  unfold ceO
  split
  · rename_i h
    have hn := (isDB_iff.1 h).pb.1
    split
    · split
      · exact .inr ⟨_, rfl⟩
      · exact .inl ⟨_, rfl, by rw [cyL_len]; omega⟩
    · exact .inr ⟨_, rfl⟩
  · exact .inr ⟨_, rfl⟩
theorem c_impl_CycleOfEdge {x : Int} (hb : okP b) (hw : okP w) : PSpec Try.prog 9 [vD n b w, .int .i64 x] fun v => v = ceV (ceO n b w x) := by
  have hl := hb.len
  have hk := hw.len
  refine impl_CycleOfEdge_f.f ?_
  have hI := c_impl_IsDessin hb hw (n := n)
  have hD := c_impl_isDart (n := n) (b := b) (w := w) (x := x) hl hk
  cases h0 : isDB n b w with
  | false =>
    unfold vD at hI hD ⊢
    simp (disch := first | omega | (simp only [List.length_append, List.length_cons, List.length_nil, List.length_replicate, List.length_set, List.length_take, List.length_drop, vi_len, vb_len, vo_len, vl_len, vn_len]; omega)) only [↓EC, EV, EL, E2, E3, ER, seval, ↓reduceIte, false_imp_iff, impl_CycleOfEdge_F, hl, hk]
    refine pcd_v hI ?_
    (try simp (disch := first | omega | (simp only [List.length_append, List.length_cons, List.length_nil, List.length_replicate, List.length_set, List.length_take, List.length_drop, vi_len, vb_len, vo_len, vl_len, vn_len]; omega)) only [↓EC, EV, EL, E2, E3, ER, seval, ↓reduceIte, false_imp_iff, hl, hk, h0])
    unfold ceO; rw [if_neg (by rw [h0]; decide)]; rfl
  | true =>
    have hd := isDB_iff.1 h0
    have hn := hd.pb.1
    have htl := treeL_le (b := b) (w := w) hn
    have hT := c_impl_treeEdges hb hw hd
    have hC := fun (h1 : x.toNat < n.toNat) h2 => c_impl_cycleOf1 hb hw hd (x := x.toNat) h1 h2
    unfold ceO
    rw [if_pos h0]
    unfold vD at hI hD hT hC ⊢
    simp (disch := first | omega | (simp only [List.length_append, List.length_cons, List.length_nil, List.length_replicate, List.length_set, List.length_take, List.length_drop, vi_len, vb_len, vo_len, vl_len, vn_len]; omega)) only [↓EC, EV, EL, E2, E3, ER, seval, ↓reduceIte, false_imp_iff, impl_CycleOfEdge_F, hl, hk]
    refine pcd_v hI ?_
    (try simp (disch := first | omega | (simp only [List.length_append, List.length_cons, List.length_nil, List.length_replicate, List.length_set, List.length_take, List.length_drop, vi_len, vb_len, vo_len, vl_len, vn_len]; omega)) only [↓EC, EV, EL, E2, E3, ER, seval, ↓reduceIte, false_imp_iff, hl, hk, h0])
    refine pcd_v hD ?_
    (try simp (disch := first | omega | (simp only [List.length_append, List.length_cons, List.length_nil, List.length_replicate, List.length_set, List.length_take, List.length_drop, vi_len, vb_len, vo_len, vl_len, vn_len]; omega)) only [↓EC, EV, EL, E2, E3, ER, seval, ↓reduceIte, false_imp_iff, hl, hk])
    (refine Split.mk (fun h => ?_) (fun h => ?_) <;> (try simp only [decide_eq_true_eq, decide_eq_false_iff_not, beq_iff_eq, bne_iff_ne, beq_eq_false_iff_ne, bne_eq_false_iff_eq, Bool.not_eq_true', Bool.not_eq_false', Bool.and_eq_true, Bool.or_eq_true, Bool.and_eq_false_iff, Bool.or_eq_false_iff, Int.not_lt, Int.not_le, Bool.false_eq_true, Bool.true_eq_false, false_and, and_false, true_and, and_true, or_false, false_or, or_true, true_or, not_true_eq_false, not_false_eq_true] at h))
    · rw [if_neg (by omega)]; rfl
    · have hx : 0 ≤ x ∧ x < n := by omega
      rw [if_pos hx]
      obtain ⟨k, rfl⟩ : ∃ k : Nat, x = k := ⟨x.toNat, by omega⟩
      simp only [Int.toNat_natCast] at hC ⊢
      (try simp (disch := first | omega | (simp only [List.length_append, List.length_cons, List.length_nil, List.length_replicate, List.length_set, List.length_take, List.length_drop, vi_len, vb_len, vo_len, vl_len, vn_len]; omega)) only [↓EC, EV, EL, E2, E3, ER, seval, ↓reduceIte, false_imp_iff, hl, hk])
      refine pcd_v hT ?_
      (try simp (disch := first | omega | (simp only [List.length_append, List.length_cons, List.length_nil, List.length_replicate, List.length_set, List.length_take, List.length_drop, vi_len, vb_len, vo_len, vl_len, vn_len]; omega)) only [↓EC, EV, EL, E2, E3, ER, seval, ↓reduceIte, false_imp_iff, hl, hk])
      refine pcd_v (c_Contains0 rfl (by omega)) ?_
      (try simp (disch := first | omega | (simp only [List.length_append, List.length_cons, List.length_nil, List.length_replicate, List.length_set, List.length_take, List.length_drop, vi_len, vb_len, vo_len, vl_len, vn_len]; omega)) only [↓EC, EV, EL, E2, E3, ER, seval, ↓reduceIte, false_imp_iff, hl, hk])
      have htm := tree_mem hb hw hd (x := k) (by omega)
      (refine Split.mk (fun h => ?_) (fun h => ?_) <;> (try simp only [decide_eq_true_eq, decide_eq_false_iff_not, beq_iff_eq, bne_iff_ne, beq_eq_false_iff_ne, bne_eq_false_iff_eq, Bool.not_eq_true', Bool.not_eq_false', Bool.and_eq_true, Bool.or_eq_true, Bool.and_eq_false_iff, Bool.or_eq_false_iff, Int.not_lt, Int.not_le, Bool.false_eq_true, Bool.true_eq_false, false_and, and_false, true_and, and_true, or_false, false_or, or_true, true_or, not_true_eq_false, not_false_eq_true] at h))
      · rw [if_pos (htm.1 h)]; (try simp (disch := first | omega | (simp only [List.length_append, List.length_cons, List.length_nil, List.length_replicate, List.length_set, List.length_take, List.length_drop, vi_len, vb_len, vo_len, vl_len, vn_len]; omega)) only [↓EC, EV, EL, E2, E3, ER, seval, ↓reduceIte, false_imp_iff]); rfl
      · have hg : gb (treeM b w n) k = false := by
          cases hg : gb (treeM b w n) k with
          | false => rfl
          | true => exact absurd (htm.2 hg) h
        rw [hg]
        (try simp (disch := first | omega | (simp only [List.length_append, List.length_cons, List.length_nil, List.length_replicate, List.length_set, List.length_take, List.length_drop, vi_len, vb_len, vo_len, vl_len, vn_len]; omega)) only [↓EC, EV, EL, E2, E3, ER, seval, ↓reduceIte, false_imp_iff, hl, hk])
        refine pcd_o (hC (by omega) hg) ?_
        (try simp (disch := first | omega | (simp only [List.length_append, List.length_cons, List.length_nil, List.length_replicate, List.length_set, List.length_take, List.length_drop, vi_len, vb_len, vo_len, vl_len, vn_len]; omega)) only [↓EC, EV, EL, E2, E3, ER, seval, ↓reduceIte, false_imp_iff, ceV])
theorem c_spec_CycleOfEdge {x : Int} (hx1 : -9223372036854775808 ≤ x ∧ x ≤ 9223372036854775807) (hb : okP b) (hw : okP w) : PSpec Try.prog 7 [vD n b w, .int .i64 x] fun v => v = ceV (ceO n b w x) := by
  have hl := hb.len
  have hk := hw.len
  refine spec_CycleOfEdge_f.f ?_
  have hI := c_spec_l01Is hb hw (n := n)
  cases h0 : isDB n b w with
  | false =>
    unfold vD at hI ⊢
    simp (disch := first | omega | (simp only [List.length_append, List.length_cons, List.length_nil, List.length_replicate, List.length_set, List.length_take, List.length_drop, vi_len, vb_len, vo_len, vl_len, vn_len]; omega)) only [↓EC, EV, EL, E2, E3, ER, seval, ↓reduceIte, false_imp_iff, spec_CycleOfEdge_F, hl, hk]
    refine pcd_v hI ?_
    (try simp (disch := first | omega | (simp only [List.length_append, List.length_cons, List.length_nil, List.length_replicate, List.length_set, List.length_take, List.length_drop, vi_len, vb_len, vo_len, vl_len, vn_len]; omega)) only [↓EC, EV, EL, E2, E3, ER, seval, ↓reduceIte, false_imp_iff, hl, hk, h0])
    unfold ceO; rw [if_neg (by rw [h0]; decide)]; rfl
  | true =>
    have hd := isDB_iff.1 h0
    have hn := hd.pb.1
    have htl := treeM_len (b := b) (w := w) (n := n)
    have hT := c_spec_l09Tree hb hw hd
    have hC := fun (h1 : x.toNat < n.toNat) h2 => c_spec_l09Of1 hb hw hd (x := x.toNat) h1 h2
    unfold ceO
    rw [if_pos h0]
    unfold vD at hI hT hC ⊢
    simp (disch := first | omega | (simp only [List.length_append, List.length_cons, List.length_nil, List.length_replicate, List.length_set, List.length_take, List.length_drop, vi_len, vb_len, vo_len, vl_len, vn_len]; omega)) only [↓EC, EV, EL, E2, E3, ER, seval, ↓reduceIte, false_imp_iff, spec_CycleOfEdge_F, hl, hk]
    refine pcd_v hI ?_
    (try simp (disch := first | omega | (simp only [List.length_append, List.length_cons, List.length_nil, List.length_replicate, List.length_set, List.length_take, List.length_drop, vi_len, vb_len, vo_len, vl_len, vn_len]; omega)) only [↓EC, EV, EL, E2, E3, ER, seval, ↓reduceIte, false_imp_iff, hl, hk, h0])
    refine pcd_v c_spec_l01In ?_
    (try simp (disch := first | omega | (simp only [List.length_append, List.length_cons, List.length_nil, List.length_replicate, List.length_set, List.length_take, List.length_drop, vi_len, vb_len, vo_len, vl_len, vn_len]; omega)) only [↓EC, EV, EL, E2, E3, ER, seval, ↓reduceIte, false_imp_iff, hl, hk])
    (refine Split.mk (fun h => ?_) (fun h => ?_) <;> (try simp only [decide_eq_true_eq, decide_eq_false_iff_not, beq_iff_eq, bne_iff_ne, beq_eq_false_iff_ne, bne_eq_false_iff_eq, Bool.not_eq_true', Bool.not_eq_false', Bool.and_eq_true, Bool.or_eq_true, Bool.and_eq_false_iff, Bool.or_eq_false_iff, Int.not_lt, Int.not_le, Bool.false_eq_true, Bool.true_eq_false, false_and, and_false, true_and, and_true, or_false, false_or, or_true, true_or, not_true_eq_false, not_false_eq_true] at h))
    · (try simp (disch := first | omega | (simp only [List.length_append, List.length_cons, List.length_nil, List.length_replicate, List.length_set, List.length_take, List.length_drop, vi_len, vb_len, vo_len, vl_len, vn_len]; omega)) only [↓EC, EV, EL, E2, E3, ER, seval, ↓reduceIte, false_imp_iff])
      rw [if_neg (by omega)]; rfl
    · have hx : 0 ≤ x ∧ x < n := by omega
      rw [if_pos hx]
      obtain ⟨k, rfl⟩ : ∃ k : Nat, x = k := ⟨x.toNat, by omega⟩
      simp only [Int.toNat_natCast] at hC ⊢
      (try simp (disch := first | omega | (simp only [List.length_append, List.length_cons, List.length_nil, List.length_replicate, List.length_set, List.length_take, List.length_drop, vi_len, vb_len, vo_len, vl_len, vn_len]; omega)) only [↓EC, EV, EL, E2, E3, ER, seval, ↓reduceIte, false_imp_iff, hl, hk])
      refine pcd_v hT ?_
      (try simp (disch := first | omega | (simp only [List.length_append, List.length_cons, List.length_nil, List.length_replicate, List.length_set, List.length_take, List.length_drop, vi_len, vb_len, vo_len, vl_len, vn_len]; omega)) only [↓EC, EV, EL, E2, E3, ER, seval, ↓reduceIte, false_imp_iff, hl, hk, htl])
      (refine Split.mk (fun h => ?_) (fun h => ?_) <;> (try simp only [decide_eq_true_eq, decide_eq_false_iff_not, beq_iff_eq, bne_iff_ne, beq_eq_false_iff_ne, bne_eq_false_iff_eq, Bool.not_eq_true', Bool.not_eq_false', Bool.and_eq_true, Bool.or_eq_true, Bool.and_eq_false_iff, Bool.or_eq_false_iff, Int.not_lt, Int.not_le, Bool.false_eq_true, Bool.true_eq_false, false_and, and_false, true_and, and_true, or_false, false_or, or_true, true_or, not_true_eq_false, not_false_eq_true] at h))
      · rw [if_pos h]; (try simp (disch := first | omega | (simp only [List.length_append, List.length_cons, List.length_nil, List.length_replicate, List.length_set, List.length_take, List.length_drop, vi_len, vb_len, vo_len, vl_len, vn_len]; omega)) only [↓EC, EV, EL, E2, E3, ER, seval, ↓reduceIte, false_imp_iff]); rfl
      · have hg : gb (treeM b w n) k = false := by simpa using h
        rw [hg]
        (try simp (disch := first | omega | (simp only [List.length_append, List.length_cons, List.length_nil, List.length_replicate, List.length_set, List.length_take, List.length_drop, vi_len, vb_len, vo_len, vl_len, vn_len]; omega)) only [↓EC, EV, EL, E2, E3, ER, seval, ↓reduceIte, false_imp_iff, hl, hk, htl])
        refine pcd_o (hC (by omega) hg) ?_
        (try simp (disch := first | omega | (simp only [List.length_append, List.length_cons, List.length_nil, List.length_replicate, List.length_set, List.length_take, List.length_drop, vi_len, vb_len, vo_len, vl_len, vn_len]; omega)) only [↓EC, EV, EL, E2, E3, ER, seval, ↓reduceIte, false_imp_iff, ceV])
end
theorem c_FnExactCycleOfEdge {n x : Int} {b w : List Int} (hx1 : -9223372036854775808 ≤ x ∧ x ≤ 9223372036854775807) (hb : okP b) (hw : okP w) : PSpec Try.prog 3 [vD n b w, .int .i64 x] fun v => v = .bool true := by
  have hl := hb.len
  have hk := hw.len
  refine laws_FnExactCycleOfEdge_f.f ?_
  have hs := c_spec_CycleOfEdge (n := n) hx1 hb hw
  have hi := c_impl_CycleOfEdge (n := n) (x := x) hb hw
  rcases ceO_cases n b w x with ⟨R, hR, r1⟩ | ⟨c, hR⟩
  · rw [hR] at hs hi
    simp only [ceV] at hs hi
    unfold vD at hs hi ⊢
    have r6 : (iota 1 R.length).length = R.length := iota_len
    simp (disch := first | omega | (simp only [List.length_append, List.length_cons, List.length_nil, List.length_replicate, List.length_set, List.length_take, List.length_drop, vi_len, vb_len, vo_len, vl_len, vn_len]; omega)) only [↓EC, EV, EL, E2, E3, ER, seval, ↓reduceIte, false_imp_iff, laws_FnExactCycleOfEdge_F, hl, hk]
    refine pcd_v (c_laws_toDessin hb hw) ?_; (try simp (disch := first | omega | (simp only [List.length_append, List.length_cons, List.length_nil, List.length_replicate, List.length_set, List.length_take, List.length_drop, vi_len, vb_len, vo_len, vl_len, vn_len]; omega)) only [↓EC, EV, EL, E2, E3, ER, seval, ↓reduceIte, false_imp_iff, vD, hl, hk])
    refine pcd_v hs ?_; (try simp (disch := first | omega | (simp only [List.length_append, List.length_cons, List.length_nil, List.length_replicate, List.length_set, List.length_take, List.length_drop, vi_len, vb_len, vo_len, vl_len, vn_len]; omega)) only [↓EC, EV, EL, E2, E3, ER, seval, ↓reduceIte, false_imp_iff, hl, hk])
    refine pcd_v (c_laws_toDessin hb hw) ?_; (try simp (disch := first | omega | (simp only [List.length_append, List.length_cons, List.length_nil, List.length_replicate, List.length_set, List.length_take, List.length_drop, vi_len, vb_len, vo_len, vl_len, vn_len]; omega)) only [↓EC, EV, EL, E2, E3, ER, seval, ↓reduceIte, false_imp_iff, vD, hl, hk])
    refine pcd_o hi ?_; (try simp (disch := first | omega | (simp only [List.length_append, List.length_cons, List.length_nil, List.length_replicate, List.length_set, List.length_take, List.length_drop, vi_len, vb_len, vo_len, vl_len, vn_len]; omega)) only [↓EC, EV, EL, E2, E3, ER, seval, ↓reduceIte, false_imp_iff, hl, hk])
    refine pcd_v (c_laws_eqInt64S (by omega)) ?_; (try simp (disch := first | omega | (simp only [List.length_append, List.length_cons, List.length_nil, List.length_replicate, List.length_set, List.length_take, List.length_drop, vi_len, vb_len, vo_len, vl_len, vn_len]; omega)) only [↓EC, EV, EL, E2, E3, ER, seval, ↓reduceIte, false_imp_iff, hl, hk])
    refine pcm [88] rfl ?_; (try simp (disch := first | omega | (simp only [List.length_append, List.length_cons, List.length_nil, List.length_replicate, List.length_set, List.length_take, List.length_drop, vi_len, vb_len, vo_len, vl_len, vn_len]; omega)) only [↓EC, EV, EL, E2, E3, ER, seval, ↓reduceIte, false_imp_iff, hl, hk])
    refine callM_v (c_laws_markInt64S (by omega) (by omega)) ?_
    (try simp (disch := first | omega | (simp only [List.length_append, List.length_cons, List.length_nil, List.length_replicate, List.length_set, List.length_take, List.length_drop, vi_len, vb_len, vo_len, vl_len, vn_len]; omega)) only [↓EC, EV, EL, E2, E3, ER, seval, ↓reduceIte, false_imp_iff, hl, hk, r6])
    refine pcd_v (c_laws_heldInt64S (by omega) (by omega)) ?_; (try simp (disch := first | omega | (simp only [List.length_append, List.length_cons, List.length_nil, List.length_replicate, List.length_set, List.length_take, List.length_drop, vi_len, vb_len, vo_len, vl_len, vn_len]; omega)) only [↓EC, EV, EL, E2, E3, ER, seval, ↓reduceIte, false_imp_iff, hl, hk, r6])
    repeat' first
      | (refine Split.mk (fun h => ?_) (fun h => ?_) <;> (try simp only [decide_eq_true_eq, decide_eq_false_iff_not, beq_iff_eq, bne_iff_ne, beq_eq_false_iff_ne, bne_eq_false_iff_eq, Bool.not_eq_true', Bool.not_eq_false', Bool.and_eq_true, Bool.or_eq_true, Bool.and_eq_false_iff, Bool.or_eq_false_iff, Int.not_lt, Int.not_le, Bool.false_eq_true, Bool.true_eq_false, false_and, and_false, true_and, and_true, or_false, false_or, or_true, true_or, not_true_eq_false, not_false_eq_true] at h))
      | (refine pcd_v (c_laws_toDessin hb hw) ?_; (try simp (disch := first | omega | (simp only [List.length_append, List.length_cons, List.length_nil, List.length_replicate, List.length_set, List.length_take, List.length_drop, vi_len, vb_len, vo_len, vl_len, vn_len]; omega)) only [↓EC, EV, EL, E2, E3, ER, seval, ↓reduceIte, false_imp_iff, vD, hl, hk]))
      | (refine pcd_o hi ?_; (try simp (disch := first | omega | (simp only [List.length_append, List.length_cons, List.length_nil, List.length_replicate, List.length_set, List.length_take, List.length_drop, vi_len, vb_len, vo_len, vl_len, vn_len]; omega)) only [↓EC, EV, EL, E2, E3, ER, seval, ↓reduceIte, false_imp_iff, hl, hk]))
      | (refine pcd_v (c_laws_eqInt64S (by omega)) ?_; (try simp (disch := first | omega | (simp only [List.length_append, List.length_cons, List.length_nil, List.length_replicate, List.length_set, List.length_take, List.length_drop, vi_len, vb_len, vo_len, vl_len, vn_len]; omega)) only [↓EC, EV, EL, E2, E3, ER, seval, ↓reduceIte, false_imp_iff, hl, hk]))
      | (refine pcd_v (c_laws_heldInt64S (by omega) (by omega)) ?_; (try simp (disch := first | omega | (simp only [List.length_append, List.length_cons, List.length_nil, List.length_replicate, List.length_set, List.length_take, List.length_drop, vi_len, vb_len, vo_len, vl_len, vn_len]; omega)) only [↓EC, EV, EL, E2, E3, ER, seval, ↓reduceIte, false_imp_iff, hl, hk, r6]))
    all_goals first | trivial | omega | simp_all | trace_state
  · rw [hR] at hs hi
    simp only [ceV] at hs hi
    unfold vD at hs hi ⊢
    simp (disch := first | omega | (simp only [List.length_append, List.length_cons, List.length_nil, List.length_replicate, List.length_set, List.length_take, List.length_drop, vi_len, vb_len, vo_len, vl_len, vn_len]; omega)) only [↓EC, EV, EL, E2, E3, ER, seval, ↓reduceIte, false_imp_iff, laws_FnExactCycleOfEdge_F, hl, hk]
    repeat' first
      | (refine Split.mk (fun h => ?_) (fun h => ?_) <;> (try simp only [decide_eq_true_eq, decide_eq_false_iff_not, beq_iff_eq, bne_iff_ne, beq_eq_false_iff_ne, bne_eq_false_iff_eq, Bool.not_eq_true', Bool.not_eq_false', Bool.and_eq_true, Bool.or_eq_true, Bool.and_eq_false_iff, Bool.or_eq_false_iff, Int.not_lt, Int.not_le, Bool.false_eq_true, Bool.true_eq_false, false_and, and_false, true_and, and_true, or_false, false_or, or_true, true_or, not_true_eq_false, not_false_eq_true] at h))
      | (refine pcd_v (c_laws_toDessin hb hw) ?_; (try simp (disch := first | omega | (simp only [List.length_append, List.length_cons, List.length_nil, List.length_replicate, List.length_set, List.length_take, List.length_drop, vi_len, vb_len, vo_len, vl_len, vn_len]; omega)) only [↓EC, EV, EL, E2, E3, ER, seval, ↓reduceIte, false_imp_iff, vD, hl, hk]))
      | (refine pcd_v hs ?_; (try simp (disch := first | omega | (simp only [List.length_append, List.length_cons, List.length_nil, List.length_replicate, List.length_set, List.length_take, List.length_drop, vi_len, vb_len, vo_len, vl_len, vn_len]; omega)) only [↓EC, EV, EL, E2, E3, ER, seval, ↓reduceIte, false_imp_iff, hl, hk]))
      | (refine pcd_v hi ?_; (try simp (disch := first | omega | (simp only [List.length_append, List.length_cons, List.length_nil, List.length_replicate, List.length_set, List.length_take, List.length_drop, vi_len, vb_len, vo_len, vl_len, vn_len]; omega)) only [↓EC, EV, EL, E2, E3, ER, seval, ↓reduceIte, false_imp_iff, hl, hk]))
      | (refine pcd_v c_laws_eqInt64S_nil ?_; (try simp (disch := first | omega | (simp only [List.length_append, List.length_cons, List.length_nil, List.length_replicate, List.length_set, List.length_take, List.length_drop, vi_len, vb_len, vo_len, vl_len, vn_len]; omega)) only [↓EC, EV, EL, E2, E3, ER, seval, ↓reduceIte, false_imp_iff, hl, hk]))
      | (refine pcd_v c_laws_markInt64S_nil ?_; (try simp (disch := first | omega | (simp only [List.length_append, List.length_cons, List.length_nil, List.length_replicate, List.length_set, List.length_take, List.length_drop, vi_len, vb_len, vo_len, vl_len, vn_len]; omega)) only [↓EC, EV, EL, E2, E3, ER, seval, ↓reduceIte, false_imp_iff, hl, hk]))
      | (refine pcd_v c_laws_heldInt64S_nil ?_; (try simp (disch := first | omega | (simp only [List.length_append, List.length_cons, List.length_nil, List.length_replicate, List.length_set, List.length_take, List.length_drop, vi_len, vb_len, vo_len, vl_len, vn_len]; omega)) only [↓EC, EV, EL, E2, E3, ER, seval, ↓reduceIte, false_imp_iff, hl, hk]))
    all_goals first | trivial | simp_all | trace_state
theorem t_FnExactCycleOfEdge : ∀ xs, Ty.oks [tyD, .int .i64] xs → PSpec Try.prog 3 xs fun r => r = .bool true := by
  rintro xs ⟨v, r, rfl, hv, y, r, rfl, hy, rfl⟩
  obtain ⟨n, b, w, rfl, hb, hw', _⟩ := ok_dessin hv
  simp only [Ty.ok, Ty.isAgg, Bool.false_eq_true, if_false, Ty.fits] at hy
  obtain ⟨x, hx, h1, h2⟩ := hy
  simp only [List.cons.injEq, and_true] at hx
  subst hx
  exact c_FnExactCycleOfEdge ⟨h1, h2⟩ hb hw'
end Go.Proofs.Ytcleiehdddjicaa.Sep

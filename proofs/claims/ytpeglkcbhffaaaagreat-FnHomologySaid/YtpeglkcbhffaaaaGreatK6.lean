/- Texts put together: C46, C47, C48, C103, C80, C97, C104, C105, C75, C87, C91, C58, C106, C10, C11, C12, C13, C15. -/
import Derived.Test.YtpeglkcbhffaaaaGreatK5
namespace Go.Proofs.YtpeglkcbhffaaaaGreat.Sep
open Go.RowKit
set_option linter.unusedVariables false
set_option linter.unusedSimpArgs false
set_option maxRecDepth 20000
section
set_option maxHeartbeats 4000000
noncomputable def nonL (b w : List Int) (n : Int) : Nat → List (List Int)
  | 0 => []
  | k + 1 => if gb (treeM b w n) k = true then nonL b w n k else nonL b w n k ++ [cyL b w n k]
section
variable {n : Int} {b w : List Int}
theorem nonL_len : ∀ k, (nonL b w n k).length ≤ k
  | 0 => by simp [nonL]
  | k + 1 => by
    have := nonL_len k
    simp only [nonL]; split <;> simp <;> omega
theorem nonL_mem {y : List Int} : ∀ k, y ∈ nonL b w n k ↔ ∃ e, e < k ∧ gb (treeM b w n) e = false ∧ y = cyL b w n e
  | 0 => by simp [nonL]
  | k + 1 => by
    have ih := nonL_mem (y := y) k
    simp only [nonL]
    split
    · rename_i hg
      rw [ih]
      constructor
      · rintro ⟨e, h1, h2, h3⟩; exact ⟨e, by omega, h2, h3⟩
      · rintro ⟨e, h1, h2, h3⟩
        by_cases h : e = k
        · subst h; rw [hg] at h2; cases h2
        · exact ⟨e, by omega, h2, h3⟩
    · rename_i hg
      have hg' : gb (treeM b w n) k = false := by simpa using hg
      rw [List.mem_append, ih]
      simp only [List.mem_cons, List.not_mem_nil, or_false]
      constructor
      · rintro (⟨e, h1, h2, h3⟩ | h1)
        · exact ⟨e, by omega, h2, h3⟩
        · exact ⟨k, by omega, hg', h1⟩
      · rintro ⟨e, h1, h2, h3⟩
        by_cases h : e = k
        · subst h; exact .inr h3
        · exact .inl ⟨e, by omega, h2, h3⟩
theorem c_impl_allCycles (hb : okP b) (hw : okP w) (h0 : isD n b w) : PSpec Tryz.prog 44 [vD n b w] fun v => v = .own 32 1 (nonL b w n n.toNat).length (vo 2 (nonL b w n n.toNat)) := by
  have hl := hb.len
  have hk := hw.len
  have hn := h0.pb.1
  have htl := treeL_le (b := b) (w := w) hn
  have hT := c_impl_treeEdges hb hw h0
  have hC := fun (x : Nat) (h1 : x < n.toNat) h2 => c_impl_cycleOf1 hb hw h0 (x := x) h1 h2
  refine impl_allCycles_f.f ?_
  unfold vD at hT hC ⊢
  simp (disch := first | omega | (simp only [LN]; omega)) only [↓EC, EW, seval, ↓reduceIte, impl_allCycles_F, hl, hk]
  refine pcd_v hT ?_
  (try simp (disch := first | omega | (simp only [LN]; omega)) only [↓EC, EW, seval, ↓reduceIte, hl, hk])
  refine LP_ofE (σ := Nat) [1, 1] 100000 [(65, 27, 1)] (fun s => [.own 32 1 (nonL b w n s).length (vo 2 (nonL b w n s)), .int .i64 s]) (fun s => [.int .i64 n :: vi .u8 (b ++ w)])
    (fun s => (s : Int) ≤ n) (fun s => (n - s).toNat) 0 (by simp [frameOk, names, lpz, sclp, scv, scvs, nrfs, nrf, FRB]) (by simp only [Int.natCast_zero]; omega) ?_ ?_
  · simp (disch := first | omega | (simp only [LN]; omega)) only [↓EC, EW, seval, ↓reduceIte, ColV_def]
    exact ⟨fun _ => trivial, rfl⟩
  · rintro s h1
    have hnl := nonL_len (b := b) (w := w) (n := n) s
    simp (disch := first | omega | (simp only [LN]; omega)) only [↓EC, EW, seval, ↓reduceIte, ColV_def, lheap_def, hl, hk]
    (refine Split.mk (fun h => ?_) (fun h => ?_) <;> (try simp only [SD] at h))
    · (try simp (disch := first | omega | (simp only [LN]; omega)) only [↓EC, EW, seval, ↓reduceIte, hl, hk])
      refine pcd_v (c_Contains0 rfl (by omega)) ?_
      (try simp (disch := first | omega | (simp only [LN]; omega)) only [↓EC, EW, seval, ↓reduceIte, hl, hk])
      have htm := tree_mem hb hw h0 (x := s) (by omega)
      (refine Split.mk (fun h => ?_) (fun h => ?_) <;> (try simp only [SD] at h))
      · have hg : gb (treeM b w n) s = false := by
          cases hg : gb (treeM b w n) s with
          | false => rfl
          | true => exact absurd (htm.2 hg) h
        have e : nonL b w n (s + 1) = nonL b w n s ++ [cyL b w n s] := by simp only [nonL]; rw [if_neg (by rw [hg]; decide)]
        (try simp (disch := first | omega | (simp only [LN]; omega)) only [↓EC, EW, seval, ↓reduceIte, hl, hk])
        refine pcd_o (hC s (by omega) hg) ?_
        (try simp (disch := first | omega | (simp only [LN]; omega)) only [↓EC, EW, seval, ↓reduceIte, hl, hk])
        exact ⟨s + 1, by rw [e]; simp, by omega, by omega⟩
      · (try simp (disch := first | omega | (simp only [LN]; omega)) only [↓EC, EW, seval, ↓reduceIte, hl, hk])
        have e : nonL b w n (s + 1) = nonL b w n s := by simp only [nonL]; rw [if_pos (htm.1 h)]
        exact ⟨s + 1, by rw [e]; simp, by omega, by omega⟩
    · have : s = n.toNat := by omega
      subst this
      (try simp (disch := first | omega | (simp only [LN]; omega)) only [↓EC, EW, seval, ↓reduceIte, hl, hk])
open Classical in
noncomputable def ibR (n : Int) (b w l : List Int) : Bool × Int :=
  if (icR n b w l).2 = 0 ∧ (icR n b w l).1 = true then (decide (∀ x, x < n.toNat → gb (treeM b w n) x = false → meetV b w n l (cyL b w n x) = 0), 0) else (false, (icR n b w l).2)
theorem icR_yes {l : List Int} (h : (icR n b w l).2 = 0 ∧ (icR n b w l).1 = true) : isDB n b w = true ∧ chnB n l = true ∧ cycB l (allV b w n) = true := by
  unfold icR at h
  split at h
  · split at h
    · exact ⟨by assumption, by assumption, h.2⟩
    · cases h.2
  · cases h.2
theorem ibR_no {l : List Int} {x : Nat} (h : (icR n b w l).2 = 0 ∧ (icR n b w l).1 = true) (hx : x < n.toNat) (hg : gb (treeM b w n) x = false) (hm : meetV b w n l (cyL b w n x) ≠ 0) : ibR n b w l = (false, 0) := by
  unfold ibR
  rw [if_pos h]
  congr 1
  rw [decide_eq_false_iff_not]
  intro h'
  exact hm (h' x hx hg)
theorem ibR_yes {l : List Int} (h : (icR n b w l).2 = 0 ∧ (icR n b w l).1 = true) (hm : ∀ x, x < n.toNat → gb (treeM b w n) x = false → meetV b w n l (cyL b w n x) = 0) : ibR n b w l = (true, 0) := by
  unfold ibR
  rw [if_pos h]
  congr 1
  rw [decide_eq_true_eq]
  exact hm
theorem c_impl_IsBounding {l : List Int} (hb : okP b) (hw : okP w) (hll : l.length ≤ 1048576) : PSpec Tryz.prog 17 [vD n b w, .sl l.length (vi .i64 l)] fun v => v = .tup [.bool (ibR n b w l).1, .int .i64 (ibR n b w l).2] := by
  have hl := hb.len
  have hk := hw.len
  have hI := c_impl_IsCycle (n := n) hb hw hll
  by_cases hic : (icR n b w l).2 = 0 ∧ (icR n b w l).1 = true
  · obtain ⟨h0, h1, h2⟩ := icR_yes hic
    have hd := isDB_iff.1 h0
    have hn := hd.pb.1
    have hcl := chnB_at h1
    have hA := c_impl_allCycles hb hw hd
    have hmm := fun (y : List Int) h2 h4 => c_impl_intersection (x := l) (y := y) hb hw hd hcl.1 h2 (chnB_lm h1) h4
    have hnl := nonL_len (b := b) (w := w) (n := n) n.toNat
    refine impl_IsBounding_f.f ?_
    rw [hic.1, hic.2] at hI
    unfold vD at hI hA hmm ⊢
    simp (disch := first | omega | (simp only [LN]; omega)) only [↓EC, EW, seval, ↓reduceIte, impl_IsBounding_F, hl, hk]
    refine pcd_v hI ?_
    (try simp (disch := first | omega | (simp only [LN]; omega)) only [↓EC, EW, seval, ↓reduceIte, hl, hk])
    refine pcd_v hA ?_
    (try simp (disch := first | omega | (simp only [LN]; omega)) only [↓EC, EW, seval, ↓reduceIte, hl, hk])
    refine LP_of (σ := Nat) 100000 [(66, 27, 1)] (fun s => [.int .i64 s]) (fun s => [.int .i64 n :: vi .u8 (b ++ w)])
      (fun s => s ≤ (nonL b w n n.toNat).length ∧ ∀ t, t < s → meetV b w n l (gl (nonL b w n n.toNat) t) = 0) (fun s => (nonL b w n n.toNat).length - s) 0 (by simp [frameOk, names, lpz, sclp, scv, scvs, nrfs, nrf, FRB]) ⟨Nat.zero_le _, fun t ht => absurd ht (Nat.not_lt_zero t)⟩ ?_ ?_
    · simp (disch := first | omega | (simp only [LN]; omega)) only [↓EC, EW, seval, ↓reduceIte, ColV_def]
    · rintro s ⟨s1, s2⟩
      simp (disch := first | omega | (simp only [LN]; omega)) only [↓EC, EW, seval, ↓reduceIte, ColV_def, lheap_def, hl, hk]
      (refine Split.mk (fun h => ?_) (fun h => ?_) <;> (try simp only [SD] at h))
      · have hs : s < (nonL b w n n.toNat).length := by omega
        obtain ⟨e, e1, e2, e3⟩ := (nonL_mem n.toNat).1 (gl_mem hs)
        (try simp (disch := first | omega | (simp only [LN]; omega)) only [↓EC, EW, seval, ↓reduceIte, hl, hk])
        refine pcd_v (hmm (gl (nonL b w n n.toNat) s) (by rw [e3, cyL_len]; omega) (by rw [e3]; exact cyL_lm hb hw hd e1 e2)) ?_
        (try simp (disch := first | omega | (simp only [LN]; omega)) only [↓EC, EW, seval, ↓reduceIte, hl, hk])
        (refine Split.mk (fun h => ?_) (fun h => ?_) <;> (try simp only [SD] at h))
        · (try simp (disch := first | omega | (simp only [LN]; omega)) only [↓EC, EW, seval, ↓reduceIte, hl, hk])
          rw [ibR_no hic e1 e2 (by rw [← e3]; exact h)]
        · (try simp (disch := first | omega | (simp only [LN]; omega)) only [↓EC, EW, seval, ↓reduceIte, hl, hk])
          refine ⟨s + 1, by simp, ⟨by omega, fun t ht => ?_⟩, by omega⟩
          by_cases hts : t = s
          · subst hts; exact h
          · exact s2 t (by omega)
      · (try simp (disch := first | omega | (simp only [LN]; omega)) only [↓EC, EW, seval, ↓reduceIte, hl, hk])
        rw [ibR_yes hic fun x hx hg => ?_]
        obtain ⟨t, ht, hte⟩ := List.getElem_of_mem ((nonL_mem (b := b) (w := w) (n := n) n.toNat).2 ⟨x, hx, hg, rfl⟩)
        have := s2 t (by omega)
        rw [gl_of ht, hte] at this
        exact this
  · have e : ibR n b w l = (false, (icR n b w l).2) := by unfold ibR; rw [if_neg hic]
    refine impl_IsBounding_f.f ?_
    rw [e]
    unfold vD at hI ⊢
    simp (disch := first | omega | (simp only [LN]; omega)) only [↓EC, EW, seval, ↓reduceIte, impl_IsBounding_F, hl, hk]
    refine pcd_v hI ?_
    generalize icR n b w l = R at *
    obtain ⟨is, code⟩ := R
    simp only at hic
    (try simp (disch := first | omega | (simp only [LN]; omega)) only [↓EC, EW, seval, ↓reduceIte, hl, hk])
    (refine Split.mk (fun h => ?_) (fun h => ?_) <;> (try simp only [SD] at h))
    · (try simp (disch := first | omega | (simp only [LN]; omega)) only [↓EC, EW, seval, ↓reduceIte, hl, hk])
    · have hc : code = 0 := by simpa using h
      subst hc
      have his : is = false := by simpa using hic
      subst his
      (try simp (disch := first | omega | (simp only [LN]; omega)) only [↓EC, EW, seval, ↓reduceIte, hl, hk])
theorem c_spec_IsBounding {l : List Int} (hb : okP b) (hw : okP w) (hll : l.length ≤ 1048576) : PSpec Tryz.prog 22 [vD n b w, .sl l.length (vi .i64 l)] fun v => v = .tup [.bool (ibR n b w l).1, .int .i64 (ibR n b w l).2] := by
  have hl := hb.len
  have hk := hw.len
  have hI := c_spec_l01Is hb hw (n := n)
  have hH := c_spec_l09Chain (n := n) hl hk hll
  refine spec_IsBounding_f.f ?_
  cases h0 : isDB n b w with
  | false =>
    have ic : icR n b w l = (false, 1) := by unfold icR; rw [h0]; rfl
    have e : ibR n b w l = (false, 1) := by unfold ibR; rw [ic, if_neg (by simp)]
    rw [e]
    unfold vD at hI ⊢
    simp (disch := first | omega | (simp only [LN]; omega)) only [↓EC, EW, seval, ↓reduceIte, spec_IsBounding_F, hl, hk]
    refine pcd_v hI ?_
    (try simp (disch := first | omega | (simp only [LN]; omega)) only [↓EC, EW, seval, ↓reduceIte, hl, hk, h0])
  | true =>
    have hd := isDB_iff.1 h0
    cases h1 : chnB n l with
    | false =>
      have ic : icR n b w l = (false, 2) := by unfold icR; rw [h0, h1]; rfl
      have e : ibR n b w l = (false, 2) := by unfold ibR; rw [ic, if_neg (by simp)]
      rw [e]
      unfold vD at hI hH ⊢
      simp (disch := first | omega | (simp only [LN]; omega)) only [↓EC, EW, seval, ↓reduceIte, spec_IsBounding_F, hl, hk]
      refine pcd_v hI ?_
      (try simp (disch := first | omega | (simp only [LN]; omega)) only [↓EC, EW, seval, ↓reduceIte, hl, hk, h0])
      refine pcd_v hH ?_
      (try simp (disch := first | omega | (simp only [LN]; omega)) only [↓EC, EW, seval, ↓reduceIte, hl, hk, h1])
    | true =>
      have hY := c_spec_l09Cycle (n := n) (a := l) hb hw hd h1
      cases h2 : cycB l (allV b w n) with
      | false =>
        have ic : icR n b w l = (false, 0) := by unfold icR; rw [h0, h1, h2]; rfl
        have e : ibR n b w l = (false, 0) := by unfold ibR; rw [ic, if_neg (by simp)]
        rw [e]
        unfold vD at hI hH hY ⊢
        simp (disch := first | omega | (simp only [LN]; omega)) only [↓EC, EW, seval, ↓reduceIte, spec_IsBounding_F, hl, hk]
        refine pcd_v hI ?_
        (try simp (disch := first | omega | (simp only [LN]; omega)) only [↓EC, EW, seval, ↓reduceIte, hl, hk, h0])
        refine pcd_v hH ?_
        (try simp (disch := first | omega | (simp only [LN]; omega)) only [↓EC, EW, seval, ↓reduceIte, hl, hk, h1])
        refine pcd_v hY ?_
        (try simp (disch := first | omega | (simp only [LN]; omega)) only [↓EC, EW, seval, ↓reduceIte, hl, hk, h2])
      | true =>
        have hic : (icR n b w l).2 = 0 ∧ (icR n b w l).1 = true := by unfold icR; rw [if_pos h0, if_pos h1]; exact ⟨rfl, h2⟩
        have hn := hd.pb.1
        have hcl := chnB_at h1
        have htl := treeM_len (b := b) (w := w) (n := n)
        have hT := c_spec_l09Tree hb hw hd
        have hC := fun (x : Nat) (h1 : x < n.toNat) h2 => c_spec_l09Of1 hb hw hd (x := x) h1 h2
        have hmm := fun (y : List Int) h2 h4 => c_spec_l09Meet (x := l) (y := y) hb hw hd hcl.1 h2 (chnB_lm h1) h4
        unfold vD at hI hH hY hT hC hmm ⊢
        simp (disch := first | omega | (simp only [LN]; omega)) only [↓EC, EW, seval, ↓reduceIte, spec_IsBounding_F, hl, hk]
        refine pcd_v hI ?_
        (try simp (disch := first | omega | (simp only [LN]; omega)) only [↓EC, EW, seval, ↓reduceIte, hl, hk, h0])
        refine pcd_v hH ?_
        (try simp (disch := first | omega | (simp only [LN]; omega)) only [↓EC, EW, seval, ↓reduceIte, hl, hk, h1])
        refine pcd_v hY ?_
        (try simp (disch := first | omega | (simp only [LN]; omega)) only [↓EC, EW, seval, ↓reduceIte, hl, hk, h2])
        refine pcd_v hT ?_
        (try simp (disch := first | omega | (simp only [LN]; omega)) only [↓EC, EW, seval, ↓reduceIte, hl, hk, htl])
        refine LP_of (σ := Nat) 100000 [(66, 27, 1), (70, 58, 1)] (fun s => [.int .i64 s]) (fun s => [.int .i64 n :: vi .u8 (b ++ w), vb (treeM b w n)])
          (fun s => (s : Int) ≤ n ∧ ∀ t, t < s → gb (treeM b w n) t = false → meetV b w n l (cyL b w n t) = 0) (fun s => (n - s).toNat) 0 (by simp [frameOk, names, lpz, sclp, scv, scvs, nrfs, nrf, FRB]) ⟨by simp only [Int.natCast_zero]; omega, fun t ht => absurd ht (Nat.not_lt_zero t)⟩ ?_ ?_
        · simp (disch := first | omega | (simp only [LN]; omega)) only [↓EC, EW, seval, ↓reduceIte, ColV_def]
        · rintro s ⟨s1, s2⟩
          simp (disch := first | omega | (simp only [LN]; omega)) only [↓EC, EW, seval, ↓reduceIte, ColV_def, lheap_def, hl, hk, htl]
          (refine Split.mk (fun h => ?_) (fun h => ?_) <;> (try simp only [SD] at h))
          · (try simp (disch := first | omega | (simp only [LN]; omega)) only [↓EC, EW, seval, ↓reduceIte, hl, hk, htl])
            cases hg : gb (treeM b w n) s with
            | true =>
              (try simp (disch := first | omega | (simp only [LN]; omega)) only [↓EC, EW, seval, ↓reduceIte, hl, hk, htl, hg])
              refine ⟨s + 1, by simp, ⟨by omega, fun t ht hgt => ?_⟩, by omega⟩
              by_cases hts : t = s
              · subst hts; rw [hg] at hgt; cases hgt
              · exact s2 t (by omega) hgt
            | false =>
              (try simp (disch := first | omega | (simp only [LN]; omega)) only [↓EC, EW, seval, ↓reduceIte, hl, hk, htl, hg])
              refine pcd_v (hC s (by omega) hg) ?_
              (try simp (disch := first | omega | (simp only [LN]; omega)) only [↓EC, EW, seval, ↓reduceIte, hl, hk, htl])
              refine pcd_v (hmm (cyL b w n s) (by rw [cyL_len]; omega) (cyL_lm hb hw hd (by omega) hg)) ?_
              (try simp (disch := first | omega | (simp only [LN]; omega)) only [↓EC, EW, seval, ↓reduceIte, hl, hk, htl])
              (refine Split.mk (fun h => ?_) (fun h => ?_) <;> (try simp only [SD] at h))
              · (try simp (disch := first | omega | (simp only [LN]; omega)) only [↓EC, EW, seval, ↓reduceIte, hl, hk, htl])
                rw [ibR_no hic (by omega) hg h]
              · (try simp (disch := first | omega | (simp only [LN]; omega)) only [↓EC, EW, seval, ↓reduceIte, hl, hk, htl])
                refine ⟨s + 1, by simp, ⟨by omega, fun t ht hgt => ?_⟩, by omega⟩
                by_cases hts : t = s
                · subst hts; exact h
                · exact s2 t (by omega) hgt
          · (try simp (disch := first | omega | (simp only [LN]; omega)) only [↓EC, EW, seval, ↓reduceIte, hl, hk, htl])
            rw [ibR_yes hic fun x hx hg => s2 x (by omega) hg]
end
end
section
set_option maxHeartbeats 4000000
def nO (A : List (List Int)) (n : Nat) : Nat → List Int
  | 0 => List.replicate n 0
  | v + 1 => wI v (gl A v) (gl A v).length (nO A n v)
theorem nO_len {A : List (List Int)} {n : Nat} : ∀ v, (nO A n v).length = n
  | 0 => by simp [nO]
  | v + 1 => by simp [nO, wI_len, nO_len v]
theorem nI_at {v n : Nat} {c L M : List Int} (hc : ∀ y ∈ c, 0 ≤ y ∧ y < n) (hn : n ≤ 16) (hL : L.length = n) (hM : M.length = 16) (h : ∀ x, x < n → gi L x = gi M x) {x : Nat} (hx : x < n) : ∀ s, s ≤ c.length → gi (wI v c s L) x = gi (wI v c s M) x
  | 0, _ => by simp only [wI]; exact h x hx
  | s + 1, hs => by
    have ih := nI_at (v := v) hc hn hL hM h hx s (by omega)
    have hcs := hc (gi c s) (by rw [gi_of (show s < c.length by omega)]; exact List.getElem_mem _)
    simp only [wI]
    rw [gi_set, gi_set, wI_len, wI_len, hL, hM]
    by_cases e : (gi c s).toNat = x
    · rw [if_pos ⟨e, hx⟩, if_pos ⟨e, by omega⟩]
    · rw [if_neg (fun h => e h.1), if_neg (fun h => e h.1)]; exact ih
theorem nO_at {A : List (List Int)} {n : Nat} (hn : n ≤ 16) (hA : ∀ l ∈ A, ∀ y ∈ l, 0 ≤ y ∧ y < n) : ∀ v, v ≤ A.length → ∀ x, x < n → gi (nO A n v) x = gi (wO A v) x
  | 0, _, x, hx => by simp only [nO, wO]; rw [gi_rep0, gi_rep0]
  | v + 1, hv, x, hx => by
    simp only [nO, wO]
    exact nI_at (hA _ (gl_mem (by omega))) hn (nO_len v) (wO_len v) (fun y hy => nO_at hn hA v (by omega) y hy) hx _ (Nat.le_refl _)
section
variable {n : Int} {b w : List Int}
def fcL (b w : List Int) (n : Int) : List (List Int) := cyc (faceP b w n) n
def numL (b w : List Int) (n : Int) : List Int := nO (fcL b w n) n.toNat (fcL b w n).length
def fwL (b w : List Int) (n : Int) : List Int := whichL (faceP b w n) n
theorem fc_lo (hn : 1 ≤ n ∧ n ≤ 16) : lo16 (faceP b w n) := backP_lo hn
theorem fc_lt (hn : 1 ≤ n ∧ n ≤ 16) : ltP (faceP b w n) n := backP_lt hn
theorem num_at (hn : 1 ≤ n ∧ n ≤ 16) {x : Nat} (hx : x < n.toNat) : gi (numL b w n) x = gi (fwL b w n) x := by
  unfold numL fwL whichL
  refine nO_at (by omega) (fun l hl y hy => ?_) _ (Nat.le_refl _) x hx
  have := (cyc_at (fc_lt hn) hn l hl).1 y hy
  omega
theorem fw_lim (hn : 1 ≤ n ∧ n ≤ 16) {x : Nat} : 0 ≤ gi (fwL b w n) x ∧ gi (fwL b w n) x < (fcL b w n).length := whichL_lim hn (fc_lt hn)
theorem fc_len (hn : 1 ≤ n ∧ n ≤ 16) : (fcL b w n).length ≤ 16 := cyc_lim hn
def bkx (b : List Int) (n : Int) (k : Nat) : Nat := (gi (backP b n) k).toNat
theorem bkx_lt (hn : 1 ≤ n ∧ n ≤ 16) {k : Nat} (hk : k < n.toNat) : bkx b n k < n.toNat := by
  have := backP_lt (p := b) hn k (by omega)
  unfold bkx; omega
noncomputable def bI (b w : List Int) (n : Int) : Nat → List Int × List (List Int)
  | 0 => (iota 0 (fcL b w n).length, [])
  | k + 1 => if gb (treeM b w n) k = true then bI b w n k else
      (jnL (bI b w n k).1 (max (gi (bI b w n k).1 (gi (numL b w n) k).toNat) (gi (bI b w n k).1 (gi (numL b w n) (bkx b n k)).toNat)) (min (gi (bI b w n k).1 (gi (numL b w n) k).toNat) (gi (bI b w n k).1 (gi (numL b w n) (bkx b n k)).toNat)),
        if gi (bI b w n k).1 (gi (numL b w n) k).toNat = gi (bI b w n k).1 (gi (numL b w n) (bkx b n k)).toNat then (bI b w n k).2 ++ [cyL b w n k] else (bI b w n k).2)
noncomputable def bS (b w : List Int) (n : Int) : Nat → List Int × List (List Int)
  | 0 => (iota 0 16, [])
  | k + 1 => if gb (treeM b w n) k = true then bS b w n k else
      (jnL (bS b w n k).1 (gi (bS b w n k).1 (gi (fwL b w n) (bkx b n k)).toNat) (gi (bS b w n k).1 (gi (fwL b w n) k).toNat),
        if gi (bS b w n k).1 (gi (fwL b w n) (bkx b n k)).toNat = gi (bS b w n k).1 (gi (fwL b w n) k).toNat then (bS b w n k).2 ++ [cyL b w n k] else (bS b w n k).2)
theorem bI_len : ∀ k, (bI b w n k).1.length = (fcL b w n).length ∧ (bI b w n k).2.length ≤ k
  | 0 => by simp [bI, iota_len]
  | k + 1 => by
    obtain ⟨h1, h2⟩ := bI_len k
    simp only [bI]
    split
    · exact ⟨h1, by omega⟩
    · refine ⟨by simp [jnL_len, h1], ?_⟩
      split <;> simp <;> omega
theorem bS_len : ∀ k, (bS b w n k).1.length = 16
  | 0 => by simp [bS, iota_len]
  | k + 1 => by
    have h1 := bS_len k
    simp only [bS]
    split
    · exact h1
    · simp [jnL_len, h1]
theorem b_rel (hn : 1 ≤ n ∧ n ≤ 16) : ∀ k, k ≤ n.toNat → (∀ i j, i < (fcL b w n).length → j < (fcL b w n).length → (gi (bI b w n k).1 i = gi (bI b w n k).1 j ↔ gi (bS b w n k).1 i = gi (bS b w n k).1 j)) ∧ (bI b w n k).2 = (bS b w n k).2 := by
  intro k
  induction k with
  | zero =>
    intro _
    have := fc_len (b := b) (w := w) hn
    refine ⟨fun i j hi hj => ?_, rfl⟩
    simp only [bI, bS]
    rw [iota_at hi, iota_at hj, iota_at (by omega), iota_at (by omega)]
  | succ k ih =>
    intro hk
    obtain ⟨h1, h2⟩ := ih (by omega)
    have hF := fc_len (b := b) (w := w) hn
    obtain ⟨q1, -⟩ := bI_len (b := b) (w := w) (n := n) k
    have q2 := bS_len (b := b) (w := w) (n := n) k
    have n0 := num_at (b := b) (w := w) hn (x := k) (by omega)
    have n1 := num_at (b := b) (w := w) hn (bkx_lt (b := b) hn (k := k) (by omega))
    have f0 := fw_lim (b := b) (w := w) hn (x := k)
    have f1 := fw_lim (b := b) (w := w) hn (x := bkx b n k)
    simp only [bI, bS]
    rw [n0, n1]
    split
    · exact ⟨h1, h2⟩
    · have k01 := h1 (gi (fwL b w n) k).toNat (gi (fwL b w n) (bkx b n k)).toNat (by omega) (by omega)
      refine ⟨fun i j hi hj => ?_, ?_⟩
      · have ki0 := h1 i (gi (fwL b w n) k).toNat hi (by omega)
        have ki1 := h1 i (gi (fwL b w n) (bkx b n k)).toNat hi (by omega)
        have kj0 := h1 j (gi (fwL b w n) k).toNat hj (by omega)
        have kj1 := h1 j (gi (fwL b w n) (bkx b n k)).toNat hj (by omega)
        have kij := h1 i j hi hj
        rw [jnL_rel (by omega) (by omega), jnL_rel (by omega) (by omega)]
        omega
      · simp only
        rw [h2]
        split <;> split <;> first | rfl | (exfalso; omega)
theorem bI_mem {y : List Int} : ∀ k, y ∈ (bI b w n k).2 → ∃ e, e < k ∧ gb (treeM b w n) e = false ∧ y = cyL b w n e
  | 0, h => by simp [bI] at h
  | k + 1, h => by
    simp only [bI] at h
    split at h
    · obtain ⟨e, h1, h2, h3⟩ := bI_mem k h; exact ⟨e, by omega, h2, h3⟩
    · rename_i hg
      have hg' : gb (treeM b w n) k = false := by simpa using hg
      simp only at h
      split at h
      · rcases List.mem_append.1 h with h | h
        · obtain ⟨e, h1, h2, h3⟩ := bI_mem k h; exact ⟨e, by omega, h2, h3⟩
        · simp only [List.mem_cons, List.not_mem_nil, or_false] at h
          exact ⟨k, by omega, hg', h⟩
      · obtain ⟨e, h1, h2, h3⟩ := bI_mem k h; exact ⟨e, by omega, h2, h3⟩
noncomputable def basL (b w : List Int) (n : Int) : List (List Int) := (bI b w n n.toNat).2
theorem basL_len : (basL b w n).length ≤ n.toNat := (bI_len n.toNat).2
theorem basL_mem {y : List Int} (h : y ∈ basL b w n) : ∃ e, e < n.toNat ∧ gb (treeM b w n) e = false ∧ y = cyL b w n e := bI_mem n.toNat h
end
end
section
set_option maxHeartbeats 4000000
section
variable {n : Int} {b w : List Int}
theorem bI_tree {k : Nat} (h : gb (treeM b w n) k = true) : bI b w n (k + 1) = bI b w n k := by simp only [bI, if_pos h]
theorem bI_yes {k : Nat} (h : gb (treeM b w n) k = false) (hj : gi (bI b w n k).1 (gi (numL b w n) k).toNat = gi (bI b w n k).1 (gi (numL b w n) (bkx b n k)).toNat) :
    bI b w n (k + 1) = (jnL (bI b w n k).1 (max (gi (bI b w n k).1 (gi (numL b w n) k).toNat) (gi (bI b w n k).1 (gi (numL b w n) (bkx b n k)).toNat)) (min (gi (bI b w n k).1 (gi (numL b w n) k).toNat) (gi (bI b w n k).1 (gi (numL b w n) (bkx b n k)).toNat)), (bI b w n k).2 ++ [cyL b w n k]) := by
  simp only [bI]; rw [if_neg (by rw [h]; decide), if_pos hj]
theorem bI_no {k : Nat} (h : gb (treeM b w n) k = false) (hj : ¬ gi (bI b w n k).1 (gi (numL b w n) k).toNat = gi (bI b w n k).1 (gi (numL b w n) (bkx b n k)).toNat) :
    bI b w n (k + 1) = (jnL (bI b w n k).1 (max (gi (bI b w n k).1 (gi (numL b w n) k).toNat) (gi (bI b w n k).1 (gi (numL b w n) (bkx b n k)).toNat)) (min (gi (bI b w n k).1 (gi (numL b w n) k).toNat) (gi (bI b w n k).1 (gi (numL b w n) (bkx b n k)).toNat)), (bI b w n k).2) := by
  simp only [bI]; rw [if_neg (by rw [h]; decide), if_neg hj]
theorem c_impl_basis (hb : okP b) (hw : okP w) (h0 : isD n b w) : PSpec Tryz.prog 32 [vD n b w] fun v => v = .own 32 1 (basL b w n).length (vo 2 (basL b w n)) := by
  have hl := hb.len
  have hk := hw.len
  have hn := h0.pb.1
  have lb := h0.pb.lo hb
  have lw := h0.pw.lo hw
  have htl := treeL_le (b := b) (w := w) hn
  have hT := c_impl_treeEdges hb hw h0
  have hfc := c_impl_face lb lw hn
  have hC := fun (x : Nat) (h1 : x < n.toNat) h2 => c_impl_cycleOf1 hb hw h0 (x := x) h1 h2
  have hFl := fc_len (b := b) (w := w) hn
  have hFa : ∀ l ∈ fcL b w n, (∀ y ∈ l, 0 ≤ y ∧ y < n) ∧ l.length ≤ 16 := cyc_at (fc_lt hn) hn
  have hbpl : (backP b n).length = 16 := putL_len _ _
  have hcy := c_impl_cycles (fc_lo (b := b) (w := w) hn) hn
  have hfd : cyc (faceP b w n) n = fcL b w n := rfl
  rw [hfd] at hcy
  refine impl_basis_f.f ?_
  unfold vD at hT hfc hC ⊢
  simp (config := { maxSteps := 10000000 }) (disch := first | omega | (simp only [LN]; omega)) only [↓EC, EW, seval, ↓reduceIte, impl_basis_F, hl, hk]
  refine pcd_v hT ?_
  (try simp (disch := first | omega | (simp only [LN]; omega)) only [↓EC, EW, seval, ↓reduceIte, hl, hk])
  refine pcd_v hfc ?_
  (try simp (disch := first | omega | (simp only [LN]; omega)) only [↓EC, EW, seval, ↓reduceIte, hl, hk])
  refine pcd_v hcy ?_
  (try simp (disch := first | omega | (simp only [LN]; omega)) only [↓EC, EW, seval, ↓reduceIte, hl, hk])
  refine LP_of (σ := Nat) 100000 [(65, 27, 1), (86, 2, 1)] (fun s => [.int .i64 s]) (fun s => [.int .i64 n :: vi .u8 (b ++ w), vi .i64 (nO (fcL b w n) n.toNat s)])
    (fun s => s ≤ (fcL b w n).length) (fun s => (fcL b w n).length - s) 0 (by simp [frameOk, names, lpz, sclp, scv, scvs, nrfs, nrf, FRB]) (Nat.zero_le _) ?_ ?_
  · simp (disch := first | omega | (simp only [LN]; omega)) only [↓EC, EW, seval, ↓reduceIte, ColV_def]
    try rfl
  · rintro s h1
    have hol := nO_len (A := fcL b w n) (n := n.toNat) s
    simp (disch := first | omega | (simp only [LN]; omega)) only [↓EC, EW, seval, ↓reduceIte, ColV_def, lheap_def, hl, hk, hol]
    (refine Split.mk (fun h => ?_) (fun h => ?_) <;> (try simp only [SD] at h))
    · have hs : s < (fcL b w n).length := by omega
      have hsa := hFa _ (gl_mem hs)
      (try simp (disch := first | omega | (simp only [LN]; omega)) only [↓EC, EW, seval, ↓reduceIte, hl, hk, hol])
      refine LP_of (σ := Nat) 200000 [(65, 27, 1), (86, 2, 1)] (fun t => [.int .i64 t]) (fun t => [.int .i64 n :: vi .u8 (b ++ w), vi .i64 (wI s (gl (fcL b w n) s) t (nO (fcL b w n) n.toNat s))])
        (fun t => t ≤ (gl (fcL b w n) s).length) (fun t => (gl (fcL b w n) s).length - t) 0 (by simp [frameOk, names, lpz, sclp, scv, scvs, nrfs, nrf, FRB]) (Nat.zero_le _) ?_ ?_
      · simp (disch := first | omega | (simp only [LN]; omega)) only [↓EC, EW, seval, ↓reduceIte, ColV_def]
        try rfl
      · rintro t g1
        have hwl := wI_len (v := s) (c := gl (fcL b w n) s) (L := nO (fcL b w n) n.toNat s) t
        rw [hol] at hwl
        simp (disch := first | omega | (simp only [LN]; omega)) only [↓EC, EW, seval, ↓reduceIte, ColV_def, lheap_def, hl, hk, hwl]
        (refine Split.mk (fun h => ?_) (fun h => ?_) <;> (try simp only [SD] at h))
        · have ht : t < (gl (fcL b w n) s).length := by omega
          have hy := hsa.1 (gi (gl (fcL b w n) s) t) (by rw [gi_of ht]; exact List.getElem_mem ht)
          (try simp (disch := first | omega | (simp only [LN]; omega)) only [↓EC, EW, seval, ↓reduceIte, hl, hk, hwl])
          exact ⟨t + 1, by simp, rfl, by omega, by omega⟩
        · have ht : t = (gl (fcL b w n) s).length := by omega
          subst ht
          (try simp (disch := first | omega | (simp only [LN]; omega)) only [↓EC, EW, seval, ↓reduceIte, hl, hk, hwl])
          exact ⟨s + 1, by simp, rfl, by omega, by omega⟩
    · have hs : s = (fcL b w n).length := by omega
      subst hs
      have hnu : nO (fcL b w n) n.toNat (fcL b w n).length = numL b w n := rfl
      rw [hnu] at hol ⊢
      (try simp (disch := first | omega | (simp only [LN]; omega)) only [↓EC, EW, seval, ↓reduceIte, hl, hk, hol])
      refine pcd_o (c_impl_newClasses (by omega)) ?_
      (try simp (disch := first | omega | (simp only [LN]; omega)) only [↓EC, EW, seval, ↓reduceIte, hl, hk, hol])
      refine LP_ofE (σ := Nat) [1, 1] 200000 [(65, 27, 1), (86, 2, 1), (108, 2, 1)] (fun k => [.own 32 1 (bI b w n k).2.length (vo 2 (bI b w n k).2), .int .i64 k])
        (fun k => [.int .i64 n :: vi .u8 (b ++ w), vi .i64 (numL b w n), vi .i64 (bI b w n k).1])
        (fun k => (k : Int) ≤ n) (fun k => (n - k).toNat) 0 (by simp [frameOk, names, lpz, sclp, scv, scvs, nrfs, nrf, FRB]) (by simp only [Int.natCast_zero]; omega) ?_ ?_
      · simp (disch := first | omega | (simp only [LN]; omega)) only [↓EC, EW, seval, ↓reduceIte, ColV_def]
        exact ⟨fun _ => trivial, rfl, rfl⟩
      · rintro k k1
        obtain ⟨hc1, hc2⟩ := bI_len (b := b) (w := w) (n := n) k
        simp (disch := first | omega | (simp only [LN]; omega)) only [↓EC, EW, seval, ↓reduceIte, ColV_def, lheap_def, hl, hk, hol, hc1]
        (refine Split.mk (fun h => ?_) (fun h => ?_) <;> (try simp only [SD] at h))
        · (try simp (disch := first | omega | (simp only [LN]; omega)) only [↓EC, EW, seval, ↓reduceIte, hl, hk, hol, hc1])
          refine pcd_v (c_Contains0 rfl (by omega)) ?_
          (try simp (disch := first | omega | (simp only [LN]; omega)) only [↓EC, EW, seval, ↓reduceIte, hl, hk, hol, hc1])
          have htm := tree_mem hb hw h0 (x := k) (by omega)
          (refine Split.mk (fun h => ?_) (fun h => ?_) <;> (try simp only [SD] at h))
          · (try simp (disch := first | omega | (simp only [LN]; omega)) only [↓EC, EW, seval, ↓reduceIte, hl, hk, hol, hc1])
            have e := bI_tree (htm.1 h)
            exact ⟨k + 1, by rw [e]; simp, by rw [e], by omega, by omega⟩
          · have hg : gb (treeM b w n) k = false := by
              cases hg : gb (treeM b w n) k with
              | false => rfl
              | true => exact absurd (htm.2 hg) h
            have n0 := num_at (b := b) (w := w) hn (x := k) (by omega)
            have n1 := num_at (b := b) (w := w) hn (bkx_lt (b := b) hn (k := k) (by omega))
            have f0 := fw_lim (b := b) (w := w) hn (x := k)
            have f1 := fw_lim (b := b) (w := w) hn (x := bkx b n k)
            have hbk : (gi (backP b n) k).toNat = bkx b n k := rfl
            have hbr := backP_lt (p := b) hn k (by omega)
            (try simp (disch := first | omega | (simp only [LN]; omega)) only [↓EC, EW, seval, ↓reduceIte, hl, hk, hol, hc1])
            refine pcd_v (c_impl_back lb hn) ?_
            have hbp : putL (backF b) n.toNat = backP b n := rfl
            rw [hbp]
            (try simp (disch := first | omega | (simp only [LN]; omega)) only [↓EC, EW, seval, ↓reduceIte, hl, hk, hol, hc1, hbpl, hbk])
            refine pcm [108] rfl ?_
            (try simp (disch := first | omega | (simp only [LN]; omega)) only [↓EC, EW, seval, ↓reduceIte, hl, hk, hol, hc1])
            rw [← hc1] at f0 f1
            have hjn := c_impl_join (c := (bI b w n k).1) (x := gi (numL b w n) k) (y := gi (numL b w n) (bkx b n k)) (by omega) (by rw [n0]; omega) (by rw [n1]; omega)
            rw [hc1] at hjn
            refine callM_v hjn ?_
            have hj := jnL_len (c := (bI b w n k).1) (f := max (gi (bI b w n k).1 (gi (numL b w n) k).toNat) (gi (bI b w n k).1 (gi (numL b w n) (bkx b n k)).toNat)) (t := min (gi (bI b w n k).1 (gi (numL b w n) k).toNat) (gi (bI b w n k).1 (gi (numL b w n) (bkx b n k)).toNat))
            (try simp (disch := first | omega | (simp only [LN]; omega)) only [↓EC, EW, seval, ↓reduceIte, hl, hk, hol, hc1, hj])
            (refine Split.mk (fun h => ?_) (fun h => ?_) <;> (try simp only [SD] at h))
            · have e := bI_yes hg (by simpa using h)
              (try simp (disch := first | omega | (simp only [LN]; omega)) only [↓EC, EW, seval, ↓reduceIte, hl, hk, hol])
              refine pcd_o (hC k (by omega) hg) ?_
              (try simp (disch := first | omega | (simp only [LN]; omega)) only [↓EC, EW, seval, ↓reduceIte, hl, hk, hol])
              exact ⟨k + 1, by rw [e]; simp, by rw [e], by omega, by omega⟩
            · have e := bI_no hg (by simpa using h)
              (try simp (disch := first | omega | (simp only [LN]; omega)) only [↓EC, EW, seval, ↓reduceIte, hl, hk, hol])
              exact ⟨k + 1, by rw [e]; simp, by rw [e], by omega, by omega⟩
        · have hkn : k = n.toNat := by omega
          subst hkn
          (try simp (disch := first | omega | (simp only [LN]; omega)) only [↓EC, EW, seval, ↓reduceIte, hl, hk])
          rfl
theorem bS_tree {k : Nat} (h : gb (treeM b w n) k = true) : bS b w n (k + 1) = bS b w n k := by simp only [bS, if_pos h]
theorem bS_yes {k : Nat} (h : gb (treeM b w n) k = false) (hj : gi (bS b w n k).1 (gi (fwL b w n) (bkx b n k)).toNat = gi (bS b w n k).1 (gi (fwL b w n) k).toNat) :
    bS b w n (k + 1) = (jnL (bS b w n k).1 (gi (bS b w n k).1 (gi (fwL b w n) (bkx b n k)).toNat) (gi (bS b w n k).1 (gi (fwL b w n) k).toNat), (bS b w n k).2 ++ [cyL b w n k]) := by
  simp only [bS]; rw [if_neg (by rw [h]; decide), if_pos hj]
theorem bS_no {k : Nat} (h : gb (treeM b w n) k = false) (hj : ¬ gi (bS b w n k).1 (gi (fwL b w n) (bkx b n k)).toNat = gi (bS b w n k).1 (gi (fwL b w n) k).toNat) :
    bS b w n (k + 1) = (jnL (bS b w n k).1 (gi (bS b w n k).1 (gi (fwL b w n) (bkx b n k)).toNat) (gi (bS b w n k).1 (gi (fwL b w n) k).toNat), (bS b w n k).2) := by
  simp only [bS]; rw [if_neg (by rw [h]; decide), if_neg hj]
theorem c_spec_l09Basis (hb : okP b) (hw : okP w) (h0 : isD n b w) : PSpec Tryz.prog 35 [vD n b w] fun v => v = .own 32 1 (basL b w n).length (vo 2 (basL b w n)) := by
  have hl := hb.len
  have hk := hw.len
  have hn := h0.pb.1
  have lb := h0.pb.lo hb
  have lw := h0.pw.lo hw
  have hrel := b_rel (b := b) (w := w) hn
  have hbas : basL b w n = (bS b w n n.toNat).2 := (hrel n.toNat (Nat.le_refl _)).2
  have htl := treeM_len (b := b) (w := w) (n := n)
  have hT := c_spec_l09Tree hb hw h0
  have hfc := c_spec_l01Face lb lw hn
  have hwh := c_spec_l01Which (fc_lo (b := b) (w := w) hn) (fc_lt (b := b) (w := w) hn) hn
  have hC := fun (x : Nat) (h1 : x < n.toNat) h2 => c_spec_l09Of1 hb hw h0 (x := x) h1 h2
  have hFl := fc_len (b := b) (w := w) hn
  have hbpl : (backP b n).length = 16 := putL_len _ _
  have hfl : (fwL b w n).length = 16 := wO_len _
  have hfd : whichL (faceP b w n) n = fwL b w n := rfl
  rw [hfd] at hwh
  have hbp : putL (backF b) n.toNat = backP b n := rfl
  have hbk := c_spec_l01Back (p := b) (n := n) lb hn
  rw [hbp] at hbk
  rw [hbas]
  refine spec_l09Basis_f.f ?_
  unfold vD at hT hfc hC ⊢
  simp (config := { maxSteps := 10000000 }) (disch := first | omega | (simp only [LN]; omega)) only [↓EC, EW, seval, ↓reduceIte, spec_l09Basis_F, hl, hk]
  refine pcd_v hT ?_
  (try simp (disch := first | omega | (simp only [LN]; omega)) only [↓EC, EW, seval, ↓reduceIte, hl, hk, htl])
  refine pcd_v hfc ?_
  (try simp (disch := first | omega | (simp only [LN]; omega)) only [↓EC, EW, seval, ↓reduceIte, hl, hk, htl])
  refine pcd_v hwh ?_
  (try simp (disch := first | omega | (simp only [LN]; omega)) only [↓EC, EW, seval, ↓reduceIte, hl, hk, htl, hfl])
  refine pcd_v hbk ?_
  (try simp (disch := first | omega | (simp only [LN]; omega)) only [↓EC, EW, seval, ↓reduceIte, hl, hk, htl, hfl, hbpl])
  refine pcd_o (c_spec_l09Alone (n := 16) (by decide)) ?_
  (try simp (disch := first | omega | (simp only [LN]; omega)) only [↓EC, EW, seval, ↓reduceIte, hl, hk, htl, hfl, hbpl])
  refine LP_ofE (σ := Nat) [1, 1] 200000 [(65, 27, 1), (67, 58, 1), (68, 84, 1), (69, 25, 1), (85, 2, 1)] (fun k => [.own 32 1 (bS b w n k).2.length (vo 2 (bS b w n k).2), .int .i64 k])
    (fun k => [.int .i64 n :: vi .u8 (b ++ w), vb (treeM b w n), vi .i64 (fwL b w n), vi .u8 (backP b n), vi .i64 (bS b w n k).1])
    (fun k => (k : Int) ≤ n) (fun k => (n - k).toNat) 0 (by simp [frameOk, names, lpz, sclp, scv, scvs, nrfs, nrf, FRB]) (by simp only [Int.natCast_zero]; omega) ?_ ?_
  · simp (disch := first | omega | (simp only [LN]; omega)) only [↓EC, EW, seval, ↓reduceIte, ColV_def]
    exact ⟨fun _ => trivial, rfl, rfl⟩
  · rintro k k1
    have hc1 := bS_len (b := b) (w := w) (n := n) k
    have hc2 := (bI_len (b := b) (w := w) (n := n) k).2
    simp (disch := first | omega | (simp only [LN]; omega)) only [↓EC, EW, seval, ↓reduceIte, ColV_def, lheap_def, hl, hk, htl, hfl, hbpl, hc1]
    (refine Split.mk (fun h => ?_) (fun h => ?_) <;> (try simp only [SD] at h))
    · have hr2 := (hrel k (by omega)).2
      rw [hr2] at hc2
      have f0 := fw_lim (b := b) (w := w) hn (x := k)
      have f1 := fw_lim (b := b) (w := w) hn (x := bkx b n k)
      have hbk2 : (gi (backP b n) k).toNat = bkx b n k := rfl
      have hbr := backP_lt (p := b) hn k (by omega)
      (try simp (disch := first | omega | (simp only [LN]; omega)) only [↓EC, EW, seval, ↓reduceIte, hl, hk, htl, hfl, hbpl, hc1])
      cases hg : gb (treeM b w n) k with
      | true =>
        have e := bS_tree hg
        (try simp (disch := first | omega | (simp only [LN]; omega)) only [↓EC, EW, seval, ↓reduceIte, hl, hk, htl, hfl, hbpl, hc1, hg])
        exact ⟨k + 1, by rw [e]; simp, by rw [e], by omega, by omega⟩
      | false =>
        (try simp (disch := first | omega | (simp only [LN]; omega)) only [↓EC, EW, seval, ↓reduceIte, hl, hk, htl, hfl, hbpl, hc1, hg, hbk2])
        refine pcm [85] rfl ?_
        (try simp (disch := first | omega | (simp only [LN]; omega)) only [↓EC, EW, seval, ↓reduceIte, hl, hk, htl, hfl, hbpl, hc1, hbk2])
        have hjn := c_spec_l09Join (c := (bS b w n k).1) (x := gi (fwL b w n) k) (y := gi (fwL b w n) (bkx b n k)) (by omega) (by omega) (by omega)
        rw [hc1] at hjn
        refine callM_v hjn ?_
        have hj := jnL_len (c := (bS b w n k).1) (f := gi (bS b w n k).1 (gi (fwL b w n) (bkx b n k)).toNat) (t := gi (bS b w n k).1 (gi (fwL b w n) k).toNat)
        (try simp (disch := first | omega | (simp only [LN]; omega)) only [↓EC, EW, seval, ↓reduceIte, hl, hk, htl, hfl, hbpl, hc1, hj])
        (refine Split.mk (fun h => ?_) (fun h => ?_) <;> (try simp only [SD] at h))
        · have e := bS_yes hg (by simpa using h)
          (try simp (disch := first | omega | (simp only [LN]; omega)) only [↓EC, EW, seval, ↓reduceIte, hl, hk, htl, hfl, hbpl, hj])
          refine pcd_o (hC k (by omega) hg) ?_
          (try simp (disch := first | omega | (simp only [LN]; omega)) only [↓EC, EW, seval, ↓reduceIte, hl, hk, htl, hfl, hbpl, hj])
          exact ⟨k + 1, by rw [e]; simp, by rw [e], by omega, by omega⟩
        · have e := bS_no hg (by simpa using h)
          (try simp (disch := first | omega | (simp only [LN]; omega)) only [↓EC, EW, seval, ↓reduceIte, hl, hk, htl, hfl, hbpl, hj])
          exact ⟨k + 1, by rw [e]; simp, by rw [e], by omega, by omega⟩
    · have hkn : k = n.toNat := by omega
      subst hkn
      (try simp (disch := first | omega | (simp only [LN]; omega)) only [↓EC, EW, seval, ↓reduceIte, hl, hk])
end
end
section
set_option maxHeartbeats 1000000
section
variable {n V B : Nat} {E0 E1 : Nat → Nat} {cl : Nat → Nat → Int}
theorem tree_zero (F : Fo n V B E0 E1 cl) {d : Nat → Int} (sup : ∀ e, e < n → ¬ treE E0 E1 cl e → d e = 0) (sum : ∀ v, v < V → Sv n E0 E1 d v = 0) : ∀ e, e < n → d e = 0 := fun e he => by
  refine Classical.byContradiction fun hd => ?_
  have h0 := F.l0 he
  obtain ⟨t, e1, -, h2, h3, h4, h5⟩ := leaf_ex F n (Nat.le_refl _) (fun e => e < n ∧ d e ≠ 0) (fun e h => ⟨h.1, Classical.byContradiction fun hn => h.2 (sup e h.1 hn)⟩) ⟨e, he, hd⟩ (E0 e) h0
  have h6 := sum t h2
  unfold Sv at h6
  have : smE n (fun e => if incE E0 E1 e t then d e else 0) = smE n (fun e => if e = e1 then d e else 0) := smE_congr n fun e' he' => by
    by_cases hi : incE E0 E1 e' t
    · rw [if_pos hi]
      by_cases hz : d e' = 0
      · rw [hz]; split <;> rfl
      · rw [if_pos (h5 e' ⟨he', hz⟩ hi)]
    · rw [if_neg hi, if_neg fun h => hi (by rw [h]; exact h4)]
  rw [this, smE_pick h3.1] at h6
  exact h3.2 h6
structure Con1 (n V B : Nat) (E0 E1 : Nat → Nat) (cl : Nat → Nat → Int) (x : Nat) (i j : Nat) (a : Nat → Int) : Prop where
  sup : ∀ e, a e ≠ 0 → e < x ∧ treE E0 E1 cl e ∧ cl x (E0 e) = cl x i
  lim : ∀ e, -1 ≤ a e ∧ a e ≤ 1
  sum : ∀ v, v < V → Sv n E0 E1 a v = (if v = i then sgV B i else 0) - (if v = j then sgV B j else 0)
theorem con1_ex (F : Fo n V B E0 E1 cl) : ∀ x, x ≤ n → ∀ i j, i < V → j < V → cl x i = cl x j → ∃ a, Con1 n V B E0 E1 cl x i j a := by
  intro x
  induction x with
  | zero =>
    intro _ i j hi hj h
    have := (F.z i j hi hj).1 h
    subst this
    exact ⟨fun _ => 0, fun e he => absurd rfl he, fun e => by simp, fun v hv => by rw [Sv_zero]; omega⟩
  | succ x ih =>
    intro hx i j hi hj h
    have h0 := F.l0 (e := x) (by omega)
    have h1 := (F.e1 x (by omega)).2
    have hd : E0 x ≠ E1 x := by have := F.e0 x (by omega); have := F.e1 x (by omega); omega
    have s0 : sgV B (E0 x) = 1 := by unfold sgV; rw [if_pos (F.e0 x (by omega))]
    have s1 : sgV B (E1 x) = -1 := by unfold sgV; rw [if_neg (by have := (F.e1 x (by omega)).1; omega)]
    by_cases hc : cl x i = cl x j
    · obtain ⟨a, h2, h3, h4⟩ := ih (by omega) i j hi hj hc
      refine ⟨a, fun e he => ?_, h3, h4⟩
      have g := h2 e he
      exact ⟨by omega, g.2.1, (F.s x _ _ (by omega) (F.l0 (by omega)) hi).2 (.inl g.2.2)⟩
    · obtain ⟨hi', hj'⟩ := ((F.s x i j (by omega) hi hj).1 h).resolve_left hc
      have ht : treE E0 E1 cl x := by
        intro he
        rcases hi' with h' | h' <;> rcases hj' with h'' | h''
        · exact hc (h'.trans h''.symm)
        · exact hc (h'.trans (he.trans h''.symm))
        · exact hc (h'.trans (he.symm.trans h''.symm))
        · exact hc (h'.trans h''.symm)
      have key : ∀ (c : Int) (p q : Nat) (a1 a2 : Nat → Int), (c = 1 ∨ c = -1) → (q = E0 x ∨ q = E1 x) → cl x q = cl x j → Con1 n V B E0 E1 cl x i p a1 → Con1 n V B E0 E1 cl x q j a2 →
          (∀ v, (if incE E0 E1 x v then c else 0) = (if v = p then sgV B p else 0) - (if v = q then sgV B q else 0)) → ∃ a, Con1 n V B E0 E1 cl (x + 1) i j a := by
        intro c p q a1 a2 hcc hq hqj g1 g2 g3
        have z1 : a1 x = 0 := by
          by_cases e : a1 x = 0
          · exact e
          · have := (g1.sup x e).1; omega
        have z2 : a2 x = 0 := by
          by_cases e : a2 x = 0
          · exact e
          · have := (g2.sup x e).1; omega
        have z12 : ∀ e, a1 e ≠ 0 → a2 e = 0 := fun e h1 => by
          refine Classical.byContradiction fun h2 => ?_
          have k1 := (g1.sup e h1).2.2
          have k2 := (g2.sup e h2).2.2
          exact hc (k1.symm.trans (k2.trans hqj))
        refine ⟨fun e => (a1 e + (if e = x then c else 0)) + a2 e, fun e he => ?_, fun e => ?_, fun v hv => ?_⟩
        · by_cases e1 : a1 e = 0
          · by_cases e2 : a2 e = 0
            · by_cases e3 : e = x
              · subst e3
                exact ⟨by omega, ht, (F.s e _ _ (by omega) (F.l0 (by omega)) hi).2 (.inr ⟨.inl rfl, hi'⟩)⟩
              · exact absurd (by simp [e1, e2, e3]) he
            · have g := g2.sup e e2
              refine ⟨by omega, g.2.1, (F.s x _ _ (by omega) (F.l0 (by omega)) hi).2 (.inr ⟨?_, hi'⟩)⟩
              rcases hq with rfl | rfl
              · exact .inl g.2.2
              · exact .inr g.2.2
          · have g := g1.sup e e1
            exact ⟨by omega, g.2.1, (F.s x _ _ (by omega) (F.l0 (by omega)) hi).2 (.inl g.2.2)⟩
        · have k1 := g1.lim e
          have k2 := g2.lim e
          by_cases e3 : e = x
          · subst e3
            show -1 ≤ a1 e + (if e = e then c else 0) + a2 e ∧ a1 e + (if e = e then c else 0) + a2 e ≤ 1
            rw [if_pos rfl, z1, z2]; omega
          · show -1 ≤ a1 e + (if e = x then c else 0) + a2 e ∧ a1 e + (if e = x then c else 0) + a2 e ≤ 1
            rw [if_neg e3]
            by_cases e1 : a1 e = 0
            · omega
            · have := z12 e e1; omega
        · rw [Sv_add (a := fun e => a1 e + (if e = x then c else 0)) (b := a2), Sv_add (a := a1), Sv_one (by omega), g1.sum v hv, g2.sum v hv, g3 v]
          omega
      rcases hi' with h' | h' <;> rcases hj' with h'' | h''
      · exact absurd (h'.trans h''.symm) hc
      · obtain ⟨a1, g1⟩ := ih (by omega) i (E0 x) hi h0 h'
        obtain ⟨a2, g2⟩ := ih (by omega) (E1 x) j h1 hj h''.symm
        refine key 1 _ _ a1 a2 (.inl rfl) (.inr rfl) h''.symm g1 g2 fun v => ?_
        rw [s0, s1]
        rw [inc_if]
        by_cases v0 : v = E0 x
        · have v1 : ¬ v = E1 x := fun e => hd (v0.symm.trans e)
          simp [v0, v1, hd]
        · by_cases v1 : v = E1 x
          · simp [v0, v1, hd.symm]
          · simp [v0, v1]
      · obtain ⟨a1, g1⟩ := ih (by omega) i (E1 x) hi h1 h'
        obtain ⟨a2, g2⟩ := ih (by omega) (E0 x) j h0 hj h''.symm
        refine key (-1) _ _ a1 a2 (.inr rfl) (.inl rfl) h''.symm g1 g2 fun v => ?_
        rw [s0, s1]
        rw [inc_if]
        by_cases v0 : v = E0 x
        · have v1 : ¬ v = E1 x := fun e => hd (v0.symm.trans e)
          simp [v0, v1, hd]
        · by_cases v1 : v = E1 x
          · simp [v0, v1, hd.symm]
          · simp [v0, v1]
      · exact absurd (h'.trans h''.symm) hc
theorem sol_one (F : Fo n V B E0 E1 cl) {x : Nat} {a : Nat → Int} (hx : x < n) (ht : ¬ treE E0 E1 cl x) (h : Sol n V E0 E1 cl x a) : ∀ e, e < n → -1 ≤ a e ∧ a e ≤ 1 := by
  have hc : cl x (E0 x) = cl x (E1 x) := Classical.byContradiction fun h => ht h
  have h0 := F.l0 hx
  have h1 := (F.e1 x hx).2
  have hd : E0 x ≠ E1 x := by have := F.e0 x hx; have := F.e1 x hx; omega
  have s0 : sgV B (E0 x) = 1 := by unfold sgV; rw [if_pos (F.e0 x hx)]
  have s1 : sgV B (E1 x) = -1 := by unfold sgV; rw [if_neg (by have := (F.e1 x hx).1; omega)]
  obtain ⟨c, g1, g2, g3⟩ := con1_ex F x (by omega) _ _ h0 h1 hc
  have cx : c x = 0 := Classical.byContradiction fun e => by have := (g1 x e).1; omega
  have hs : ∀ v, v < V → Sv n E0 E1 (fun e => (if e = x then 1 else 0) + - c e) v = 0 := fun v hv => by
    rw [Sv_add (a := fun e => if e = x then 1 else 0) (b := fun e => - c e), Sv_one hx, Sv_neg, g3 v hv, s0, s1]
    rw [inc_if]
    by_cases v0 : v = E0 x
    · have v1 : ¬ v = E1 x := fun e => hd (v0.symm.trans e)
      simp [v0, v1, hd]
    · by_cases v1 : v = E1 x
      · simp [v0, v1, hd.symm]
      · simp [v0, v1]
  have hz := tree_zero F (d := fun e => a e + - ((if e = x then 1 else 0) + - c e)) (fun e he hne => by
    by_cases hex : e = x
    · subst hex; simp [h.one, cx]
    · have : c e = 0 := Classical.byContradiction fun q => hne (g1 e q).2.1
      simp [h.off e he hne hex, hex, this]) fun v hv => by
    rw [Sv_add (a := a) (b := fun e => - ((if e = x then 1 else 0) + - c e)), Sv_neg, h.sum v hv, hs v hv]; rfl
  intro e he
  have h1 := hz e he
  have h2 := g2 e
  by_cases hex : e = x
  · subst hex; rw [h.one]; omega
  · rw [if_neg hex] at h1; omega
theorem pot_tree (F : Fo n V B E0 E1 cl) (K : Nat → Int) : ∀ x, x ≤ n → ∃ h : Nat → Int, ∀ e, e < x → treE E0 E1 cl e → K e = h (E0 e) + h (E1 e)
  | 0, _ => ⟨fun _ => 0, fun e he => absurd he (Nat.not_lt_zero e)⟩
  | x + 1, hx => by
    obtain ⟨h, hh⟩ := pot_tree F K x (by omega)
    by_cases ht : treE E0 E1 cl x
    · have b0 := F.e0 x (by omega)
      have b1 := F.e1 x (by omega)
      refine ⟨fun v => h v + if cl x v = cl x (E0 x) then (if v < B then K x - h (E0 x) - h (E1 x) else -(K x - h (E0 x) - h (E1 x))) else 0, fun e he hte => ?_⟩
      show K e = (h (E0 e) + if cl x (E0 e) = cl x (E0 x) then (if E0 e < B then K x - h (E0 x) - h (E1 x) else -(K x - h (E0 x) - h (E1 x))) else 0) +
        (h (E1 e) + if cl x (E1 e) = cl x (E0 x) then (if E1 e < B then K x - h (E0 x) - h (E1 x) else -(K x - h (E0 x) - h (E1 x))) else 0)
      have c0 := F.e0 e (by omega)
      have c1 := F.e1 e (by omega)
      rw [if_pos c0, if_neg (show ¬ E1 e < B by omega)]
      by_cases hex : e = x
      · subst hex
        rw [if_pos rfl, if_neg (fun q => ht q.symm)]; omega
      · have hj := F.joined (e := e) (x := x) (by omega) (by omega)
        have := hh e (by omega) hte
        rw [hj]
        split <;> omega
    · exact ⟨h, fun e he hte => hh e (by
        have : e ≠ x := by rintro rfl; exact ht hte
        omega) hte⟩
end
section
variable {b w : List Int} {n : Int}
theorem Pd.orth {p : List Int} (h : Pd p n) {a : List Int} (hz : ∀ v, v < (cyc p n).length → Sep.sumT a (gl (cyc p n) v) (gl (cyc p n) v).length = 0) (H : Nat → Int) : smE n.toNat (fun e => gi a e * H (wh p n e)) = 0 := by
  have e1 : smE n.toNat (fun e => gi a e * H (wh p n e)) = smE n.toNat (fun e => smE (cyc p n).length fun v => if v = wh p n e then gi a e * H v else 0) := smE_congr _ fun e he => (smE_pick (f := fun v => gi a e * H v) h.wh_lt).symm
  rw [e1, smE_swap]
  refine (smE_congr _ fun v hv => ?_).trans (smE_zero _)
  have h1 := h.sums (a := a) hv
  rw [hz v hv] at h1
  have e2 : smE n.toNat (fun e => if v = wh p n e then gi a e * H v else 0) = smE n.toNat fun e => H v * (gi a e * if v = wh p n e then 1 else 0) := smE_congr _ fun e _ => by
    split
    · rw [Int.mul_one, Int.mul_comm]
    · rw [Int.mul_zero, Int.mul_zero]
  rw [e2, smE_mul, ← h1, Int.mul_zero]
structure Ce (n : Int) (b w : List Int) (x : Nat) (c : List Int) : Prop where
  cy : cycB c (allV b w n) = true
  ch : chnB n c = true
  one : gi c x = 1
  off : ∀ e, e < n.toNat → gb (treeM b w n) e = false → e ≠ x → gi c e = 0
theorem chn_of {l : List Int} (hl : (l.length : Int) = n) (h : ∀ i, i < l.length → -1000 ≤ gi l i ∧ gi l i ≤ 1000) : chnB n l = true := by
  unfold chnB
  rw [Bool.and_eq_true]
  refine ⟨?_, by simpa using hl⟩
  exact (all_getD (d := 0)).2 fun j hj => by simpa [gi] using h j hj
theorem ce_of (h : Dz n b w) (hb : okP b) (hw : okP w) {x : Nat} (hx : x < n.toNat) (hxt : gb (treeM b w n) x = false) : Ce n b w x (cyL b w n x) := by
  have hs := cyA_sol hb hw h.D hx hxt
  have hn := h.B.hn
  have F := dFo h.B.lo h.W.lo h.B.lt h.W.lt hn
  have hat : ∀ e, e < n.toNat → gi (cyL b w n x) e = cyA b w n x e := fun e he => by
    rw [gi_of (by rw [cyL_len]; exact he)]; simp [cyL]
  have ht : ∀ e, e < n.toNat → (gb (treeM b w n) e = true ↔ treE (E0F b n) (E1F b w n) (clF b w n) e) := fun e he => tree_iff h.B.lo h.W.lo h.B.lt h.W.lt hn (by omega)
  have hnt : ∀ e, e < n.toNat → gb (treeM b w n) e = false → ¬ treE (E0F b n) (E1F b w n) (clF b w n) e := fun e he hg hq => by rw [(ht e he).2 hq] at hg; cases hg
  have h1 := sol_one F hx (hnt x hx hxt) hs
  refine ⟨cycB_yes fun v hv => ?_, chn_of (by rw [cyL_len]; omega) fun i hi => ?_, by rw [hat x hx]; exact hs.one, fun e he hg hex => by rw [hat e he]; exact hs.off e he (hnt e he hg) hex⟩
  · rw [sumT_Sv h.B.lo h.W.lo h.B.lt h.W.lt hn hv, ← hs.sum v hv]
    exact Sv_congr fun e he => hat e he
  · rw [cyL_len] at hi
    have := h1 i hi
    rw [hat i hi]; omega
theorem cyL_one1 (h : Dz n b w) (hb : okP b) (hw : okP w) {x : Nat} (hx : x < n.toNat) (hxt : gb (treeM b w n) x = false) : ∀ e : Nat, -1 ≤ gi (cyL b w n x) e ∧ gi (cyL b w n x) e ≤ 1 := fun e => by
  have hs := cyA_sol hb hw h.D hx hxt
  have hn := h.B.hn
  have F := dFo h.B.lo h.W.lo h.B.lt h.W.lt hn
  by_cases he : e < n.toNat
  · rw [gi_of (by rw [cyL_len]; exact he)]
    have := sol_one F hx (fun q => by rw [(tree_iff h.B.lo h.W.lo h.B.lt h.W.lt hn (by omega)).2 q] at hxt; cases hxt) hs e he
    simpa [cyL] using this
  · rw [gi_over (by rw [cyL_len]; omega)]; omega
theorem Dz.dual (h : Dz n b w) (hb : okP b) (hw : okP w) {a : List Int} (ha : cycB a (allV b w n) = true) (hm : ∀ y, y < n.toNat → gb (treeM b w n) y = false → meetV b w n a (cyL b w n y) = 0) :
    ∃ lam : Nat → Int, (∀ x, x < n.toNat → lam (fp w (fp b x)) = lam x) ∧ ∀ x, x < n.toNat → gi a (fp b x) = lam (fp b x) - lam x := by
  have hn := h.B.hn
  obtain ⟨⟨P, hP⟩, Q, hQ⟩ := h.pots ha
  have F := dFo h.B.lo h.W.lo h.B.lt h.W.lt hn
  obtain ⟨H, hH⟩ := pot_tree F (fun e => P e + Q e + gi a e) n.toNat (Nat.le_refl _)
  have hall : ∀ e, e < n.toNat → P e + Q e + gi a e = H (E0F b n e) + H (E1F b w n e) := fun y hy => by
    by_cases ht : treE (E0F b n) (E1F b w n) (clF b w n) y
    · exact hH y hy ht
    · have hg : gb (treeM b w n) y = false := by
        cases hg : gb (treeM b w n) y with
        | false => rfl
        | true => exact absurd ((tree_iff h.B.lo h.W.lo h.B.lt h.W.lt hn (by omega)).1 hg) ht
      have C := ce_of h hb hw hy hg
      have h1 := hm y hy hg
      unfold meetV at h1
      rw [mtV_neg, h.mt C.cy hP hQ, Int.neg_neg] at h1
      have e1 : smE n.toNat (fun e => gi (cyL b w n y) e * ((P e + P (fp b e)) + (Q e + Q (fp w e)))) = 2 * smE n.toNat (fun e => gi (cyL b w n y) e * (P e + Q e + gi a e)) := by
        rw [← smE_mul]
        refine smE_congr _ fun e he => ?_
        have h1 := hP e he
        have h2 := hQ e he
        rw [h1, h2]; grind
      rw [e1, Int.mul_tdiv_cancel_left _ (by decide)] at h1
      obtain ⟨z1, z2⟩ := cyc_zero C.cy
      have h2 := h.B.orth z1 H
      have h3 := h.W.orth z2 (fun v => H ((cyc b n).length + v))
      have h4 : smE n.toNat (fun e => gi (cyL b w n y) e * (P e + Q e + gi a e - H (E0F b n e) - H (E1F b w n e))) = 0 := by
        have : smE n.toNat (fun e => gi (cyL b w n y) e * (P e + Q e + gi a e - H (E0F b n e) - H (E1F b w n e))) =
            smE n.toNat (fun e => gi (cyL b w n y) e * (P e + Q e + gi a e) - (gi (cyL b w n y) e * H (wh b n e) + gi (cyL b w n y) e * H ((cyc b n).length + wh w n e))) := smE_congr _ fun e _ => by
          unfold E0F E1F wh; grind
        rw [this, smE_sub, smE_add, h1, h2, h3]; rfl
      have h5 : smE n.toNat (fun e => gi (cyL b w n y) e * (P e + Q e + gi a e - H (E0F b n e) - H (E1F b w n e))) = smE n.toNat (fun e => if e = y then P e + Q e + gi a e - H (E0F b n e) - H (E1F b w n e) else 0) := smE_congr _ fun e he => by
        by_cases hey : e = y
        · subst hey; rw [if_pos rfl, C.one, Int.one_mul]
        · rw [if_neg hey]
          by_cases hte : treE (E0F b n) (E1F b w n) (clF b w n) e
          · have := hH e he hte
            rw [show P e + Q e + gi a e - H (E0F b n e) - H (E1F b w n e) = 0 by omega, Int.mul_zero]
          · have hge : gb (treeM b w n) e = false := by
              cases hg : gb (treeM b w n) e with
              | false => rfl
              | true => exact absurd ((tree_iff h.B.lo h.W.lo h.B.lt h.W.lt hn (by omega)).1 hg) hte
            rw [C.off e he hge hey, Int.zero_mul]
      rw [h5, smE_pick hy] at h4
      omega
  have eE0 : ∀ x, x < n.toNat → E0F b n (fp b x) = E0F b n x := fun x hx => h.B.wh_step hx
  have eE1 : ∀ x, x < n.toNat → E1F b w n (fp w x) = E1F b w n x := fun x hx => by
    have := h.W.wh_step hx
    unfold wh at this
    unfold E1F; rw [this]
  refine ⟨fun x => P (fp b x) - H (E0F b n x), fun x hx => ?_, fun x hx => ?_⟩
  · have hbx := h.B.pf.lt x hx
    have hwx := h.W.pf.lt _ hbx
    have k1 := hall _ hbx
    have k2 := hall _ hwx
    have p1 := hP _ hwx
    have q1 := hQ _ hbx
    have s1 := eE1 _ hbx
    have s0 := eE0 _ hx
    show P (fp b (fp w (fp b x))) - H (E0F b n (fp w (fp b x))) = P (fp b x) - H (E0F b n x)
    rw [s1] at k2
    rw [s0] at k1
    omega
  · have hbx := h.B.pf.lt x hx
    have p1 := hP _ hx
    have p2 := hP _ hbx
    have s0 := eE0 _ hx
    show gi a (fp b x) = (P (fp b (fp b x)) - H (E0F b n (fp b x))) - (P (fp b x) - H (E0F b n x))
    rw [s0]; omega
theorem Dz.lam_fc (h : Dz n b w) {lam : Nat → Int} (hl : ∀ x, x < n.toNat → lam (fp w (fp b x)) = lam x) {y z : Nat} (hy : y < n.toNat) (hz : z < n.toNat) (e : fc b w n y = fc b w n z) : lam y = lam z := by
  have hv := h.F.wh_lt (x := y)
  have m1 := (h.F.wh_iff hy hv).2 rfl
  have m2 := (h.F.wh_iff hz hv).2 e
  obtain ⟨r, L, h2, h3, h4, h5⟩ := cyc_orb h.F.pf h.F.nn hv
  rw [h5] at m1 m2
  have key : ∀ j, lam (it (faceP b w n) j r) = lam r := fun j => by
    induction j with
    | zero => rfl
    | succ j ih =>
      have hj := it_lt h.F.pf h2 j
      have := hl _ (h.F.pf.lt _ hj)
      rw [h.face' hj] at this
      simp only [it]
      rw [← this, ih]
  obtain ⟨j, -, rfl⟩ := orb_mem.1 m1
  obtain ⟨j', -, rfl⟩ := orb_mem.1 m2
  rw [key, key]
theorem num_fc (hn : 1 ≤ n ∧ n ≤ 16) {x : Nat} (hx : x < n.toNat) : (gi (numL b w n) x).toNat = fc b w n x := by rw [num_at hn hx]; rfl
theorem bkx_fp (h : Dz n b w) {x : Nat} (hx : x < n.toNat) : fp b (bkx b n x) = x := back_fp' h.B.pf hx
theorem bI_lam (h : Dz n b w) {lam : Nat → Int} (hl : ∀ x, x < n.toNat → lam (fp w (fp b x)) = lam x) : ∀ k, k ≤ n.toNat → (∀ e, e < k → gb (treeM b w n) e = false → lam e = lam (bkx b n e)) → ∀ y z, y < n.toNat → z < n.toNat →
    gi (bI b w n k).1 (fc b w n y) = gi (bI b w n k).1 (fc b w n z) → lam y = lam z
  | 0, _, _, y, z, hy, hz, e => by
    have l1 := h.F.wh_lt (x := y)
    have l2 := h.F.wh_lt (x := z)
    simp only [bI] at e
    rw [iota_at (show fc b w n y < (fcL b w n).length from l1), iota_at (show fc b w n z < (fcL b w n).length from l2)] at e
    exact h.lam_fc hl hy hz (by omega)
  | k + 1, hk, hj, y, z, hy, hz, e => by
    have ih := bI_lam h hl k (by omega) fun e he => hj e (by omega)
    have hn := h.B.hn
    cases hg : gb (treeM b w n) k with
    | true => rw [bI_tree hg] at e; exact ih y z hy hz e
    | false =>
      have hkb := bkx_lt (b := b) hn (k := k) (by omega)
      have e1 : (bI b w n (k + 1)).1 = jnL (bI b w n k).1 (max (gi (bI b w n k).1 (gi (numL b w n) k).toNat) (gi (bI b w n k).1 (gi (numL b w n) (bkx b n k)).toNat)) (min (gi (bI b w n k).1 (gi (numL b w n) k).toNat) (gi (bI b w n k).1 (gi (numL b w n) (bkx b n k)).toNat)) := by
        simp only [bI]; rw [if_neg (by rw [hg]; decide)]
      have q := (bI_len (b := b) (w := w) (n := n) k).1
      rw [e1, num_fc hn (by omega), num_fc hn hkb, jnL_rel (by rw [q]; exact h.F.wh_lt) (by rw [q]; exact h.F.wh_lt)] at e
      rcases e with e | ⟨ea, eb⟩
      · exact ih y z hy hz e
      · have hkk := hj k (by omega) hg
        have one : ∀ u, u < n.toNat → (gi (bI b w n k).1 (fc b w n u) = max (gi (bI b w n k).1 (fc b w n k)) (gi (bI b w n k).1 (fc b w n (bkx b n k))) ∨ gi (bI b w n k).1 (fc b w n u) = min (gi (bI b w n k).1 (fc b w n k)) (gi (bI b w n k).1 (fc b w n (bkx b n k)))) → lam u = lam k := fun u hu q => by
          have : gi (bI b w n k).1 (fc b w n u) = gi (bI b w n k).1 (fc b w n k) ∨ gi (bI b w n k).1 (fc b w n u) = gi (bI b w n k).1 (fc b w n (bkx b n k)) := by omega
          rcases this with q | q
          · exact ih u k hu (by omega) q
          · rw [ih u _ hu hkb q, ← hkk]
        rw [one y hy ea, one z hz eb]
theorem bI_mem2 {y : List Int} : ∀ k, y ∈ (bI b w n k).2 → ∃ e, e < k ∧ gb (treeM b w n) e = false ∧ y = cyL b w n e ∧ gi (bI b w n e).1 (gi (numL b w n) e).toNat = gi (bI b w n e).1 (gi (numL b w n) (bkx b n e)).toNat
  | 0, h => by simp [bI] at h
  | k + 1, h => by
    simp only [bI] at h
    split at h
    · obtain ⟨e, h1, h2⟩ := bI_mem2 k h; exact ⟨e, by omega, h2⟩
    · rename_i hg
      have hg' : gb (treeM b w n) k = false := by simpa using hg
      simp only at h
      split at h
      · rename_i hj
        rcases List.mem_append.1 h with h | h
        · obtain ⟨e, h1, h2⟩ := bI_mem2 k h; exact ⟨e, by omega, h2⟩
        · simp only [List.mem_cons, List.not_mem_nil, or_false] at h
          exact ⟨k, by omega, hg', h, hj⟩
      · obtain ⟨e, h1, h2⟩ := bI_mem2 k h; exact ⟨e, by omega, h2⟩
theorem Dz.ic (h : Dz n b w) {l : List Int} (h1 : chnB n l = true) (h2 : cycB l (allV b w n) = true) : icR n b w l = (true, 0) := by
  unfold icR; rw [if_pos (isDB_iff.2 h.D), if_pos h1, h2]
theorem Dz.bas_no (h : Dz n b w) (hb : okP b) (hw : okP w) {y : List Int} (hy : y ∈ basL b w n) : ibR n b w y = (false, 0) := by
  obtain ⟨x, hx, hg, rfl, hj⟩ := bI_mem2 n.toNat hy
  have hn := h.B.hn
  have C := ce_of h hb hw hx hg
  have hic := h.ic C.ch C.cy
  have hic' : (icR n b w (cyL b w n x)).2 = 0 ∧ (icR n b w (cyL b w n x)).1 = true := by rw [hic]; exact ⟨rfl, rfl⟩
  by_cases hall : ∀ t, t < n.toNat → gb (treeM b w n) t = false → meetV b w n (cyL b w n x) (cyL b w n t) = 0
  · exfalso
    obtain ⟨lam, h1, h2⟩ := h.dual hb hw C.cy hall
    have hbx := bkx_lt (b := b) hn hx
    rw [num_fc hn hx, num_fc hn hbx] at hj
    have := bI_lam h h1 x (by omega) (fun e he hge => by
      have hbe := bkx_lt (b := b) hn (k := e) (by omega)
      have := h2 _ hbe
      rw [bkx_fp h (by omega), C.off e (by omega) hge (by omega)] at this
      omega) x (bkx b n x) hx hbx hj
    have h3 := h2 _ hbx
    rw [bkx_fp h hx, C.one] at h3
    omega
  · unfold ibR
    rw [if_pos hic']
    congr 1
    rw [decide_eq_false_iff_not]
    exact hall
theorem Dz.bnd_yes (h : Dz n b w) (hb : okP b) (hw : okP w) {k : Nat} (hk : k < (bndL b w n).length) : ibR n b w (gl (bndL b w n) k) = (true, 0) := by
  rw [bnd_len] at hk
  have hn := h.B.hn
  have hl : ((gl (bndL b w n) k).length : Int) = n := by rw [bnd_gl hk, chT_len]; omega
  have hcl : (gl (cyc (faceP b w n) n) k).length ≤ 16 := by
    have := (cyc_at h.F.lt hn _ (gl_mem hk)).2
    omega
  have hic := h.ic (chn_of hl fun i hi => by
    rw [bnd_gl hk]
    have := chT_lim (b := b) (n := n) (c := gl (cyc (faceP b w n) n) k) (gl (cyc (faceP b w n) n) k).length i
    omega) (h.bnd_cyc hk)
  refine ibR_yes (by rw [hic]; exact ⟨rfl, rfl⟩) fun x hx hg => ?_
  exact h.bnd_meet hk (ce_of h hb hw hx hg).cy
end
end
section
structure Hide {α : Type} (a : α) : Type where mk ::
def blk {α : Type} (a : α) (u : Hide a) : α := a
structure blkP (a : Prop) (u : Hide a) : Prop where
  out : a
theorem blkP_iff {a : Prop} {u : Hide a} : blkP a u = a := propext ⟨fun h => h.out, fun h => ⟨h⟩⟩
theorem blk_eq {K : V → Hp → Prop} {u : Hide K} {v : V} {h : Hp} : blk K u v h = K v h := by simp only [blk]
theorem SplitB_t {A B : Prop} {u : Hide A} : Split true (blkP A u) B = A := by rw [Split_true, blkP_iff]
theorem SplitB_f {A B : Prop} {u : Hide B} : Split false A (blkP B u) = B := by rw [Split_false, blkP_iff]
theorem Split.mkB {b : Bool} {A B : Prop} {u : Hide A} {v : Hide B} (h1 : b = true → A) (h2 : b = false → B) : Split b (blkP A u) (blkP B v) := ⟨fun h => ⟨h1 h⟩, fun h => ⟨h2 h⟩⟩
section
variable {P : Program} {h : Hp} {f : FuncId} {d : Nat} {vs : List V} {K : V → Hp → Prop}
def pcalB (P : Program) (f : FuncId) (d : Nat) (h : Hp) (K : V → Hp → Prop) (vs : List V) : Prop := pcal P f d h K vs
def pcalpB (P : Program) (f : FuncId) (d : Nat) (h : Hp) (K : V → Hp → Prop) (vs : List V) : Prop := pcalp P f d h K vs
def pcalaB (P : Program) (f : FuncId) (d : Nat) (h : Hp) (K : V → Hp → Prop) (avs vs : List V) : Prop := pcala P f d h K avs vs
def pcondB (A B : Prop) (v : V) : Prop := pcond A B v
def pgkB (w : Bool) (h : Hp) (op : V → (V → Hp → Prop) → Prop) (k : V → V → Hp → Prop) (v : V) : Prop := pgk w h op k v
def JNx (F : (List V → Hp → Prop) → Prop) (G : List V → Hp → Prop) (u : Hide F) (v : Hide G) : Prop := F G
theorem pcal_B : pcal P f d h K vs = pcalB P f d h K vs := rfl
theorem pcalp_B : pcalp P f d h K vs = pcalpB P f d h K vs := rfl
theorem pcala_B {avs : List V} : pcala P f d h K avs vs = pcalaB P f d h K avs vs := rfl
theorem pcond_B {A B : Prop} {v : V} : pcond A B v = pcondB A B v := rfl
theorem pgk_B {w : Bool} {op : V → (V → Hp → Prop) → Prop} {k : V → V → Hp → Prop} {v : V} : pgk w h op k v = pgkB w h op k v := rfl
theorem JN_B {F : (List V → Hp → Prop) → Prop} {G : List V → Hp → Prop} : JN F G = JNx F G ⟨⟩ ⟨⟩ := rfl
theorem pcalB_eq : pcalB P f d h K vs = pcd P f d h (blk K ⟨⟩) (dvs h vs) true vs := pcal_def
theorem pcalpB_eq : pcalpB P f d h K vs = pcd P f d h (blk K ⟨⟩) (dvs h vs) false vs := pcalp_def
theorem pcalaB_eq {avs : List V} : pcalaB P f d h K avs vs = pcda P f d h (blk K ⟨⟩) (dvs h vs) vs avs := pcala_def
theorem pcondB_eq {A B : Prop} {b : Bool} : pcondB A B (.bool b) = Split b (blkP A ⟨⟩) (blkP B ⟨⟩) := by simp only [pcondB, pcond_sym, blkP_iff]
theorem pgkB_eq {w : Bool} {op : V → (V → Hp → Prop) → Prop} {k : V → V → Hp → Prop} {b : Bool} : pgkB w h op k (.bool b) =
    Split b (blkP (cond w (op (.bool true) (k (.bool true))) (k (.bool true) (.tup []) h)) ⟨⟩) (blkP (cond w (k (.bool false) (.tup []) h) (op (.bool false) (k (.bool false)))) ⟨⟩) := by simp only [pgkB, pgk_sym, blkP_iff]
theorem pgkB_skip {w : Bool} {op : V → (V → Hp → Prop) → Prop} {k : V → V → Hp → Prop} : pgkB w h op k (.tup []) = k (.tup []) (.tup []) h := by simp only [pgkB, pgk_skip]
theorem JNx_un {F : (List V → Hp → Prop) → Prop} {G : List V → Hp → Prop} {u : Hide F} {v : Hide G} (h : F G) : JNx F G u v := h
theorem callM_do {bs : List Nat} {bx : List (Nat × TypeId × Nat)} {cells : List (List V)} {ws : List V} {Φ : V → List (List V) → Prop}
    (hs : PSpecM P f ws bx cells Φ) (hK : ∀ v cs, Φ v cs → Rq (allFree (hputs2 h bs bx cs) (mat v d).2.1) (K (mat v d).1 (hputs (hputs2 h bs bx cs) (mat v d).2.1))) : CallM P f d h K bs bx cells ws := ⟨Φ, hs, .inr hK⟩
def LPx (vs ls : List Nat) (B : List V → List V → Hp → (List V → List V → Hp → Prop) → Prop) (u : Hide B) (wv lv : List V) (h : Hp) : Prop := LP vs ls B wv lv h
theorem LP_B {vs ls : List Nat} {B : List V → List V → Hp → (List V → List V → Hp → Prop) → Prop} {wv lv : List V} : LP vs ls B wv lv h = LPx vs ls B ⟨⟩ wv lv h := rfl
theorem LPx_ofE {σ : Type} (ss : List Nat) (c0 : Nat) (bx : List (Nat × TypeId × Nat)) (vals : σ → List V) (cells : σ → List (List V)) (J : σ → Prop) (μ : σ → Nat) (s0 : σ) {vs ls : List Nat}
    {B : List V → List V → Hp → (List V → List V → Hp → Prop) → Prop} {u : Hide B} {wv lv : List V} (hf : frameOk c0 (lpz ls lv) bx = true) (h0 : J s0)
    (he : ColV bx wv lv lv h fun v c => rts ss v = vals s0 ∧ c = cells s0)
    (hr : ∀ s, J s → B (mats (vals s) c0).1 lv (lheap c0 bx (vals s) (cells s)) fun wv' lv' h' => ColV bx wv' lv' lv h' fun v c => ∃ s', v = vals s' ∧ c = cells s' ∧ J s' ∧ μ s' < μ s) :
    LPx vs ls B u wv lv h := LP_ofE ss c0 bx vals cells J μ s0 hf h0 he hr
theorem LPx_of {σ : Type} (c0 : Nat) (bx : List (Nat × TypeId × Nat)) (vals : σ → List V) (cells : σ → List (List V)) (J : σ → Prop) (μ : σ → Nat) (s0 : σ) {vs ls : List Nat}
    {B : List V → List V → Hp → (List V → List V → Hp → Prop) → Prop} {u : Hide B} {wv lv : List V} (hf : frameOk c0 (lpz ls lv) bx = true) (h0 : J s0)
    (he : ColV bx wv lv lv h fun v c => v = vals s0 ∧ c = cells s0)
    (hr : ∀ s, J s → B (mats (vals s) c0).1 lv (lheap c0 bx (vals s) (cells s)) fun wv' lv' h' => ColV bx wv' lv' lv h' fun v c => ∃ s', v = vals s' ∧ c = cells s' ∧ J s' ∧ μ s' < μ s) :
    LPx vs ls B u wv lv h := LP_of c0 bx vals cells J μ s0 hf h0 he hr
end
set_option linter.defProp false in
def EBD := And.intro @pcalB_eq <| And.intro @pcalpB_eq <| And.intro @pcalaB_eq <| And.intro @pcondB_eq <| And.intro @pgkB_eq <| And.intro @pgkB_skip <| And.intro @blk_eq <| And.intro @SplitB_t @SplitB_f
set_option linter.defProp false in
def EBE := And.intro @bne_self_eq_false.{0} <| And.intro @beq_self_eq_true.{0} <| And.intro Bool.and_self <| And.intro Bool.not_true Bool.not_false
theorem bni {a : Prop} (h : blkP a ⟨⟩) : a := h.out
theorem bnk {a : Prop} {u : Hide a} (h : a) : blkP a u := ⟨h⟩
end
end Go.Proofs.YtpeglkcbhffaaaaGreat.Sep
section
namespace Go.Proofs.YtpeglkcbhffaaaaGreat.Sep.Q
open Go.RowKit
open Go.Proofs.YtpeglkcbhffaaaaGreat.Sep
set_option linter.unusedVariables false
set_option linter.unusedSimpArgs false
set_option maxRecDepth 20000
set_option maxHeartbeats 4000000
def srT (p q : List Int) : Nat → Sr
  | 0 => sr0
  | k + 1 => srStep p q k (srT p q k)
theorem srRun_T {p q : List Int} : ∀ (m i : Nat), ∃ k, srRun p q m i (srT p q i) = srT p q k ∧ i ≤ k ∧ (∀ j, i ≤ j → j < k → j < (srT p q j).1.length) ∧ (k = i + m ∨ (srT p q k).1.length ≤ k)
  | 0, i => ⟨i, rfl, Nat.le_refl _, fun j a b => absurd b (by omega), .inl rfl⟩
  | m + 1, i => by
    simp only [srRun]
    split
    · rename_i hi
      obtain ⟨k, e, h1, h2, h3⟩ := srRun_T (p := p) (q := q) m (i + 1)
      refine ⟨k, e, by omega, fun j a b => ?_, by omega⟩
      by_cases hj : j = i
      · rw [hj]; exact hi
      · exact h2 j (by omega) b
    · exact ⟨i, rfl, Nat.le_refl _, fun j a b => absurd b (by omega), .inr (by omega)⟩
structure Sx (n : Int) (s : Sr) : Prop where
  l2 : s.2.length = 16
  nd : s.1.Nodup
  has : ∀ y : Nat, y < 16 → (gb s.2 y = true ↔ (y : Int) ∈ s.1)
  lt : ∀ y ∈ s.1, 0 ≤ y ∧ y < n
variable {n : Int} {b w : List Int}
theorem Sx.zero (hn : 1 ≤ n ∧ n ≤ 16) : Sx n sr0 := by
  refine ⟨by simp [sr0], by simp [sr0], fun y hy => ?_, fun y hy => ?_⟩
  · simp only [sr0, List.mem_singleton]
    rw [gb_set, gb_rep]
    simp
    omega
  · simp only [sr0, List.mem_singleton] at hy; omega
theorem Sx.visit (hn : 1 ≤ n ∧ n ≤ 16) {s : Sr} (h : Sx n s) {y : Int} (hy : 0 ≤ y ∧ y < n) : Sx n (visit y s) := by
  unfold Sep.visit
  split
  · exact h
  · rename_i hv
    have hno : y ∉ s.1 := fun hm => hv ((h.has y.toNat (by omega)).2 (by rw [show ((y.toNat : Nat) : Int) = y from by omega]; exact hm))
    refine ⟨by simp [h.l2], ?_, fun x hx => ?_, fun x hx => ?_⟩
    · refine List.nodup_append.2 ⟨h.nd, by simp, fun a ha c hc e => ?_⟩
      rw [List.mem_singleton.1 hc] at e
      exact hno (e ▸ ha)
    · simp only [List.mem_append, List.mem_singleton]
      rw [gb_set, h.l2]
      by_cases e : y.toNat = x
      · rw [if_pos ⟨e, hx⟩]
        exact ⟨fun _ => .inr (by omega), fun _ => rfl⟩
      · rw [if_neg fun h' => e h'.1, h.has x hx]
        exact ⟨fun h => .inl h, fun h => h.elim id fun h' => absurd (by omega) e⟩
    · rcases List.mem_append.1 hx with hx | hx
      · exact h.lt x hx
      · rw [List.mem_singleton.1 hx]; exact hy
theorem srT_ok (hn : 1 ≤ n ∧ n ≤ 16) (hb : ltP b n) (hw : ltP w n) : ∀ k, (∀ j, j < k → j < (srT b w j).1.length) → Sx n (srT b w k)
  | 0, _ => Sx.zero hn
  | k + 1, h => by
    have ih := srT_ok hn hb hw k fun j hj => h j (by omega)
    have hk := h k (by omega)
    have hm : gi (srT b w k).1 k ∈ (srT b w k).1 := by rw [gi_of hk]; exact List.getElem_mem hk
    have hz := ih.lt _ hm
    exact Sx.visit hn (Sx.visit hn ih (hb (gi (srT b w k).1 k).toNat (by omega))) (hw (gi (srT b w k).1 k).toNat (by omega))
structure Srch (n : Int) (b w : List Int) : Prop where
  len : (srT b w n.toNat).1.length = n.toNat
  at_ : ∀ j, j < n.toNat → j < (srT b w j).1.length
  sx : ∀ k, k ≤ n.toNat → Sx n (srT b w k)
  all : ∀ y : Nat, (y : Int) < n → (y : Int) ∈ (srT b w n.toNat).1
theorem srch (hn : 1 ≤ n ∧ n ≤ 16) (hb : ltP b n) (hw : ltP w n) (hc : (cntR b w : Int) = n) : Srch n b w := by
  obtain ⟨k, e, _, h2, h3⟩ := srRun_T (p := b) (q := w) 17 0
  have hL : (srRun b w 17 0 sr0).1 = (srT b w k).1 := by rw [← e]; rfl
  have hlen : (srT b w k).1.length = n.toNat := by
    have : (srRun b w 17 0 sr0).1.length = cntR b w := rfl
    rw [hL] at this; omega
  have hmono : ∀ i j, i ≤ j → (srT b w i).1.length ≤ (srT b w j).1.length := fun i j hij => by
    induction j with
    | zero => rw [show i = 0 from by omega]; exact Nat.le_refl _
    | succ j ih =>
      by_cases h : i = j + 1
      · rw [h]; exact Nat.le_refl _
      · exact Nat.le_trans (ih (by omega)) srStep_len
  have hk : k = n.toNat := by
    have h4 : k ≤ n.toNat := by
      by_cases h0 : k = 0
      · omega
      · have := h2 (k - 1) (by omega) (by omega)
        have := hmono (k - 1) k (by omega)
        omega
    rcases h3 with h3 | h3 <;> omega
  subst hk
  have h2' : ∀ j, j < n.toNat → j < (srT b w j).1.length := fun j hj => h2 j (Nat.zero_le _) hj
  have hx := srT_ok hn hb hw n.toNat h2'
  refine ⟨hlen, h2', fun k hk => srT_ok hn hb hw k fun j hj => h2' j (by omega), fun y hy => ?_⟩
  refine Classical.byContradiction fun hno => ?_
  have hnd : (y :: (srT b w n.toNat).1.map Int.toNat).Nodup := by
    refine List.nodup_cons.2 ⟨fun hm => ?_, List.pairwise_map.2 (List.Pairwise.imp_of_mem ?_ hx.nd)⟩
    · obtain ⟨z, hz, ez⟩ := List.mem_map.1 hm
      have := hx.lt z hz
      rw [show z = (y : Int) from by omega] at hz
      exact hno hz
    · intro a c ha hc hne ee
      have := hx.lt a ha
      have := hx.lt c hc
      omega
  have := nodup_len n.toNat _ hnd fun z hz => by
    rcases List.mem_cons.1 hz with rfl | hz
    · omega
    · obtain ⟨u, hu, rfl⟩ := List.mem_map.1 hz
      have := hx.lt u hu
      omega
  simp [hlen] at this
  omega
end Go.Proofs.YtpeglkcbhffaaaaGreat.Sep.Q
namespace Go.Proofs.YtpeglkcbhffaaaaGreat.Sep
open Go.RowKit
set_option linter.unusedVariables false
set_option linter.unusedSimpArgs false
set_option maxRecDepth 20000
set_option maxHeartbeats 4000000
end Go.Proofs.YtpeglkcbhffaaaaGreat.Sep
end
namespace Go.Proofs.YtpeglkcbhffaaaaGreat.Sep
open Go.RowKit
set_option linter.unusedVariables false
set_option linter.unusedSimpArgs false
set_option maxRecDepth 20000
section
set_option maxHeartbeats 1000000
open Classical in
noncomputable def kR (R : Nat → Nat → Prop) (m : Nat) : Int := smE m fun i => if ∀ j, j < i → ¬ R j i then 1 else 0
theorem kR_congr {R S : Nat → Nat → Prop} {m : Nat} (h : ∀ i j, i < m → j < m → (R i j ↔ S i j)) : kR R m = kR S m := smE_congr _ fun i hi => by
  have : (∀ j, j < i → ¬ R j i) ↔ ∀ j, j < i → ¬ S j i := ⟨fun q j hj hs => q j hj ((h j i (by omega) hi).2 hs), fun q j hj hs => q j hj ((h j i (by omega) hi).1 hs)⟩
  by_cases q : ∀ j, j < i → ¬ R j i
  · rw [if_pos q, if_pos (this.1 q)]
  · rw [if_neg q, if_neg fun q' => q (this.2 q')]
theorem kR_eq {R : Nat → Nat → Prop} {m : Nat} (h : ∀ i j, i < m → j < m → R i j → i = j) : kR R m = m := by
  have : kR R m = smE m fun _ => 1 := smE_congr _ fun i hi => if_pos fun j hj hr => by have := h j i (by omega) hi hr; omega
  rw [this]
  clear this
  induction m with
  | zero => rfl
  | succ m ih => simp only [smE]; rw [ih fun i j a b => h i j (by omega) (by omega)]; omega
theorem kR_all {R : Nat → Nat → Prop} {m : Nat} (hm : 0 < m) (h : ∀ i, i < m → R 0 i) : kR R m = 1 := by
  have : kR R m = smE m fun i => if i = 0 then 1 else 0 := smE_congr _ fun i hi => by
    by_cases e : i = 0
    · subst e; rw [if_pos rfl, if_pos fun j hj => absurd hj (Nat.not_lt_zero j)]
    · rw [if_neg e, if_neg fun q => q 0 (by omega) (h i hi)]
  rw [this, smE_one, if_pos hm]
theorem leastN {P : Nat → Prop} : ∀ i, P i → ∃ k, k ≤ i ∧ P k ∧ ∀ j, j < k → ¬ P j := by
  intro i
  induction i using Nat.strongRecOn with
  | ind i ih =>
    intro h
    by_cases hj : ∃ j, j < i ∧ P j
    · obtain ⟨j, h1, h2⟩ := hj
      obtain ⟨k, a, c⟩ := ih j h1 h2
      exact ⟨k, by omega, c⟩
    · exact ⟨i, Nat.le_refl _, h, fun j hji hp => hj ⟨j, hji, hp⟩⟩
structure Eqv (R : Nat → Nat → Prop) (m : Nat) : Prop where
  rf : ∀ i, i < m → R i i
  sy : ∀ i j, i < m → j < m → R i j → R j i
  tr : ∀ i j k, i < m → j < m → k < m → R i j → R j k → R i k
theorem kR_join {R S : Nat → Nat → Prop} {m x y : Nat} (E : Eqv R m) (hx : x < m) (hy : y < m) (hn : ¬ R x y) (hS : ∀ i j, i < m → j < m → (S i j ↔ R i j ∨ (R i x ∧ R y j) ∨ (R i y ∧ R x j))) : kR R m = kR S m + 1 := by
  obtain ⟨a, a1, a2, a3⟩ := leastN (P := fun i => R i x) x (E.rf x hx)
  obtain ⟨c, c1, c2, c3⟩ := leastN (P := fun i => R i y) y (E.rf y hy)
  have ham : a < m := by omega
  have hcm : c < m := by omega
  have hac : a ≠ c := by
    rintro rfl
    exact hn (E.tr _ _ _ hx ham hy (E.sy _ _ ham hx a2) c2)
  have key : ∀ i, i < m → ((∀ j, j < i → ¬ R j i) ↔ (∀ j, j < i → ¬ S j i) ∨ i = max a c) := fun i hi => by
    constructor
    · intro h
      by_cases hM : i = max a c
      · exact .inr hM
      · left
        intro j hj hs
        rcases (hS j i (by omega) hi).1 hs with q | ⟨q1, q2⟩ | ⟨q1, q2⟩
        · exact h j hj q
        · have hic : i = c := by
            rcases Nat.lt_trichotomy i c with e | e | e
            · exact absurd (E.sy _ _ hy hi q2) (c3 i e)
            · exact e
            · exact absurd (E.tr _ _ _ hcm hy hi c2 q2) (h c e)
          have : a ≤ j := by
            refine Nat.le_of_not_lt fun hlt => a3 j hlt q1
          omega
        · have hia : i = a := by
            rcases Nat.lt_trichotomy i a with e | e | e
            · exact absurd (E.sy _ _ hx hi q2) (a3 i e)
            · exact e
            · exact absurd (E.tr _ _ _ ham hx hi a2 q2) (h a e)
          have : c ≤ j := by
            refine Nat.le_of_not_lt fun hlt => c3 j hlt q1
          omega
    · rintro (h | rfl) j hj hr
      · exact h j hj ((hS j i (by omega) hi).2 (.inl hr))
      · by_cases hlt : a < c
        · have e : max a c = c := by omega
          rw [e] at hj hr
          exact c3 j hj (E.tr _ _ _ (by omega) hcm hy hr c2)
        · have e : max a c = a := by omega
          rw [e] at hj hr
          exact a3 j hj (E.tr _ _ _ (by omega) ham hx hr a2)
  have hSM : ¬ ∀ j, j < max a c → ¬ S j (max a c) := fun h => by
    by_cases hlt : a < c
    · have e : max a c = c := by omega
      rw [e] at h
      exact h a hlt ((hS a c ham hcm).2 (.inr (.inl ⟨a2, E.sy _ _ hcm hy c2⟩)))
    · have e : max a c = a := by omega
      rw [e] at h
      exact h c (by omega) ((hS c a hcm ham).2 (.inr (.inr ⟨c2, E.sy _ _ ham hx a2⟩)))
  have : kR R m = kR S m + smE m (fun i => if i = max a c then 1 else 0) := by
    unfold kR
    rw [← smE_add]
    refine smE_congr _ fun i hi => ?_
    have k := key i hi
    by_cases hM : i = max a c
    · subst hM
      rw [if_pos (k.2 (.inr rfl)), if_neg hSM, if_pos rfl]; rfl
    · rw [if_neg hM]
      by_cases q : ∀ j, j < i → ¬ S j i
      · rw [if_pos q, if_pos (k.2 (.inl q))]; rfl
      · rw [if_neg q, if_neg fun q' => (k.1 q').elim q hM]; rfl
  rw [this, smE_one, if_pos (by omega)]
theorem kR_lab {g g' : Nat → Int} {m x y : Nat} (hx : x < m) (hy : y < m) (hs : ∀ i j, i < m → j < m → (g' i = g' j ↔ g i = g j ∨ ((g i = g x ∨ g i = g y) ∧ (g j = g x ∨ g j = g y)))) :
    (g x = g y → kR (fun i j => g' i = g' j) m = kR (fun i j => g i = g j) m) ∧ (g x ≠ g y → kR (fun i j => g i = g j) m = kR (fun i j => g' i = g' j) m + 1) := by
  constructor
  · intro e
    refine kR_congr fun i j hi hj => ?_
    rw [hs i j hi hj]
    exact ⟨fun q => by rcases q with q | ⟨q1, q2⟩ <;> omega, .inl⟩
  · intro e
    refine kR_join (R := fun i j => g i = g j) ⟨fun _ _ => rfl, fun _ _ _ _ h => h.symm, fun _ _ _ _ _ _ h h' => h.trans h'⟩ hx hy e fun i j hi hj => ?_
    rw [hs i j hi hj]
    omega
section
variable {b w : List Int} {n : Int}
theorem Dz.all_of (h : Dz n b w) {S : Nat → Prop} (h0 : S 0) (hB : ∀ x, x < n.toNat → S x → S (fp b x)) (hW : ∀ x, x < n.toNat → S x → S (fp w x)) : ∀ x, x < n.toNat → S x := by
  have sr := Q.srch h.B.hn h.B.lt h.W.lt h.D.cn
  have hv : ∀ (y : Int) (s : Sr), (∀ z ∈ s.1, S z.toNat) → S y.toNat → ∀ z ∈ (visit y s).1, S z.toNat := fun y s hs hy z hz => by
    unfold visit at hz
    split at hz
    · exact hs z hz
    · rcases List.mem_append.1 hz with hz | hz
      · exact hs z hz
      · rw [List.mem_singleton.1 hz]; exact hy
  have key : ∀ k, k ≤ n.toNat → ∀ z ∈ (Q.srT b w k).1, S z.toNat := fun k => by
    induction k with
    | zero =>
      intro _ z hz
      have : z = 0 := by simpa [Q.srT, sr0] using hz
      subst this; exact h0
    | succ k ih =>
      intro hk
      have ih := ih (by omega)
      have hlt := sr.at_ k (by omega)
      have hm : gi (Q.srT b w k).1 k ∈ (Q.srT b w k).1 := by rw [gi_of hlt]; exact List.getElem_mem hlt
      have hr := (sr.sx k (by omega)).lt _ hm
      have hz := ih _ hm
      exact hv _ _ (hv _ _ ih (hB _ (by omega) hz)) (hW _ (by omega) hz)
  intro x hx
  have := key n.toNat (Nat.le_refl _) _ (sr.all x (by omega))
  simpa using this
theorem wh_onto {p : List Int} (h : Pd p n) {v : Nat} (hv : v < (cyc p n).length) : ∃ x, x < n.toNat ∧ wh p n x = v := by
  obtain ⟨r, L, h2, h3, h4, h5⟩ := cyc_orb h.pf h.nn hv
  have hm : (r : Int) ∈ gl (cyc p n) v := by rw [h5]; exact orb_mem.2 ⟨0, h4.pos, rfl⟩
  exact ⟨r, h2, ((h.wh_iff h2 hv).1 hm).symm⟩
theorem Dz.tree_all (h : Dz n b w) : ∀ i, i < (allV b w n).length → clF b w n n.toNat 0 = clF b w n n.toNat i := by
  have hn := h.B.hn
  have F := dFo h.B.lo h.W.lo h.B.lt h.W.lt hn
  have hl : (allV b w n).length = (cyc b n).length + (cyc w n).length := by unfold allV; simp
  have eq : ∀ x, x < n.toNat → clF b w n n.toNat (E0F b n x) = clF b w n n.toNat (E1F b w n x) := fun x hx => F.joined hx (Nat.le_refl _)
  have eE0 : ∀ x, x < n.toNat → E0F b n (fp b x) = E0F b n x := fun x hx => h.B.wh_step hx
  have eE1 : ∀ x, x < n.toNat → E1F b w n (fp w x) = E1F b w n x := fun x hx => by
    have := h.W.wh_step hx
    unfold wh at this
    unfold E1F; rw [this]
  have hall := h.all_of (S := fun x => clF b w n n.toNat (E0F b n x) = clF b w n n.toNat (E0F b n 0)) rfl (fun x hx q => by
    show clF b w n n.toNat (E0F b n (fp b x)) = _
    rw [eE0 x hx]; exact q) (fun x hx q => by
    show clF b w n n.toNat (E0F b n (fp w x)) = _
    rw [eq _ (h.W.pf.lt x hx), eE1 x hx, ← eq x hx]; exact q)
  have hv : ∀ i, i < (allV b w n).length → clF b w n n.toNat i = clF b w n n.toNat (E0F b n 0) := fun i hi => by
    by_cases q : i < (cyc b n).length
    · obtain ⟨x, hx, e⟩ := wh_onto h.B q
      have := hall x hx
      have e' : E0F b n x = i := e
      rw [e'] at this; exact this
    · obtain ⟨x, hx, e⟩ := wh_onto h.W (v := i - (cyc b n).length) (by omega)
      have := hall x hx
      rw [eq x hx] at this
      have e' : E1F b w n x = i := by unfold wh at e; unfold E1F; omega
      rw [e'] at this; exact this
  intro i hi
  rw [hv 0 (by omega), hv i hi]
theorem Dz.face_all (h : Dz n b w) (hb : okP b) (hw : okP w) : ∀ i, i < (fcL b w n).length → gi (bI b w n n.toNat).1 0 = gi (bI b w n n.toNat).1 i := by
  have hn := h.B.hn
  have F := dFo h.B.lo h.W.lo h.B.lt h.W.lt hn
  -- at the end the faces on both sides of an edge that is no tree edge are alike
  have hj : ∀ k, k ≤ n.toNat → ∀ e, e < k → gb (treeM b w n) e = false → gi (bI b w n k).1 (fc b w n e) = gi (bI b w n k).1 (fc b w n (bkx b n e)) := fun k => by
    induction k with
    | zero => intro _ e he; exact absurd he (Nat.not_lt_zero e)
    | succ k ih =>
      intro hk e he hg
      cases hgk : gb (treeM b w n) k with
      | true =>
        rw [bI_tree hgk]
        exact ih (by omega) e (by
          have : e ≠ k := by rintro rfl; rw [hg] at hgk; cases hgk
          omega) hg
      | false =>
        have e1 : (bI b w n (k + 1)).1 = jnL (bI b w n k).1 (max (gi (bI b w n k).1 (gi (numL b w n) k).toNat) (gi (bI b w n k).1 (gi (numL b w n) (bkx b n k)).toNat)) (min (gi (bI b w n k).1 (gi (numL b w n) k).toNat) (gi (bI b w n k).1 (gi (numL b w n) (bkx b n k)).toNat)) := by
          simp only [bI]; rw [if_neg (by rw [hgk]; decide)]
        have q := (bI_len (b := b) (w := w) (n := n) k).1
        rw [e1, num_fc hn (by omega), num_fc hn (bkx_lt hn (by omega)), jnL_rel (by rw [q]; exact h.F.wh_lt) (by rw [q]; exact h.F.wh_lt)]
        by_cases hek : e = k
        · subst hek; right; omega
        · exact .inl (ih (by omega) e (by omega) hg)
  have hJ := hj n.toNat (Nat.le_refl _)
  -- the darts whose face is alike the face of 0
  have hm : ∀ x, x < n.toNat → fc b w n (fp w (fp b x)) = fc b w n x := fun x hx => h.fc_wb hx
  let M : Nat → Int := fun x => if gi (bI b w n n.toNat).1 (fc b w n x) = gi (bI b w n n.toNat).1 (fc b w n 0) then 1 else 0
  have hMf : ∀ x, x < n.toNat → M (fp w (fp b x)) = M x := fun x hx => by
    show (if _ then _ else _) = (if _ then _ else _)
    rw [hm x hx]
  have bk : ∀ x, x < n.toNat → bkx b n (fp b x) = x := fun x hx => back_fp h.B.pf hx
  have hz := tree_zero F (d := fun y => M (bkx b n y) - M y) (fun e he hnt => by
    have hg : gb (treeM b w n) e = false := by
      cases hg : gb (treeM b w n) e with
      | false => rfl
      | true => exact absurd ((tree_iff h.B.lo h.W.lo h.B.lt h.W.lt hn (by omega)).1 hg) hnt
    have := hJ e he hg
    show (if _ then _ else _) - (if _ then _ else _) = _
    rw [this]; omega) fun v hv => by
    have hl : (allV b w n).length = (cyc b n).length + (cyc w n).length := by unfold allV; simp
    have e0 : Sv n.toNat (E0F b n) (E1F b w n) (fun y => M (bkx b n y) - M y) v = smE n.toNat (fun y => (if incE (E0F b n) (E1F b w n) y v then M (bkx b n y) else 0)) - smE n.toNat (fun y => if incE (E0F b n) (E1F b w n) y v then M y else 0) := by
      unfold Sv; rw [← smE_sub]
      exact smE_congr _ fun e _ => by split <;> simp
    rw [e0]
    have e1 := smE_perm h.B.pf (g := fun y => if incE (E0F b n) (E1F b w n) y v then M (bkx b n y) else 0)
    rw [← e1]
    have inc : ∀ x, x < n.toNat → (incE (E0F b n) (E1F b w n) x v ↔ if v < (cyc b n).length then wh b n x = v else wh w n x = v - (cyc b n).length) := fun x hx => by
      have b0 := whichL_lim (x := x) hn h.B.lt
      unfold incE E0F E1F wh
      split <;> omega
    by_cases q : v < (cyc b n).length
    · have e2 : smE n.toNat (fun x => if incE (E0F b n) (E1F b w n) (fp b x) v then M (bkx b n (fp b x)) else 0) = smE n.toNat (fun y => if incE (E0F b n) (E1F b w n) y v then M y else 0) := smE_congr _ fun x hx => by
        have i1 := inc x hx
        have i2 := inc _ (h.B.pf.lt x hx)
        rw [if_pos q] at i1 i2
        rw [h.B.wh_step hx] at i2
        rw [bk x hx]
        by_cases q' : wh b n x = v
        · rw [if_pos (i1.2 q'), if_pos (i2.2 q')]
        · rw [if_neg fun z => q' (i1.1 z), if_neg fun z => q' (i2.1 z)]
      rw [e2, Int.sub_self]
    · have e3 := h.sh (g := fun y => if incE (E0F b n) (E1F b w n) y v then M y else 0)
      rw [← e3]
      have e2 : smE n.toNat (fun x => if incE (E0F b n) (E1F b w n) (fp b x) v then M (bkx b n (fp b x)) else 0) = smE n.toNat (fun x => if incE (E0F b n) (E1F b w n) (fp w (fp b x)) v then M (fp w (fp b x)) else 0) := smE_congr _ fun x hx => by
        have i1 := inc _ (h.B.pf.lt x hx)
        have i2 := inc _ (h.W.pf.lt _ (h.B.pf.lt x hx))
        rw [if_neg q] at i1 i2
        rw [h.W.wh_step (h.B.pf.lt x hx)] at i2
        rw [bk x hx, hMf x hx]
        by_cases q' : wh w n (fp b x) = v - (cyc b n).length
        · rw [if_pos (i1.2 q'), if_pos (i2.2 q')]
        · rw [if_neg fun z => q' (i1.1 z), if_neg fun z => q' (i2.1 z)]
      rw [e2, Int.sub_self]
  have hb1 : ∀ x, x < n.toNat → M (fp b x) = M x := fun x hx => by
    have := hz _ (h.B.pf.lt x hx)
    rw [bk x hx] at this; omega
  have hb2 : ∀ x, x < n.toNat → M (fp w x) = M x := fun x hx => by
    obtain ⟨y, hy, e⟩ := h.B.pf.onto hx
    have h1 := hMf y hy
    have h2 := hb1 y hy
    rw [e] at h1 h2
    omega
  have hM0 : M 0 = 1 := if_pos rfl
  have hall := h.all_of (S := fun x => M x = 1) hM0 (fun x hx q => (hb1 x hx).trans q) (fun x hx q => (hb2 x hx).trans q)
  have hv : ∀ i, i < (fcL b w n).length → gi (bI b w n n.toNat).1 i = gi (bI b w n n.toNat).1 (fc b w n 0) := fun i hi => by
    obtain ⟨x, hx, e⟩ := wh_onto h.F hi
    have h1 : (if gi (bI b w n n.toNat).1 (fc b w n x) = gi (bI b w n n.toNat).1 (fc b w n 0) then (1 : Int) else 0) = 1 := hall x hx
    have e' : fc b w n x = i := e
    rw [e'] at h1
    split at h1
    · assumption
    · cases h1
  intro i hi
  rw [hv 0 (by omega), hv i hi]
theorem Dz.count (h : Dz n b w) : ∀ k, k ≤ n.toNat → ((bI b w n k).2.length : Int) + ((fcL b w n).length - kR (fun i j => gi (bI b w n k).1 i = gi (bI b w n k).1 j) (fcL b w n).length) + ((allV b w n).length - kR (fun i j => clF b w n k i = clF b w n k j) (allV b w n).length) = k
  | 0, _ => by
    have hn := h.B.hn
    have F := dFo h.B.lo h.W.lo h.B.lt h.W.lt hn
    rw [kR_eq fun i j hi hj e => (F.z i j hi hj).1 e, kR_eq fun i j hi hj e => by
      simp only [bI] at e
      rw [iota_at hi, iota_at hj] at e; omega]
    simp [bI]
  | k + 1, hk => by
    have ih := h.count k (by omega)
    have hn := h.B.hn
    have F := dFo h.B.lo h.W.lo h.B.lt h.W.lt hn
    have h0 := F.l0 (e := k) (by omega)
    have h1 := (F.e1 k (by omega)).2
    have KV := kR_lab (g := clF b w n k) (g' := clF b w n (k + 1)) h0 h1 fun i j hi hj => F.s k i j (by omega) hi hj
    have ht := tree_iff h.B.lo h.W.lo h.B.lt h.W.lt hn (e := k) (by omega)
    cases hg : gb (treeM b w n) k with
    | true =>
      have := KV.2 (ht.1 hg)
      rw [bI_tree hg]; omega
    | false =>
      have hc : clF b w n k (E0F b n k) = clF b w n k (E1F b w n k) := Classical.byContradiction fun q => by
        rw [ht.2 q] at hg; cases hg
      have := KV.1 hc
      have q := (bI_len (b := b) (w := w) (n := n) k).1
      have e1 : (bI b w n (k + 1)).1 = jnL (bI b w n k).1 (max (gi (bI b w n k).1 (gi (numL b w n) k).toNat) (gi (bI b w n k).1 (gi (numL b w n) (bkx b n k)).toNat)) (min (gi (bI b w n k).1 (gi (numL b w n) k).toNat) (gi (bI b w n k).1 (gi (numL b w n) (bkx b n k)).toNat)) := by
        simp only [bI]; rw [if_neg (by rw [hg]; decide)]
      have hkb := bkx_lt (b := b) hn (k := k) (by omega)
      have f0 : fc b w n k < (fcL b w n).length := h.F.wh_lt
      have f1 : fc b w n (bkx b n k) < (fcL b w n).length := h.F.wh_lt
      have KF := kR_lab (g := gi (bI b w n k).1) (g' := gi (bI b w n (k + 1)).1) (x := fc b w n k) (y := fc b w n (bkx b n k)) (m := (fcL b w n).length) f0 f1 fun i j hi hj => by
        rw [e1, num_fc hn (by omega), num_fc hn hkb, jnL_rel (by rw [q]; exact hi) (by rw [q]; exact hj)]
        omega
      by_cases hjn : gi (bI b w n k).1 (fc b w n k) = gi (bI b w n k).1 (fc b w n (bkx b n k))
      · have hl : ((bI b w n (k + 1)).2.length : Int) = (bI b w n k).2.length + 1 := by
          rw [bI_yes hg (by rw [num_fc hn (by omega), num_fc hn hkb]; exact hjn)]; simp
        have := KF.1 hjn
        omega
      · have hl : ((bI b w n (k + 1)).2.length : Int) = (bI b w n k).2.length := by
          rw [bI_no hg (by rw [num_fc hn (by omega), num_fc hn hkb]; exact hjn)]
        have := KF.2 hjn
        omega
theorem Dz.bas_len (h : Dz n b w) (hb : okP b) (hw : okP w) : ((basL b w n).length : Int) = 2 + n - (cyc b n).length - (cyc w n).length - (cyc (faceP b w n) n).length := by
  have hn := h.B.hn
  have c := h.count n.toNat (Nat.le_refl _)
  have hl : (allV b w n).length = (cyc b n).length + (cyc w n).length := by unfold allV; simp
  have p1 := cyc_pos (p := b) hn
  have p2 := cyc_pos (p := faceP b w n) hn
  have e : (fcL b w n).length = (cyc (faceP b w n) n).length := rfl
  have k1 : kR (fun i j => clF b w n n.toNat i = clF b w n n.toNat j) (allV b w n).length = 1 := kR_all (by omega) h.tree_all
  have k2 : kR (fun i j => gi (bI b w n n.toNat).1 i = gi (bI b w n n.toNat).1 j) (fcL b w n).length = 1 := kR_all (by omega) (h.face_all hb hw)
  rw [k1, k2] at c
  unfold basL
  omega
end
end
section
set_option maxHeartbeats 1000000
def tbl (N : Nat) (f : Nat → Nat) : List Int := (List.range N).map fun x => (f x : Int)
theorem tbl_fp {N : Nat} {f : Nat → Nat} {x : Nat} (hx : x < N) : fp (tbl N f) x = f x := by
  unfold fp tbl; rw [gi_of (by simpa using hx)]; simp
theorem Pf.tbl {N : Nat} {f : Nat → Nat} (h1 : ∀ x, x < N → f x < N) (h2 : ∀ x y, x < N → y < N → f x = f y → x = y) (hN : N ≤ 16) : Pf (tbl N f) N :=
  ⟨fun x hx => by rw [tbl_fp hx]; exact h1 x hx, fun x y hx hy e => by rw [tbl_fp hx, tbl_fp hy] at e; exact h2 x y hx hy e, hN⟩
section
variable {p q : List Int} {N : Nat}
theorem it_congr (h : Pf p N) (e : ∀ x, x < N → fp p x = fp q x) {x : Nat} (hx : x < N) : ∀ k, it p k x = it q k x
  | 0 => rfl
  | k + 1 => by simp only [it]; rw [← it_congr h e hx k, e _ (it_lt h hx k)]
theorem Rch_congr (h : Pf p N) (e : ∀ x, x < N → fp p x = fp q x) {x y : Nat} (hx : x < N) : Rch p x y ↔ Rch q x y :=
  ⟨fun ⟨k, hk⟩ => ⟨k, by rw [← it_congr h e hx k]; exact hk⟩, fun ⟨k, hk⟩ => ⟨k, by rw [it_congr h e hx k]; exact hk⟩⟩
theorem Rch.refl {x : Nat} : Rch p x x := ⟨0, rfl⟩
theorem Rch.lt (h : Pf p N) {x y : Nat} (hx : x < N) : Rch p x y → y < N := fun ⟨k, hk⟩ => by rw [← hk]; exact it_lt h hx k
theorem Pf.eqv (h : Pf p N) : Eqv (Rch p) N := ⟨fun _ _ => .refl, fun _ _ hi _ q => q.symm h hi, fun _ _ _ _ _ _ q q' => q.trans q'⟩
theorem Per.ex (h : Pf p N) {x : Nat} (hx : x < N) : ∃ L, Per p x L := by
  obtain ⟨K, h1, h2⟩ := it_ret h hx
  obtain ⟨L, l1, l2, l3⟩ := leastN (P := fun k => 1 ≤ k ∧ it p k x = x) K ⟨h1, h2⟩
  exact ⟨L, l2.1, l2.2, fun j hj hjL e => l3 j hjL ⟨hj, e⟩⟩
def swF (p : List Int) (x y z : Nat) : Nat := if fp p z = x then y else if fp p z = y then x else fp p z
def swp (p : List Int) (N x y : Nat) : List Int := tbl N (swF p x y)
theorem swp_fp {x y z : Nat} (hz : z < N) : fp (swp p N x y) z = swF p x y z := tbl_fp hz
theorem swp_pf (h : Pf p N) {x y : Nat} (hx : x < N) (hy : y < N) : Pf (swp p N x y) N := by
  refine Pf.tbl (fun z hz => ?_) (fun z z' hz hz' e => ?_) h.le
  · unfold swF
    have := h.lt z hz
    split
    · exact hy
    · split
      · exact hx
      · exact this
  · refine h.inj z z' hz hz' ?_
    unfold swF at e
    repeat' split at e
    all_goals omega
theorem swp_swp {x y z : Nat} (hz : z < N) : fp (swp (swp p N x y) N x y) z = fp p z := by
  rw [swp_fp hz]
  unfold swF
  rw [swp_fp hz]
  unfold swF
  repeat' split
  all_goals omega
theorem swp_oth {x y z : Nat} (hz : z < N) (h1 : fp p z ≠ x) (h2 : fp p z ≠ y) : fp (swp p N x y) z = fp p z := by
  rw [swp_fp hz]; unfold swF; rw [if_neg h1, if_neg h2]
theorem swp_join (h : Pf p N) {x y : Nat} (hx : x < N) (hy : y < N) (hn : ¬ Rch p x y) : Rch (swp p N x y) x y := by
  obtain ⟨L, hL⟩ := Per.ex h hx
  have key : ∀ j, j < L → it (swp p N x y) j x = it p j x := fun j => by
    induction j with
    | zero => intro _; rfl
    | succ j ih =>
      intro hj
      have hlt := it_lt h hx j
      simp only [it]
      rw [ih (by omega), swp_oth hlt]
      · exact hL.min (j + 1) (by omega) hj
      · intro e; exact hn ⟨j + 1, e⟩
  refine ⟨L, ?_⟩
  have hpos := hL.pos
  obtain ⟨m, rfl⟩ : ∃ m, L = m + 1 := ⟨L - 1, by omega⟩
  simp only [it]
  rw [key m (by omega), swp_fp (it_lt h hx m)]
  unfold swF
  rw [if_pos]
  exact hL.ret
theorem swp_part (h : Pf p N) {x y : Nat} (hx : x < N) (hy : y < N) (hxy : x ≠ y) (hr : Rch p x y) : ¬ Rch (swp p N x y) x y := by
  obtain ⟨k0, hk0⟩ := hr
  obtain ⟨k, k1, k2, k3⟩ := leastN (P := fun k => it p k x = y) k0 hk0
  obtain ⟨L, hL⟩ := Per.ex h hx
  have hk : k ≠ 0 := by rintro rfl; exact hxy k2
  have hkL : k < L := by
    refine Nat.lt_of_not_le fun hle => ?_
    have : it p (k - L) x = y := by
      have e := k2
      rw [show k = (k - L) + L by omega, it_add, hL.ret] at e
      exact e
    exact k3 (k - L) (by have := hL.pos; omega) this
  have key : ∀ j, j < k → it (swp p N x y) j x = it p j x := fun j => by
    induction j with
    | zero => intro _; rfl
    | succ j ih =>
      intro hj
      have hlt := it_lt h hx j
      simp only [it]
      rw [ih (by omega), swp_oth hlt]
      · exact hL.min (j + 1) (by omega) (by omega)
      · exact k3 (j + 1) hj
  have hret : it (swp p N x y) k x = x := by
    obtain ⟨m, rfl⟩ : ∃ m, k = m + 1 := ⟨k - 1, by omega⟩
    have e : fp p (it p m x) = y := k2
    simp only [it]
    rw [key m (by omega), swp_fp (it_lt h hx m)]
    unfold swF
    rw [if_neg (by rw [e]; exact fun q => hxy q.symm), if_pos e]
  rintro ⟨m, hm⟩
  have e0 : it (swp p N x y) (m % k) x = it (swp p N x y) m x := by
    conv => rhs; rw [← Nat.mod_add_div m k, it_add, it_mul hret]
  have e1 := e0.trans hm
  rw [key _ (Nat.mod_lt _ (by omega))] at e1
  exact k3 _ (Nat.mod_lt _ (by omega)) e1
theorem swp_rel (h : Pf p N) {x y : Nat} (hx : x < N) (hy : y < N) {i : Nat} (hi : i < N) : ∀ k, Rch (swp p N x y) i (it p k i) ∨ (Rch (swp p N x y) i x ∧ Rch (swp p N x y) y (it p k i)) ∨ (Rch (swp p N x y) i y ∧ Rch (swp p N x y) x (it p k i))
  | 0 => .inl .refl
  | k + 1 => by
    have ih := swp_rel h hx hy hi k
    have hlt := it_lt h hi k
    simp only [it]
    generalize it p k i = z at *
    have st : Rch (swp p N x y) z (fp (swp p N x y) z) := ⟨1, rfl⟩
    -- where the exchanged permutation leads
    have ih' : Rch (swp p N x y) i (fp (swp p N x y) z) ∨ (Rch (swp p N x y) i x ∧ Rch (swp p N x y) y (fp (swp p N x y) z)) ∨ (Rch (swp p N x y) i y ∧ Rch (swp p N x y) x (fp (swp p N x y) z)) := by
      rcases ih with a | ⟨a, c⟩ | ⟨a, c⟩
      · exact .inl (a.trans st)
      · exact .inr (.inl ⟨a, c.trans st⟩)
      · exact .inr (.inr ⟨a, c.trans st⟩)
    rw [swp_fp hlt] at ih'
    unfold swF at ih'
    by_cases e1 : fp p z = x
    · rw [if_pos e1] at ih'
      rw [e1]
      rcases ih' with a | ⟨a, c⟩ | ⟨a, c⟩
      · exact .inr (.inr ⟨a, .refl⟩)
      · exact .inl a
      · exact .inr (.inr ⟨a, .refl⟩)
    · rw [if_neg e1] at ih'
      by_cases e2 : fp p z = y
      · rw [if_pos e2] at ih'
        rw [e2]
        rcases ih' with a | ⟨a, c⟩ | ⟨a, c⟩
        · exact .inr (.inl ⟨a, .refl⟩)
        · exact .inr (.inl ⟨a, .refl⟩)
        · exact .inl a
      · rw [if_neg e2] at ih'
        exact ih'
theorem swp_cnt1 (h : Pf p N) {x y : Nat} (hx : x < N) (hy : y < N) (hxy : x ≠ y) (hn : ¬ Rch p x y) : kR (Rch p) N = kR (Rch (swp p N x y)) N + 1 := by
  have h' := swp_pf h hx hy
  have hj := swp_join h hx hy hn
  have hj' := hj.symm h' hx
  have bk : ∀ i j, i < N → (Rch (swp (swp p N x y) N x y) i j ↔ Rch p i j) := fun i j hi => Rch_congr (swp_pf h' hx hy) (fun z hz => swp_swp hz) hi
  have key : ∀ i j, i < N → Rch p i j → Rch (swp p N x y) i j := fun i j hi ⟨k, hk⟩ => by
    have := swp_rel h hx hy hi k
    rw [hk] at this
    rcases this with a | ⟨a, c⟩ | ⟨a, c⟩
    · exact a
    · exact (a.trans hj).trans c
    · exact (a.trans hj').trans c
  refine kR_join h.eqv hx hy hn fun i j hi hjN => ⟨fun q => ?_, fun q => ?_⟩
  · obtain ⟨k, hk⟩ := q
    have := swp_rel h' hx hy hi k
    rw [hk, bk i j hi, bk i x hi, bk y j hy, bk i y hi, bk x j hx] at this
    exact this
  · rcases q with q | ⟨q1, q2⟩ | ⟨q1, q2⟩
    · exact key i j hi q
    · exact ((key i x hi q1).trans hj).trans (key y j hy q2)
    · exact ((key i y hi q1).trans hj').trans (key x j hx q2)
theorem swp_cnt (h : Pf p N) {x y : Nat} (hx : x < N) (hy : y < N) (hxy : x ≠ y) : kR (Rch p) N = kR (Rch (swp p N x y)) N + 1 ∨ kR (Rch (swp p N x y)) N = kR (Rch p) N + 1 := by
  by_cases hn : Rch p x y
  · right
    have h' := swp_pf h hx hy
    have := swp_cnt1 h' hx hy hxy (swp_part h hx hy hxy hn)
    rw [this]
    congr 1
    exact kR_congr fun i j hi hj => Rch_congr (swp_pf h' hx hy) (fun z hz => swp_swp hz) hi
  · exact .inl (swp_cnt1 h hx hy hxy hn)
def cmp (p q : List Int) (N : Nat) : List Int := tbl N fun z => fp p (fp q z)
theorem cmp_fp {z : Nat} (hz : z < N) : fp (cmp p q N) z = fp p (fp q z) := tbl_fp hz
theorem cmp_pf (h : Pf p N) (h' : Pf q N) : Pf (cmp p q N) N :=
  Pf.tbl (fun z hz => h.lt _ (h'.lt z hz)) (fun z z' hz hz' e => h'.inj z z' hz hz' (h.inj _ _ (h'.lt z hz) (h'.lt z' hz') e)) h.le
theorem cmp_swp (h : Pf p N) (h' : Pf q N) {x y z : Nat} (hz : z < N) : fp (swp (cmp p q N) N x y) z = fp (cmp (swp p N x y) q N) z := by
  rw [swp_fp hz, cmp_fp hz, swp_fp (h'.lt z hz)]
  unfold swF
  rw [cmp_fp hz]
theorem par (h' : Pf q N) : ∀ k, k ≤ N → ∀ p, Pf p N → (∀ z, z < N → k ≤ z → fp p z = z) → ((N : Int) + kR (Rch q) N + kR (Rch p) N + kR (Rch (cmp p q N)) N) % 2 = 0 := by
  intro k
  induction k with
  | zero =>
    intro _ p h hf
    have e1 : kR (Rch p) N = N := kR_eq fun i j hi hj ⟨k, hk⟩ => by
      have : ∀ k, it p k i = i := fun k => by
        induction k with
        | zero => rfl
        | succ k ih => simp only [it]; rw [ih]; exact hf i hi (Nat.zero_le _)
      rw [← hk, this]
    have e2 : kR (Rch (cmp p q N)) N = kR (Rch q) N := kR_congr fun i j hi hj => Rch_congr (cmp_pf h h') (fun z hz => by rw [cmp_fp hz]; exact hf _ (h'.lt z hz) (Nat.zero_le _)) hi
    rw [e1, e2]; omega
  | succ k ih =>
    intro hk p h hf
    by_cases hkk : fp p k = k
    · exact ih (by omega) p h fun z hz hkz => by
        by_cases e : z = k
        · subst e; exact hkk
        · exact hf z hz (by omega)
    · have hy := h.lt k (by omega)
      have hs := swp_pf h (x := k) (y := fp p k) (by omega) hy
      have i1 := ih (by omega) (swp p N k (fp p k)) hs fun z hz hkz => by
        rw [swp_fp hz]
        unfold swF
        by_cases e : z = k
        · subst e
          rw [if_neg hkk, if_pos rfl]
        · have hfz := hf z hz (by omega)
          rw [hfz, if_neg e, if_neg]
          intro e2
          exact e (h.inj z k hz (by omega) (hfz.trans e2))
      have c1 := swp_cnt h (x := k) (y := fp p k) (by omega) hy fun e => hkk e.symm
      have c2 := swp_cnt (cmp_pf h h') (x := k) (y := fp p k) (by omega) hy fun e => hkk e.symm
      have e3 : kR (Rch (swp (cmp p q N) N k (fp p k))) N = kR (Rch (cmp (swp p N k (fp p k)) q N)) N := kR_congr fun i j hi hj => Rch_congr (swp_pf (cmp_pf h h') (by omega) hy) (fun z hz => cmp_swp h h' hz) hi
      omega
end
section
variable {b w : List Int} {n : Int}
theorem Pd.cyc_kR {p : List Int} (h : Pd p n) : ((cyc p n).length : Int) = kR (Rch p) n.toNat := by
  rw [cyc_cN]
  have : ∀ k, k ≤ n.toNat → (cN p k : Int) = kR (Rch p) k := fun k => by
    induction k with
    | zero => intro _; rfl
    | succ k ih =>
      intro hk
      have e := nwB_iff h.pf h.nn (x := k) (by omega)
      have ih := ih (by omega)
      unfold kR at ih ⊢
      simp only [cN, smE]
      rw [Int.natCast_add, ih]
      congr 1
      by_cases q : nwB p k = true
      · rw [if_pos q, if_pos (e.1 q)]; rfl
      · rw [if_neg q, if_neg fun q' => q (e.2 q')]; rfl
  exact this n.toNat (Nat.le_refl _)
theorem Dz.even (h : Dz n b w) : ((cyc b n).length + (cyc w n).length + (cyc (faceP b w n) n).length - n) % 2 = 0 := by
  have hn := h.B.hn
  rw [h.B.cyc_kR, h.W.cyc_kR, h.F.cyc_kR]
  have k := par h.B.pf n.toNat (Nat.le_refl _) w h.W.pf fun z hz hz' => by omega
  have hT := cmp_pf h.W.pf h.B.pf
  have e : kR (Rch (faceP b w n)) n.toNat = kR (Rch (cmp w b n.toNat)) n.toNat := kR_congr fun i j hi hj => by
    have f1 : ∀ x, x < n.toNat → fp (faceP b w n) (fp (cmp w b n.toNat) x) = x := fun x hx => by rw [cmp_fp hx]; exact h.face hx
    have f2 : ∀ x, x < n.toNat → fp (cmp w b n.toNat) (fp (faceP b w n) x) = x := fun x hx => by rw [cmp_fp (h.F.pf.lt x hx)]; exact h.face' hx
    have one : ∀ {p q : List Int}, Pf p n.toNat → Pf q n.toNat → (∀ x, x < n.toNat → fp p (fp q x) = x) → ∀ i, i < n.toNat → ∀ k, Rch p (it q k i) i := fun {p q} hp hq hpq i hi k => by
      induction k with
      | zero => exact .refl
      | succ k ih =>
        refine Rch.trans ⟨1, ?_⟩ ih
        simp only [it]
        exact hpq _ (it_lt hq hi k)
    constructor
    · rintro ⟨k, rfl⟩
      exact (one hT h.F.pf f2 i hi k).symm hT (it_lt h.F.pf hi k)
    · rintro ⟨k, rfl⟩
      exact (one h.F.pf hT f1 i hi k).symm h.F.pf (it_lt hT hi k)
  rw [e]
  omega
end
end
section
set_option maxHeartbeats 1000000
theorem callM_d {P : Program} {f : FuncId} {d : Nat} {h : Hp} {K : V → Hp → Prop} {bs : List Nat} {bx : List (Nat × TypeId × Nat)} {cells : List (List V)} {ws : List V} {Φ : V → List (List V) → Prop}
    (hs : PSpecM P f ws bx cells Φ) (hK : ∀ v cs, Φ v cs → K (vw v) (hputs2 h bs bx cs)) : CallM P f d h K bs bx cells ws := ⟨Φ, hs, .inl hK⟩
theorem pcn_q {P : Program} {f : FuncId} {d : Nat} {h : Hp} {K : V → Hp → Prop} {ws vs : List V} {Φ : TypeId → List V → Prop} (hs : PSpecB P f vs Φ) (hn : nrfs vs = true) (hK : ∀ e c, Φ e c → Rq (h d = .free) (K (.ptr d 0) (hput h d (.row e 1 c)))) : pcd P f d h K ws true vs :=
  .inr ⟨rfl, .inr (.inl ⟨hn, _, hs, hK⟩)⟩
def okB (l : List Int) : Prop := l.length ≤ 5000 ∧ ∀ a ∈ l, 0 ≤ a ∧ a ≤ 255
def srcC (x : Value) (l : List Int) (a h : Int) : List V := [.fz x l, .int .i64 a, .int .u64 h]
def okS (l : List Int) (a : Int) : Prop := okB l ∧ 0 ≤ a ∧ a ≤ 5000
theorem okS_0 {l : List Int} (h : okB l) : okS l 0 := ⟨h, by omega, by omega⟩
theorem and24 (A : BitVec IntKind.u64.bits) : ∃ q : Nat, q ≤ 16777215 ∧ IntKind.i64.wrap (IntKind.u64.wrap ((A &&& BitVec.ofInt IntKind.u64.bits 16777215).toNat : Int)) = (q : Int) := by
  refine ⟨(A &&& BitVec.ofInt IntKind.u64.bits 16777215).toNat, ?_, ?_⟩
  · rw [BitVec.toNat_and]
    exact Nat.le_trans Nat.and_le_right (by decide)
  · have h : (A &&& BitVec.ofInt IntKind.u64.bits 16777215).toNat ≤ 16777215 := by
      rw [BitVec.toNat_and]
      exact Nat.le_trans Nat.and_le_right (by decide)
    generalize (A &&& BitVec.ofInt IntKind.u64.bits 16777215).toNat = q at *
    simp [IntKind.wrap, IntKind.signed, IntKind.bits]
    omega
theorem map_u8 {l : List Int} {i : Nat} (h : i < l.length) : (l.map (V.int .u8)).getD i .und = .int .u8 (gi l i) := by simp [List.getD, gi, h]
theorem okB_gi {l : List Int} (h : okB l) {i : Nat} (hi : i < l.length) : 0 ≤ gi l i ∧ gi l i ≤ 255 := by
  apply h.2
  rw [gi, List.getD, List.getElem?_eq_getElem hi]; exact List.getElem_mem hi
theorem c_spec_l01Next {x : Value} {l : List Int} {a z n : Int} (hs : okS l a) (hn : n ≤ 2000000000) : PSpecM Tryz.prog 50 [.ptr 0 0, .int .i64 n] [(0, 73, 1)] [srcC x l a z] fun v c =>
    ∃ r a' h', v = .int .i64 r ∧ c = [srcC x l a' h'] ∧ okS l a' ∧ (0 ≤ r ∧ (r < n ∨ r = 0)) := by
  refine spec_l01Next_f.m rfl rfl ?_
  unfold srcC
  obtain ⟨hB, ha1, ha2⟩ := hs
  simp (disch := first | omega | (simp only [LN]; omega)) only [↓EC, EW, seval, ↓reduceIte, spec_l01Next_F]
  (refine Split.mk (fun h => ?_) (fun h => ?_) <;> (try simp only [SD] at h))
  · exact ⟨0, a, z, rfl, rfl, ⟨hB, ha1, ha2⟩, by omega, .inr rfl⟩
  · generalize IntKind.u64.wrap (IntKind.u64.wrap (z * 6364136223846793005) + 1442695040888963407) = hh
    obtain ⟨q, hq, e⟩ := and24 (BitVec.ofInt IntKind.u64.bits (hh.fdiv (2 ^ Nat.min 33 IntKind.u64.bits)))
    rw [e]
    have m0 : ∀ y : Int, 0 ≤ y → 0 ≤ y.tmod n ∧ (y.tmod n < n ∨ y.tmod n = 0) := fun y hy => ⟨Int.tmod_nonneg _ hy, .inl (Int.tmod_lt_of_pos _ (by omega))⟩
    (try simp (disch := first | omega | (simp only [LN]; omega)) only [↓EC, EW, seval, ↓reduceIte])
    (refine Split.mk (fun h => ?_) (fun h => ?_) <;> (try simp only [SD] at h))
    · have hB1 := hB.1
      have hlt : a.toNat < l.length := by omega
      have hg := okB_gi hB hlt
      (try simp (disch := first | omega | (simp only [LN]; omega)) only [↓EC, EW, seval, ↓reduceIte, map_u8 hlt])
      have := m0 (q + gi l a.toNat) (by omega)
      exact ⟨by simpa using hlt, _, a + 1, hh, rfl, rfl, ⟨hB, by omega, by omega⟩, this⟩
    · have := m0 q (by omega)
      exact ⟨_, a, hh, rfl, rfl, ⟨hB, ha1, ha2⟩, this⟩
theorem c_spec_l01Pick {x : Value} {l m : List Int} {a z : Int} (hs : okS l a) (h0 : 0 < m.length) (hn : m.length ≤ 1000) : PSpecM Tryz.prog 75 [.ptr 0 0, .sl m.length (vi .i64 m)] [(0, 73, 1)] [srcC x l a z] fun v c =>
    ∃ y a' z', y ∈ m ∧ v = .int .i64 y ∧ c = [srcC x l a' z'] ∧ okS l a' := by
  refine spec_l01Pick_f.m rfl rfl ?_
  have hnx := c_spec_l01Next (x := x) (z := z) hs (n := m.length) (by omega)
  unfold srcC at hnx ⊢
  simp (disch := first | omega | (simp only [LN]; omega)) only [↓EC, EW, seval, ↓reduceIte, spec_l01Pick_F]
  refine pcm [0] rfl ?_
  (try simp (disch := first | omega | (simp only [LN]; omega)) only [↓EC, EW, seval, ↓reduceIte])
  refine callM_d hnx ?_
  rintro v c ⟨r, a', z', rfl, rfl, hs', hr⟩
  (try simp (disch := first | omega | (simp only [LN]; omega)) only [↓EC, EW, seval, ↓reduceIte])
  refine ⟨gi m r.toNat, a', z', ?_, rfl, rfl, hs'⟩
  rw [gi, List.getD, List.getElem?_eq_getElem (by omega)]; exact List.getElem_mem _
theorem finB_src {x : Value} {l : List Int} {z : Int} : FINB [.fz x l] (hput hnil 75 (Slot.row 73 1 [.fz x l, .int .i64 0, .int .u64 z])) (fun e c => e = 73 ∧ ∃ z, c = [.fz x l, .int .i64 0, .int .u64 z]) (.ptr 75 0) := by
  simp only [FINB, hput, ↓reduceIte]
  refine ⟨?_, trivial, z, rfl⟩
  intro v hv
  simp only [List.mem_cons, List.not_mem_nil, or_false] at hv
  rcases hv with rfl | rfl | rfl
  · exact .inr ⟨x, l, rfl, by simp⟩
  · exact .inl ⟨by simp [clo], rfl⟩
  · exact .inl ⟨by simp [clo], rfl⟩
theorem c_spec_l01From {x : Value} {l : List Int} (hB : okB l) : PSpecB Tryz.prog 30 [.fz x l] fun e c => e = 73 ∧ ∃ z, c = srcC x l 0 z := by
  refine spec_l01From_f.b ?_
  unfold srcC
  simp (disch := first | omega | (simp only [LN]; omega)) only [↓EC, EW, seval, ↓reduceIte, spec_l01From_F]
  refine LP_of (σ := Nat × Int) 100000 [(75, 73, 1)] (fun s => [.int .i64 s.1]) (fun s => [[.fz x l, .int .i64 0, .int .u64 s.2]]) (fun s => s.1 ≤ l.length) (fun s => l.length - s.1) (0, IntKind.u64.wrap (8117 + IntKind.u64.wrap l.length)) (by simp [frameOk, names, lpz, sclp, scv, scvs, nrfs, nrf, FRB]) (Nat.zero_le _) ?_ ?_
  · simp (disch := first | omega | (simp only [LN]; omega)) only [↓EC, EW, seval, ↓reduceIte, ColV_def]
  · rintro ⟨i, z⟩ h1
    simp only at h1
    have hB1 := hB.1
    simp (disch := first | omega | (simp only [LN]; omega)) only [↓EC, EW, seval, ↓reduceIte, ColV_def, lheap_def]
    (refine Split.mk (fun h => ?_) (fun h => ?_) <;> (try simp only [SD] at h))
    · have hlt : i < l.length := by omega
      (try simp (disch := first | omega | (simp only [LN]; omega)) only [↓EC, EW, seval, ↓reduceIte, map_u8 hlt])
      (refine Split.mk (fun h => ?_) (fun h => ?_) <;> (try simp only [SD] at h))
      · (try simp (disch := first | omega | (simp only [LN]; omega)) only [↓EC, EW, seval, ↓reduceIte])
        exact ⟨by simpa using hlt, (i + 1, _), rfl, rfl, by simp only; omega, by simp only; omega⟩
      · exact finB_src
    · exact finB_src
end
section
set_option maxHeartbeats 4000000
theorem lo16_set {p : List Int} (h : lo16 p) {i : Nat} {y : Int} (hy : 0 ≤ y ∧ y < 16) : lo16 (p.set i y) := ⟨by simp [h.1], fun j hj => by
  rw [gi_set]; split
  · exact hy
  · exact h.2 j hj⟩
theorem lo16_okP {p : List Int} (h : lo16 p) : okP p := ⟨h.1, fun i hi => by have := h.2 i hi; omega⟩
theorem lo16_zero : lo16 (List.replicate 16 0) := ⟨by simp, fun i hi => by rw [gi_rep]; split <;> omega⟩
theorem c_spec_l01DrawPlaces {x : Value} {l : List Int} {a z n : Int} (hn : 1 ≤ n ∧ n ≤ 16) (hs : okS l a) : PSpecM Tryz.prog 57 [.ptr 0 0, .int .i64 n] [(0, 73, 1)] [srcC x l a z] fun v c =>
    ∃ p a' z', v = .agg (vi .u8 p) ∧ c = [srcC x l a' z'] ∧ okS l a' ∧ lo16 p := by
  refine spec_l01DrawPlaces_f.m rfl rfl ?_
  unfold srcC
  dsimp only [spec_l01DrawPlaces_F, pcal_B, pcalp_B, pcala_B, pcond_B, pgk_B, JN_B, LP_B]
  (refine bni ?_; repeat (refine bnk ?_; (try simp (disch := first | omega | (simp only [LN]; omega)) only [↓EC, EW, seval, ↓reduceIte, ↓EBD, EBE])))
  refine pcd_v (c_spec_l01Same hn) ?_
  have hl0 := sameP_lo hn
  have hlf := putL_len sameF n.toNat
  (refine bni ?_; repeat (refine bnk ?_; (try simp (disch := first | omega | (simp only [LN]; omega)) only [↓EC, EW, seval, ↓reduceIte, ↓EBD, EBE])))
  (refine pcm [0] rfl ?_; (refine bni ?_; repeat (refine bnk ?_; (try simp (disch := first | omega | (simp only [LN]; omega)) only [↓EC, EW, seval, ↓reduceIte, ↓EBD, EBE]))); refine callM_d (c_spec_l01Next (by assumption) (by omega)) ?_; rintro _ _ ⟨r1, _, _, rfl, rfl, hs_, hr_⟩; (refine bni ?_; repeat (refine bnk ?_; (try simp (disch := first | omega | (simp only [LN]; omega)) only [↓EC, EW, seval, ↓reduceIte, ↓EBD, EBE, srcC]))))
  rename_i a1 z1
  (refine Split.mkB (fun h => ?_) (fun h => ?_) <;> (try simp only [SD] at h))
  · (refine bni ?_; repeat (refine bnk ?_; (try simp (disch := first | omega | (simp only [LN]; omega)) only [↓EC, EW, seval, ↓reduceIte, ↓EBD, EBE])))
    exact ⟨_, _, _, rfl, rfl, by assumption, hl0⟩
  · (refine bni ?_; repeat (refine bnk ?_; (try simp (disch := first | omega | (simp only [LN]; omega)) only [↓EC, EW, seval, ↓reduceIte, ↓EBD, EBE])))
    refine LPx_of (σ := List Int × Int × Int × Int) 100000 [(0, 73, 1), (68, 25, 1), (69, 25, 1)] (fun s => [.int .i64 s.2.1]) (fun s => [srcC x l s.2.2.1 s.2.2.2, vi .u8 (List.replicate 16 0), vi .u8 s.1])
      (fun s => okS l s.2.2.1 ∧ lo16 s.1 ∧ s.2.1 < 16) (fun s => s.2.1.toNat) (putL sameF n.toNat, n - 1, a1, z1) (by simp [frameOk, names, lpz, sclp, scv, scvs, nrfs, nrf, FRB]) ⟨by assumption, hl0, by simp only; omega⟩ ?_ ?_
    · (refine bni ?_; repeat (refine bnk ?_; simp (disch := first | omega | (simp only [LN]; omega)) only [↓EC, EW, seval, ↓reduceIte, ↓EBD, EBE, ColV_def, srcC]))
    · rintro ⟨p, i, a, z⟩ ⟨h1, h2, h3⟩
      simp only at h1 h2 h3
      have hpl := h2.1
      (refine bni ?_; repeat (refine bnk ?_; simp (disch := first | omega | (simp only [LN]; omega)) only [↓EC, EW, seval, ↓reduceIte, ↓EBD, EBE, ColV_def, lheap_def, srcC]))
      (refine Split.mkB (fun h => ?_) (fun h => ?_) <;> (try simp only [SD] at h))
      · (refine bni ?_; repeat (refine bnk ?_; (try simp (disch := first | omega | (simp only [LN]; omega)) only [↓EC, EW, seval, ↓reduceIte, ↓EBD, EBE])))
        (refine pcm [0] rfl ?_; (refine bni ?_; repeat (refine bnk ?_; (try simp (disch := first | omega | (simp only [LN]; omega)) only [↓EC, EW, seval, ↓reduceIte, ↓EBD, EBE]))); refine callM_d (c_spec_l01Next (by assumption) (by omega)) ?_; rintro _ _ ⟨r2, _, _, rfl, rfl, hs_, hr_⟩; (refine bni ?_; repeat (refine bnk ?_; (try simp (disch := first | omega | (simp only [LN]; omega)) only [↓EC, EW, seval, ↓reduceIte, ↓EBD, EBE, srcC]))))
        rename_i a2 z2
        have b1 := h2.2 i.toNat (by omega)
        have b2 := h2.2 r2.toNat (by omega)
        (refine bni ?_; repeat (refine bnk ?_; (try simp (disch := first | omega | (simp only [LN]; omega)) only [↓EC, EW, seval, ↓reduceIte, ↓EBD, EBE])))
        exact ⟨(_, i - 1, a2, z2), rfl, rfl, ⟨by assumption, lo16_set (lo16_set h2 b2) b1, by simp only; omega⟩, by simp only; omega⟩
      · (refine bni ?_; repeat (refine bnk ?_; (try simp (disch := first | omega | (simp only [LN]; omega)) only [↓EC, EW, seval, ↓reduceIte, ↓EBD, EBE])))
        exact ⟨p, a, z, rfl, rfl, h1, h2⟩
theorem c_spec_l01Pairs {x : Value} {l : List Int} {a z n m : Int} (hn : 1 ≤ n ∧ n ≤ 16) (hm : m ≤ 1000) (hs : okS l a) : PSpecM Tryz.prog 86 [.ptr 0 0, .int .i64 n, .int .i64 m] [(0, 73, 1)] [srcC x l a z] fun v c =>
    ∃ p a' z', v = .agg (vi .u8 p) ∧ c = [srcC x l a' z'] ∧ okS l a' ∧ lo16 p := by
  refine spec_l01Pairs_f.m rfl rfl ?_
  unfold srcC
  dsimp only [spec_l01Pairs_F, pcal_B, pcalp_B, pcala_B, pcond_B, pgk_B, JN_B, LP_B]
  (refine bni ?_; repeat (refine bnk ?_; (try simp (disch := first | omega | (simp only [LN]; omega)) only [↓EC, EW, seval, ↓reduceIte, ↓EBD, EBE])))
  (refine pcm [0] rfl ?_; (refine bni ?_; repeat (refine bnk ?_; (try simp (disch := first | omega | (simp only [LN]; omega)) only [↓EC, EW, seval, ↓reduceIte, ↓EBD, EBE]))); refine callM_d (c_spec_l01DrawPlaces hn (by assumption)) ?_; rintro _ _ ⟨o, a1, z1, rfl, rfl, hs_, ho⟩; (refine bni ?_; repeat (refine bnk ?_; (try simp (disch := first | omega | (simp only [LN]; omega)) only [↓EC, EW, seval, ↓reduceIte, ↓EBD, EBE, srcC]))))
  refine pcd_v (c_spec_l01Same hn) ?_
  have hl0 := sameP_lo hn
  have hlf := putL_len sameF n.toNat
  have hol := ho.1
  (refine bni ?_; repeat (refine bnk ?_; (try simp (disch := first | omega | (simp only [LN]; omega)) only [↓EC, EW, seval, ↓reduceIte, ↓EBD, EBE])))
  refine LPx_of (σ := List Int × Int × Int × Int) 100000 [(0, 73, 1), (70, 25, 1), (71, 25, 1), (72, 25, 1)] (fun s => [.int .i64 s.2.1]) (fun s => [srcC x l s.2.2.1 s.2.2.2, vi .u8 (List.replicate 16 0), vi .u8 o, vi .u8 s.1])
    (fun s => okS l s.2.2.1 ∧ lo16 s.1 ∧ 0 ≤ s.2.1 ∧ s.2.1 ≤ n) (fun s => (n - s.2.1).toNat) (putL sameF n.toNat, 0, a1, z1) (by simp [frameOk, names, lpz, sclp, scv, scvs, nrfs, nrf, FRB]) ⟨by assumption, hl0, by simp only; omega⟩ ?_ ?_
  · (refine bni ?_; repeat (refine bnk ?_; simp (disch := first | omega | (simp only [LN]; omega)) only [↓EC, EW, seval, ↓reduceIte, ↓EBD, EBE, ColV_def, srcC]))
  · rintro ⟨p, t, a, z⟩ ⟨h1, h2, h3, h4⟩
    simp only at h1 h2 h3 h4
    have hpl := h2.1
    (refine bni ?_; repeat (refine bnk ?_; simp (disch := first | omega | (simp only [LN]; omega)) only [↓EC, EW, seval, ↓reduceIte, ↓EBD, EBE, ColV_def, lheap_def, srcC]))
    (refine Split.mkB (fun h => ?_) (fun h => ?_) <;> (try simp only [SD] at h))
    · (refine bni ?_; repeat (refine bnk ?_; (try simp (disch := first | omega | (simp only [LN]; omega)) only [↓EC, EW, seval, ↓reduceIte, ↓EBD, EBE])))
      (refine pcm [0] rfl ?_; (refine bni ?_; repeat (refine bnk ?_; (try simp (disch := first | omega | (simp only [LN]; omega)) only [↓EC, EW, seval, ↓reduceIte, ↓EBD, EBE]))); refine callM_d (c_spec_l01Next (by assumption) (by omega)) ?_; rintro _ _ ⟨r2, _, _, rfl, rfl, hs_, hr_⟩; (refine bni ?_; repeat (refine bnk ?_; (try simp (disch := first | omega | (simp only [LN]; omega)) only [↓EC, EW, seval, ↓reduceIte, ↓EBD, EBE, srcC]))))
      rename_i a2 z2
      (refine bni ?_; repeat (refine bnk ?_; (try simp (disch := first | omega | (simp only [LN]; omega)) only [↓EC, EW, seval, ↓reduceIte, ↓EBD, EBE])))
      generalize hmn : (if n - t < 1 + r2 then n - t else 1 + r2) = k at *
      have hk : 1 ≤ k ∧ k ≤ n - t := by rw [← hmn]; split <;> omega
      refine LPx_of (σ := List Int × Int) 200000 [(0, 73, 1), (70, 25, 1), (71, 25, 1), (72, 25, 1)] (fun s => [.int .i64 s.2]) (fun s => [srcC x l a2 z2, vi .u8 (List.replicate 16 0), vi .u8 o, vi .u8 s.1])
        (fun s => lo16 s.1 ∧ 0 ≤ s.2 ∧ s.2 ≤ k) (fun s => (k - s.2).toNat) (p, 0) (by simp [frameOk, names, lpz, sclp, scv, scvs, nrfs, nrf, FRB]) ⟨h2, by simp only; omega⟩ ?_ ?_
      · (refine bni ?_; repeat (refine bnk ?_; simp (disch := first | omega | (simp only [LN]; omega)) only [↓EC, EW, seval, ↓reduceIte, ↓EBD, EBE, ColV_def, srcC]))
      · rintro ⟨p, i⟩ ⟨h5, h6, h7⟩
        simp only at h5 h6 h7
        have hpl := h5.1
        (refine bni ?_; repeat (refine bnk ?_; simp (disch := first | omega | (simp only [LN]; omega)) only [↓EC, EW, seval, ↓reduceIte, ↓EBD, EBE, ColV_def, lheap_def, srcC]))
        (refine Split.mkB (fun h => ?_) (fun h => ?_) <;> (try simp only [SD] at h))
        · have hr : 0 ≤ (i + 1).tmod k ∧ (i + 1).tmod k < k := ⟨Int.tmod_nonneg _ (by omega), Int.tmod_lt_of_pos _ (by omega)⟩
          generalize hq : (i + 1).tmod k = q at *
          have b1 := ho.2 (t + i).toNat (by omega)
          have b2 := ho.2 (t + q).toNat (by omega)
          (refine bni ?_; repeat (refine bnk ?_; (try simp (disch := first | omega | (simp only [LN]; omega)) only [↓EC, EW, seval, ↓reduceIte, ↓EBD, EBE, hq])))
          exact ⟨(_, i + 1), rfl, rfl, ⟨lo16_set h5 b2, by simp only; omega⟩, by simp only; omega⟩
        · (refine bni ?_; repeat (refine bnk ?_; (try simp (disch := first | omega | (simp only [LN]; omega)) only [↓EC, EW, seval, ↓reduceIte, ↓EBD, EBE])))
          exact ⟨(p, t + k, a2, z2), rfl, rfl, ⟨by assumption, h5, by simp only; omega⟩, by simp only; omega⟩
    · (refine bni ?_; repeat (refine bnk ?_; (try simp (disch := first | omega | (simp only [LN]; omega)) only [↓EC, EW, seval, ↓reduceIte, ↓EBD, EBE])))
      exact ⟨p, a, z, rfl, rfl, h1, h2⟩
theorem c_spec_l01Turn {n : Int} (hn : 1 ≤ n ∧ n ≤ 16) : PSpec Tryz.prog 80 [.int .i64 n] fun v => ∃ p, v = .agg (vi .u8 p) ∧ lo16 p := by
  refine spec_l01Turn_f.f ?_
  simp (disch := first | omega | (simp only [LN]; omega)) only [↓EC, EW, seval, ↓reduceIte, spec_l01Turn_F]
  refine LP_of (σ := List Int × Nat) 100000 [(66, 25, 1), (67, 25, 1)] (fun s => [.int .i64 s.2]) (fun s => [vi .u8 (List.replicate 16 0), vi .u8 s.1])
    (fun s => lo16 s.1 ∧ (s.2 : Int) ≤ n) (fun s => (n - s.2).toNat) (List.replicate 16 0, 0) (by simp [frameOk, names, lpz, sclp, scv, scvs, nrfs, nrf, FRB]) ⟨lo16_zero, by simp only [Int.natCast_zero]; omega⟩ ?_ ?_
  · simp (disch := first | omega | (simp only [LN]; omega)) only [↓EC, EW, seval, ↓reduceIte, ColV_def]
    trace_state
  · rintro ⟨p, i⟩ ⟨h1, h2⟩
    simp only at h1 h2
    have hpl := h1.1
    simp (disch := first | omega | (simp only [LN]; omega)) only [↓EC, EW, seval, ↓reduceIte, ColV_def, lheap_def]
    (refine Split.mk (fun h => ?_) (fun h => ?_) <;> (try simp only [SD] at h))
    · have hr : 0 ≤ ((i : Int) + 1).tmod n ∧ ((i : Int) + 1).tmod n < n := ⟨Int.tmod_nonneg _ (by omega), Int.tmod_lt_of_pos _ (by omega)⟩
      generalize hq : ((i : Int) + 1).tmod n = q at *
      (try simp (disch := first | omega | (simp only [LN]; omega)) only [↓EC, EW, seval, ↓reduceIte, hq])
      exact ⟨(_, i + 1), rfl, rfl, ⟨lo16_set h1 (by omega), by simp only; omega⟩, by simp only; omega⟩
    · (try simp (disch := first | omega | (simp only [LN]; omega)) only [↓EC, EW, seval, ↓reduceIte])
      exact ⟨p, rfl, h1⟩
theorem c_spec_l01Star {n : Int} (hn : 1 ≤ n ∧ n ≤ 16) : PSpec Tryz.prog 56 [.int .i64 n] fun v => ∃ p q, v = vD n p q ∧ lo16 p ∧ lo16 q := by
  refine spec_l01Star_f.f ?_
  simp (disch := first | omega | (simp only [LN]; omega)) only [↓EC, EW, seval, ↓reduceIte, spec_l01Star_F]
  refine pcd_r (c_spec_l01Turn hn) ?_
  rintro v ⟨p, rfl, hp⟩
  have hpl := hp.1
  (try simp (disch := first | omega | (simp only [LN]; omega)) only [↓EC, EW, seval, ↓reduceIte])
  (refine pcd_v (c_spec_l01Same hn) ?_; (try simp (disch := first | omega | (simp only [LN]; omega)) only [↓EC, EW, seval, ↓reduceIte]))
  have hq := sameP_lo hn
  have hlf := putL_len sameF n.toNat
  (try simp (disch := first | omega | (simp only [LN]; omega)) only [↓EC, EW, seval, ↓reduceIte])
  exact ⟨p, putL sameF n.toNat, rfl, hp, hq⟩
def okL (L : List Int) : Prop := L.length = 32 ∧ ∀ i, i < 32 → 0 ≤ gi L i ∧ gi L i ≤ 255
theorem okL_of {p q : List Int} (hp : okP p) (hq : okP q) : okL (p ++ q) := ⟨by simp [hp.1, hq.1], fun i hi => by
  have := hp.1
  rw [gi_app]; split
  · exact hp.2 i (by omega)
  · exact hq.2 _ (by omega)⟩
theorem okL_set {L : List Int} (h : okL L) {i : Nat} {y : Int} (hy : 0 ≤ y ∧ y ≤ 255) : okL (L.set i y) := ⟨by simp [h.1], fun j hj => by
  rw [gi_set]; split
  · exact hy
  · exact h.2 j hj⟩
theorem okL_vD {n : Int} {L : List Int} (h : okL L) : ∃ b w, V.agg (.int .i64 n :: vi .u8 L) = vD n b w ∧ okP b ∧ okP w := by
  have h1 := h.1
  refine ⟨L.take 16, L.drop 16, by unfold vD; rw [List.take_append_drop], ⟨by simp [h1], fun i hi => ?_⟩, ⟨by simp [h1], fun i hi => ?_⟩⟩
  · have e : gi (L.take 16) i = gi L i := by simp only [gi, List.getD, List.getElem?_take, if_pos hi]
    rw [e]; exact h.2 i (by omega)
  · have e : gi (L.drop 16) i = gi L (16 + i) := by simp only [gi, List.getD, List.getElem?_drop]
    rw [e]; exact h.2 _ (by omega)
theorem okL_tk {L : List Int} (h : okL L) : okP (L.take 16) := ⟨by simp [h.1], fun i hi => by
  have e : gi (L.take 16) i = gi L i := by simp only [gi, List.getD, List.getElem?_take, if_pos hi]
  rw [e]; exact h.2 i (by omega)⟩
theorem c_spec_l01Draw {x : Value} {l : List Int} {a z m : Int} (hm : 1 ≤ m ∧ m ≤ 16) (hs : okS l a) : PSpecM Tryz.prog 82 [.ptr 0 0, .int .i64 m] [(0, 73, 1)] [srcC x l a z] fun v c =>
    ∃ n p q a' z', v = vD n p q ∧ c = [srcC x l a' z'] ∧ okS l a' ∧ lo16 p ∧ lo16 q ∧ 1 ≤ n ∧ n ≤ m := by
  refine spec_l01Draw_f.m rfl rfl ?_
  unfold srcC
  dsimp only [spec_l01Draw_F, pcal_B, pcalp_B, pcala_B, pcond_B, pgk_B, JN_B, LP_B]
  (refine bni ?_; repeat (refine bnk ?_; (try simp (disch := first | omega | (simp only [LN]; omega)) only [↓EC, EW, seval, ↓reduceIte, ↓EBD, EBE])))
  (refine pcm [0] rfl ?_; (refine bni ?_; repeat (refine bnk ?_; (try simp (disch := first | omega | (simp only [LN]; omega)) only [↓EC, EW, seval, ↓reduceIte, ↓EBD, EBE]))); refine callM_d (c_spec_l01Next (by assumption) (by omega)) ?_; rintro _ _ ⟨r1, _, _, rfl, rfl, hs_, hr_⟩; (refine bni ?_; repeat (refine bnk ?_; (try simp (disch := first | omega | (simp only [LN]; omega)) only [↓EC, EW, seval, ↓reduceIte, ↓EBD, EBE, srcC]))))
  rename_i a1 z1
  have hn : 1 ≤ 1 + r1 ∧ 1 + r1 ≤ 16 := by omega
  have hnm : 1 + r1 ≤ m := by omega
  generalize 1 + r1 = n at *
  refine LPx_of (σ := Int × Int × Int) 100000 [(0, 73, 1), (68, 27, 1)] (fun s => [.int .i64 s.1]) (fun s => [srcC x l s.2.1 s.2.2, .int .i64 0 :: vi .u8 (List.replicate 32 0)])
    (fun s => okS l s.2.1 ∧ 0 ≤ s.1 ∧ s.1 ≤ 8) (fun s => (8 - s.1).toNat) (0, a1, z1) (by simp [frameOk, names, lpz, sclp, scv, scvs, nrfs, nrf, FRB]) ⟨by assumption, by simp only; omega⟩ ?_ ?_
  · (refine bni ?_; repeat (refine bnk ?_; simp (disch := first | omega | (simp only [LN]; omega)) only [↓EC, EW, seval, ↓reduceIte, ↓EBD, EBE, ColV_def, srcC]))
  · rintro ⟨k, a, z⟩ ⟨h1, h2, h3⟩
    simp only at h1 h2 h3
    (refine bni ?_; repeat (refine bnk ?_; simp (disch := first | omega | (simp only [LN]; omega)) only [↓EC, EW, seval, ↓reduceIte, ↓EBD, EBE, ColV_def, lheap_def, srcC]))
    (refine Split.mkB (fun h => ?_) (fun h => ?_) <;> (try simp only [SD] at h))
    · (refine bni ?_; repeat (refine bnk ?_; (try simp (disch := first | omega | (simp only [LN]; omega)) only [↓EC, EW, seval, ↓reduceIte, ↓EBD, EBE])))
      (refine pcm [0] rfl ?_; (refine bni ?_; repeat (refine bnk ?_; (try simp (disch := first | omega | (simp only [LN]; omega)) only [↓EC, EW, seval, ↓reduceIte, ↓EBD, EBE]))); refine callM_d (c_spec_l01Pick (m := [2, 3, 4, n]) (by assumption) (by simp) (by simp)) ?_; rintro _ _ ⟨y1, _, _, hy_, rfl, rfl, hs_⟩; simp only [List.mem_cons, List.not_mem_nil, or_false] at hy_; (refine bni ?_; repeat (refine bnk ?_; (try simp (disch := first | omega | (simp only [LN]; omega)) only [↓EC, EW, seval, ↓reduceIte, ↓EBD, EBE, srcC]))))
      (refine pcm [0] rfl ?_; (refine bni ?_; repeat (refine bnk ?_; (try simp (disch := first | omega | (simp only [LN]; omega)) only [↓EC, EW, seval, ↓reduceIte, ↓EBD, EBE]))); refine callM_d (c_spec_l01Pairs (n := n) (m := y1) (by omega) (by omega) (by assumption)) ?_; rintro _ _ ⟨p, a2, z2, rfl, rfl, hs_, hp⟩; (refine bni ?_; repeat (refine bnk ?_; (try simp (disch := first | omega | (simp only [LN]; omega)) only [↓EC, EW, seval, ↓reduceIte, ↓EBD, EBE, srcC]))))
      (refine pcm [0] rfl ?_; (refine bni ?_; repeat (refine bnk ?_; (try simp (disch := first | omega | (simp only [LN]; omega)) only [↓EC, EW, seval, ↓reduceIte, ↓EBD, EBE]))); refine callM_d (c_spec_l01Pick (m := [2, 2, 3, n]) (by assumption) (by simp) (by simp)) ?_; rintro _ _ ⟨y2, _, _, hy_, rfl, rfl, hs_⟩; simp only [List.mem_cons, List.not_mem_nil, or_false] at hy_; (refine bni ?_; repeat (refine bnk ?_; (try simp (disch := first | omega | (simp only [LN]; omega)) only [↓EC, EW, seval, ↓reduceIte, ↓EBD, EBE, srcC]))))
      (refine pcm [0] rfl ?_; (refine bni ?_; repeat (refine bnk ?_; (try simp (disch := first | omega | (simp only [LN]; omega)) only [↓EC, EW, seval, ↓reduceIte, ↓EBD, EBE]))); refine callM_d (c_spec_l01Pairs (n := n) (m := y2) (by omega) (by omega) (by assumption)) ?_; rintro _ _ ⟨q, a3, z3, rfl, rfl, hs_, hq⟩; (refine bni ?_; repeat (refine bnk ?_; (try simp (disch := first | omega | (simp only [LN]; omega)) only [↓EC, EW, seval, ↓reduceIte, ↓EBD, EBE, srcC]))))
      have hpl := hp.1
      have hql := hq.1
      (refine bni ?_; repeat (refine bnk ?_; (try simp (disch := first | omega | (simp only [LN]; omega)) only [↓EC, EW, seval, ↓reduceIte, ↓EBD, EBE])))
      refine pcd_v (c_spec_l01Is (n := n) (b := p) (w := q) (lo16_okP hp) (lo16_okP hq)) ?_
      (refine bni ?_; repeat (refine bnk ?_; (try simp (disch := first | omega | (simp only [LN]; omega)) only [↓EC, EW, seval, ↓reduceIte, ↓EBD, EBE])))
      (refine Split.mkB (fun h => ?_) (fun h => ?_) <;> (try simp only [SD] at h))
      · (refine bni ?_; repeat (refine bnk ?_; (try simp (disch := first | omega | (simp only [LN]; omega)) only [↓EC, EW, seval, ↓reduceIte, ↓EBD, EBE])))
        exact ⟨n, p, q, _, _, rfl, rfl, by assumption, hp, hq, by omega, by omega⟩
      · (refine bni ?_; repeat (refine bnk ?_; (try simp (disch := first | omega | (simp only [LN]; omega)) only [↓EC, EW, seval, ↓reduceIte, ↓EBD, EBE])))
        exact ⟨(k + 1, a3, z3), rfl, rfl, ⟨by assumption, by simp only; omega⟩, by simp only; omega⟩
    · (refine bni ?_; repeat (refine bnk ?_; (try simp (disch := first | omega | (simp only [LN]; omega)) only [↓EC, EW, seval, ↓reduceIte, ↓EBD, EBE])))
      refine pcd_r (c_spec_l01Star (n := n) (by omega)) ?_
      rintro v ⟨p, q, rfl, hp, hq⟩
      have hpl := hp.1
      have hql := hq.1
      (refine bni ?_; repeat (refine bnk ?_; (try simp (disch := first | omega | (simp only [LN]; omega)) only [↓EC, EW, seval, ↓reduceIte, ↓EBD, EBE, vD])))
      (refine pcm [0] rfl ?_; (refine bni ?_; repeat (refine bnk ?_; (try simp (disch := first | omega | (simp only [LN]; omega)) only [↓EC, EW, seval, ↓reduceIte, ↓EBD, EBE]))); refine callM_d (c_spec_l01DrawPlaces (n := n) (by omega) (by assumption)) ?_; rintro _ _ ⟨q', a3, z3, rfl, rfl, hs_, hq'⟩; (refine bni ?_; repeat (refine bnk ?_; (try simp (disch := first | omega | (simp only [LN]; omega)) only [↓EC, EW, seval, ↓reduceIte, ↓EBD, EBE, srcC]))))
      have hql' := hq'.1
      (refine bni ?_; repeat (refine bnk ?_; (try simp (disch := first | omega | (simp only [LN]; omega)) only [↓EC, EW, seval, ↓reduceIte, ↓EBD, EBE])))
      exact ⟨n, p, q', _, _, rfl, rfl, by assumption, hp, hq', by omega, by omega⟩
theorem c_spec_l01Spoil {x : Value} {l : List Int} {a z m : Int} (hm : 1 ≤ m ∧ m ≤ 16) (hs : okS l a) : PSpecM Tryz.prog 58 [.ptr 0 0, .int .i64 m] [(0, 73, 1)] [srcC x l a z] fun v c =>
    ∃ n p q a' z', v = vD n p q ∧ c = [srcC x l a' z'] ∧ okS l a' ∧ okP p ∧ okP q ∧ -1 ≤ n ∧ n ≤ 17 := by
  refine spec_l01Spoil_f.m rfl rfl ?_
  unfold srcC
  dsimp only [spec_l01Spoil_F, pcal_B, pcalp_B, pcala_B, pcond_B, pgk_B, JN_B, LP_B]
  (refine bni ?_; repeat (refine bnk ?_; (try simp (disch := first | omega | (simp only [LN]; omega)) only [↓EC, EW, seval, ↓reduceIte, ↓EBD, EBE])))
  (refine pcm [0] rfl ?_; (refine bni ?_; repeat (refine bnk ?_; (try simp (disch := first | omega | (simp only [LN]; omega)) only [↓EC, EW, seval, ↓reduceIte, ↓EBD, EBE]))); refine callM_d (c_spec_l01Draw hm (by assumption)) ?_; rintro _ _ ⟨n, p, q, a1, z1, rfl, rfl, hs_, hp, hq, hn, hnm⟩; (refine bni ?_; repeat (refine bnk ?_; (try simp (disch := first | omega | (simp only [LN]; omega)) only [↓EC, EW, seval, ↓reduceIte, ↓EBD, EBE, srcC]))))
  have hpl := hp.1
  have hql := hq.1
  have hL := okL_of (lo16_okP hp) (lo16_okP hq)
  have hb0 := hp.2 0 (by omega)
  (refine bni ?_; repeat (refine bnk ?_; (try simp (disch := first | omega | (simp only [LN]; omega)) only [↓EC, EW, seval, ↓reduceIte, ↓EBD, EBE, vD])))
  generalize p ++ q = L at *
  refine JNx_un ?_
  (refine bni ?_; repeat (refine bnk ?_; (try simp (disch := first | omega | (simp only [LN]; omega)) only [↓EC, EW, seval, ↓reduceIte, ↓EBD, EBE])))
  (refine pcm [0] rfl ?_; (refine bni ?_; repeat (refine bnk ?_; (try simp (disch := first | omega | (simp only [LN]; omega)) only [↓EC, EW, seval, ↓reduceIte, ↓EBD, EBE]))); refine callM_d (c_spec_l01Next (by assumption) (by omega)) ?_; rintro _ _ ⟨r1, _, _, rfl, rfl, hs_, hr_⟩; (refine bni ?_; repeat (refine bnk ?_; (try simp (disch := first | omega | (simp only [LN]; omega)) only [↓EC, EW, seval, ↓reduceIte, ↓EBD, EBE, srcC]))))
  have hLl := hL.1
  have fin : ∀ {n' : Int} {L' : List Int} {a' z' : Int}, okS l a' → okL L' → -1 ≤ n' ∧ n' ≤ 17 → ∃ n p q a'' z'', V.agg (V.int IntKind.i64 n' :: vi IntKind.u8 L') = V.agg (V.int IntKind.i64 n :: vi IntKind.u8 (p ++ q)) ∧
      [[V.fz x l, V.int IntKind.i64 a', V.int IntKind.u64 z']] = [[V.fz x l, V.int IntKind.i64 a'', V.int IntKind.u64 z'']] ∧ okS l a'' ∧ okP p ∧ okP q ∧ -1 ≤ n ∧ n ≤ 17 := by
    intro n' L' a' z' h1 h2 h3
    obtain ⟨b, w, e, ob, ow⟩ := okL_vD (n := n') h2
    exact ⟨n', b, w, a', z', e, rfl, h1, ob, ow, h3⟩
  (refine Split.mkB (fun h => ?_) (fun h => ?_) <;> (try simp only [SD] at h))
  · (refine bni ?_; repeat (refine bnk ?_; (try simp (disch := first | omega | (simp only [LN]; omega)) only [↓EC, EW, seval, ↓reduceIte, ↓EBD, EBE])))
    exact fin (by assumption) (okL_set hL (by simp [IntKind.wrap, IntKind.signed, IntKind.bits]; omega)) (by omega)
  · (refine bni ?_; repeat (refine bnk ?_; (try simp (disch := first | omega | (simp only [LN]; omega)) only [↓EC, EW, seval, ↓reduceIte, ↓EBD, EBE])))
    (refine Split.mkB (fun h => ?_) (fun h => ?_) <;> (try simp only [SD] at h))
    · (refine bni ?_; repeat (refine bnk ?_; (try simp (disch := first | omega | (simp only [LN]; omega)) only [↓EC, EW, seval, ↓reduceIte, ↓EBD, EBE])))
      (refine pcm [0] rfl ?_; (refine bni ?_; repeat (refine bnk ?_; (try simp (disch := first | omega | (simp only [LN]; omega)) only [↓EC, EW, seval, ↓reduceIte, ↓EBD, EBE]))); refine callM_d (c_spec_l01Pick (m := [0, 17, -1, n + 1, n - 1]) (by assumption) (by simp) (by simp)) ?_; rintro _ _ ⟨y1, _, _, hy_, rfl, rfl, hs_⟩; simp only [List.mem_cons, List.not_mem_nil, or_false] at hy_; (refine bni ?_; repeat (refine bnk ?_; (try simp (disch := first | omega | (simp only [LN]; omega)) only [↓EC, EW, seval, ↓reduceIte, ↓EBD, EBE, srcC]))))
      (refine bni ?_; repeat (refine bnk ?_; (try simp (disch := first | omega | (simp only [LN]; omega)) only [↓EC, EW, seval, ↓reduceIte, ↓EBD, EBE])))
      exact fin (by assumption) hL (by omega)
    · (refine bni ?_; repeat (refine bnk ?_; (try simp (disch := first | omega | (simp only [LN]; omega)) only [↓EC, EW, seval, ↓reduceIte, ↓EBD, EBE])))
      (refine Split.mkB (fun h => ?_) (fun h => ?_) <;> (try simp only [SD] at h))
      · (refine bni ?_; repeat (refine bnk ?_; (try simp (disch := first | omega | (simp only [LN]; omega)) only [↓EC, EW, seval, ↓reduceIte, ↓EBD, EBE])))
        rw [if_neg (show ¬ 16 < n by omega)]
        refine pcd_v (c_spec_l01Same (n := n) (by omega)) ?_
        have hq := sameP_lo (n := n) (by omega)
        have hlf := putL_len sameF n.toNat
        (refine bni ?_; repeat (refine bnk ?_; (try simp (disch := first | omega | (simp only [LN]; omega)) only [↓EC, EW, seval, ↓reduceIte, ↓EBD, EBE])))
        exact fin (by assumption) (okL_of (okL_tk hL) (lo16_okP hq)) (by omega)
      · (refine bni ?_; repeat (refine bnk ?_; (try simp (disch := first | omega | (simp only [LN]; omega)) only [↓EC, EW, seval, ↓reduceIte, ↓EBD, EBE])))
        (refine Split.mkB (fun h => ?_) (fun h => ?_) <;> (try simp only [SD] at h))
        · (refine bni ?_; repeat (refine bnk ?_; (try simp (disch := first | omega | (simp only [LN]; omega)) only [↓EC, EW, seval, ↓reduceIte, ↓EBD, EBE])))
          (refine pcm [0] rfl ?_; (refine bni ?_; repeat (refine bnk ?_; (try simp (disch := first | omega | (simp only [LN]; omega)) only [↓EC, EW, seval, ↓reduceIte, ↓EBD, EBE]))); refine callM_d (c_spec_l01Pick (m := [1, 255]) (by assumption) (by simp) (by simp)) ?_; rintro _ _ ⟨y1, _, _, hy_, rfl, rfl, hs_⟩; simp only [List.mem_cons, List.not_mem_nil, or_false] at hy_; (refine bni ?_; repeat (refine bnk ?_; (try simp (disch := first | omega | (simp only [LN]; omega)) only [↓EC, EW, seval, ↓reduceIte, ↓EBD, EBE, srcC]))))
          (refine bni ?_; repeat (refine bnk ?_; (try simp (disch := first | omega | (simp only [LN]; omega)) only [↓EC, EW, seval, ↓reduceIte, ↓EBD, EBE])))
          exact fin (by assumption) (okL_set hL (by omega)) (by omega)
        · (refine bni ?_; repeat (refine bnk ?_; (try simp (disch := first | omega | (simp only [LN]; omega)) only [↓EC, EW, seval, ↓reduceIte, ↓EBD, EBE])))
          exact fin (by assumption) hL (by omega)
end
section
set_option maxHeartbeats 4000000
theorem mats_vi {k : IntKind} {c : Nat} : ∀ {l : List Int}, mats (vi k l) c = (vi k l, [], c)
  | [] => by simp [vi, mats]
  | a :: l => by
    have ih := mats_vi (k := k) (c := c) (l := l)
    simp only [vi, List.map_cons] at ih ⊢
    rw [mats_cons, mat_int, ih]; rfl
theorem c_spec_l09Draw {x : Value} {l : List Int} {a z m : Int} (hm : 1 ≤ m ∧ m ≤ 16) (hs : okS l a) : PSpecM Tryz.prog 29 [.ptr 0 0, .int .i64 m] [(0, 73, 1)] [srcC x l a z] fun v c =>
    ∃ n p q a' z', v = vD n p q ∧ c = [srcC x l a' z'] ∧ okS l a' ∧ okP p ∧ okP q ∧ -1 ≤ n ∧ n ≤ 17 := by
  refine spec_l09Draw_f.m rfl rfl ?_
  unfold srcC
  dsimp only [spec_l09Draw_F, pcal_B, pcalp_B, pcala_B, pcond_B, pgk_B, JN_B, LP_B]
  (refine bni ?_; repeat (refine bnk ?_; (try simp (disch := first | omega | (simp only [LN]; omega)) only [↓EC, EW, seval, ↓reduceIte, ↓EBD, EBE])))
  (refine pcm [0] rfl ?_; (refine bni ?_; repeat (refine bnk ?_; (try simp (disch := first | omega | (simp only [LN]; omega)) only [↓EC, EW, seval, ↓reduceIte, ↓EBD, EBE]))); refine callM_d (c_spec_l01Next (by assumption) (by omega)) ?_; rintro _ _ ⟨r1, _, _, rfl, rfl, hs_, hr_⟩; (refine bni ?_; repeat (refine bnk ?_; (try simp (disch := first | omega | (simp only [LN]; omega)) only [↓EC, EW, seval, ↓reduceIte, ↓EBD, EBE, srcC]))))
  (refine pcm [0] rfl ?_; (refine bni ?_; repeat (refine bnk ?_; (try simp (disch := first | omega | (simp only [LN]; omega)) only [↓EC, EW, seval, ↓reduceIte, ↓EBD, EBE]))); refine callM_d (c_spec_l01Next (by assumption) (by omega)) ?_; rintro _ _ ⟨r2, _, _, rfl, rfl, hs_, hr_⟩; (refine bni ?_; repeat (refine bnk ?_; (try simp (disch := first | omega | (simp only [LN]; omega)) only [↓EC, EW, seval, ↓reduceIte, ↓EBD, EBE, srcC]))))
  rename_i a1 z1
  (refine Split.mkB (fun h => ?_) (fun h => ?_) <;> (try simp only [SD] at h))
  · (refine bni ?_; repeat (refine bnk ?_; (try simp (disch := first | omega | (simp only [LN]; omega)) only [↓EC, EW, seval, ↓reduceIte, ↓EBD, EBE])))
    refine pcd_r (c_spec_l01Star (n := 1 + r1) (by omega)) ?_
    rintro v ⟨p, q, rfl, hp, hq⟩
    have hpl := hp.1
    have hql := hq.1
    (refine bni ?_; repeat (refine bnk ?_; (try simp (disch := first | omega | (simp only [LN]; omega)) only [↓EC, EW, seval, ↓reduceIte, ↓EBD, EBE, vD])))
    (refine pcm [0] rfl ?_; (refine bni ?_; repeat (refine bnk ?_; (try simp (disch := first | omega | (simp only [LN]; omega)) only [↓EC, EW, seval, ↓reduceIte, ↓EBD, EBE]))); refine callM_d (c_spec_l01DrawPlaces (n := 1 + r1) (by omega) (by assumption)) ?_; rintro _ _ ⟨q', a3, z3, rfl, rfl, hs_, hq'⟩; (refine bni ?_; repeat (refine bnk ?_; (try simp (disch := first | omega | (simp only [LN]; omega)) only [↓EC, EW, seval, ↓reduceIte, ↓EBD, EBE, srcC]))))
    have hql' := hq'.1
    (refine bni ?_; repeat (refine bnk ?_; (try simp (disch := first | omega | (simp only [LN]; omega)) only [↓EC, EW, seval, ↓reduceIte, ↓EBD, EBE])))
    exact ⟨_, p, q', _, _, rfl, rfl, by assumption, lo16_okP hp, lo16_okP hq', by omega, by omega⟩
  · (refine bni ?_; repeat (refine bnk ?_; (try simp (disch := first | omega | (simp only [LN]; omega)) only [↓EC, EW, seval, ↓reduceIte, ↓EBD, EBE])))
    (refine pcm [0] rfl ?_; (refine bni ?_; repeat (refine bnk ?_; (try simp (disch := first | omega | (simp only [LN]; omega)) only [↓EC, EW, seval, ↓reduceIte, ↓EBD, EBE]))); refine callM_d (c_spec_l01Spoil hm (by assumption)) ?_; rintro _ _ ⟨n, p, q, a3, z3, rfl, rfl, hs_, hp, hq, hn, hn'⟩; (refine bni ?_; repeat (refine bnk ?_; (try simp (disch := first | omega | (simp only [LN]; omega)) only [↓EC, EW, seval, ↓reduceIte, ↓EBD, EBE, srcC]))))
    have hpl := hp.1
    have hql := hq.1
    (refine bni ?_; repeat (refine bnk ?_; (try simp (disch := first | omega | (simp only [LN]; omega)) only [↓EC, EW, seval, ↓reduceIte, ↓EBD, EBE, vD])))
    exact ⟨_, p, q, _, _, rfl, rfl, by assumption, hp, hq, hn, hn'⟩
end
section
set_option maxHeartbeats 4000000
noncomputable def rwF (b w : List Int) (n : Int) (B : List (List Int)) (x : List Int) : List Int := B.map (meetV b w n x)
noncomputable def tbL (b w : List Int) (n : Int) : List (List Int) := (basL b w n).map (rwF b w n (basL b w n))
theorem basL_lim {b w : List Int} {n : Int} (hn : 1 ≤ n ∧ n ≤ 16) : (basL b w n).length ≤ 16 ∧ ∀ l ∈ basL b w n, l.length ≤ 16 := by
  refine ⟨by have := basL_len (b := b) (w := w) (n := n); omega, fun l hl => ?_⟩
  obtain ⟨e, e1, e2, e3⟩ := basL_mem hl
  rw [e3, cyL_len]; omega
theorem tbL_lim {b w : List Int} {n : Int} (hn : 1 ≤ n ∧ n ≤ 16) : (tbL b w n).length ≤ 16 ∧ ∀ l ∈ tbL b w n, l.length ≤ 16 := by
  have h := (basL_lim (b := b) (w := w) hn).1
  refine ⟨by unfold tbL; simpa using h, fun l hl => ?_⟩
  unfold tbL at hl
  obtain ⟨x, _, rfl⟩ := List.mem_map.1 hl
  unfold rwF
  simpa using h
section
variable {n : Int} {b w : List Int}
theorem c_impl_HomologyBasis (hb : okP b) (hw : okP w) (h0 : isDB n b w = true) : PSpec Tryz.prog 8 [vD n b w] fun v => v = .tup [.own 32 1 (basL b w n).length (vo 2 (basL b w n)), .int .i64 0] := by
  have hl := hb.len
  have hk := hw.len
  have hI := c_impl_IsDessin hb hw (n := n)
  have hB := c_impl_basis hb hw (isDB_iff.1 h0)
  refine impl_HomologyBasis_f.f ?_
  unfold vD at hI hB ⊢
  simp (disch := first | omega | (simp only [LN]; omega)) only [↓EC, EW, seval, ↓reduceIte, impl_HomologyBasis_F, hl, hk]
  refine pcd_v hI ?_
  (try simp (disch := first | omega | (simp only [LN]; omega)) only [↓EC, EW, seval, ↓reduceIte, hl, hk, h0])
  refine pcd_o hB ?_
  (try simp (disch := first | omega | (simp only [LN]; omega)) only [↓EC, EW, seval, ↓reduceIte, hl, hk])
theorem c_impl_HomologyBasis_no (hb : okP b) (hw : okP w) (h0 : isDB n b w = false) : PSpec Tryz.prog 8 [vD n b w] fun v => v = .tup [.nils, .int .i64 1] := by
  have hl := hb.len
  have hk := hw.len
  have hI := c_impl_IsDessin hb hw (n := n)
  refine impl_HomologyBasis_f.f ?_
  unfold vD at hI ⊢
  simp (disch := first | omega | (simp only [LN]; omega)) only [↓EC, EW, seval, ↓reduceIte, impl_HomologyBasis_F, hl, hk]
  refine pcd_v hI ?_
  (try simp (disch := first | omega | (simp only [LN]; omega)) only [↓EC, EW, seval, ↓reduceIte, hl, hk, h0])
theorem c_impl_IntersectionTable (hb : okP b) (hw : okP w) (h0 : isDB n b w = true) : PSpec Tryz.prog 6 [vD n b w] fun v => v = .tup [.own 32 1 (tbL b w n).length (vo 2 (tbL b w n)), .int .i64 0] := by
  have hl := hb.len
  have hk := hw.len
  have hd := isDB_iff.1 h0
  have hn := hd.pb.1
  have hI := c_impl_IsDessin hb hw (n := n)
  have hB := c_impl_basis hb hw hd
  have hmem : ∀ k, k < (basL b w n).length → ((gl (basL b w n) k).length : Int) = n ∧ lmM (gl (basL b w n) k) := fun k hk => by
    obtain ⟨e, e1, e2, e3⟩ := basL_mem (gl_mem hk)
    rw [e3]
    exact ⟨by rw [cyL_len]; omega, cyL_lm hb hw hd e1 e2⟩
  have hmm := fun (i j : Nat) hi hj => c_impl_intersection (x := gl (basL b w n) i) (y := gl (basL b w n) j) hb hw hd (hmem i hi).1 (hmem j hj).1 (hmem i hi).2 (hmem j hj).2
  have hbl := basL_len (b := b) (w := w) (n := n)
  refine impl_IntersectionTable_f.f ?_
  unfold tbL
  unfold vD at hI hB hmm ⊢
  simp (disch := first | omega | (simp only [LN]; omega)) only [↓EC, EW, seval, ↓reduceIte, impl_IntersectionTable_F, hl, hk]
  refine pcd_v hI ?_
  (try simp (disch := first | omega | (simp only [LN]; omega)) only [↓EC, EW, seval, ↓reduceIte, hl, hk, h0])
  refine pcd_v hB ?_
  (try simp (disch := first | omega | (simp only [LN]; omega)) only [↓EC, EW, seval, ↓reduceIte, hl, hk])
  generalize basL b w n = B at *
  refine LP_ofE (σ := Nat) [1, 1] 100000 [(65, 27, 1)] (fun k => [.own 32 1 k (vo 2 ((B.take k).map (rwF b w n B))), .int .i64 k]) (fun k => [.int .i64 n :: vi .u8 (b ++ w)])
    (fun k => k ≤ B.length) (fun k => B.length - k) 0 (by simp [frameOk, names, lpz, sclp, scv, scvs, nrfs, nrf, FRB]) (Nat.zero_le _) ?_ ?_
  · simp (disch := first | omega | (simp only [LN]; omega)) only [↓EC, EW, seval, ↓reduceIte, ColV_def]
    exact ⟨fun _ => trivial, trivial⟩
  · rintro k k1
    have hml : ((B.take k).map (rwF b w n B)).length = k := by simp; omega
    simp (disch := first | omega | (simp only [LN]; omega)) only [↓EC, EW, seval, ↓reduceIte, ColV_def, lheap_def, hl, hk, hml]
    (refine Split.mk (fun h => ?_) (fun h => ?_) <;> (try simp only [SD] at h))
    · have hkb : k < B.length := by omega
      (try simp (disch := first | omega | (simp only [LN]; omega)) only [↓EC, EW, seval, ↓reduceIte, hl, hk, hml])
      refine LP_ofE (σ := Nat) [1, 1] 200000 [(65, 27, 1), (100000, 32, 1)] (fun j => [.own 2 1 j (vi .i64 ((B.take j).map (meetV b w n (gl B k)))), .int .i64 j]) (fun j => [.int .i64 n :: vi .u8 (b ++ w), vo 2 ((B.take k).map (rwF b w n B))])
        (fun j => j ≤ B.length) (fun j => B.length - j) 0 (by simp [frameOk, names, lpz, sclp, scv, scvs, nrfs, nrf, FRB]) (Nat.zero_le _) ?_ ?_
      · simp (disch := first | omega | (simp only [LN]; omega)) only [↓EC, EW, seval, ↓reduceIte, ColV_def]
        first | exact ⟨fun _ => trivial, trivial⟩ | exact ⟨fun _ => trivial, rfl⟩ | exact ⟨fun _ => trivial, rfl, rfl⟩ | trace_state
      · rintro j j1
        have hrl : ((B.take j).map (meetV b w n (gl B k))).length = j := by simp; omega
        simp (disch := first | omega | (simp only [LN]; omega)) only [↓EC, EW, seval, ↓reduceIte, ColV_def, lheap_def, hl, hk, hml, hrl]
        (refine Split.mk (fun h => ?_) (fun h => ?_) <;> (try simp only [SD] at h))
        · have hjb : j < B.length := by omega
          (try simp (disch := first | omega | (simp only [LN]; omega)) only [↓EC, EW, seval, ↓reduceIte, hl, hk, hml, hrl])
          refine pcd_v (hmm k j hkb hjb) ?_
          (try simp (disch := first | omega | (simp only [LN]; omega)) only [↓EC, EW, seval, ↓reduceIte, hl, hk, hml, hrl])
          refine ⟨j + 1, ?_, by omega, by omega⟩
          rw [take_gl hjb, List.map_append]
          simp [vi]
        · have hjb : j = B.length := by omega
          subst hjb
          (try simp (disch := first | omega | (simp only [LN]; omega)) only [↓EC, EW, seval, ↓reduceIte, hl, hk, hml, hrl])
          refine ⟨k + 1, ?_, by omega, by omega⟩
          rw [take_gl hkb, List.map_append]
          simp [rwF]
    · have hkb : k = B.length := by omega
      subst hkb
      (try simp (disch := first | omega | (simp only [LN]; omega)) only [↓EC, EW, seval, ↓reduceIte, hl, hk])
      simp
theorem c_impl_IntersectionTable_no (hb : okP b) (hw : okP w) (h0 : isDB n b w = false) : PSpec Tryz.prog 6 [vD n b w] fun v => v = .tup [.nils, .int .i64 1] := by
  have hl := hb.len
  have hk := hw.len
  have hI := c_impl_IsDessin hb hw (n := n)
  refine impl_IntersectionTable_f.f ?_
  unfold vD at hI ⊢
  simp (disch := first | omega | (simp only [LN]; omega)) only [↓EC, EW, seval, ↓reduceIte, impl_IntersectionTable_F, hl, hk]
  refine pcd_v hI ?_
  (try simp (disch := first | omega | (simp only [LN]; omega)) only [↓EC, EW, seval, ↓reduceIte, hl, hk, h0])
theorem c_spec_HomologyBasis (hb : okP b) (hw : okP w) (h0 : isDB n b w = true) : PSpec Tryz.prog 9 [vD n b w] fun v => v = .tup [.own 32 1 (basL b w n).length (vo 2 (basL b w n)), .int .i64 0] := by
  have hl := hb.len
  have hk := hw.len
  have hI := c_spec_l01Is hb hw (n := n)
  have hB := c_spec_l09Basis hb hw (isDB_iff.1 h0)
  refine spec_HomologyBasis_f.f ?_
  unfold vD at hI hB ⊢
  simp (disch := first | omega | (simp only [LN]; omega)) only [↓EC, EW, seval, ↓reduceIte, spec_HomologyBasis_F, hl, hk]
  refine pcd_v hI ?_
  (try simp (disch := first | omega | (simp only [LN]; omega)) only [↓EC, EW, seval, ↓reduceIte, hl, hk, h0])
  refine pcd_o hB ?_
  (try simp (disch := first | omega | (simp only [LN]; omega)) only [↓EC, EW, seval, ↓reduceIte, hl, hk])
theorem c_spec_HomologyBasis_no (hb : okP b) (hw : okP w) (h0 : isDB n b w = false) : PSpec Tryz.prog 9 [vD n b w] fun v => v = .tup [.nils, .int .i64 1] := by
  have hl := hb.len
  have hk := hw.len
  have hI := c_spec_l01Is hb hw (n := n)
  refine spec_HomologyBasis_f.f ?_
  unfold vD at hI ⊢
  simp (disch := first | omega | (simp only [LN]; omega)) only [↓EC, EW, seval, ↓reduceIte, spec_HomologyBasis_F, hl, hk]
  refine pcd_v hI ?_
  (try simp (disch := first | omega | (simp only [LN]; omega)) only [↓EC, EW, seval, ↓reduceIte, hl, hk, h0])
theorem c_spec_IntersectionTable (hb : okP b) (hw : okP w) (h0 : isDB n b w = true) : PSpec Tryz.prog 7 [vD n b w] fun v => v = .tup [.own 32 1 (tbL b w n).length (vo 2 (tbL b w n)), .int .i64 0] := by
  have hl := hb.len
  have hk := hw.len
  have hd := isDB_iff.1 h0
  have hn := hd.pb.1
  have hI := c_spec_l01Is hb hw (n := n)
  have hB := c_spec_l09Basis hb hw hd
  have hmem : ∀ k, k < (basL b w n).length → ((gl (basL b w n) k).length : Int) = n ∧ lmM (gl (basL b w n) k) := fun k hk => by
    obtain ⟨e, e1, e2, e3⟩ := basL_mem (gl_mem hk)
    rw [e3]
    exact ⟨by rw [cyL_len]; omega, cyL_lm hb hw hd e1 e2⟩
  have hmm := fun (i j : Nat) hi hj => c_spec_l09Meet (x := gl (basL b w n) i) (y := gl (basL b w n) j) hb hw hd (hmem i hi).1 (hmem j hj).1 (hmem i hi).2 (hmem j hj).2
  have hbl := basL_len (b := b) (w := w) (n := n)
  refine spec_IntersectionTable_f.f ?_
  unfold tbL
  unfold vD at hI hB hmm ⊢
  simp (disch := first | omega | (simp only [LN]; omega)) only [↓EC, EW, seval, ↓reduceIte, spec_IntersectionTable_F, hl, hk]
  refine pcd_v hI ?_
  (try simp (disch := first | omega | (simp only [LN]; omega)) only [↓EC, EW, seval, ↓reduceIte, hl, hk, h0])
  refine pcd_v hB ?_
  (try simp (disch := first | omega | (simp only [LN]; omega)) only [↓EC, EW, seval, ↓reduceIte, hl, hk])
  generalize basL b w n = B at *
  refine LP_ofE (σ := Nat) [1, 1] 100000 [(65, 27, 1)] (fun k => [.own 32 1 k (vo 2 ((B.take k).map (rwF b w n B))), .int .i64 k]) (fun k => [.int .i64 n :: vi .u8 (b ++ w)])
    (fun k => k ≤ B.length) (fun k => B.length - k) 0 (by simp [frameOk, names, lpz, sclp, scv, scvs, nrfs, nrf, FRB]) (Nat.zero_le _) ?_ ?_
  · simp (disch := first | omega | (simp only [LN]; omega)) only [↓EC, EW, seval, ↓reduceIte, ColV_def]
    exact ⟨fun _ => trivial, trivial⟩
  · rintro k k1
    have hml : ((B.take k).map (rwF b w n B)).length = k := by simp; omega
    simp (disch := first | omega | (simp only [LN]; omega)) only [↓EC, EW, seval, ↓reduceIte, ColV_def, lheap_def, hl, hk, hml]
    (refine Split.mk (fun h => ?_) (fun h => ?_) <;> (try simp only [SD] at h))
    · have hkb : k < B.length := by omega
      (try simp (disch := first | omega | (simp only [LN]; omega)) only [↓EC, EW, seval, ↓reduceIte, hl, hk, hml])
      refine LP_ofE (σ := Nat) [1, 1] 200000 [(65, 27, 1), (100000, 32, 1)] (fun j => [.own 2 1 j (vi .i64 ((B.take j).map (meetV b w n (gl B k)))), .int .i64 j]) (fun j => [.int .i64 n :: vi .u8 (b ++ w), vo 2 ((B.take k).map (rwF b w n B))])
        (fun j => j ≤ B.length) (fun j => B.length - j) 0 (by simp [frameOk, names, lpz, sclp, scv, scvs, nrfs, nrf, FRB]) (Nat.zero_le _) ?_ ?_
      · simp (disch := first | omega | (simp only [LN]; omega)) only [↓EC, EW, seval, ↓reduceIte, ColV_def]
        first | exact ⟨fun _ => trivial, trivial⟩ | exact ⟨fun _ => trivial, rfl⟩ | exact ⟨fun _ => trivial, rfl, rfl⟩ | trace_state
      · rintro j j1
        have hrl : ((B.take j).map (meetV b w n (gl B k))).length = j := by simp; omega
        simp (disch := first | omega | (simp only [LN]; omega)) only [↓EC, EW, seval, ↓reduceIte, ColV_def, lheap_def, hl, hk, hml, hrl]
        (refine Split.mk (fun h => ?_) (fun h => ?_) <;> (try simp only [SD] at h))
        · have hjb : j < B.length := by omega
          (try simp (disch := first | omega | (simp only [LN]; omega)) only [↓EC, EW, seval, ↓reduceIte, hl, hk, hml, hrl])
          refine pcd_v (hmm k j hkb hjb) ?_
          (try simp (disch := first | omega | (simp only [LN]; omega)) only [↓EC, EW, seval, ↓reduceIte, hl, hk, hml, hrl])
          refine ⟨j + 1, ?_, by omega, by omega⟩
          rw [take_gl hjb, List.map_append]
          simp [vi]
        · have hjb : j = B.length := by omega
          subst hjb
          (try simp (disch := first | omega | (simp only [LN]; omega)) only [↓EC, EW, seval, ↓reduceIte, hl, hk, hml, hrl])
          refine ⟨k + 1, ?_, by omega, by omega⟩
          rw [take_gl hkb, List.map_append]
          simp [rwF]
    · have hkb : k = B.length := by omega
      subst hkb
      (try simp (disch := first | omega | (simp only [LN]; omega)) only [↓EC, EW, seval, ↓reduceIte, hl, hk])
      simp
theorem c_spec_IntersectionTable_no (hb : okP b) (hw : okP w) (h0 : isDB n b w = false) : PSpec Tryz.prog 7 [vD n b w] fun v => v = .tup [.nils, .int .i64 1] := by
  have hl := hb.len
  have hk := hw.len
  have hI := c_spec_l01Is hb hw (n := n)
  refine spec_IntersectionTable_f.f ?_
  unfold vD at hI ⊢
  simp (disch := first | omega | (simp only [LN]; omega)) only [↓EC, EW, seval, ↓reduceIte, spec_IntersectionTable_F, hl, hk]
  refine pcd_v hI ?_
  (try simp (disch := first | omega | (simp only [LN]; omega)) only [↓EC, EW, seval, ↓reduceIte, hl, hk, h0])
end
end
section
set_option maxHeartbeats 4000000
theorem mvs_viH {bs : List Nat} {h : Hp} {k : IntKind} {l : List Int} : mvs bs h (vi k l) = vi k l := by induction l <;> simp_all [vi, mvs, mv]
theorem c_spec_l09Chains {x : Value} {l : List Int} {a z n : Int} {p q : List Int} (hp : okP p) (hq : okP q) (hs : okS l a) : PSpecM Tryz.prog 45 [.ptr 0 0, vD n p q] [(0, 73, 1)] [srcC x l a z] fun v c =>
    ∃ u a' z', v = .own 2 1 u.length (vi .i64 u) ∧ c = [srcC x l a' z'] ∧ okS l a' ∧ u.length ≤ 17 := by
  have hpl := hp.1
  have hql := hq.1
  refine spec_l09Chains_f.m rfl rfl ?_
  unfold srcC vD
  dsimp only [spec_l09Chains_F, pcal_B, pcalp_B, pcala_B, pcond_B, pgk_B, JN_B, LP_B]
  (refine bni ?_; repeat (refine bnk ?_; (try simp (disch := first | omega | (simp only [LN]; omega)) only [↓EC, EW, seval, ↓reduceIte, ↓EBD, EBE])))
  have hk0 : 0 ≤ (if 16 < (if n < 0 then 0 else n) then 16 else (if n < 0 then 0 else n)) ∧ (if 16 < (if n < 0 then 0 else n) then 16 else (if n < 0 then 0 else n)) ≤ 16 := by (repeat' split) <;> omega
  have hkn : 1 ≤ n ∧ n ≤ 16 → (if 16 < (if n < 0 then 0 else n) then 16 else (if n < 0 then 0 else n)) = n := fun h => by
    rw [if_neg (show ¬ n < 0 by omega), if_neg (by omega)]
  generalize (if 16 < (if n < 0 then 0 else n) then 16 else (if n < 0 then 0 else n)) = k at *
  have hz : (List.replicate k.toNat (0 : Int)).length = k.toNat := by simp
  refine pcd_v (c_spec_l01Is (n := n) (b := p) (w := q) hp hq) ?_
  cases hd : isDB n p q with
  | false =>
    (refine bni ?_; repeat (refine bnk ?_; (try simp (disch := first | omega | (simp only [LN]; omega)) only [↓EC, EW, seval, ↓reduceIte, ↓EBD, EBE])))
    exact ⟨List.replicate k.toNat 0, a, z, by rw [hz], rfl, hs, by rw [hz]; omega⟩
  | true =>
    have D := isDB_iff.1 hd
    have Z := D.dz hp hq
    have hn := D.pb.1
    obtain rfl := hkn hn
    have htl : (treeM p q k).length = 16 := treeM_len
    (refine bni ?_; repeat (refine bnk ?_; (try simp (disch := first | omega | (simp only [LN]; omega)) only [↓EC, EW, seval, ↓reduceIte, ↓EBD, EBE])))
    refine pcd_v (c_spec_l09Tree (n := k) hp hq D) ?_
    (refine bni ?_; repeat (refine bnk ?_; (try simp (disch := first | omega | (simp only [LN]; omega)) only [↓EC, EW, seval, ↓reduceIte, ↓EBD, EBE])))
    refine LPx_of (σ := List Int × Nat × Int × Int) 100000 [(0, 73, 1), (67, 27, 1), (79, 2, 1), (70, 58, 1)] (fun s => [.int .i64 s.2.1]) (fun s => [srcC x l s.2.2.1 s.2.2.2, .int .i64 k :: vi .u8 (p ++ q), vi .i64 s.1, vb (treeM p q k)])
      (fun s => okS l s.2.2.1 ∧ s.1.length = k.toNat ∧ (s.2.1 : Int) ≤ k ∧ ∀ e : Nat, -(4 * (s.2.1 : Int)) ≤ gi s.1 e ∧ gi s.1 e ≤ 4 * s.2.1) (fun s => (k - s.2.1).toNat) (List.replicate k.toNat 0, 0, a, z) (by simp [frameOk, names, lpz, sclp, scv, scvs, nrfs, nrf, FRB]) ⟨hs, hz, by simp only [Int.natCast_zero]; omega, fun e => by rw [gi_rep]; split <;> simp⟩ ?_ ?_
    · (refine bni ?_; repeat (refine bnk ?_; simp (disch := first | omega | (simp only [LN]; omega)) only [↓EC, EW, seval, ↓reduceIte, ↓EBD, EBE, ColV_def, srcC]))
    · rintro ⟨u, i, a, z⟩ ⟨h1, h2, h3, h4⟩
      simp only at h1 h2 h3 h4
      (refine bni ?_; repeat (refine bnk ?_; simp (disch := first | omega | (simp only [LN]; omega)) only [↓EC, EW, seval, ↓reduceIte, ↓EBD, EBE, ColV_def, lheap_def, srcC]))
      (refine Split.mkB (fun h => ?_) (fun h => ?_) <;> (try simp only [SD] at h))
      · have hi : i < k.toNat := by omega
        (refine bni ?_; repeat (refine bnk ?_; (try simp (disch := first | omega | (simp only [LN]; omega)) only [↓EC, EW, seval, ↓reduceIte, ↓EBD, EBE])))
        refine JNx_un ?_
        (refine bni ?_; repeat (refine bnk ?_; (try simp (disch := first | omega | (simp only [LN]; omega)) only [↓EC, EW, seval, ↓reduceIte, ↓EBD, EBE])))
        cases ht : gb (treeM p q k) i with
        | true =>
          (refine bni ?_; repeat (refine bnk ?_; (try simp (disch := first | omega | (simp only [LN]; omega)) only [↓EC, EW, seval, ↓reduceIte, ↓EBD, EBE, ht])))
          exact ⟨(u, i + 1, a, z), by simp, rfl, ⟨h1, h2, by simp only; omega, fun e => by have := h4 e; simp only; omega⟩, by simp only; omega⟩
        | false =>
          (refine bni ?_; repeat (refine bnk ?_; (try simp (disch := first | omega | (simp only [LN]; omega)) only [↓EC, EW, seval, ↓reduceIte, ↓EBD, EBE, ht])))
          (refine pcm [0] rfl ?_; (refine bni ?_; repeat (refine bnk ?_; (try simp (disch := first | omega | (simp only [LN]; omega)) only [↓EC, EW, seval, ↓reduceIte, ↓EBD, EBE]))); refine callM_d (c_spec_l01Next (by assumption) (by omega)) ?_; rintro _ _ ⟨r1, _, _, rfl, rfl, hs_, hr_⟩; (refine bni ?_; repeat (refine bnk ?_; (try simp (disch := first | omega | (simp only [LN]; omega)) only [↓EC, EW, seval, ↓reduceIte, ↓EBD, EBE, srcC]))))
          rename_i a1 z1
          (refine Split.mkB (fun h => ?_) (fun h => ?_) <;> (try simp only [SD] at h))
          · (refine bni ?_; repeat (refine bnk ?_; (try simp (disch := first | omega | (simp only [LN]; omega)) only [↓EC, EW, seval, ↓reduceIte, ↓EBD, EBE])))
            (refine pcma [0] rfl ?_; (refine bni ?_; repeat (refine bnk ?_; (try simp (disch := first | omega | (simp only [LN]; omega)) only [↓EC, EW, seval, ↓reduceIte, ↓EBD, EBE]))); refine callM_d (c_spec_l01Next (by assumption) (by omega)) ?_; rintro _ _ ⟨r2, _, _, rfl, rfl, hs_, hr_⟩; (refine bni ?_; repeat (refine bnk ?_; (try simp (disch := first | omega | (simp only [LN]; omega)) only [↓EC, EW, seval, ↓reduceIte, ↓EBD, EBE, srcC]))))
            (refine pcma [0] rfl ?_; (refine bni ?_; repeat (refine bnk ?_; (try simp (disch := first | omega | (simp only [LN]; omega)) only [↓EC, EW, seval, ↓reduceIte, ↓EBD, EBE]))); refine callM_d (c_spec_l01Pick (m := [1, -1, 2, r2 - 4]) (by assumption) (by simp) (by simp)) ?_; rintro _ _ ⟨y, _, _, hy_, rfl, rfl, hs_⟩; simp only [List.mem_cons, List.not_mem_nil, or_false] at hy_; (refine bni ?_; repeat (refine bnk ?_; (try simp (disch := first | omega | (simp only [LN]; omega)) only [↓EC, EW, seval, ↓reduceIte, ↓EBD, EBE, srcC]))))
            rename_i a3 z3
            have hy : -4 ≤ y ∧ y ≤ 4 := by omega
            refine pcd_v (c_spec_l09Of1 (n := k) hp hq D (x := i) hi ht) ?_
            have hc := cyL_one1 Z hp hq hi ht
            have hcl : (cyL p q k i).length = k.toNat := cyL_len
            generalize cyL p q k i = c at *
            (refine bni ?_; repeat (refine bnk ?_; (try simp (disch := first | omega | (simp only [LN]; omega)) only [↓EC, EW, seval, ↓reduceIte, ↓EBD, EBE])))
            refine LPx_of (σ := List Int × Nat) 200000 [(0, 73, 1), (67, 27, 1), (79, 2, 1), (70, 58, 1)] (fun s => [.int .i64 s.2]) (fun s => [srcC x l a3 z3, .int .i64 k :: vi .u8 (p ++ q), vi .i64 s.1, vb (treeM p q k)])
              (fun s => s.1.length = k.toNat ∧ s.2 ≤ k.toNat ∧ (∀ e : Nat, -(4 * (i : Int) + 4) ≤ gi s.1 e ∧ gi s.1 e ≤ 4 * i + 4) ∧ ∀ e : Nat, s.2 ≤ e → -(4 * (i : Int)) ≤ gi s.1 e ∧ gi s.1 e ≤ 4 * i) (fun s => k.toNat - s.2) (u, 0) (by simp [frameOk, names, lpz, sclp, scv, scvs, nrfs, nrf, FRB]) ⟨h2, Nat.zero_le _, fun e => by have := h4 e; simp only; omega, fun e _ => h4 e⟩ ?_ ?_
            · (refine bni ?_; repeat (refine bnk ?_; simp (disch := first | omega | (simp only [LN]; omega)) only [↓EC, EW, seval, ↓reduceIte, ↓EBD, EBE, ColV_def, srcC]))
            · rintro ⟨u, j⟩ ⟨g1, g2, g3, g4⟩
              simp only at g1 g2 g3 g4
              (refine bni ?_; repeat (refine bnk ?_; simp (disch := first | omega | (simp only [LN]; omega)) only [↓EC, EW, seval, ↓reduceIte, ↓EBD, EBE, ColV_def, lheap_def, srcC]))
              (refine Split.mkB (fun h => ?_) (fun h => ?_) <;> (try simp only [SD] at h))
              · have hj : j < k.toNat := by omega
                have cj := hc j
                have uj := g4 j (Nat.le_refl _)
                have hm : -4 ≤ y * gi c j ∧ y * gi c j ≤ 4 := by
                  have : gi c j = -1 ∨ gi c j = 0 ∨ gi c j = 1 := by omega
                  rcases this with q | q | q <;> rw [q] <;> omega
                (refine bni ?_; repeat (refine bnk ?_; (try simp (disch := first | omega | (simp only [LN]; omega)) only [↓EC, EW, seval, ↓reduceIte, ↓EBD, EBE])))
                refine ⟨(u.set j (gi u j + y * gi c j), j + 1), by simp, by simp, ⟨by simp [g1], by simp only; omega, fun e => ?_, fun e he => ?_⟩, by simp only; omega⟩
                · simp only
                  rw [gi_set]
                  have := g3 e
                  split <;> omega
                · simp only at he ⊢
                  rw [gi_set, if_neg (by omega)]
                  exact g4 e (by omega)
              · (refine bni ?_; repeat (refine bnk ?_; (try simp (disch := first | omega | (simp only [LN]; omega)) only [↓EC, EW, seval, ↓reduceIte, ↓EBD, EBE])))
                exact ⟨(u, i + 1, a3, z3), by simp, rfl, ⟨by assumption, g1, by simp only; omega, fun e => by have := g3 e; simp only; omega⟩, by simp only; omega⟩
          · (refine bni ?_; repeat (refine bnk ?_; (try simp (disch := first | omega | (simp only [LN]; omega)) only [↓EC, EW, seval, ↓reduceIte, ↓EBD, EBE])))
            exact ⟨(u, i + 1, a1, z1), by simp, rfl, ⟨by assumption, h2, by simp only; omega, fun e => by have := h4 e; simp only; omega⟩, by simp only; omega⟩
      · (refine bni ?_; repeat (refine bnk ?_; (try simp (disch := first | omega | (simp only [LN]; omega)) only [↓EC, EW, seval, ↓reduceIte, ↓EBD, EBE])))
        refine JNx_un ?_
        (refine bni ?_; repeat (refine bnk ?_; (try simp (disch := first | omega | (simp only [LN]; omega)) only [↓EC, EW, seval, ↓reduceIte, ↓EBD, EBE])))
        (refine pcm [0] rfl ?_; (refine bni ?_; repeat (refine bnk ?_; (try simp (disch := first | omega | (simp only [LN]; omega)) only [↓EC, EW, seval, ↓reduceIte, ↓EBD, EBE]))); refine callM_d (c_spec_l01Next (by assumption) (by omega)) ?_; rintro _ _ ⟨r5, _, _, rfl, rfl, hs_, hr_⟩; (refine bni ?_; repeat (refine bnk ?_; (try simp (disch := first | omega | (simp only [LN]; omega)) only [↓EC, EW, seval, ↓reduceIte, ↓EBD, EBE, srcC]))))
        (refine Split.mkB (fun h => ?_) (fun h => ?_) <;> (try simp only [SD] at h))
        · (refine bni ?_; repeat (refine bnk ?_; (try simp (disch := first | omega | (simp only [LN]; omega)) only [↓EC, EW, seval, ↓reduceIte, ↓EBD, EBE])))
          (refine pcm [0] rfl ?_; (refine bni ?_; repeat (refine bnk ?_; (try simp (disch := first | omega | (simp only [LN]; omega)) only [↓EC, EW, seval, ↓reduceIte, ↓EBD, EBE]))); refine callM_d (c_spec_l01Next (by assumption) (by omega)) ?_; rintro _ _ ⟨r6, _, _, rfl, rfl, hs_, hr_⟩; (refine bni ?_; repeat (refine bnk ?_; (try simp (disch := first | omega | (simp only [LN]; omega)) only [↓EC, EW, seval, ↓reduceIte, ↓EBD, EBE, srcC]))))
          have hu := h4 r6.toNat
          (refine bni ?_; repeat (refine bnk ?_; (try simp (disch := first | omega | (simp only [LN]; omega)) only [↓EC, EW, seval, ↓reduceIte, ↓EBD, EBE])))
          exact ⟨_, _, _, by rw [List.length_set, h2], rfl, by assumption, by rw [List.length_set]; omega⟩
        · (refine bni ?_; repeat (refine bnk ?_; (try simp (disch := first | omega | (simp only [LN]; omega)) only [↓EC, EW, seval, ↓reduceIte, ↓EBD, EBE])))
          (refine Split.mkB (fun h => ?_) (fun h => ?_) <;> (try simp only [SD] at h))
          · (refine bni ?_; repeat (refine bnk ?_; (try simp (disch := first | omega | (simp only [LN]; omega)) only [↓EC, EW, seval, ↓reduceIte, ↓EBD, EBE])))
            (refine pcm [0] rfl ?_; (refine bni ?_; repeat (refine bnk ?_; (try simp (disch := first | omega | (simp only [LN]; omega)) only [↓EC, EW, seval, ↓reduceIte, ↓EBD, EBE]))); refine callM_d (c_spec_l01Pick (m := [1001, -1001, 1000]) (by assumption) (by simp) (by simp)) ?_; rintro _ _ ⟨y6, _, _, hy_, rfl, rfl, hs_⟩; simp only [List.mem_cons, List.not_mem_nil, or_false] at hy_; (refine bni ?_; repeat (refine bnk ?_; (try simp (disch := first | omega | (simp only [LN]; omega)) only [↓EC, EW, seval, ↓reduceIte, ↓EBD, EBE, srcC]))))
            exact ⟨_, _, _, by rw [List.length_set, h2], rfl, by assumption, by rw [List.length_set]; omega⟩
          · (refine bni ?_; repeat (refine bnk ?_; (try simp (disch := first | omega | (simp only [LN]; omega)) only [↓EC, EW, seval, ↓reduceIte, ↓EBD, EBE])))
            (refine Split.mkB (fun h => ?_) (fun h => ?_) <;> (try simp only [SD] at h))
            · (refine bni ?_; repeat (refine bnk ?_; (try simp (disch := first | omega | (simp only [LN]; omega)) only [↓EC, EW, seval, ↓reduceIte, ↓EBD, EBE])))
              exact ⟨u ++ [0], _, _, by simp [h2], rfl, by assumption, by simp; omega⟩
            · (refine bni ?_; repeat (refine bnk ?_; (try simp (disch := first | omega | (simp only [LN]; omega)) only [↓EC, EW, seval, ↓reduceIte, ↓EBD, EBE])))
              exact ⟨u, _, _, by rw [h2], rfl, by assumption, by omega⟩
theorem c_spec_DrawIntersectionOf {x : Value} {l : List Int} (hB : okB l) : PSpec Tryz.prog 18 [.fz x l] fun v =>
    ∃ n p q u w, v = .tup [vD n p q, .own 2 1 u.length (vi .i64 u), .own 2 1 w.length (vi .i64 w)] ∧ okP p ∧ okP q ∧ u.length ≤ 17 ∧ w.length ≤ 17 := by
  refine spec_DrawIntersectionOf_f.f ?_
  dsimp only [spec_DrawIntersectionOf_F, pcal_B, pcalp_B, pcala_B, pcond_B, pgk_B, JN_B, LP_B]
  (refine bni ?_; repeat (refine bnk ?_; (try simp (disch := first | omega | (simp only [LN]; omega)) only [↓EC, EW, seval, ↓reduceIte, ↓EBD, EBE])))
  refine pcn_q (c_spec_l01From hB) rfl ?_; rintro _ _ ⟨rfl, z, rfl⟩; have hs_ := okS_0 hB; (refine bni ?_; repeat (refine bnk ?_; (try simp (disch := first | omega | (simp only [LN]; omega)) only [↓EC, EW, seval, ↓reduceIte, ↓EBD, EBE, srcC])))
  (refine pcm [72] rfl ?_; (refine bni ?_; repeat (refine bnk ?_; (try simp (disch := first | omega | (simp only [LN]; omega)) only [↓EC, EW, seval, ↓reduceIte, ↓EBD, EBE]))); refine callM_d (c_spec_l09Draw (m := 16) (by omega) (by assumption)) ?_; rintro _ _ ⟨n, p, q, a1, z1, rfl, rfl, hs_, hp, hq, hn, hn'⟩; (refine bni ?_; repeat (refine bnk ?_; (try simp (disch := first | omega | (simp only [LN]; omega)) only [↓EC, EW, seval, ↓reduceIte, ↓EBD, EBE, srcC]))))
  have hpl := hp.1
  have hql := hq.1
  (refine bni ?_; repeat (refine bnk ?_; (try simp (disch := first | omega | (simp only [LN]; omega)) only [↓EC, EW, seval, ↓reduceIte, ↓EBD, EBE, vD])))
  (refine pcma [72] rfl ?_; (refine bni ?_; repeat (refine bnk ?_; (try simp (disch := first | omega | (simp only [LN]; omega)) only [↓EC, EW, seval, ↓reduceIte, ↓EBD, EBE, mvs_viH]))); refine callM_do (c_spec_l09Chains (n := n) hp hq (by assumption)) ?_; rintro _ _ ⟨u, a2, _, rfl, rfl, hs_, hu⟩; (refine bni ?_; repeat (refine bnk ?_; (try simp (disch := first | omega | (simp only [LN]; omega)) only [↓EC, EW, seval, ↓reduceIte, ↓EBD, EBE, srcC, mats_vi]))))
  (refine pcma [72] rfl ?_; (refine bni ?_; repeat (refine bnk ?_; (try simp (disch := first | omega | (simp only [LN]; omega)) only [↓EC, EW, seval, ↓reduceIte, ↓EBD, EBE, mvs_viH]))); refine callM_do (c_spec_l09Chains (n := n) hp hq (by assumption)) ?_; rintro _ _ ⟨w, a3, _, rfl, rfl, hs_, hw⟩; (refine bni ?_; repeat (refine bnk ?_; (try simp (disch := first | omega | (simp only [LN]; omega)) only [↓EC, EW, seval, ↓reduceIte, ↓EBD, EBE, srcC, mats_vi]))))
  exact ⟨n, p, q, u, w, rfl, hp, hq, hu, hw⟩
theorem c_spec_DrawIsCycle {x : Value} {l : List Int} (hB : okB l) : PSpec Tryz.prog 23 [.fz x l] fun v =>
    ∃ n p q u, v = .tup [vD n p q, .own 2 1 u.length (vi .i64 u)] ∧ okP p ∧ okP q ∧ u.length ≤ 17 := by
  refine spec_DrawIsCycle_f.f ?_
  dsimp only [spec_DrawIsCycle_F, pcal_B, pcalp_B, pcala_B, pcond_B, pgk_B, JN_B, LP_B]
  (refine bni ?_; repeat (refine bnk ?_; (try simp (disch := first | omega | (simp only [LN]; omega)) only [↓EC, EW, seval, ↓reduceIte, ↓EBD, EBE])))
  refine pcn_q (c_spec_l01From hB) rfl ?_; rintro _ _ ⟨rfl, z, rfl⟩; have hs_ := okS_0 hB; (refine bni ?_; repeat (refine bnk ?_; (try simp (disch := first | omega | (simp only [LN]; omega)) only [↓EC, EW, seval, ↓reduceIte, ↓EBD, EBE, srcC])))
  (refine pcm [71] rfl ?_; (refine bni ?_; repeat (refine bnk ?_; (try simp (disch := first | omega | (simp only [LN]; omega)) only [↓EC, EW, seval, ↓reduceIte, ↓EBD, EBE]))); refine callM_d (c_spec_l09Draw (m := 16) (by omega) (by assumption)) ?_; rintro _ _ ⟨n, p, q, a1, z1, rfl, rfl, hs_, hp, hq, hn, hn'⟩; (refine bni ?_; repeat (refine bnk ?_; (try simp (disch := first | omega | (simp only [LN]; omega)) only [↓EC, EW, seval, ↓reduceIte, ↓EBD, EBE, srcC]))))
  have hpl := hp.1
  have hql := hq.1
  (refine bni ?_; repeat (refine bnk ?_; (try simp (disch := first | omega | (simp only [LN]; omega)) only [↓EC, EW, seval, ↓reduceIte, ↓EBD, EBE, vD])))
  (refine pcma [71] rfl ?_; (refine bni ?_; repeat (refine bnk ?_; (try simp (disch := first | omega | (simp only [LN]; omega)) only [↓EC, EW, seval, ↓reduceIte, ↓EBD, EBE, mvs_viH]))); refine callM_do (c_spec_l09Chains (n := n) hp hq (by assumption)) ?_; rintro _ _ ⟨u, a2, _, rfl, rfl, hs_, hu⟩; (refine bni ?_; repeat (refine bnk ?_; (try simp (disch := first | omega | (simp only [LN]; omega)) only [↓EC, EW, seval, ↓reduceIte, ↓EBD, EBE, srcC, mats_vi]))))
  exact ⟨n, p, q, u, rfl, hp, hq, hu⟩
theorem c_spec_DrawCycleOfEdge {x : Value} {l : List Int} (hB : okB l) : PSpec Tryz.prog 26 [.fz x l] fun v =>
    ∃ n p q y, v = .tup [vD n p q, .int .i64 y] ∧ okP p ∧ okP q ∧ -10 ≤ y ∧ y ≤ 30 := by
  refine spec_DrawCycleOfEdge_f.f ?_
  dsimp only [spec_DrawCycleOfEdge_F, pcal_B, pcalp_B, pcala_B, pcond_B, pgk_B, JN_B, LP_B]
  (refine bni ?_; repeat (refine bnk ?_; (try simp (disch := first | omega | (simp only [LN]; omega)) only [↓EC, EW, seval, ↓reduceIte, ↓EBD, EBE])))
  refine pcn_q (c_spec_l01From hB) rfl ?_; rintro _ _ ⟨rfl, z, rfl⟩; have hs_ := okS_0 hB; (refine bni ?_; repeat (refine bnk ?_; (try simp (disch := first | omega | (simp only [LN]; omega)) only [↓EC, EW, seval, ↓reduceIte, ↓EBD, EBE, srcC])))
  (refine pcm [71] rfl ?_; (refine bni ?_; repeat (refine bnk ?_; (try simp (disch := first | omega | (simp only [LN]; omega)) only [↓EC, EW, seval, ↓reduceIte, ↓EBD, EBE]))); refine callM_d (c_spec_l09Draw (m := 16) (by omega) (by assumption)) ?_; rintro _ _ ⟨n, p, q, a1, z1, rfl, rfl, hs_, hp, hq, hn, hn'⟩; (refine bni ?_; repeat (refine bnk ?_; (try simp (disch := first | omega | (simp only [LN]; omega)) only [↓EC, EW, seval, ↓reduceIte, ↓EBD, EBE, srcC]))))
  have hpl := hp.1
  have hql := hq.1
  (refine bni ?_; repeat (refine bnk ?_; (try simp (disch := first | omega | (simp only [LN]; omega)) only [↓EC, EW, seval, ↓reduceIte, ↓EBD, EBE, vD])))
  (refine pcma [71] rfl ?_; (refine bni ?_; repeat (refine bnk ?_; (try simp (disch := first | omega | (simp only [LN]; omega)) only [↓EC, EW, seval, ↓reduceIte, ↓EBD, EBE]))); refine callM_d (c_spec_l01Next (by assumption) (by omega)) ?_; rintro _ _ ⟨r1, _, _, rfl, rfl, hs_, hr_⟩; (refine bni ?_; repeat (refine bnk ?_; (try simp (disch := first | omega | (simp only [LN]; omega)) only [↓EC, EW, seval, ↓reduceIte, ↓EBD, EBE, srcC]))))
  have t1 : 0 ≤ r1.tdiv 23 ∧ r1.tdiv 23 ≤ 1 := by
    have h1 : 0 ≤ r1.tdiv 23 := Int.tdiv_nonneg (by omega) (by omega)
    have h3 := Int.mul_tdiv_add_tmod r1 23
    have h4 := Int.tmod_nonneg 23 (show 0 ≤ r1 by omega)
    exact ⟨h1, by omega⟩
  generalize hd1 : r1.tdiv 23 = q1 at *
  (refine bni ?_; repeat (refine bnk ?_; (try simp (disch := first | omega | (simp only [LN]; omega)) only [↓EC, EW, seval, ↓reduceIte, ↓EBD, EBE, hd1])))
  (refine pcma [71] rfl ?_; (refine bni ?_; repeat (refine bnk ?_; (try simp (disch := first | omega | (simp only [LN]; omega)) only [↓EC, EW, seval, ↓reduceIte, ↓EBD, EBE]))); refine callM_d (c_spec_l01Next (by assumption) (by omega)) ?_; rintro _ _ ⟨r2, _, _, rfl, rfl, hs_, hr_⟩; (refine bni ?_; repeat (refine bnk ?_; (try simp (disch := first | omega | (simp only [LN]; omega)) only [↓EC, EW, seval, ↓reduceIte, ↓EBD, EBE, srcC]))))
  (refine pcma [71] rfl ?_; (refine bni ?_; repeat (refine bnk ?_; (try simp (disch := first | omega | (simp only [LN]; omega)) only [↓EC, EW, seval, ↓reduceIte, ↓EBD, EBE]))); refine callM_d (c_spec_l01Next (by assumption) (by omega)) ?_; rintro _ _ ⟨r3, _, _, rfl, rfl, hs_, hr_⟩; (refine bni ?_; repeat (refine bnk ?_; (try simp (disch := first | omega | (simp only [LN]; omega)) only [↓EC, EW, seval, ↓reduceIte, ↓EBD, EBE, srcC]))))
  have t3 : 0 ≤ r3.tdiv 39 ∧ r3.tdiv 39 ≤ 1 := by
    have h1 : 0 ≤ r3.tdiv 39 := Int.tdiv_nonneg (by omega) (by omega)
    have h3 := Int.mul_tdiv_add_tmod r3 39
    have h4 := Int.tmod_nonneg 39 (show 0 ≤ r3 by omega)
    exact ⟨h1, by omega⟩
  generalize hd3 : r3.tdiv 39 = q3 at *
  (refine bni ?_; repeat (refine bnk ?_; (try simp (disch := first | omega | (simp only [LN]; omega)) only [↓EC, EW, seval, ↓reduceIte, ↓EBD, EBE, hd3])))
  exact ⟨n, p, q, _, rfl, hp, hq, by omega, by omega⟩
theorem c_spec_DrawIntersectionTable {x : Value} {l : List Int} (hB : okB l) : PSpec Tryz.prog 5 [.fz x l] fun v =>
    ∃ n p q, v = vD n p q ∧ okP p ∧ okP q := by
  refine spec_DrawIntersectionTable_f.f ?_
  dsimp only [spec_DrawIntersectionTable_F, pcal_B, pcalp_B, pcala_B, pcond_B, pgk_B, JN_B, LP_B]
  (refine bni ?_; repeat (refine bnk ?_; (try simp (disch := first | omega | (simp only [LN]; omega)) only [↓EC, EW, seval, ↓reduceIte, ↓EBD, EBE])))
  refine pcn_q (c_spec_l01From hB) rfl ?_; rintro _ _ ⟨rfl, z, rfl⟩; have hs_ := okS_0 hB; (refine bni ?_; repeat (refine bnk ?_; (try simp (disch := first | omega | (simp only [LN]; omega)) only [↓EC, EW, seval, ↓reduceIte, ↓EBD, EBE, srcC])))
  (refine pcm [68] rfl ?_; (refine bni ?_; repeat (refine bnk ?_; (try simp (disch := first | omega | (simp only [LN]; omega)) only [↓EC, EW, seval, ↓reduceIte, ↓EBD, EBE]))); refine callM_d (c_spec_l09Draw (m := 16) (by omega) (by assumption)) ?_; rintro _ _ ⟨n, p, q, a1, z1, rfl, rfl, hs_, hp, hq, hn, hn'⟩; (refine bni ?_; repeat (refine bnk ?_; (try simp (disch := first | omega | (simp only [LN]; omega)) only [↓EC, EW, seval, ↓reduceIte, ↓EBD, EBE, srcC]))))
  have hpl := hp.1
  have hql := hq.1
  (refine bni ?_; repeat (refine bnk ?_; (try simp (disch := first | omega | (simp only [LN]; omega)) only [↓EC, EW, seval, ↓reduceIte, ↓EBD, EBE, vD])))
  exact ⟨n, p, q, rfl, hp, hq⟩
theorem c_spec_DrawIsBounding {x : Value} {l : List Int} (hB : okB l) : PSpec Tryz.prog 21 [.fz x l] fun v =>
    ∃ n p q u, v = .tup [vD n p q, .own 2 1 u.length (vi .i64 u)] ∧ okP p ∧ okP q ∧ u.length ≤ 17 := by
  refine spec_DrawIsBounding_f.f ?_
  dsimp only [spec_DrawIsBounding_F, pcal_B, pcalp_B, pcala_B, pcond_B, pgk_B, JN_B, LP_B]
  (refine bni ?_; repeat (refine bnk ?_; (try simp (disch := first | omega | (simp only [LN]; omega)) only [↓EC, EW, seval, ↓reduceIte, ↓EBD, EBE])))
  refine pcn_q (c_spec_l01From hB) rfl ?_; rintro _ _ ⟨rfl, z, rfl⟩; have hs_ := okS_0 hB; (refine bni ?_; repeat (refine bnk ?_; (try simp (disch := first | omega | (simp only [LN]; omega)) only [↓EC, EW, seval, ↓reduceIte, ↓EBD, EBE, srcC])))
  (refine pcm [73] rfl ?_; (refine bni ?_; repeat (refine bnk ?_; (try simp (disch := first | omega | (simp only [LN]; omega)) only [↓EC, EW, seval, ↓reduceIte, ↓EBD, EBE]))); refine callM_d (c_spec_l09Draw (m := 16) (by omega) (by assumption)) ?_; rintro _ _ ⟨n, p, q, a1, z1, rfl, rfl, hs_, hp, hq, hn, hn'⟩; (refine bni ?_; repeat (refine bnk ?_; (try simp (disch := first | omega | (simp only [LN]; omega)) only [↓EC, EW, seval, ↓reduceIte, ↓EBD, EBE, srcC]))))
  have hpl := hp.1
  have hql := hq.1
  (refine bni ?_; repeat (refine bnk ?_; (try simp (disch := first | omega | (simp only [LN]; omega)) only [↓EC, EW, seval, ↓reduceIte, ↓EBD, EBE, vD])))
  refine pcd_v (c_spec_l01Is (n := n) (b := p) (w := q) hp hq) ?_
  cases hd : isDB n p q with
  | false =>
    (refine bni ?_; repeat (refine bnk ?_; (try simp (disch := first | omega | (simp only [LN]; omega)) only [↓EC, EW, seval, ↓reduceIte, ↓EBD, EBE])))
    (refine pcma [73] rfl ?_; (refine bni ?_; repeat (refine bnk ?_; (try simp (disch := first | omega | (simp only [LN]; omega)) only [↓EC, EW, seval, ↓reduceIte, ↓EBD, EBE, mvs_viH]))); refine callM_do (c_spec_l09Chains (n := n) hp hq (by assumption)) ?_; rintro _ _ ⟨u, a2, _, rfl, rfl, hs_, hu⟩; (refine bni ?_; repeat (refine bnk ?_; (try simp (disch := first | omega | (simp only [LN]; omega)) only [↓EC, EW, seval, ↓reduceIte, ↓EBD, EBE, srcC, mats_vi]))))
    exact ⟨n, p, q, u, rfl, hp, hq, hu⟩
  | true =>
    (refine bni ?_; repeat (refine bnk ?_; (try simp (disch := first | omega | (simp only [LN]; omega)) only [↓EC, EW, seval, ↓reduceIte, ↓EBD, EBE])))
    (refine pcm [73] rfl ?_; (refine bni ?_; repeat (refine bnk ?_; (try simp (disch := first | omega | (simp only [LN]; omega)) only [↓EC, EW, seval, ↓reduceIte, ↓EBD, EBE]))); refine callM_d (c_spec_l01Next (by assumption) (by omega)) ?_; rintro _ _ ⟨r1, _, _, rfl, rfl, hs_, hr_⟩; (refine bni ?_; repeat (refine bnk ?_; (try simp (disch := first | omega | (simp only [LN]; omega)) only [↓EC, EW, seval, ↓reduceIte, ↓EBD, EBE, srcC]))))
    (refine Split.mkB (fun h => ?_) (fun h => ?_) <;> (try simp only [SD] at h))
    · (refine bni ?_; repeat (refine bnk ?_; (try simp (disch := first | omega | (simp only [LN]; omega)) only [↓EC, EW, seval, ↓reduceIte, ↓EBD, EBE])))
      have hbl := bndL_lim (b := p) (w := q) (n := n) (isDB_iff.1 hd).pb.1
      refine pcd_o (c_spec_BoundariesOf (n := n) hp hq hd) ?_
      (refine bni ?_; repeat (refine bnk ?_; (try simp (disch := first | omega | (simp only [LN]; omega)) only [↓EC, EW, seval, ↓reduceIte, ↓EBD, EBE])))
      (refine pcma [73] rfl ?_; (refine bni ?_; repeat (refine bnk ?_; (try simp (disch := first | omega | (simp only [LN]; omega)) only [↓EC, EW, seval, ↓reduceIte, ↓EBD, EBE]))); refine callM_d (c_spec_l01Next (by assumption) (by omega)) ?_; rintro _ _ ⟨r2, _, _, rfl, rfl, hs_, hr_⟩; (refine bni ?_; repeat (refine bnk ?_; (try simp (disch := first | omega | (simp only [LN]; omega)) only [↓EC, EW, seval, ↓reduceIte, ↓EBD, EBE, srcC]))))
      have hpos := cyc_pos (p := faceP p q n) (isDB_iff.1 hd).pb.1
      have hble : (bndL p q n).length = (cyc (faceP p q n) n).length := bnd_len
      refine ⟨by omega, by omega, ?_⟩
      (refine bni ?_; repeat (refine bnk ?_; (try simp (disch := first | omega | (simp only [LN]; omega)) only [↓EC, EW, seval, ↓reduceIte, ↓EBD, EBE])))
      refine ldc_open 1000 (by decide) ?_
      (refine bni ?_; repeat (refine bnk ?_; (try simp (disch := first | omega | (simp only [LN]; omega)) only [↓EC, EW, seval, ↓reduceIte, ↓EBD, EBE])))
      exact ⟨n, p, q, gl (bndL p q n) r2.toNat, rfl, hp, hq, by have := hbl.2 _ (gl_mem (ls := bndL p q n) (i := r2.toNat) (by omega)); omega⟩
    · (refine bni ?_; repeat (refine bnk ?_; (try simp (disch := first | omega | (simp only [LN]; omega)) only [↓EC, EW, seval, ↓reduceIte, ↓EBD, EBE])))
      (refine pcma [73] rfl ?_; (refine bni ?_; repeat (refine bnk ?_; (try simp (disch := first | omega | (simp only [LN]; omega)) only [↓EC, EW, seval, ↓reduceIte, ↓EBD, EBE, mvs_viH]))); refine callM_do (c_spec_l09Chains (n := n) hp hq (by assumption)) ?_; rintro _ _ ⟨u, a2, _, rfl, rfl, hs_, hu⟩; (refine bni ?_; repeat (refine bnk ?_; (try simp (disch := first | omega | (simp only [LN]; omega)) only [↓EC, EW, seval, ↓reduceIte, ↓EBD, EBE, srcC, mats_vi]))))
      exact ⟨n, p, q, u, rfl, hp, hq, hu⟩
end
section

end
section

end
section

end
section

end
section
set_option maxHeartbeats 1000000
theorem c_isNaN {x : Int} : PSpec Tryz.prog 108 [.int .i64 x] fun v => v = .bool false := by
  refine cmp_isNaN_int64_f.f ?_
  simp (disch := first | omega | (simp only [LN]; omega)) only [↓EC, EW, seval, ↓reduceIte, cmp_isNaN_int64_F]
  simp
theorem c_less {x y : Int} : PSpec Tryz.prog 98 [.int .i64 x, .int .i64 y] fun v => v = .bool (decide (x < y)) := by
  refine cmp_Less_int64_f.f ?_
  simp (disch := first | omega | (simp only [LN]; omega)) only [↓EC, EW, seval, ↓reduceIte, cmp_Less_int64_F]
  refine pcd_v c_isNaN ?_
  (try simp (disch := first | omega | (simp only [LN]; omega)) only [↓EC, EW, seval, ↓reduceIte])
end
end Go.Proofs.YtpeglkcbhffaaaaGreat.Sep

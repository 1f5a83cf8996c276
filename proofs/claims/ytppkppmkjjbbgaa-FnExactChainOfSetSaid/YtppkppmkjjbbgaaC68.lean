/- Leaving out doubles: slices.Compact; the image of a set. -/
import Derived.Test.YtppkppmkjjbbgaaC67
namespace Go.Proofs.Ytppkppmkjjbbgaa.Sep
open Go.RowKit
set_option linter.unusedVariables false
set_option linter.unusedSimpArgs false
set_option maxRecDepth 20000
set_option maxHeartbeats 4000000

theorem callMR_q {P : Program} {f : FuncId} {h : Hp} {K : V → Hp → Prop} {bs : List Nat} {bx : List (Nat × TypeId × Nat)} {cells : List (List V)} {ws : List V} {Φ : Nat → Nat → Nat → List (List V) → Prop}
    (hs : PSpecMR P f ws bx cells Φ) (hK : ∀ j o n cs, Φ j o n cs → ∀ b, bs[j]? = some b → K (.rf b o n) (hputs2 h bs bx cs)) : CallMR P f h K bs bx cells ws := ⟨Φ, hs, hK⟩
theorem v2_drop {k : IntKind} {l : List (Int × Int)} {i : Nat} (h : i ≤ l.length) : (v2 k l).drop (i * 2) = v2 k (l.drop i) := vr_drop (r := R2) h
theorem v2_take {k : IntKind} {l : List (Int × Int)} {i : Nat} (h : i ≤ l.length) : (v2 k l).take (i * 2) = v2 k (l.take i) := vr_take (r := R2) h
theorem ddF_same {l : List (Int × Int)} {i : Nat} (h : g2 l (i + 1) = g2 l i) : ddF l (i + 2) = ddF l (i + 1) := by simp only [ddF]; rw [if_pos h]
theorem ddF_more {l : List (Int × Int)} {i : Nat} (h : g2 l (i + 1) ≠ g2 l i) : ddF l (i + 2) = ddF l (i + 1) ++ [g2 l (i + 1)] := by simp only [ddF]; rw [if_neg h]
theorem ddF_take {l : List (Int × Int)} {i : Nat} (hi : i ≤ l.length) (h : ∀ q, 0 < q → q < i → g2 l q ≠ g2 l (q - 1)) : ddF l i = l.take i := by
  induction i with
  | zero => simp [ddF]
  | succ i ih =>
    have e : l.take (i + 1) = l.take i ++ [g2 l i] := by rw [← List.take_append_getElem (by omega), g2_of (by omega)]
    rw [e, ← ih (by omega) (fun q h1 h2 => h q h1 (by omega))]
    cases i with
    | zero => simp [ddF]
    | succ i => exact ddF_more (h (i + 1) (by omega) (by omega))
theorem setV_genF {cs vs : List V} {off : Nat} (h : off + vs.length ≤ cs.length) : setV cs off vs = cs.take off ++ vs ++ cs.drop (off + vs.length) := by
  unfold setV
  split
  · rename_i v
    rw [List.set_eq_take_append_cons_drop, if_pos (by simp at h; omega)]
    simp
  · rfl
theorem setV_v2 {k : IntKind} {m : List (Int × Int)} {w r : Nat} (h : w + r = m.length) : setV (v2 k m) (w * 2) (v2 k (List.replicate r (0, 0))) = v2 k (m.take w ++ List.replicate r (0, 0)) := by
  rw [setV_genF (by rw [v2_len, v2_len, List.length_replicate]; omega), v2_take (by omega), v2_len, List.length_replicate, List.drop_of_length_le (by rw [v2_len]; omega), List.append_nil, v2_app]
theorem add_two (a b : Nat) : a * 2 + b * 2 = (a + b) * 2 := by omega
theorem c_Compact {l : List (Int × Int)} {n : Nat} (hn : l.length = n) (hl : n ≤ 12) :
    PSpecMR Try.prog 73 [.rf 0 0 n] [(0, 36, 2)] [v2 .i64 l]
      fun j o k c => j = 0 ∧ o = 0 ∧ k = (ddF l n).length ∧ ∃ m, c = [v2 .i64 m] ∧ m.length = n ∧ m.take k = ddF l n := by
  subst hn
  refine slices_Compact_impl_Fraction_impl_Fraction_f.mr rfl rfl ?_
  simp (disch := first | omega | (simp only [List.length_append, List.length_cons, List.length_nil, List.length_replicate, List.length_set, List.length_take, List.length_drop, vi_len, vb_len, vo_len, vl_len, vn_len]; omega)) only [↓EC, EV, EL, E2, E3, ER, seval, ↓reduceIte, false_imp_iff, slices_Compact_impl_Fraction_impl_Fraction_F]
  (refine Split.mk (fun h => ?_) (fun h => ?_) <;> (try simp only [decide_eq_true_eq, decide_eq_false_iff_not, beq_iff_eq, bne_iff_ne, beq_eq_false_iff_ne, bne_eq_false_iff_eq, Bool.not_eq_true', Bool.not_eq_false', Bool.and_eq_true, Bool.or_eq_true, Bool.and_eq_false_iff, Bool.or_eq_false_iff, Int.not_lt, Int.not_le, Bool.false_eq_true, Bool.true_eq_false, false_and, and_false, true_and, and_true, or_false, false_or, or_true, true_or, not_true_eq_false, not_false_eq_true] at h))
  · (try simp (disch := first | omega | (simp only [List.length_append, List.length_cons, List.length_nil, List.length_replicate, List.length_set, List.length_take, List.length_drop, vi_len, vb_len, vo_len, vl_len, vn_len]; omega)) only [↓EC, EV, EL, E2, E3, ER, seval, ↓reduceIte, false_imp_iff])
    have e : ddF l l.length = l := by rw [ddF_take (Nat.le_refl _) (fun q h1 h2 => by omega), List.take_length]
    exact ⟨rfl, by rw [e], l, rfl, rfl, by rw [List.take_length, e]⟩
  · (try simp (disch := first | omega | (simp only [List.length_append, List.length_cons, List.length_nil, List.length_replicate, List.length_set, List.length_take, List.length_drop, vi_len, vb_len, vo_len, vl_len, vn_len]; omega)) only [↓EC, EV, EL, E2, E3, ER, seval, ↓reduceIte, false_imp_iff])
    refine LP_of (σ := Nat) 100000 [(0, 36, 2)] (fun s => [.int .i64 s]) (fun s => [v2 .i64 l])
      (fun s => 1 ≤ s ∧ s ≤ l.length ∧ ∀ q, 0 < q → q < s → g2 l q ≠ g2 l (q - 1)) (fun s => l.length - s) 1 (by simp [frameOk, names, lpz, sclp, scv, scvs, vi_nrf, vb_nrf, vt_nrf, v2_nrf, v3_nrf, nrfs, nrf, sc_vi, sc_vb, sc_vt, sc_v2, sc_v3, sc_vo, sc_vl, vo_nrf, vl_nrf, sc_vn, vn_nrf]) ⟨by simp, by omega, fun q h1 h2 => by omega⟩ ?_ ?_
    · simp (disch := first | omega | (simp only [List.length_append, List.length_cons, List.length_nil, List.length_replicate, List.length_set, List.length_take, List.length_drop, vi_len, vb_len, vo_len, vl_len, vn_len]; omega)) only [↓EC, EV, EL, E2, E3, ER, seval, ↓reduceIte, false_imp_iff, ColV_def]
    · rintro k ⟨h1, h2, h3⟩
      have hk1 : ((k : Int) - 1).toNat = k - 1 := by omega
      simp (disch := first | omega | (simp only [List.length_append, List.length_cons, List.length_nil, List.length_replicate, List.length_set, List.length_take, List.length_drop, vi_len, vb_len, vo_len, vl_len, vn_len]; omega)) only [↓EC, EV, EL, E2, E3, ER, seval, ↓reduceIte, false_imp_iff, ColV_def, lheap_def, hk1]
      (refine Split.mk (fun h => ?_) (fun h => ?_) <;> (try simp only [decide_eq_true_eq, decide_eq_false_iff_not, beq_iff_eq, bne_iff_ne, beq_eq_false_iff_ne, bne_eq_false_iff_eq, Bool.not_eq_true', Bool.not_eq_false', Bool.and_eq_true, Bool.or_eq_true, Bool.and_eq_false_iff, Bool.or_eq_false_iff, Int.not_lt, Int.not_le, Bool.false_eq_true, Bool.true_eq_false, false_and, and_false, true_and, and_true, or_false, false_or, or_true, true_or, not_true_eq_false, not_false_eq_true] at h))
      · (try simp (disch := first | omega | (simp only [List.length_append, List.length_cons, List.length_nil, List.length_replicate, List.length_set, List.length_take, List.length_drop, vi_len, vb_len, vo_len, vl_len, vn_len]; omega)) only [↓EC, EV, EL, E2, E3, ER, seval, ↓reduceIte, false_imp_iff, hk1])
        (refine Split.mk (fun h => ?_) (fun h => ?_) <;> (try simp only [decide_eq_true_eq, decide_eq_false_iff_not, beq_iff_eq, bne_iff_ne, beq_eq_false_iff_ne, bne_eq_false_iff_eq, Bool.not_eq_true', Bool.not_eq_false', Bool.and_eq_true, Bool.or_eq_true, Bool.and_eq_false_iff, Bool.or_eq_false_iff, Int.not_lt, Int.not_le, Bool.false_eq_true, Bool.true_eq_false, false_and, and_false, true_and, and_true, or_false, false_or, or_true, true_or, not_true_eq_false, not_false_eq_true] at h))
        · have hkk : g2 l (k - 1 + 1) = g2 l (k - 1) := by rw [show k - 1 + 1 = k by omega]; exact Prod.ext h.1 h.2
          have ek := ddF_take (l := l) h2 h3
          have ek1 : ddF l (k + 1) = ddF l k := by
            have := ddF_same hkk
            rwa [show k - 1 + 2 = k + 1 by omega, show k - 1 + 1 = k by omega] at this
          refine LP_of (σ := Nat × Nat × List (Int × Int)) 200000 [(0, 36, 2)] (fun s => [.int .i64 s.1, .int .i64 s.2.1]) (fun s => [v2 .i64 s.2.2])
            (fun s => (1 ≤ s.2.1 ∧ k + s.2.1 ≤ l.length) ∧ s.2.2.length = l.length ∧ (s.1 = (ddF l (k + s.2.1)).length ∧ s.1 ≤ k + s.2.1 - 1) ∧ s.2.2.take s.1 = ddF l (k + s.2.1) ∧ ∀ q, k + s.2.1 - 1 ≤ q → q < l.length → g2 s.2.2 q = g2 l q)
            (fun s => l.length - s.2.1) (k, 1, l) (by simp [frameOk, names, lpz, sclp, scv, scvs, vi_nrf, vb_nrf, vt_nrf, v2_nrf, v3_nrf, nrfs, nrf, sc_vi, sc_vb, sc_vt, sc_v2, sc_v3, sc_vo, sc_vl, vo_nrf, vl_nrf, sc_vn, vn_nrf]) ⟨⟨by simp, by simp only; omega⟩, rfl, ⟨by simp only; rw [ek1, ek, List.length_take]; omega, by simp⟩, by simp only; rw [ek1, ek], fun q _ _ => rfl⟩ ?_ ?_
          · simp (disch := first | omega | (simp only [List.length_append, List.length_cons, List.length_nil, List.length_replicate, List.length_set, List.length_take, List.length_drop, vi_len, vb_len, vo_len, vl_len, vn_len]; omega)) only [↓EC, EV, EL, E2, E3, ER, seval, ↓reduceIte, false_imp_iff, ColV_def]
          · rintro ⟨w, k2, m⟩ ⟨⟨g1, g2'⟩, g3', ⟨g4, g5⟩, g6, g7⟩
            simp only at g1 g2' g3' g4 g5 g6 g7
            have hk2 : ((k2 : Int) - 1).toNat = k2 - 1 := by omega
            simp (disch := first | omega | (simp only [List.length_append, List.length_cons, List.length_nil, List.length_replicate, List.length_set, List.length_take, List.length_drop, vi_len, vb_len, vo_len, vl_len, vn_len]; omega)) only [↓EC, EV, EL, E2, E3, ER, seval, ↓reduceIte, false_imp_iff, ColV_def, lheap_def, hk2, add_two]
            (refine Split.mk (fun h => ?_) (fun h => ?_) <;> (try simp only [decide_eq_true_eq, decide_eq_false_iff_not, beq_iff_eq, bne_iff_ne, beq_eq_false_iff_ne, bne_eq_false_iff_eq, Bool.not_eq_true', Bool.not_eq_false', Bool.and_eq_true, Bool.or_eq_true, Bool.and_eq_false_iff, Bool.or_eq_false_iff, Int.not_lt, Int.not_le, Bool.false_eq_true, Bool.true_eq_false, false_and, and_false, true_and, and_true, or_false, false_or, or_true, true_or, not_true_eq_false, not_false_eq_true] at h))
            · have gk : k + k2 < l.length := by omega
              have q1 : g2 m (k + k2) = g2 l (k + k2) := g7 _ (by omega) gk
              have q2 : g2 m (k + (k2 - 1)) = g2 l (k + (k2 - 1)) := g7 _ (by omega) (by omega)
              (try simp (disch := first | omega | (simp only [List.length_append, List.length_cons, List.length_nil, List.length_replicate, List.length_set, List.length_take, List.length_drop, vi_len, vb_len, vo_len, vl_len, vn_len]; omega)) only [↓EC, EV, EL, E2, E3, ER, seval, ↓reduceIte, false_imp_iff, hk2, add_two, q1, q2])
              (refine Split.mk (fun h => ?_) (fun h => ?_) <;> (try simp only [decide_eq_true_eq, decide_eq_false_iff_not, beq_iff_eq, bne_iff_ne, beq_eq_false_iff_ne, bne_eq_false_iff_eq, Bool.not_eq_true', Bool.not_eq_false', Bool.and_eq_true, Bool.or_eq_true, Bool.and_eq_false_iff, Bool.or_eq_false_iff, Int.not_lt, Int.not_le, Bool.false_eq_true, Bool.true_eq_false, false_and, and_false, true_and, and_true, or_false, false_or, or_true, true_or, not_true_eq_false, not_false_eq_true] at h))
              · have hne : g2 l (k + (k2 - 1) + 1) ≠ g2 l (k + (k2 - 1)) := by
                  rw [show k + (k2 - 1) + 1 = k + k2 by omega]
                  intro e'
                  rw [e'] at h
                  simp at h
                have em := ddF_more hne
                rw [show k + (k2 - 1) + 2 = k + (k2 + 1) by omega, show k + (k2 - 1) + 1 = k + k2 by omega] at em
                refine ⟨(w + 1, k2 + 1, m.set w (g2 l (k + k2))), by simp, rfl, ⟨⟨by simp only; omega, by simp only; omega⟩, by simpa using g3', ⟨by simp only; rw [em, List.length_append, ← g4]; rfl, by simp only; omega⟩, ?_, fun q r1 r2 => ?_⟩, by simp only; omega⟩
                · simp only
                  rw [em, ← g6, ← List.take_append_getElem (by simp only [List.length_set]; omega), List.getElem_set_self, List.take_set_of_le (by omega)]
                · simp only at r1 r2 ⊢
                  rw [g2_set, if_neg (by omega)]
                  exact g7 q (by omega) r2
              · have heq : g2 l (k + (k2 - 1) + 1) = g2 l (k + (k2 - 1)) := by
                  rw [show k + (k2 - 1) + 1 = k + k2 by omega]
                  exact Prod.ext h.1 h.2
                have em := ddF_same heq
                rw [show k + (k2 - 1) + 2 = k + (k2 + 1) by omega, show k + (k2 - 1) + 1 = k + k2 by omega] at em
                exact ⟨(w, k2 + 1, m), by simp, rfl, ⟨⟨by simp only; omega, by simp only; omega⟩, g3', ⟨by simp only; rw [em]; exact g4, by simp only; omega⟩, by simp only; rw [em]; exact g6, fun q r1 r2 => g7 q (by simp only at r1; omega) r2⟩, by simp only; omega⟩
            · have gk : k + k2 = l.length := by omega
              rw [gk] at g4 g6
              (try simp (disch := first | omega | (simp only [List.length_append, List.length_cons, List.length_nil, List.length_replicate, List.length_set, List.length_take, List.length_drop, vi_len, vb_len, vo_len, vl_len, vn_len]; omega)) only [↓EC, EV, EL, E2, E3, ER, seval, ↓reduceIte, false_imp_iff, hk2])
              rw [setV_v2 (by omega)]
              (try simp (disch := first | omega | (simp only [List.length_append, List.length_cons, List.length_nil, List.length_replicate, List.length_set, List.length_take, List.length_drop, vi_len, vb_len, vo_len, vl_len, vn_len]; omega)) only [↓EC, EV, EL, E2, E3, ER, seval, ↓reduceIte, false_imp_iff])
              exact ⟨rfl, g4, _, rfl, by simp; omega, by rw [List.take_left' (by simp; omega)]; exact g6⟩
        · exact ⟨k + 1, by simp, ⟨by omega, by omega, fun q q1 q2 => by
            by_cases e : q = k
            · subst e; intro e'; rw [e'] at h; simp at h
            · exact h3 q q1 (by omega)⟩, by omega⟩
      · have hk : k = l.length := by omega
        subst hk
        have e : ddF l l.length = l := by rw [ddF_take (Nat.le_refl _) h3, List.take_length]
        (try simp (disch := first | omega | (simp only [List.length_append, List.length_cons, List.length_nil, List.length_replicate, List.length_set, List.length_take, List.length_drop, vi_len, vb_len, vo_len, vl_len, vn_len]; omega)) only [↓EC, EV, EL, E2, E3, ER, seval, ↓reduceIte, false_imp_iff, hk1])
        exact ⟨rfl, by rw [e], l, rfl, rfl, by rw [List.take_length, e]⟩
end Go.Proofs.Ytppkppmkjjbbgaa.Sep

/- The image of a set: impl.image and spec.l10Image. -/
import Derived.Test.YtppkppmkjjbbgaaC68
namespace Go.Proofs.Ytppkppmkjjbbgaa.Sep
open Go.RowKit
set_option linter.unusedVariables false
set_option linter.unusedSimpArgs false
set_option maxRecDepth 20000
set_option maxHeartbeats 4000000

def imV : Option (List (Int × Int)) → V
  | some r => .tup [.own 36 2 r.length (v2 .i64 r), .int .i64 0]
  | none => .tup [.nils, .int .i64 3]
def imW : Option (List (Int × Int)) → V
  | some r => .tup [.own 36 2 r.length (v2 .i64 r), .bool true]
  | none => .tup [.nils, .bool false]
theorem allF_g2 {s : List (Int × Int)} {i : Nat} (h : allF s) (hi : i < s.length) : isFr (g2 s i).1 (g2 s i).2 = true := by
  have := h (g2 s i) (mem_g2.2 ⟨i, hi, rfl⟩)
  exact this
theorem imO_len {k f l : Int} {s a : List (Int × Int)} (h : imO k f l s = some a) : a.length = s.length := by
  induction s generalizing a with
  | nil => simp only [imO, Option.some.injEq] at h; subst h; rfl
  | cons x s ih =>
    simp only [imO] at h
    cases hx : mvO k f l x.1 x.2 with
    | none => rw [hx] at h; simp at h
    | some y =>
      rw [hx] at h
      simp only [Option.bind_some] at h
      cases ht : imO k f l s with
      | none => rw [ht] at h; simp at h
      | some b => rw [ht] at h; simp only [Option.map_some, Option.some.injEq] at h; subst h; simp [ih ht]
theorem c_impl_image {k f l : Int} {s : List (Int × Int)} (hm : isMoveB k f l = true) (hs : allF s) (hl : s.length ≤ 12) :
    PSpec Try.prog 58 [.agg [.int .i64 k, .int .i64 f, .int .i64 l], .sl s.length (v2 .i64 s)] fun v => v = imV (imS k f l s) := by
  refine impl_image_f.f ?_
  simp (disch := first | omega | (simp only [List.length_append, List.length_cons, List.length_nil, List.length_replicate, List.length_set, List.length_take, List.length_drop, vi_len, vb_len, vo_len, vl_len, vn_len]; omega)) only [↓EC, EV, EL, E2, E3, ER, seval, ↓reduceIte, false_imp_iff, impl_image_F]
  refine LP_ofE (σ := List (Int × Int)) [2] 100000 [(66, 25, 1)] (fun a => [.own 36 2 a.length (v2 .i64 a), .int .i64 a.length]) (fun a => [[.int .i64 k, .int .i64 f, .int .i64 l]])
    (fun a => a.length ≤ s.length ∧ imO k f l (s.take a.length) = some a) (fun a => s.length - a.length) [] (by simp [frameOk, names, lpz, sclp, scv, scvs, vi_nrf, vb_nrf, vt_nrf, v2_nrf, v3_nrf, nrfs, nrf, sc_vi, sc_vb, sc_vt, sc_v2, sc_v3, sc_vo, sc_vl, vo_nrf, vl_nrf, sc_vn, vn_nrf]) ⟨by simp, by simp [imO]⟩ ?_ ?_
  · simp (disch := first | omega | (simp only [List.length_append, List.length_cons, List.length_nil, List.length_replicate, List.length_set, List.length_take, List.length_drop, vi_len, vb_len, vo_len, vl_len, vn_len]; omega)) only [↓EC, EV, EL, E2, E3, ER, seval, ↓reduceIte, false_imp_iff, ColV_def]
    exact ⟨fun _ => trivial, trivial⟩
  · rintro a ⟨h1, h2⟩
    simp (disch := first | omega | (simp only [List.length_append, List.length_cons, List.length_nil, List.length_replicate, List.length_set, List.length_take, List.length_drop, vi_len, vb_len, vo_len, vl_len, vn_len]; omega)) only [↓EC, EV, EL, E2, E3, ER, seval, ↓reduceIte, false_imp_iff, ColV_def, lheap_def]
    (refine Split.mk (fun h => ?_) (fun h => ?_) <;> (try simp only [decide_eq_true_eq, decide_eq_false_iff_not, beq_iff_eq, bne_iff_ne, beq_eq_false_iff_ne, bne_eq_false_iff_eq, Bool.not_eq_true', Bool.not_eq_false', Bool.and_eq_true, Bool.or_eq_true, Bool.and_eq_false_iff, Bool.or_eq_false_iff, Int.not_lt, Int.not_le, Bool.false_eq_true, Bool.true_eq_false, false_and, and_false, true_and, and_true, or_false, false_or, or_true, true_or, not_true_eq_false, not_false_eq_true] at h))
    · have hi : a.length < s.length := by omega
      have hx := allF_g2 hs hi
      (try simp (disch := first | omega | (simp only [List.length_append, List.length_cons, List.length_nil, List.length_replicate, List.length_set, List.length_take, List.length_drop, vi_len, vb_len, vo_len, vl_len, vn_len]; omega)) only [↓EC, EV, EL, E2, E3, ER, seval, ↓reduceIte, false_imp_iff])
      refine pcd_v (c_impl_move hm hx) ?_
      rcases frV_cases (mvO k f l (g2 s a.length).1 (g2 s a.length).2) with ⟨x, y, ho⟩ | ho
      · rw [ho]
        have tk : (v2 .i64 (a ++ [(x, y)])).take ((a.length + 1) * 2) = v2 .i64 (a ++ [(x, y)]) := v2_tk (by simp)
        (try simp (disch := first | omega | (simp only [List.length_append, List.length_cons, List.length_nil, List.length_replicate, List.length_set, List.length_take, List.length_drop, vi_len, vb_len, vo_len, vl_len, vn_len]; omega)) only [↓EC, EV, EL, E2, E3, ER, seval, ↓reduceIte, false_imp_iff, frV, tk])
        have h3 := imO_yes hi h2 ho
        refine ⟨a ++ [(x, y)], by simp, ⟨by simp; omega, by simpa using h3⟩, by simp; omega⟩
      · rw [ho]
        (try simp (disch := first | omega | (simp only [List.length_append, List.length_cons, List.length_nil, List.length_replicate, List.length_set, List.length_take, List.length_drop, vi_len, vb_len, vo_len, vl_len, vn_len]; omega)) only [↓EC, EV, EL, E2, E3, ER, seval, ↓reduceIte, false_imp_iff, frV])
        unfold imS
        rw [imO_no hi ho]
        rfl
    · have hi : a.length = s.length := by omega
      rw [hi, List.take_length] at h2
      obtain ⟨fa, la⟩ := imO_all hm hs h2
      (try simp (disch := first | omega | (simp only [List.length_append, List.length_cons, List.length_nil, List.length_replicate, List.length_set, List.length_take, List.length_drop, vi_len, vb_len, vo_len, vl_len, vn_len]; omega)) only [↓EC, EV, EL, E2, E3, ER, seval, ↓reduceIte, false_imp_iff])
      refine pcm [100000] rfl ?_
      (try simp (disch := first | omega | (simp only [List.length_append, List.length_cons, List.length_nil, List.length_replicate, List.length_set, List.length_take, List.length_drop, vi_len, vb_len, vo_len, vl_len, vn_len]; omega)) only [↓EC, EV, EL, E2, E3, ER, seval, ↓reduceIte, false_imp_iff])
      refine callM_q (c_SortFunc (l := a) rfl (by omega) fa) ?_
      rintro v c ⟨rfl, m, rfl, q1, q2, q3⟩
      (try simp (disch := first | omega | (simp only [List.length_append, List.length_cons, List.length_nil, List.length_replicate, List.length_set, List.length_take, List.length_drop, vi_len, vb_len, vo_len, vl_len, vn_len]; omega)) only [↓EC, EV, EL, E2, E3, ER, seval, ↓reduceIte, false_imp_iff, q1])
      refine pcmr [100000] rfl ?_
      (try simp (disch := first | omega | (simp only [List.length_append, List.length_cons, List.length_nil, List.length_replicate, List.length_set, List.length_take, List.length_drop, vi_len, vb_len, vo_len, vl_len, vn_len]; omega)) only [↓EC, EV, EL, E2, E3, ER, seval, ↓reduceIte, false_imp_iff, q1])
      refine callMR_q (c_Compact (l := m) q1 (by omega)) ?_
      rintro j o w c ⟨rfl, rfl, rfl, m', rfl, r1, r2⟩ b hb
      simp only [List.getElem?_cons_zero, Option.some.injEq] at hb
      subst hb
      have e := ddF_srt (l := a) (m := m) fa q2 (by rw [q1]; exact q3)
      rw [q1] at e
      rw [e] at r2 ⊢
      have hle : (srtF a).length ≤ m'.length := by
        have := (srtF_spec fa).2.2.2; omega
      have tk : (v2 .i64 m').take ((srtF a).length * 2) = v2 .i64 (srtF a) := by rw [v2_take hle, r2]
      (try simp (disch := first | omega | (simp only [List.length_append, List.length_cons, List.length_nil, List.length_replicate, List.length_set, List.length_take, List.length_drop, vi_len, vb_len, vo_len, vl_len, vn_len]; omega)) only [↓EC, EV, EL, E2, E3, ER, seval, ↓reduceIte, false_imp_iff, tk])
      unfold imS
      rw [h2]
      rfl
theorem c_spec_l10Image {k f l : Int} {s : List (Int × Int)} (hm : isMoveB k f l = true) (hs : allF s) (hl : s.length ≤ 12) :
    PSpec Try.prog 57 [.agg [.int .i64 k, .int .i64 f, .int .i64 l], .sl s.length (v2 .i64 s)] fun v => v = imW (imS k f l s) := by
  refine spec_l10Image_f.f ?_
  simp (config := { maxSteps := 10000000 }) (disch := first | omega | (simp only [List.length_append, List.length_cons, List.length_nil, List.length_replicate, List.length_set, List.length_take, List.length_drop, vi_len, vb_len, vo_len, vl_len, vn_len]; omega)) only [↓EC, EV, EL, E2, E3, ER, seval, ↓reduceIte, false_imp_iff, spec_l10Image_F]
  refine LP_ofE (σ := List (Int × Int)) [2] 100000 [(66, 25, 1)] (fun a => [.own 36 2 (srtF a).length (v2 .i64 (srtF a)), .int .i64 a.length]) (fun a => [[.int .i64 k, .int .i64 f, .int .i64 l]])
    (fun a => a.length ≤ s.length ∧ imO k f l (s.take a.length) = some a ∧ allF a) (fun a => s.length - a.length) [] (by simp [frameOk, names, lpz, sclp, scv, scvs, vi_nrf, vb_nrf, vt_nrf, v2_nrf, v3_nrf, nrfs, nrf, sc_vi, sc_vb, sc_vt, sc_v2, sc_v3, sc_vo, sc_vl, vo_nrf, vl_nrf, sc_vn, vn_nrf]) ⟨by simp, by simp [imO], fun a ha => absurd ha (by simp)⟩ ?_ ?_
  · simp (disch := first | omega | (simp only [List.length_append, List.length_cons, List.length_nil, List.length_replicate, List.length_set, List.length_take, List.length_drop, vi_len, vb_len, vo_len, vl_len, vn_len]; omega)) only [↓EC, EV, EL, E2, E3, ER, seval, ↓reduceIte, false_imp_iff, ColV_def]
    exact ⟨fun _ => trivial, rfl⟩
  · rintro a ⟨h1, h2, fa⟩
    obtain ⟨sa, ss, smem, sl⟩ := srtF_spec fa
    simp (disch := first | omega | (simp only [List.length_append, List.length_cons, List.length_nil, List.length_replicate, List.length_set, List.length_take, List.length_drop, vi_len, vb_len, vo_len, vl_len, vn_len]; omega)) only [↓EC, EV, EL, E2, E3, ER, seval, ↓reduceIte, false_imp_iff, ColV_def, lheap_def]
    (refine Split.mk (fun h => ?_) (fun h => ?_) <;> (try simp only [decide_eq_true_eq, decide_eq_false_iff_not, beq_iff_eq, bne_iff_ne, beq_eq_false_iff_ne, bne_eq_false_iff_eq, Bool.not_eq_true', Bool.not_eq_false', Bool.and_eq_true, Bool.or_eq_true, Bool.and_eq_false_iff, Bool.or_eq_false_iff, Int.not_lt, Int.not_le, Bool.false_eq_true, Bool.true_eq_false, false_and, and_false, true_and, and_true, or_false, false_or, or_true, true_or, not_true_eq_false, not_false_eq_true] at h))
    · have hi : a.length < s.length := by omega
      have hx := allF_g2 hs hi
      (try simp (disch := first | omega | (simp only [List.length_append, List.length_cons, List.length_nil, List.length_replicate, List.length_set, List.length_take, List.length_drop, vi_len, vb_len, vo_len, vl_len, vn_len]; omega)) only [↓EC, EV, EL, E2, E3, ER, seval, ↓reduceIte, false_imp_iff])
      refine pcd_r (c_spec_l10At hm hx) ?_
      rintro v (⟨x, y, ho, rfl⟩ | ⟨ho, x, y, rfl⟩)
      · have h3 := imO_yes hi h2 ho
        have hy := mvO_fr hx hm ho
        (try simp (disch := first | omega | (simp only [List.length_append, List.length_cons, List.length_nil, List.length_replicate, List.length_set, List.length_take, List.length_drop, vi_len, vb_len, vo_len, vl_len, vn_len]; omega)) only [↓EC, EV, EL, E2, E3, ER, seval, ↓reduceIte, false_imp_iff])
        refine LP_of (σ := Nat) 200000 [(66, 25, 1), (72, 36, 1), (100000, 36, 2)] (fun j => [.int .i64 j]) (fun j => [[.int .i64 k, .int .i64 f, .int .i64 l], [.int .i64 x, .int .i64 y], v2 .i64 (srtF a)])
          (fun j => j ≤ (srtF a).length ∧ ∀ q, q < j → cmpF (g2 (srtF a) q) (x, y) < 0) (fun j => (srtF a).length - j) 0 (by simp [frameOk, names, lpz, sclp, scv, scvs, vi_nrf, vb_nrf, vt_nrf, v2_nrf, v3_nrf, nrfs, nrf, sc_vi, sc_vb, sc_vt, sc_v2, sc_v3, sc_vo, sc_vl, vo_nrf, vl_nrf, sc_vn, vn_nrf]) ⟨by simp, fun q hq => absurd hq (Nat.not_lt_zero q)⟩ ?_ ?_
        · simp (disch := first | omega | (simp only [List.length_append, List.length_cons, List.length_nil, List.length_replicate, List.length_set, List.length_take, List.length_drop, vi_len, vb_len, vo_len, vl_len, vn_len]; omega)) only [↓EC, EV, EL, E2, E3, ER, seval, ↓reduceIte, false_imp_iff, ColV_def]
        · rintro j ⟨j1, j2⟩
          have dj : (v2 .i64 (srtF a)).drop (j * 2) = v2 .i64 ((srtF a).drop j) := v2_drop j1
          have tj : (v2 .i64 (srtF a)).take (j * 2) = v2 .i64 ((srtF a).take j) := v2_take j1
          have tk : (v2 .i64 ((srtF a).drop j)).take (((srtF a).length - j) * 2) = v2 .i64 ((srtF a).drop j) := v2_tk (by rw [List.length_drop])
          have l1 : ((srtF a).drop j).length = (srtF a).length - j := List.length_drop
          have l2 : ((srtF a).take j).length = j := by rw [List.length_take]; omega
          have fy : allF (a ++ [(x, y)]) := fun z hz => by
            rcases List.mem_append.1 hz with hz | hz
            · exact fa z hz
            · simp only [List.mem_cons, List.not_mem_nil, or_false] at hz
              subst hz; exact hy
          have hJ : ((a ++ [(x, y)]).length ≤ s.length ∧ imO k f l (s.take (a ++ [(x, y)]).length) = some (a ++ [(x, y)]) ∧ allF (a ++ [(x, y)])) ∧ s.length - (a ++ [(x, y)]).length < s.length - a.length :=
            ⟨⟨by simp; omega, by simpa using h3, fy⟩, by simp; omega⟩
          have hin : (j < (srtF a).length → ¬ cmpF (g2 (srtF a) j) (x, y) < 0) → (j = (srtF a).length ∨ g2 (srtF a) j ≠ (x, y)) → srtF (a ++ [(x, y)]) = (srtF a).take j ++ (x, y) :: (srtF a).drop j := fun hn hc => by
            rw [srtF_snoc, insF_at j1 j2 hn, if_pos hc]
          have hlen : ((srtF a).take j ++ (x, y) :: (srtF a).drop j).length = j + (1 + ((srtF a).length - j)) := by
            rw [List.length_append, List.length_cons, l1, l2]; omega
          have hv : v2 .i64 ((srtF a).take j ++ (x, y) :: (srtF a).drop j) = v2 .i64 ((srtF a).take j) ++ V.int .i64 x :: V.int .i64 y :: v2 .i64 ((srtF a).drop j) := by
            rw [← v2_app]; rfl
          simp (disch := first | omega | (simp only [List.length_append, List.length_cons, List.length_nil, List.length_replicate, List.length_set, List.length_take, List.length_drop, vi_len, vb_len, vo_len, vl_len, vn_len]; omega)) only [↓EC, EV, EL, E2, E3, ER, seval, ↓reduceIte, false_imp_iff, ColV_def, lheap_def]
          (refine Split.mk (fun h => ?_) (fun h => ?_) <;> (try simp only [decide_eq_true_eq, decide_eq_false_iff_not, beq_iff_eq, bne_iff_ne, beq_eq_false_iff_ne, bne_eq_false_iff_eq, Bool.not_eq_true', Bool.not_eq_false', Bool.and_eq_true, Bool.or_eq_true, Bool.and_eq_false_iff, Bool.or_eq_false_iff, Int.not_lt, Int.not_le, Bool.false_eq_true, Bool.true_eq_false, false_and, and_false, true_and, and_true, or_false, false_or, or_true, true_or, not_true_eq_false, not_false_eq_true] at h))
          · (try simp (disch := first | omega | (simp only [List.length_append, List.length_cons, List.length_nil, List.length_replicate, List.length_set, List.length_take, List.length_drop, vi_len, vb_len, vo_len, vl_len, vn_len]; omega)) only [↓EC, EV, EL, E2, E3, ER, seval, ↓reduceIte, false_imp_iff])
            refine pcd_v (c_spec_l10Compare (allF_g2 sa (by omega)) hy) ?_
            have ec : cmpFr (g2 (srtF a) j).1 (g2 (srtF a) j).2 x y = cmpF (g2 (srtF a) j) (x, y) := rfl
            rw [ec]
            (try simp (disch := first | omega | (simp only [List.length_append, List.length_cons, List.length_nil, List.length_replicate, List.length_set, List.length_take, List.length_drop, vi_len, vb_len, vo_len, vl_len, vn_len]; omega)) only [↓EC, EV, EL, E2, E3, ER, seval, ↓reduceIte, false_imp_iff])
            (refine Split.mk (fun h => ?_) (fun h => ?_) <;> (try simp only [decide_eq_true_eq, decide_eq_false_iff_not, beq_iff_eq, bne_iff_ne, beq_eq_false_iff_ne, bne_eq_false_iff_eq, Bool.not_eq_true', Bool.not_eq_false', Bool.and_eq_true, Bool.or_eq_true, Bool.and_eq_false_iff, Bool.or_eq_false_iff, Int.not_lt, Int.not_le, Bool.false_eq_true, Bool.true_eq_false, false_and, and_false, true_and, and_true, or_false, false_or, or_true, true_or, not_true_eq_false, not_false_eq_true] at h))
            · exact ⟨j + 1, by simp, ⟨by omega, fun q hq => by
                by_cases e : q = j
                · subst e; exact h
                · exact j2 q (by omega)⟩, by omega⟩
            · have hn : ¬ cmpF (g2 (srtF a) j) (x, y) < 0 := by omega
              (refine Split.mk (fun h => ?_) (fun h => ?_) <;> (try simp only [decide_eq_true_eq, decide_eq_false_iff_not, beq_iff_eq, bne_iff_ne, beq_eq_false_iff_ne, bne_eq_false_iff_eq, Bool.not_eq_true', Bool.not_eq_false', Bool.and_eq_true, Bool.or_eq_true, Bool.and_eq_false_iff, Bool.or_eq_false_iff, Int.not_lt, Int.not_le, Bool.false_eq_true, Bool.true_eq_false, false_and, and_false, true_and, and_true, or_false, false_or, or_true, true_or, not_true_eq_false, not_false_eq_true] at h))
              · omega
              · (try simp (disch := first | omega | (simp only [List.length_append, List.length_cons, List.length_nil, List.length_replicate, List.length_set, List.length_take, List.length_drop, vi_len, vb_len, vo_len, vl_len, vn_len]; omega)) only [↓EC, EV, EL, E2, E3, ER, seval, ↓reduceIte, false_imp_iff, dj, tj, tk, l1, l2])
                (refine Split.mk (fun h => ?_) (fun h => ?_) <;> (try simp only [decide_eq_true_eq, decide_eq_false_iff_not, beq_iff_eq, bne_iff_ne, beq_eq_false_iff_ne, bne_eq_false_iff_eq, Bool.not_eq_true', Bool.not_eq_false', Bool.and_eq_true, Bool.or_eq_true, Bool.and_eq_false_iff, Bool.or_eq_false_iff, Int.not_lt, Int.not_le, Bool.false_eq_true, Bool.true_eq_false, false_and, and_false, true_and, and_true, or_false, false_or, or_true, true_or, not_true_eq_false, not_false_eq_true] at h))
                · (try simp (disch := first | omega | (simp only [List.length_append, List.length_cons, List.length_nil, List.length_replicate, List.length_set, List.length_take, List.length_drop, vi_len, vb_len, vo_len, vl_len, vn_len]; omega)) only [↓EC, EV, EL, E2, E3, ER, seval, ↓reduceIte, false_imp_iff, dj, tj, tk, l1, l2])
                  refine ⟨a ++ [(x, y)], ?_, hJ⟩
                  rw [hin (fun _ => hn) (.inr (fun e => by rw [e] at h; simp at h)), hlen, hv]
                  simp
                · refine ⟨a ++ [(x, y)], ?_, hJ⟩
                  have e : srtF (a ++ [(x, y)]) = srtF a := by
                    rw [srtF_snoc, insF_at j1 j2 (fun _ => hn), if_neg]
                    rintro (h' | h')
                    · omega
                    · exact h' (Prod.ext h.1 h.2)
                  rw [e]
                  simp
          · (refine Split.mk (fun h => ?_) (fun h => ?_) <;> (try simp only [decide_eq_true_eq, decide_eq_false_iff_not, beq_iff_eq, bne_iff_ne, beq_eq_false_iff_ne, bne_eq_false_iff_eq, Bool.not_eq_true', Bool.not_eq_false', Bool.and_eq_true, Bool.or_eq_true, Bool.and_eq_false_iff, Bool.or_eq_false_iff, Int.not_lt, Int.not_le, Bool.false_eq_true, Bool.true_eq_false, false_and, and_false, true_and, and_true, or_false, false_or, or_true, true_or, not_true_eq_false, not_false_eq_true] at h))
            · (try simp (disch := first | omega | (simp only [List.length_append, List.length_cons, List.length_nil, List.length_replicate, List.length_set, List.length_take, List.length_drop, vi_len, vb_len, vo_len, vl_len, vn_len]; omega)) only [↓EC, EV, EL, E2, E3, ER, seval, ↓reduceIte, false_imp_iff, dj, tj, tk, l1, l2])
              refine ⟨a ++ [(x, y)], ?_, hJ⟩
              have hj : j = (srtF a).length := by omega
              have e := hin (fun h' => by omega) (.inl hj)
              rw [e, hlen]
              rw [hj, List.take_length, List.drop_length]
              simp
            · omega
      · (try simp (disch := first | omega | (simp only [List.length_append, List.length_cons, List.length_nil, List.length_replicate, List.length_set, List.length_take, List.length_drop, vi_len, vb_len, vo_len, vl_len, vn_len]; omega)) only [↓EC, EV, EL, E2, E3, ER, seval, ↓reduceIte, false_imp_iff])
        unfold imS
        rw [imO_no hi ho]
        rfl
    · have hi : a.length = s.length := by omega
      rw [hi, List.take_length] at h2
      (try simp (disch := first | omega | (simp only [List.length_append, List.length_cons, List.length_nil, List.length_replicate, List.length_set, List.length_take, List.length_drop, vi_len, vb_len, vo_len, vl_len, vn_len]; omega)) only [↓EC, EV, EL, E2, E3, ER, seval, ↓reduceIte, false_imp_iff])
      unfold imS
      rw [h2]
      rfl
end Go.Proofs.Ytppkppmkjjbbgaa.Sep

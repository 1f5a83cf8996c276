/- Places of words: WordPlaces. -/
import Derived.Test.YtjklebickfcddaaDoorC52
import Derived.Test.YtjklebickfcddaaDoorC26
namespace Go.Proofs.YtjklebickfcddaaDoor.Sep
open Go.RowKit
set_option linter.unusedVariables false
set_option linter.unusedSimpArgs false
set_option maxRecDepth 20000
set_option maxHeartbeats 1000000

def ltrP (n : Int) (b w : List Int) (L : Int) : List Int :=
  if L = 120 then b else if L = 121 then w else if L = 88 then backP b n else backP w n
def wpT (n : Int) (b w t : List Int) : Nat → List Int
  | 0 => sameP n
  | i + 1 => thenP (wpT n b w t i) (ltrP n b w (gi t i)) n
theorem ltrP_lo {n : Int} {b w : List Int} (hb : lo16 b) (hw : lo16 w) (hn : 1 ≤ n ∧ n ≤ 16) {L : Int} : lo16 (ltrP n b w L) := by
  unfold ltrP
  split
  · exact hb
  split
  · exact hw
  split
  · exact backP_lo hn
  · exact backP_lo hn
theorem wpT_lo {n : Int} {b w t : List Int} (hb : lo16 b) (hw : lo16 w) (hn : 1 ≤ n ∧ n ≤ 16) : ∀ i, lo16 (wpT n b w t i)
  | 0 => sameP_lo hn
  | i + 1 => thenP_lo (wpT_lo hb hw hn i) (ltrP_lo hb hw hn) hn
theorem or_120 : IntKind.u8.wrap (((BitVec.ofInt IntKind.u8.bits 120 ||| BitVec.ofInt IntKind.u8.bits 32).toNat : Nat) : Int) = 120 := by rfl
theorem or_121 : IntKind.u8.wrap (((BitVec.ofInt IntKind.u8.bits 121 ||| BitVec.ofInt IntKind.u8.bits 32).toNat : Nat) : Int) = 121 := by rfl
theorem or_88 : IntKind.u8.wrap (((BitVec.ofInt IntKind.u8.bits 88 ||| BitVec.ofInt IntKind.u8.bits 32).toNat : Nat) : Int) = 120 := by rfl
theorem or_89 : IntKind.u8.wrap (((BitVec.ofInt IntKind.u8.bits 89 ||| BitVec.ofInt IntKind.u8.bits 32).toNat : Nat) : Int) = 121 := by rfl
theorem c_impl_wordPlaces {n : Int} {b w : List Int} {s : List UInt8} (hb : lo16 b) (hw : lo16 w) (hn : 1 ≤ n ∧ n ≤ 16) (hs : lets (ub s)) (hl' : s.length ≤ 60) :
    PSpec Tryd.prog 34 [vD n b w, .str s] fun v => v = .agg (vi .u8 (wpT n b w (ub s) s.length)) := by
  have hl := hb.1
  have hk := hw.1
  have hsl := (sameP_lo hn).1
  have g1 := c_impl_same hn
  change PSpec _ _ _ (fun v => v = .agg (vi .u8 (sameP n))) at g1
  refine impl_wordPlaces_f.f ?_
  unfold vD
  simp (config := { maxSteps := 10000000 }) (disch := first | omega | (simp only [List.length_append, List.length_cons, List.length_nil, List.length_replicate, List.length_set, List.length_take, List.length_drop, vi_len, vb_len, vo_len, vl_len, vn_len]; omega)) only [↓EC, EV, EL, E2, E3, ER, seval, ↓reduceIte, false_imp_iff, impl_wordPlaces_F, hl, hk]
  refine pcd_v g1 ?_
  (try simp (disch := first | omega | (simp only [List.length_append, List.length_cons, List.length_nil, List.length_replicate, List.length_set, List.length_take, List.length_drop, vi_len, vb_len, vo_len, vl_len, vn_len]; omega)) only [↓EC, EV, EL, E2, E3, ER, seval, ↓reduceIte, false_imp_iff, hl, hk, hsl, setV_vv])
  refine LP_of (σ := Nat) 100000 [(66, 31, 1), (68, 29, 1), (69, 29, 1)] (fun i => [.int .i64 i])
    (fun i => [.int .i64 n :: vi .u8 (b ++ w), vi .u8 (List.replicate 16 0), vi .u8 (wpT n b w (ub s) i)])
    (fun i => i ≤ s.length) (fun i => s.length - i) 0 (by simp [frameOk, names, lpz, sclp, scv, scvs, vi_nrf, vb_nrf, vt_nrf, v2_nrf, v3_nrf, nrfs, nrf, sc_vi, sc_vb, sc_vt, sc_v2, sc_v3, sc_vo, sc_vl, vo_nrf, vl_nrf, sc_vn, vn_nrf]) (Nat.zero_le _) ?_ ?_
  · simp (disch := first | omega | (simp only [List.length_append, List.length_cons, List.length_nil, List.length_replicate, List.length_set, List.length_take, List.length_drop, vi_len, vb_len, vo_len, vl_len, vn_len]; omega)) only [↓EC, EV, EL, E2, E3, ER, seval, ↓reduceIte, false_imp_iff, ColV_def]
    rfl
  · rintro i h1
    have hq := wpT_lo (t := ub s) hb hw hn i
    have hql := hq.1
    have hq2 := (wpT_lo (t := ub s) hb hw hn (i + 1)).1
    have step : wpT n b w (ub s) (i + 1) = thenP (wpT n b w (ub s) i) (ltrP n b w (gi (ub s) i)) n := rfl
    have key : ∀ p : List Int, lo16 p → PSpec Tryd.prog 45 [.agg (vi .u8 (wpT n b w (ub s) i)), .agg (vi .u8 p), .int .i64 n] fun v => v = .agg (vi .u8 (thenP (wpT n b w (ub s) i) p n)) := fun p hp => c_impl_then hq hp hn
    have keyb : ∀ p : List Int, lo16 p → PSpec Tryd.prog 59 [.agg (vi .u8 p), .int .i64 n] fun v => v = .agg (vi .u8 (backP p n)) := fun p hp => c_impl_back hp hn
    have u1 := (backP_lo (p := b) hn).1
    have u2 := (backP_lo (p := w) hn).1
    have tb := fun p hp => (thenP_lo (q := p) hq hp hn).1
    have t1 := tb _ hb
    have t2 := tb _ hw
    have t3 := tb _ (backP_lo (p := b) hn)
    have t4 := tb _ (backP_lo (p := w) hn)
    simp (disch := first | omega | (simp only [List.length_append, List.length_cons, List.length_nil, List.length_replicate, List.length_set, List.length_take, List.length_drop, vi_len, vb_len, vo_len, vl_len, vn_len]; omega)) only [↓EC, EV, EL, E2, E3, ER, seval, ↓reduceIte, false_imp_iff, ColV_def, lheap_def]
    (refine Split.mk (fun h => ?_) (fun h => ?_) <;> (try simp only [decide_eq_true_eq, decide_eq_false_iff_not, beq_iff_eq, bne_iff_ne, beq_eq_false_iff_ne, bne_eq_false_iff_eq, Bool.not_eq_true', Bool.not_eq_false', Bool.and_eq_true, Bool.or_eq_true, Bool.and_eq_false_iff, Bool.or_eq_false_iff, Int.not_lt, Int.not_le, Bool.false_eq_true, Bool.true_eq_false, false_and, and_false, true_and, and_true, or_false, false_or, or_true, true_or, not_true_eq_false, not_false_eq_true] at h))
    · have hx := hs i (by rw [ub_len]; omega)
      rcases hx with e | e | e | e
      · rw [e] at step
        (try simp (disch := first | omega | (simp only [List.length_append, List.length_cons, List.length_nil, List.length_replicate, List.length_set, List.length_take, List.length_drop, vi_len, vb_len, vo_len, vl_len, vn_len]; omega)) only [↓EC, EV, EL, E2, E3, ER, seval, ↓reduceIte, false_imp_iff, EB, hl, hk, hql, u1, u2, t1, t2, t3, t4, e, or_120, setV_vv])
        refine pcd_v (key _ hb) ?_
        (try simp (disch := first | omega | (simp only [List.length_append, List.length_cons, List.length_nil, List.length_replicate, List.length_set, List.length_take, List.length_drop, vi_len, vb_len, vo_len, vl_len, vn_len]; omega)) only [↓EC, EV, EL, E2, E3, ER, seval, ↓reduceIte, false_imp_iff, EB, hl, hk, hql, u1, u2, t1, t2, t3, t4, e, setV_vv])
        exact ⟨i + 1, by simp, by rw [step]; rfl, by omega, by omega⟩
      · rw [e] at step
        (try simp (disch := first | omega | (simp only [List.length_append, List.length_cons, List.length_nil, List.length_replicate, List.length_set, List.length_take, List.length_drop, vi_len, vb_len, vo_len, vl_len, vn_len]; omega)) only [↓EC, EV, EL, E2, E3, ER, seval, ↓reduceIte, false_imp_iff, EB, hl, hk, hql, u1, u2, t1, t2, t3, t4, e, or_88, setV_vv])
        refine pcd_v (keyb _ hb) ?_
        (try simp (disch := first | omega | (simp only [List.length_append, List.length_cons, List.length_nil, List.length_replicate, List.length_set, List.length_take, List.length_drop, vi_len, vb_len, vo_len, vl_len, vn_len]; omega)) only [↓EC, EV, EL, E2, E3, ER, seval, ↓reduceIte, false_imp_iff, EB, hl, hk, hql, u1, u2, t1, t2, t3, t4, e, setV_vv])
        refine pcd_v (key _ (backP_lo hn)) ?_
        (try simp (disch := first | omega | (simp only [List.length_append, List.length_cons, List.length_nil, List.length_replicate, List.length_set, List.length_take, List.length_drop, vi_len, vb_len, vo_len, vl_len, vn_len]; omega)) only [↓EC, EV, EL, E2, E3, ER, seval, ↓reduceIte, false_imp_iff, EB, hl, hk, hql, u1, u2, t1, t2, t3, t4, e, setV_vv])
        exact ⟨i + 1, by simp, by rw [step]; rfl, by omega, by omega⟩
      · rw [e] at step
        (try simp (disch := first | omega | (simp only [List.length_append, List.length_cons, List.length_nil, List.length_replicate, List.length_set, List.length_take, List.length_drop, vi_len, vb_len, vo_len, vl_len, vn_len]; omega)) only [↓EC, EV, EL, E2, E3, ER, seval, ↓reduceIte, false_imp_iff, EB, hl, hk, hql, u1, u2, t1, t2, t3, t4, e, or_121, setV_vv])
        refine pcd_v (key _ hw) ?_
        (try simp (disch := first | omega | (simp only [List.length_append, List.length_cons, List.length_nil, List.length_replicate, List.length_set, List.length_take, List.length_drop, vi_len, vb_len, vo_len, vl_len, vn_len]; omega)) only [↓EC, EV, EL, E2, E3, ER, seval, ↓reduceIte, false_imp_iff, EB, hl, hk, hql, u1, u2, t1, t2, t3, t4, e, setV_vv])
        exact ⟨i + 1, by simp, by rw [step]; rfl, by omega, by omega⟩
      · rw [e] at step
        (try simp (disch := first | omega | (simp only [List.length_append, List.length_cons, List.length_nil, List.length_replicate, List.length_set, List.length_take, List.length_drop, vi_len, vb_len, vo_len, vl_len, vn_len]; omega)) only [↓EC, EV, EL, E2, E3, ER, seval, ↓reduceIte, false_imp_iff, EB, hl, hk, hql, u1, u2, t1, t2, t3, t4, e, or_89, setV_vv])
        refine pcd_v (keyb _ hw) ?_
        (try simp (disch := first | omega | (simp only [List.length_append, List.length_cons, List.length_nil, List.length_replicate, List.length_set, List.length_take, List.length_drop, vi_len, vb_len, vo_len, vl_len, vn_len]; omega)) only [↓EC, EV, EL, E2, E3, ER, seval, ↓reduceIte, false_imp_iff, EB, hl, hk, hql, u1, u2, t1, t2, t3, t4, e, setV_vv])
        refine pcd_v (key _ (backP_lo hn)) ?_
        (try simp (disch := first | omega | (simp only [List.length_append, List.length_cons, List.length_nil, List.length_replicate, List.length_set, List.length_take, List.length_drop, vi_len, vb_len, vo_len, vl_len, vn_len]; omega)) only [↓EC, EV, EL, E2, E3, ER, seval, ↓reduceIte, false_imp_iff, EB, hl, hk, hql, u1, u2, t1, t2, t3, t4, e, setV_vv])
        exact ⟨i + 1, by simp, by rw [step]; rfl, by omega, by omega⟩
    · have : i = s.length := by omega
      subst this
      (try simp (disch := first | omega | (simp only [List.length_append, List.length_cons, List.length_nil, List.length_replicate, List.length_set, List.length_take, List.length_drop, vi_len, vb_len, vo_len, vl_len, vn_len]; omega)) only [↓EC, EV, EL, E2, E3, ER, seval, ↓reduceIte, false_imp_iff, hql, setV_vv])
theorem c_spec_l08Places {n : Int} {b w : List Int} {s : List UInt8} (hb : lo16 b) (hw : lo16 w) (hn : 1 ≤ n ∧ n ≤ 16) (hs : lets (ub s)) (hl' : s.length ≤ 60) :
    PSpec Tryd.prog 36 [vD n b w, .str s] fun v => v = .agg (vi .u8 (wpT n b w (ub s) s.length)) := by
  have hl := hb.1
  have hk := hw.1
  have hsl := (sameP_lo hn).1
  have g1 := c_spec_l01Same hn
  change PSpec _ _ _ (fun v => v = .agg (vi .u8 (sameP n))) at g1
  refine spec_l08Places_f.f ?_
  unfold vD
  simp (config := { maxSteps := 10000000 }) (disch := first | omega | (simp only [List.length_append, List.length_cons, List.length_nil, List.length_replicate, List.length_set, List.length_take, List.length_drop, vi_len, vb_len, vo_len, vl_len, vn_len]; omega)) only [↓EC, EV, EL, E2, E3, ER, seval, ↓reduceIte, false_imp_iff, spec_l08Places_F, hl, hk]
  refine pcd_v g1 ?_
  (try simp (disch := first | omega | (simp only [List.length_append, List.length_cons, List.length_nil, List.length_replicate, List.length_set, List.length_take, List.length_drop, vi_len, vb_len, vo_len, vl_len, vn_len]; omega)) only [↓EC, EV, EL, E2, E3, ER, seval, ↓reduceIte, false_imp_iff, hl, hk, hsl, setV_vv])
  refine LP_of (σ := Nat) 100000 [(66, 31, 1), (68, 29, 1), (69, 29, 1)] (fun i => [.int .i64 i])
    (fun i => [.int .i64 n :: vi .u8 (b ++ w), vi .u8 (List.replicate 16 0), vi .u8 (wpT n b w (ub s) i)])
    (fun i => i ≤ s.length) (fun i => s.length - i) 0 (by simp [frameOk, names, lpz, sclp, scv, scvs, vi_nrf, vb_nrf, vt_nrf, v2_nrf, v3_nrf, nrfs, nrf, sc_vi, sc_vb, sc_vt, sc_v2, sc_v3, sc_vo, sc_vl, vo_nrf, vl_nrf, sc_vn, vn_nrf]) (Nat.zero_le _) ?_ ?_
  · simp (disch := first | omega | (simp only [List.length_append, List.length_cons, List.length_nil, List.length_replicate, List.length_set, List.length_take, List.length_drop, vi_len, vb_len, vo_len, vl_len, vn_len]; omega)) only [↓EC, EV, EL, E2, E3, ER, seval, ↓reduceIte, false_imp_iff, ColV_def]
    rfl
  · rintro i h1
    have hq := wpT_lo (t := ub s) hb hw hn i
    have hql := hq.1
    have hq2 := (wpT_lo (t := ub s) hb hw hn (i + 1)).1
    have step : wpT n b w (ub s) (i + 1) = thenP (wpT n b w (ub s) i) (ltrP n b w (gi (ub s) i)) n := rfl
    have key : ∀ p : List Int, lo16 p → PSpec Tryd.prog 64 [.agg (vi .u8 (wpT n b w (ub s) i)), .agg (vi .u8 p), .int .i64 n] fun v => v = .agg (vi .u8 (thenP (wpT n b w (ub s) i) p n)) := fun p hp => c_spec_l01Then hq hp hn
    have keyb : ∀ p : List Int, lo16 p → PSpec Tryd.prog 63 [.agg (vi .u8 p), .int .i64 n] fun v => v = .agg (vi .u8 (backP p n)) := fun p hp => c_spec_l01Back hp hn
    have u1 := (backP_lo (p := b) hn).1
    have u2 := (backP_lo (p := w) hn).1
    have tb := fun p hp => (thenP_lo (q := p) hq hp hn).1
    have t1 := tb _ hb
    have t2 := tb _ hw
    have t3 := tb _ (backP_lo (p := b) hn)
    have t4 := tb _ (backP_lo (p := w) hn)
    simp (disch := first | omega | (simp only [List.length_append, List.length_cons, List.length_nil, List.length_replicate, List.length_set, List.length_take, List.length_drop, vi_len, vb_len, vo_len, vl_len, vn_len]; omega)) only [↓EC, EV, EL, E2, E3, ER, seval, ↓reduceIte, false_imp_iff, ColV_def, lheap_def]
    (refine Split.mk (fun h => ?_) (fun h => ?_) <;> (try simp only [decide_eq_true_eq, decide_eq_false_iff_not, beq_iff_eq, bne_iff_ne, beq_eq_false_iff_ne, bne_eq_false_iff_eq, Bool.not_eq_true', Bool.not_eq_false', Bool.and_eq_true, Bool.or_eq_true, Bool.and_eq_false_iff, Bool.or_eq_false_iff, Int.not_lt, Int.not_le, Bool.false_eq_true, Bool.true_eq_false, false_and, and_false, true_and, and_true, or_false, false_or, or_true, true_or, not_true_eq_false, not_false_eq_true] at h))
    · have hx := hs i (by rw [ub_len]; omega)
      rcases hx with e | e | e | e
      · rw [e] at step
        (try simp (disch := first | omega | (simp only [List.length_append, List.length_cons, List.length_nil, List.length_replicate, List.length_set, List.length_take, List.length_drop, vi_len, vb_len, vo_len, vl_len, vn_len]; omega)) only [↓EC, EV, EL, E2, E3, ER, seval, ↓reduceIte, false_imp_iff, EB, hl, hk, hql, u1, u2, t1, t2, t3, t4, e, setV_vv])
        refine pcd_v (key _ hb) ?_
        (try simp (disch := first | omega | (simp only [List.length_append, List.length_cons, List.length_nil, List.length_replicate, List.length_set, List.length_take, List.length_drop, vi_len, vb_len, vo_len, vl_len, vn_len]; omega)) only [↓EC, EV, EL, E2, E3, ER, seval, ↓reduceIte, false_imp_iff, EB, hl, hk, hql, u1, u2, t1, t2, t3, t4, e, setV_vv])
        exact ⟨i + 1, by simp, by rw [step]; rfl, by omega, by omega⟩
      · rw [e] at step
        (try simp (disch := first | omega | (simp only [List.length_append, List.length_cons, List.length_nil, List.length_replicate, List.length_set, List.length_take, List.length_drop, vi_len, vb_len, vo_len, vl_len, vn_len]; omega)) only [↓EC, EV, EL, E2, E3, ER, seval, ↓reduceIte, false_imp_iff, EB, hl, hk, hql, u1, u2, t1, t2, t3, t4, e, setV_vv])
        refine pcd_v (keyb _ hb) ?_
        (try simp (disch := first | omega | (simp only [List.length_append, List.length_cons, List.length_nil, List.length_replicate, List.length_set, List.length_take, List.length_drop, vi_len, vb_len, vo_len, vl_len, vn_len]; omega)) only [↓EC, EV, EL, E2, E3, ER, seval, ↓reduceIte, false_imp_iff, EB, hl, hk, hql, u1, u2, t1, t2, t3, t4, e, setV_vv])
        refine pcd_v (key _ (backP_lo hn)) ?_
        (try simp (disch := first | omega | (simp only [List.length_append, List.length_cons, List.length_nil, List.length_replicate, List.length_set, List.length_take, List.length_drop, vi_len, vb_len, vo_len, vl_len, vn_len]; omega)) only [↓EC, EV, EL, E2, E3, ER, seval, ↓reduceIte, false_imp_iff, EB, hl, hk, hql, u1, u2, t1, t2, t3, t4, e, setV_vv])
        exact ⟨i + 1, by simp, by rw [step]; rfl, by omega, by omega⟩
      · rw [e] at step
        (try simp (disch := first | omega | (simp only [List.length_append, List.length_cons, List.length_nil, List.length_replicate, List.length_set, List.length_take, List.length_drop, vi_len, vb_len, vo_len, vl_len, vn_len]; omega)) only [↓EC, EV, EL, E2, E3, ER, seval, ↓reduceIte, false_imp_iff, EB, hl, hk, hql, u1, u2, t1, t2, t3, t4, e, setV_vv])
        refine pcd_v (key _ hw) ?_
        (try simp (disch := first | omega | (simp only [List.length_append, List.length_cons, List.length_nil, List.length_replicate, List.length_set, List.length_take, List.length_drop, vi_len, vb_len, vo_len, vl_len, vn_len]; omega)) only [↓EC, EV, EL, E2, E3, ER, seval, ↓reduceIte, false_imp_iff, EB, hl, hk, hql, u1, u2, t1, t2, t3, t4, e, setV_vv])
        exact ⟨i + 1, by simp, by rw [step]; rfl, by omega, by omega⟩
      · rw [e] at step
        (try simp (disch := first | omega | (simp only [List.length_append, List.length_cons, List.length_nil, List.length_replicate, List.length_set, List.length_take, List.length_drop, vi_len, vb_len, vo_len, vl_len, vn_len]; omega)) only [↓EC, EV, EL, E2, E3, ER, seval, ↓reduceIte, false_imp_iff, EB, hl, hk, hql, u1, u2, t1, t2, t3, t4, e, setV_vv])
        refine pcd_v (keyb _ hw) ?_
        (try simp (disch := first | omega | (simp only [List.length_append, List.length_cons, List.length_nil, List.length_replicate, List.length_set, List.length_take, List.length_drop, vi_len, vb_len, vo_len, vl_len, vn_len]; omega)) only [↓EC, EV, EL, E2, E3, ER, seval, ↓reduceIte, false_imp_iff, EB, hl, hk, hql, u1, u2, t1, t2, t3, t4, e, setV_vv])
        refine pcd_v (key _ (backP_lo hn)) ?_
        (try simp (disch := first | omega | (simp only [List.length_append, List.length_cons, List.length_nil, List.length_replicate, List.length_set, List.length_take, List.length_drop, vi_len, vb_len, vo_len, vl_len, vn_len]; omega)) only [↓EC, EV, EL, E2, E3, ER, seval, ↓reduceIte, false_imp_iff, EB, hl, hk, hql, u1, u2, t1, t2, t3, t4, e, setV_vv])
        exact ⟨i + 1, by simp, by rw [step]; rfl, by omega, by omega⟩
    · have : i = s.length := by omega
      subst this
      (try simp (disch := first | omega | (simp only [List.length_append, List.length_cons, List.length_nil, List.length_replicate, List.length_set, List.length_take, List.length_drop, vi_len, vb_len, vo_len, vl_len, vn_len]; omega)) only [↓EC, EV, EL, E2, E3, ER, seval, ↓reduceIte, false_imp_iff, hql, setV_vv])

/-! ### WordPlaces -/
noncomputable def wpQ (n : Int) (b w : List Int) (s : List UInt8) : List Int := if isDB n b w = true ∧ isW s = true then wpT n b w (ub s) s.length else List.replicate 16 0
noncomputable def wpK (n : Int) (b w : List Int) (s : List UInt8) : Int := if isDB n b w = true ∧ isW s = true then 0 else 1
theorem wp_no {n : Int} {b w : List Int} {s : List UInt8} (h : ¬ (isDB n b w = true ∧ isW s = true)) : wpQ n b w s = List.replicate 16 0 ∧ wpK n b w s = 1 := by
  unfold wpQ wpK; rw [if_neg h, if_neg h]; exact ⟨rfl, rfl⟩
theorem wp_yes {n : Int} {b w : List Int} {s : List UInt8} (h : isDB n b w = true ∧ isW s = true) : wpQ n b w s = wpT n b w (ub s) s.length ∧ wpK n b w s = 0 := by
  unfold wpQ wpK; rw [if_pos h, if_pos h]; exact ⟨rfl, rfl⟩
theorem isDB_lo {n : Int} {b w : List Int} (hb : okP b) (hw : okP w) (h : isDB n b w = true) : lo16 b ∧ lo16 w ∧ (1 ≤ n ∧ n ≤ 16) := by
  have hd := isDB_iff.1 h
  exact ⟨hd.pb.lo hb, hd.pw.lo hw, hd.pb.1⟩
theorem wpQ_len {n : Int} {b w : List Int} {s : List UInt8} (hb : okP b) (hw : okP w) : (wpQ n b w s).length = 16 := by
  unfold wpQ
  split
  · rename_i h
    obtain ⟨lb, lw, hn⟩ := isDB_lo hb hw h.1
    exact (wpT_lo lb lw hn _).1
  · simp
theorem c_impl_WordPlaces {n : Int} {b w : List Int} {s : List UInt8} (hb : okP b) (hw : okP w) (hs : s.length ≤ 1048576) :
    PSpec Tryd.prog 14 [vD n b w, .str s] fun v => v = .tup [.agg (vi .u8 (wpQ n b w s)), .int .i64 (wpK n b w s)] := by
  have hl := hb.len
  have hk := hw.len
  refine impl_WordPlaces_f.f ?_
  have g2 := c_impl_IsDessin (n := n) hb hw
  have g3 := fun lb lw hn hs hl => c_impl_wordPlaces (n := n) (b := b) (w := w) (s := s) lb lw hn hs hl
  unfold vD at g2 g3 ⊢
  simp (config := { maxSteps := 10000000 }) (disch := first | omega | (simp only [List.length_append, List.length_cons, List.length_nil, List.length_replicate, List.length_set, List.length_take, List.length_drop, vi_len, vb_len, vo_len, vl_len, vn_len]; omega)) only [↓EC, EV, EL, E2, E3, ER, seval, ↓reduceIte, false_imp_iff, impl_WordPlaces_F, hl, hk]
  refine pcd_v (c_impl_IsWord hs) ?_
  cases h1 : isW s with
  | false =>
    obtain ⟨e1, e2⟩ := wp_no (n := n) (b := b) (w := w) (s := s) (by rw [h1]; simp)
    rw [e1, e2]
    (try simp (disch := first | omega | (simp only [List.length_append, List.length_cons, List.length_nil, List.length_replicate, List.length_set, List.length_take, List.length_drop, vi_len, vb_len, vo_len, vl_len, vn_len]; omega)) only [↓EC, EV, EL, E2, E3, ER, seval, ↓reduceIte, false_imp_iff, hl, hk, setV_vv])
    try rfl
  | true =>
    (try simp (disch := first | omega | (simp only [List.length_append, List.length_cons, List.length_nil, List.length_replicate, List.length_set, List.length_take, List.length_drop, vi_len, vb_len, vo_len, vl_len, vn_len]; omega)) only [↓EC, EV, EL, E2, E3, ER, seval, ↓reduceIte, false_imp_iff, hl, hk, setV_vv])
    refine pcd_v g2 ?_
    cases h0 : isDB n b w with
    | false =>
      obtain ⟨e1, e2⟩ := wp_no (n := n) (b := b) (w := w) (s := s) (by rw [h0]; simp)
      rw [e1, e2]
      (try simp (disch := first | omega | (simp only [List.length_append, List.length_cons, List.length_nil, List.length_replicate, List.length_set, List.length_take, List.length_drop, vi_len, vb_len, vo_len, vl_len, vn_len]; omega)) only [↓EC, EV, EL, E2, E3, ER, seval, ↓reduceIte, false_imp_iff, hl, hk, setV_vv])
      try rfl
    | true =>
      obtain ⟨lb, lw, hn⟩ := isDB_lo hb hw h0
      obtain ⟨w1, w2⟩ := isW_lets h1
      obtain ⟨e1, e2⟩ := wp_yes (n := n) (b := b) (w := w) (s := s) ⟨h0, h1⟩
      have e3 := (wpT_lo (t := ub s) lb lw hn s.length).1
      rw [e1, e2]
      (try simp (disch := first | omega | (simp only [List.length_append, List.length_cons, List.length_nil, List.length_replicate, List.length_set, List.length_take, List.length_drop, vi_len, vb_len, vo_len, vl_len, vn_len]; omega)) only [↓EC, EV, EL, E2, E3, ER, seval, ↓reduceIte, false_imp_iff, hl, hk, setV_vv])
      refine pcd_v (g3 lb lw hn w1 w2) ?_
      (try simp (disch := first | omega | (simp only [List.length_append, List.length_cons, List.length_nil, List.length_replicate, List.length_set, List.length_take, List.length_drop, vi_len, vb_len, vo_len, vl_len, vn_len]; omega)) only [↓EC, EV, EL, E2, E3, ER, seval, ↓reduceIte, false_imp_iff, hl, hk, e3, setV_vv])
      try rfl
theorem c_spec_WordPlaces {n : Int} {b w : List Int} {s : List UInt8} (hb : okP b) (hw : okP w) (hs : s.length ≤ 1048576) :
    PSpec Tryd.prog 15 [vD n b w, .str s] fun v => v = .tup [.agg (vi .u8 (wpQ n b w s)), .int .i64 (wpK n b w s)] := by
  have hl := hb.len
  have hk := hw.len
  refine spec_WordPlaces_f.f ?_
  have g2 := c_spec_l01Is (n := n) hb hw
  have g3 := fun lb lw hn hs hl => c_spec_l08Places (n := n) (b := b) (w := w) (s := s) lb lw hn hs hl
  unfold vD at g2 g3 ⊢
  simp (config := { maxSteps := 10000000 }) (disch := first | omega | (simp only [List.length_append, List.length_cons, List.length_nil, List.length_replicate, List.length_set, List.length_take, List.length_drop, vi_len, vb_len, vo_len, vl_len, vn_len]; omega)) only [↓EC, EV, EL, E2, E3, ER, seval, ↓reduceIte, false_imp_iff, spec_WordPlaces_F, hl, hk]
  refine pcd_v g2 ?_
  cases h0 : isDB n b w with
  | false =>
    obtain ⟨e1, e2⟩ := wp_no (n := n) (b := b) (w := w) (s := s) (by rw [h0]; simp)
    rw [e1, e2]
    (try simp (disch := first | omega | (simp only [List.length_append, List.length_cons, List.length_nil, List.length_replicate, List.length_set, List.length_take, List.length_drop, vi_len, vb_len, vo_len, vl_len, vn_len]; omega)) only [↓EC, EV, EL, E2, E3, ER, seval, ↓reduceIte, false_imp_iff, hl, hk, setV_vv])
    try rfl
  | true =>
    (try simp (disch := first | omega | (simp only [List.length_append, List.length_cons, List.length_nil, List.length_replicate, List.length_set, List.length_take, List.length_drop, vi_len, vb_len, vo_len, vl_len, vn_len]; omega)) only [↓EC, EV, EL, E2, E3, ER, seval, ↓reduceIte, false_imp_iff, hl, hk, setV_vv])
    refine pcd_v (c_spec_l08Word hs) ?_
    cases h1 : isW s with
    | false =>
      obtain ⟨e1, e2⟩ := wp_no (n := n) (b := b) (w := w) (s := s) (by rw [h1]; simp)
      rw [e1, e2]
      (try simp (disch := first | omega | (simp only [List.length_append, List.length_cons, List.length_nil, List.length_replicate, List.length_set, List.length_take, List.length_drop, vi_len, vb_len, vo_len, vl_len, vn_len]; omega)) only [↓EC, EV, EL, E2, E3, ER, seval, ↓reduceIte, false_imp_iff, hl, hk, setV_vv])
      try rfl
    | true =>
      obtain ⟨lb, lw, hn⟩ := isDB_lo hb hw h0
      obtain ⟨w1, w2⟩ := isW_lets h1
      obtain ⟨e1, e2⟩ := wp_yes (n := n) (b := b) (w := w) (s := s) ⟨h0, h1⟩
      have e3 := (wpT_lo (t := ub s) lb lw hn s.length).1
      rw [e1, e2]
      (try simp (disch := first | omega | (simp only [List.length_append, List.length_cons, List.length_nil, List.length_replicate, List.length_set, List.length_take, List.length_drop, vi_len, vb_len, vo_len, vl_len, vn_len]; omega)) only [↓EC, EV, EL, E2, E3, ER, seval, ↓reduceIte, false_imp_iff, hl, hk, setV_vv])
      refine pcd_v (g3 lb lw hn w1 w2) ?_
      (try simp (disch := first | omega | (simp only [List.length_append, List.length_cons, List.length_nil, List.length_replicate, List.length_set, List.length_take, List.length_drop, vi_len, vb_len, vo_len, vl_len, vn_len]; omega)) only [↓EC, EV, EL, E2, E3, ER, seval, ↓reduceIte, false_imp_iff, hl, hk, e3, setV_vv])
      try rfl
end Go.Proofs.YtjklebickfcddaaDoor.Sep

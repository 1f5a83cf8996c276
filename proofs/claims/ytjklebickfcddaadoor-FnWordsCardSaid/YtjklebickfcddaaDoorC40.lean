/- Names of darts, renamed dessins, tables of dessins. -/
import Derived.Test.YtjklebickfcddaaDoorC25
import Derived.Test.YtjklebickfcddaaDoorC27
import Derived.Test.YtjklebickfcddaaDoorC29
namespace Go.Proofs.YtjklebickfcddaaDoor.Sep
open Go.RowKit
set_option linter.unusedVariables false
set_option linter.unusedSimpArgs false
set_option maxRecDepth 20000
set_option maxHeartbeats 1000000

/-! ### What is reached from a dart -/
def srX (x : Int) : Sr := ([x], (List.replicate 16 false).set x.toNat true)
theorem srX_ok {x : Int} (hx : 0 ≤ x ∧ x < 16) : SrOk (srX x) := by
  refine ⟨by simp [srX], ?_, fun j hj => ?_⟩
  · have hl : x.toNat < (List.replicate 16 false).length := by simp; omega
    simp only [srX]
    rw [List.count_set hl]
    simp
  · have : j = 0 := by simp [srX] at hj; exact hj
    subst this; exact hx
theorem srRun_ok {p q : List Int} (hp : lo16 p) (hq : lo16 q) : ∀ (k i : Nat) {s : Sr}, SrOk s → SrOk (srRun p q k i s)
  | 0, i, s, h => h
  | k + 1, i, s, h => by
    simp only [srRun]
    split
    · exact srRun_ok hp hq k (i + 1) (srStep_ok hp hq h (by assumption))
    · exact h
def nmdL (p q : List Int) (x : Int) : List Int := (srRun p q 17 0 (srX x)).1
theorem nmdL_ok {p q : List Int} (hp : lo16 p) (hq : lo16 q) {x : Int} (hx : 0 ≤ x ∧ x < 16) : (nmdL p q x).length ≤ 16 ∧ ∀ j, j < (nmdL p q x).length → 0 ≤ gi (nmdL p q x) j ∧ gi (nmdL p q x) j < 16 :=
  ⟨(srRun_ok hp hq 17 0 (srX_ok hx)).le, (srRun_ok hp hq 17 0 (srX_ok hx)).lo⟩
/-- The names, as far as they are given. -/
def nameT (l : List Int) : Nat → List Int
  | 0 => List.replicate 16 0
  | s + 1 => (nameT l s).set (gi l s).toNat s
theorem nameT_len {l : List Int} : ∀ s, (nameT l s).length = 16
  | 0 => by simp [nameT]
  | s + 1 => by simp [nameT, nameT_len s]
theorem nameT_congr {l m : List Int} : ∀ s, (∀ j, j < s → gi l j = gi m j) → nameT l s = nameT m s
  | 0, _ => rfl
  | s + 1, h => by simp only [nameT]; rw [nameT_congr s fun j hj => h j (by omega), h s (by omega)]
theorem nameT_lo {l : List Int} : ∀ s, s ≤ 16 → lo16 (nameT l s)
  | 0, _ => ⟨by simp [nameT], fun i hi => by simp only [nameT]; rw [gi_rep]; split <;> omega⟩
  | s + 1, h => ⟨by simp [nameT, nameT_len], fun i hi => by
    simp only [nameT]
    rw [gi_set]
    split
    · omega
    · exact (nameT_lo s (by omega)).2 i hi⟩
def nmgP (p q : List Int) (x : Int) : List Int := nameT (nmdL p q x) (nmdL p q x).length
theorem nmgP_lo {p q : List Int} (hp : lo16 p) (hq : lo16 q) {x : Int} (hx : 0 ≤ x ∧ x < 16) : lo16 (nmgP p q x) := nameT_lo _ (nmdL_ok hp hq hx).1
theorem visit_pre {y : Int} {s : Sr} {j : Nat} (hj : j < s.1.length) : gi (visit y s).1 j = gi s.1 j := by
  unfold visit; split
  · rfl
  · simp only [gi_app]; rw [if_pos hj]
theorem srStep_pre {p q : List Int} {i : Nat} {s : Sr} {j : Nat} (hj : j < s.1.length) : gi (srStep p q i s).1 j = gi s.1 j := by
  unfold srStep
  rw [visit_pre (Nat.lt_of_lt_of_le hj visit_len), visit_pre hj]
theorem sr_mid {p q : List Int} {i j : Nat} {s0 s : Sr} (hp : lo16 p) (hq : lo16 q) (h1 : SrOk s0) (hi : i < s0.1.length) (h : s = if j = 0 then s0 else if j = 1 then visit (gi p (gi s0.1 i).toNat) s0 else srStep p q i s0) :
    SrOk s ∧ (∀ k, k < s0.1.length → gi s.1 k = gi s0.1 k) ∧ s0.1.length ≤ s.1.length := by
  have h0 := h1.lo i hi
  rw [h]
  split
  · exact ⟨h1, fun _ _ => rfl, Nat.le_refl _⟩
  · split
    · exact ⟨visit_ok h1 (hp.2 _ (by omega)), fun k hk => visit_pre hk, visit_len⟩
    · exact ⟨srStep_ok hp hq h1 hi, fun k hk => srStep_pre hk, srStep_len⟩
theorem c_impl_named {n : Int} {p q : List Int} {x : Int} (hp : lo16 p) (hq : lo16 q) (hx : 0 ≤ x ∧ x < 16) : PSpec Tryd.prog 37 [vD n p q, .int .i64 x] fun v => v = .own 5 1 (nmdL p q x).length (vi .u8 (nmdL p q x)) := by
  have hl := hp.1
  have hk := hq.1
  refine impl_named_f.f ?_
  unfold vD
  simp (disch := first | omega | (simp only [List.length_append, List.length_cons, List.length_nil, List.length_replicate, List.length_set, List.length_take, List.length_drop, vi_len, vb_len, vo_len, vl_len, vn_len]; omega)) only [↓EC, EV, EL, E2, E3, ER, seval, ↓reduceIte, false_imp_iff, impl_named_F, hl, hk]
  refine LP_of (σ := Sr × Nat) 100000 [(66, 31, 1), (69, 54, 1)] (fun s => [.own 5 1 s.1.1.length (vi .u8 s.1.1), .int .i64 s.2]) (fun s => [.int .i64 n :: vi .u8 (p ++ q), vb s.1.2])
    (fun s => SrOk s.1 ∧ s.2 ≤ s.1.1.length ∧ srRun p q (17 - s.2) s.2 s.1 = srRun p q 17 0 (srX x)) (fun s => 17 - s.2) (srX x, 0) (by simp [frameOk, names, lpz, sclp, scv, scvs, vi_nrf, vb_nrf, vt_nrf, v2_nrf, v3_nrf, nrfs, nrf, sc_vi, sc_vb, sc_vt, sc_v2, sc_v3, sc_vo, sc_vl, vo_nrf, vl_nrf, sc_vn, vn_nrf]) ⟨srX_ok hx, Nat.zero_le _, rfl⟩ ?_ ?_
  · simp (disch := first | omega | (simp only [List.length_append, List.length_cons, List.length_nil, List.length_replicate, List.length_set, List.length_take, List.length_drop, vi_len, vb_len, vo_len, vl_len, vn_len]; omega)) only [↓EC, EV, EL, E2, E3, ER, seval, ↓reduceIte, false_imp_iff, ColV_def]
    exact ⟨rfl, rfl⟩
  · rintro ⟨⟨l, m⟩, i⟩ ⟨h1, h2, h3⟩
    simp only at h1 h2 h3
    have hm := h1.len
    have hle := h1.le
    simp only at hm hle
    simp (disch := first | omega | (simp only [List.length_append, List.length_cons, List.length_nil, List.length_replicate, List.length_set, List.length_take, List.length_drop, vi_len, vb_len, vo_len, vl_len, vn_len]; omega)) only [↓EC, EV, EL, E2, E3, ER, seval, ↓reduceIte, false_imp_iff, ColV_def, lheap_def]
    (refine Split.mk (fun h => ?_) (fun h => ?_) <;> (try simp only [decide_eq_true_eq, decide_eq_false_iff_not, beq_iff_eq, bne_iff_ne, beq_eq_false_iff_ne, bne_eq_false_iff_eq, Bool.not_eq_true', Bool.not_eq_false', Bool.and_eq_true, Bool.or_eq_true, Bool.and_eq_false_iff, Bool.or_eq_false_iff, Int.not_lt, Int.not_le, Bool.false_eq_true, Bool.true_eq_false, false_and, and_false, true_and, and_true, or_false, false_or, or_true, true_or, not_true_eq_false, not_false_eq_true] at h))
    · have hi : i < l.length := by omega
      have hlo := h1.lo i hi
      simp only at hlo
      have hy1 := hp.2 (gi l i).toNat (by omega)
      have hy2 := hq.2 (gi l i).toNat (by omega)
      (try simp (disch := first | omega | (simp only [List.length_append, List.length_cons, List.length_nil, List.length_replicate, List.length_set, List.length_take, List.length_drop, vi_len, vb_len, vo_len, vl_len, vn_len]; omega)) only [↓EC, EV, EL, E2, E3, ER, seval, ↓reduceIte, false_imp_iff, hl, hk])
      refine LP_of (σ := Sr × Nat) 200000 [(66, 31, 1), (69, 54, 1), (100, 5, 1)] (fun s => [.own 5 1 s.1.1.length (vi .u8 s.1.1), .int .i64 s.2])
        (fun s => [.int .i64 n :: vi .u8 (p ++ q), vb s.1.2, vi .u8 [gi p (gi l i).toNat, gi q (gi l i).toNat]])
        (fun s => s.2 ≤ 2 ∧ s.1 = if s.2 = 0 then (l, m) else if s.2 = 1 then visit (gi p (gi l i).toNat) (l, m) else srStep p q i (l, m)) (fun s => 2 - s.2) ((l, m), 0) (by simp [frameOk, names, lpz, sclp, scv, scvs, vi_nrf, vb_nrf, vt_nrf, v2_nrf, v3_nrf, nrfs, nrf, sc_vi, sc_vb, sc_vt, sc_v2, sc_v3, sc_vo, sc_vl, vo_nrf, vl_nrf, sc_vn, vn_nrf]) ⟨Nat.zero_le 2, rfl⟩ ?_ ?_
      · simp (disch := first | omega | (simp only [List.length_append, List.length_cons, List.length_nil, List.length_replicate, List.length_set, List.length_take, List.length_drop, vi_len, vb_len, vo_len, vl_len, vn_len]; omega)) only [↓EC, EV, EL, E2, E3, ER, seval, ↓reduceIte, false_imp_iff, ColV_def]
        rfl
      · rintro ⟨s, j⟩ ⟨g1, g2⟩
        simp only at g1 g2
        obtain ⟨hs, hpre, hil⟩ := sr_mid (s0 := (l, m)) hp hq h1 hi g2
        simp only at hil
        have hsm := hs.len
        have hsl := hs.le
        simp (disch := first | omega | (simp only [List.length_append, List.length_cons, List.length_nil, List.length_replicate, List.length_set, List.length_take, List.length_drop, vi_len, vb_len, vo_len, vl_len, vn_len]; omega)) only [↓EC, EV, EL, E2, E3, ER, seval, ↓reduceIte, false_imp_iff, ColV_def, lheap_def]
        (refine Split.mk (fun h => ?_) (fun h => ?_) <;> (try simp only [decide_eq_true_eq, decide_eq_false_iff_not, beq_iff_eq, bne_iff_ne, beq_eq_false_iff_ne, bne_eq_false_iff_eq, Bool.not_eq_true', Bool.not_eq_false', Bool.and_eq_true, Bool.or_eq_true, Bool.and_eq_false_iff, Bool.or_eq_false_iff, Int.not_lt, Int.not_le, Bool.false_eq_true, Bool.true_eq_false, false_and, and_false, true_and, and_true, or_false, false_or, or_true, true_or, not_true_eq_false, not_false_eq_true] at h))
        · have hj : j = 0 ∨ j = 1 := by omega
          rcases hj with rfl | rfl
          · (try simp (disch := first | omega | (simp only [List.length_append, List.length_cons, List.length_nil, List.length_replicate, List.length_set, List.length_take, List.length_drop, vi_len, vb_len, vo_len, vl_len, vn_len]; omega)) only [↓EC, EV, EL, E2, E3, ER, seval, ↓reduceIte, false_imp_iff, hl, hk])
            rw [if_pos rfl] at g2
            (refine Split.mk (fun h => ?_) (fun h => ?_) <;> (try simp only [decide_eq_true_eq, decide_eq_false_iff_not, beq_iff_eq, bne_iff_ne, beq_eq_false_iff_ne, bne_eq_false_iff_eq, Bool.not_eq_true', Bool.not_eq_false', Bool.and_eq_true, Bool.or_eq_true, Bool.and_eq_false_iff, Bool.or_eq_false_iff, Int.not_lt, Int.not_le, Bool.false_eq_true, Bool.true_eq_false, false_and, and_false, true_and, and_true, or_false, false_or, or_true, true_or, not_true_eq_false, not_false_eq_true] at h))
            · exact ⟨(visit (gi p (gi l i).toNat) s, 1), by rw [visit_no h]; simp, by rw [visit_no h], ⟨by simp, by rw [g2]; rfl⟩, by simp⟩
            · exact ⟨(visit (gi p (gi l i).toNat) s, 1), by rw [visit_yes h]; simp, by rw [visit_yes h], ⟨by simp, by rw [g2]; rfl⟩, by simp⟩
          · (try simp (disch := first | omega | (simp only [List.length_append, List.length_cons, List.length_nil, List.length_replicate, List.length_set, List.length_take, List.length_drop, vi_len, vb_len, vo_len, vl_len, vn_len]; omega)) only [↓EC, EV, EL, E2, E3, ER, seval, ↓reduceIte, false_imp_iff, hl, hk])
            rw [if_neg (by decide), if_pos rfl] at g2
            (refine Split.mk (fun h => ?_) (fun h => ?_) <;> (try simp only [decide_eq_true_eq, decide_eq_false_iff_not, beq_iff_eq, bne_iff_ne, beq_eq_false_iff_ne, bne_eq_false_iff_eq, Bool.not_eq_true', Bool.not_eq_false', Bool.and_eq_true, Bool.or_eq_true, Bool.and_eq_false_iff, Bool.or_eq_false_iff, Int.not_lt, Int.not_le, Bool.false_eq_true, Bool.true_eq_false, false_and, and_false, true_and, and_true, or_false, false_or, or_true, true_or, not_true_eq_false, not_false_eq_true] at h))
            · exact ⟨(visit (gi q (gi l i).toNat) s, 2), by rw [visit_no h]; simp, by rw [visit_no h], ⟨by simp, by rw [g2]; rfl⟩, by simp⟩
            · exact ⟨(visit (gi q (gi l i).toNat) s, 2), by rw [visit_yes h]; simp, by rw [visit_yes h], ⟨by simp, by rw [g2]; rfl⟩, by simp⟩
        · (try simp (disch := first | omega | (simp only [List.length_append, List.length_cons, List.length_nil, List.length_replicate, List.length_set, List.length_take, List.length_drop, vi_len, vb_len, vo_len, vl_len, vn_len]; omega)) only [↓EC, EV, EL, E2, E3, ER, seval, ↓reduceIte, false_imp_iff])
          rw [if_neg (by omega), if_neg (by omega)] at g2
          refine ⟨(s, i + 1), rfl, rfl, ⟨hs, by simp only; omega, ?_⟩, by simp only; omega⟩
          rw [show 17 - i = 16 - i + 1 from by omega] at h3
          simp only [srRun, if_pos hi] at h3
          try simp only
          rw [g2, show 17 - (i + 1) = 16 - i from by omega]
          exact h3
    · (try simp (disch := first | omega | (simp only [List.length_append, List.length_cons, List.length_nil, List.length_replicate, List.length_set, List.length_take, List.length_drop, vi_len, vb_len, vo_len, vl_len, vn_len]; omega)) only [↓EC, EV, EL, E2, E3, ER, seval, ↓reduceIte, false_imp_iff])
      unfold nmdL
      rw [← h3, show 17 - i = 16 - i + 1 from by omega]
      simp only [srRun]
      rw [if_neg (by omega)]

/-! ### Renamed dessins -/
def rnT (p b : List Int) : Nat → List Int
  | 0 => List.replicate 16 0
  | s + 1 => (rnT p b s).set (gi p s).toNat (gi p (gi b s).toNat)
theorem rnT_len {p b : List Int} : ∀ s, (rnT p b s).length = 16
  | 0 => by simp [rnT]
  | s + 1 => by simp [rnT, rnT_len s]
theorem rnT_lo {p b : List Int} (hp : lo16 p) (hb : lo16 b) : ∀ s, s ≤ 16 → lo16 (rnT p b s)
  | 0, _ => ⟨by simp [rnT], fun i hi => by simp only [rnT]; rw [gi_rep]; split <;> omega⟩
  | s + 1, h => ⟨by simp [rnT, rnT_len], fun i hi => by
    have h1 := hb.2 s (by omega)
    simp only [rnT]
    rw [gi_set]
    split
    · exact hp.2 _ (by omega)
    · exact (rnT_lo hp hb s (by omega)).2 i hi⟩

/-! ### Tables -/
theorem isD.lo' {n : Int} {b w : List Int} (hb : okP b) (hw : okP w) (h : isD n b w) : lo16 b ∧ lo16 w ∧ (1 ≤ n ∧ n ≤ 16) := ⟨h.pb.lo hb, h.pw.lo hw, h.pb.1⟩
theorem rowsN_lim' {ls : List (List Int)} {k : Nat} (h : ∀ l ∈ ls, l.length ≤ k) : rowsN ls ≤ ls.length * k := by
  induction ls with
  | nil => simp [rowsN]
  | cons a r ih =>
    have h1 := h a (by simp)
    have h2 := ih fun l hl => h l (by simp [hl])
    simp only [rowsN, List.length_cons, Nat.add_mul, Nat.one_mul]
    omega
def tabT (E F : List Int) (s : Nat) : List (List Int) := (List.range s).map fun i => [gi E i, gi F i]
theorem tabT_len {E F : List Int} {s : Nat} : (tabT E F s).length = s := by simp [tabT]
theorem tabT_one {E F : List Int} {s : Nat} : tabT E F (s + 1) = tabT E F s ++ [[gi E s, gi F s]] := by simp [tabT, List.range_succ]
def tabR (n : Int) (b w : List Int) (x : Int) : List (List Int) := tabT (rnT (nmgP b w x) b n.toNat) (rnT (nmgP b w x) w n.toNat) n.toNat
theorem tabR_lim {n : Int} {b w : List Int} {x : Int} (hn : 1 ≤ n ∧ n ≤ 16) : (tabR n b w x).length ≤ 16 ∧ ∀ l ∈ tabR n b w x, l.length ≤ 16 := by
  unfold tabR
  refine ⟨by rw [tabT_len]; omega, fun l hl => ?_⟩
  simp only [tabT, List.mem_map] at hl
  obtain ⟨i, _, rfl⟩ := hl
  simp

end Go.Proofs.YtjklebickfcddaaDoor.Sep

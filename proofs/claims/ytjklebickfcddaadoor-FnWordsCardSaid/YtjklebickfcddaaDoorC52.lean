/- Words: strings.Trim, IsWord, InverseWord, ReduceWord. -/
import Derived.Test.YtjklebickfcddaaDoorC50
namespace Go.Proofs.YtjklebickfcddaaDoor.Sep
open Go.RowKit
set_option linter.unusedVariables false
set_option linter.unusedSimpArgs false
set_option maxRecDepth 20000
set_option maxHeartbeats 1000000

/-! ### Texts without letters of a set at their ends -/
def inM (m : List Bool) (c : UInt8) : Bool := gb m c.toNat
def tlT (m : List Bool) (s : List UInt8) : List UInt8 := s.dropWhile (inM m)
def trT (m : List Bool) (s : List UInt8) : List UInt8 := (tlT m s.reverse).reverse
theorem tlT_yes {m : List Bool} {c : UInt8} {r : List UInt8} (h : gb m c.toNat = true) : tlT m (c :: r) = tlT m r := by
  simp [tlT, List.dropWhile_cons, inM, h]
theorem tlT_no {m : List Bool} {c : UInt8} {r : List UInt8} (h : gb m c.toNat = false) : tlT m (c :: r) = c :: r := by
  simp [tlT, List.dropWhile_cons, inM, h]
theorem all_dw {P : UInt8 → Bool} : ∀ {l : List UInt8}, (∀ x ∈ l.dropWhile P, P x = true) ↔ ∀ x ∈ l, P x = true
  | [] => by simp
  | c :: r => by
    by_cases h : P c = true
    · rw [List.dropWhile_cons_of_pos h, all_dw (l := r)]; simp [h]
    · rw [List.dropWhile_cons_of_neg h]
theorem dw_nil {P : UInt8 → Bool} : ∀ {l : List UInt8}, l.dropWhile P = [] ↔ ∀ x ∈ l, P x = true
  | [] => by simp
  | c :: r => by
    by_cases h : P c = true
    · rw [List.dropWhile_cons_of_pos h, dw_nil (l := r)]; simp [h]
    · rw [List.dropWhile_cons_of_neg h]; simp [h]
theorem trim_nil {m : List Bool} {s : List UInt8} : tlT m (trT m s) = [] ↔ ∀ c ∈ s, inM m c = true := by
  unfold trT tlT
  rw [dw_nil]
  simp only [List.mem_reverse]
  rw [all_dw]; simp
theorem ub_get {s : List UInt8} {i : Nat} : (gi (ub s) i).toNat = (s.getD i 0).toNat := by rw [← ub_at]; exact Int.toNat_natCast _
theorem trT_yes {m : List Bool} {t : List UInt8} (h0 : 0 < t.length) (h : gb m (gi (ub t) (t.length - 1)).toNat = true) : trT m (t.take (t.length - 1)) = trT m t := by
  rcases List.eq_nil_or_concat t with rfl | ⟨r, c, rfl⟩
  · simp at h0
  · rw [ub_get] at h
    simp [trT, List.getD] at h ⊢
    rw [tlT_yes h]
theorem trT_no {m : List Bool} {t : List UInt8} (h0 : 0 < t.length) (h : gb m (gi (ub t) (t.length - 1)).toNat = false) : trT m t = t := by
  rcases List.eq_nil_or_concat t with rfl | ⟨r, c, rfl⟩
  · simp at h0
  · rw [ub_get] at h
    simp [trT, List.getD] at h ⊢
    rw [tlT_no h]
    try simp
def asT (cs : List UInt8) : Nat → List Bool
  | 0 => List.replicate 256 false
  | i + 1 => (asT cs i).set (gi (ub cs) i).toNat true
theorem asT_len {cs : List UInt8} : ∀ i, (asT cs i).length = 256
  | 0 => by simp [asT]
  | i + 1 => by simp [asT, asT_len i]
theorem asT_at {cs : List UInt8} {b : Nat} (hb : b < 256) : ∀ i, gb (asT cs i) b = true ↔ ∃ j, j < i ∧ (gi (ub cs) j).toNat = b
  | 0 => by simp only [asT]; rw [gb_rep]; simp
  | i + 1 => by
    simp only [asT]
    rw [gb_set, asT_len]
    by_cases e : (gi (ub cs) i).toNat = b
    · rw [if_pos ⟨e, hb⟩]; simp only [true_iff]; exact ⟨i, by omega, e⟩
    · rw [if_neg (fun h => e h.1), asT_at hb i]
      exact ⟨fun ⟨j, a, c⟩ => ⟨j, by omega, c⟩, fun ⟨j, a, c⟩ => ⟨j, by have : j ≠ i := fun h => e (h ▸ c); omega, c⟩⟩
theorem dv_pfb {h : Hp} {m : List Bool} : dv h (.pf (vb m) 0) = .pf (vb m) 0 := by simp [dv, vb_vws]
theorem c_contains {m : List Bool} (hm : m.length = 256) {x : Int} (hx : 0 ≤ x ∧ x ≤ 255) : PSpec Tryd.prog 72 [.pf (vb m) 0, .int .u8 x] fun v => v = .bool (gb m x.toNat) := by
  refine strings_asciiSet_contains_f.f ?_
  simp (disch := first | omega | (simp only [List.length_append, List.length_cons, List.length_nil, List.length_replicate, List.length_set, List.length_take, List.length_drop, vi_len, vb_len, vo_len, vl_len, vn_len]; omega)) only [↓EC, EV, EL, E2, E3, ER, seval, ↓reduceIte, false_imp_iff, strings_asciiSet_contains_F, hm]
theorem c_trimL {m : List Bool} (hm : m.length = 256) {s : List UInt8} (hs : s.length ≤ 1048576) : PSpec Tryd.prog 52 [.str s, .pf (vb m) 0] fun v => v = .str (tlT m s) := by
  refine strings_trimLeftASCII_f.f ?_
  simp (disch := first | omega | (simp only [List.length_append, List.length_cons, List.length_nil, List.length_replicate, List.length_set, List.length_take, List.length_drop, vi_len, vb_len, vo_len, vl_len, vn_len]; omega)) only [↓EC, EV, EL, E2, E3, ER, seval, ↓reduceIte, false_imp_iff, strings_trimLeftASCII_F, hm]
  refine LP_of (σ := List UInt8) 100000 [] (fun t => [.str t]) (fun t => []) (fun t => tlT m t = tlT m s ∧ t.length ≤ s.length) (fun t => t.length) s (by simp [frameOk, names, lpz, sclp, scv, scvs, vi_nrf, vb_nrf, vt_nrf, v2_nrf, v3_nrf, nrfs, nrf, sc_vi, sc_vb, sc_vt, sc_v2, sc_v3, sc_vo, sc_vl, vo_nrf, vl_nrf, sc_vn, vn_nrf]) ⟨rfl, Nat.le_refl _⟩ ?_ ?_
  · simp (disch := first | omega | (simp only [List.length_append, List.length_cons, List.length_nil, List.length_replicate, List.length_set, List.length_take, List.length_drop, vi_len, vb_len, vo_len, vl_len, vn_len]; omega)) only [↓EC, EV, EL, E2, E3, ER, seval, ↓reduceIte, false_imp_iff, ColV_def]
  · rintro t ⟨h1, h2⟩
    simp (disch := first | omega | (simp only [List.length_append, List.length_cons, List.length_nil, List.length_replicate, List.length_set, List.length_take, List.length_drop, vi_len, vb_len, vo_len, vl_len, vn_len]; omega)) only [↓EC, EV, EL, E2, E3, ER, seval, ↓reduceIte, false_imp_iff, ColV_def, lheap_def]
    (refine Split.mk (fun h => ?_) (fun h => ?_) <;> (try simp only [decide_eq_true_eq, decide_eq_false_iff_not, beq_iff_eq, bne_iff_ne, beq_eq_false_iff_ne, bne_eq_false_iff_eq, Bool.not_eq_true', Bool.not_eq_false', Bool.and_eq_true, Bool.or_eq_true, Bool.and_eq_false_iff, Bool.or_eq_false_iff, Int.not_lt, Int.not_le, Bool.false_eq_true, Bool.true_eq_false, false_and, and_false, true_and, and_true, or_false, false_or, or_true, true_or, not_true_eq_false, not_false_eq_true] at h))
    · obtain ⟨c, r, rfl⟩ : ∃ c r, t = c :: r := by
        cases t with
        | nil => simp at h
        | cons c r => exact ⟨c, r, rfl⟩
      have hl := ub_lim (s := c :: r) (i := 0)
      have e0 : gi (ub (c :: r)) 0 = (c.toNat : Int) := rfl
      rw [e0] at hl
      (try simp (disch := first | omega | (simp only [List.length_append, List.length_cons, List.length_nil, List.length_replicate, List.length_set, List.length_take, List.length_drop, vi_len, vb_len, vo_len, vl_len, vn_len]; omega)) only [↓EC, EV, EL, E2, E3, ER, seval, ↓reduceIte, false_imp_iff, EB, hm, dv_pfb])
      refine pcd_v (c_contains hm hl) ?_
      (try simp (disch := first | omega | (simp only [List.length_append, List.length_cons, List.length_nil, List.length_replicate, List.length_set, List.length_take, List.length_drop, vi_len, vb_len, vo_len, vl_len, vn_len]; omega)) only [↓EC, EV, EL, E2, E3, ER, seval, ↓reduceIte, false_imp_iff, EB, hm, dv_pfb, Int.toNat_natCast])
      (refine Split.mk (fun h => ?_) (fun h => ?_) <;> (try simp only [decide_eq_true_eq, decide_eq_false_iff_not, beq_iff_eq, bne_iff_ne, beq_eq_false_iff_ne, bne_eq_false_iff_eq, Bool.not_eq_true', Bool.not_eq_false', Bool.and_eq_true, Bool.or_eq_true, Bool.and_eq_false_iff, Bool.or_eq_false_iff, Int.not_lt, Int.not_le, Bool.false_eq_true, Bool.true_eq_false, false_and, and_false, true_and, and_true, or_false, false_or, or_true, true_or, not_true_eq_false, not_false_eq_true] at h))
      · (try simp (disch := first | omega | (simp only [List.length_append, List.length_cons, List.length_nil, List.length_replicate, List.length_set, List.length_take, List.length_drop, vi_len, vb_len, vo_len, vl_len, vn_len]; omega)) only [↓EC, EV, EL, E2, E3, ER, seval, ↓reduceIte, false_imp_iff, EB, hm, dv_pfb])
        rw [← h1, tlT_no h]
      · (try simp (disch := first | omega | (simp only [List.length_append, List.length_cons, List.length_nil, List.length_replicate, List.length_set, List.length_take, List.length_drop, vi_len, vb_len, vo_len, vl_len, vn_len]; omega)) only [↓EC, EV, EL, E2, E3, ER, seval, ↓reduceIte, false_imp_iff, EB, hm, dv_pfb])
        exact ⟨r, by simp, ⟨by rw [← h1, tlT_yes h], by simp at h2; omega⟩, by simp⟩
    · (try simp (disch := first | omega | (simp only [List.length_append, List.length_cons, List.length_nil, List.length_replicate, List.length_set, List.length_take, List.length_drop, vi_len, vb_len, vo_len, vl_len, vn_len]; omega)) only [↓EC, EV, EL, E2, E3, ER, seval, ↓reduceIte, false_imp_iff, EB])
      have : t = [] := by cases t with
        | nil => rfl
        | cons c r => simp at h; omega
      subst this
      rw [← h1]; rfl
theorem c_trimR {m : List Bool} (hm : m.length = 256) {s : List UInt8} (hs : s.length ≤ 1048576) : PSpec Tryd.prog 53 [.str s, .pf (vb m) 0] fun v => v = .str (trT m s) := by
  refine strings_trimRightASCII_f.f ?_
  simp (disch := first | omega | (simp only [List.length_append, List.length_cons, List.length_nil, List.length_replicate, List.length_set, List.length_take, List.length_drop, vi_len, vb_len, vo_len, vl_len, vn_len]; omega)) only [↓EC, EV, EL, E2, E3, ER, seval, ↓reduceIte, false_imp_iff, strings_trimRightASCII_F, hm]
  refine LP_of (σ := List UInt8) 100000 [] (fun t => [.str t]) (fun t => []) (fun t => trT m t = trT m s ∧ t.length ≤ s.length) (fun t => t.length) s (by simp [frameOk, names, lpz, sclp, scv, scvs, vi_nrf, vb_nrf, vt_nrf, v2_nrf, v3_nrf, nrfs, nrf, sc_vi, sc_vb, sc_vt, sc_v2, sc_v3, sc_vo, sc_vl, vo_nrf, vl_nrf, sc_vn, vn_nrf]) ⟨rfl, Nat.le_refl _⟩ ?_ ?_
  · simp (disch := first | omega | (simp only [List.length_append, List.length_cons, List.length_nil, List.length_replicate, List.length_set, List.length_take, List.length_drop, vi_len, vb_len, vo_len, vl_len, vn_len]; omega)) only [↓EC, EV, EL, E2, E3, ER, seval, ↓reduceIte, false_imp_iff, ColV_def]
  · rintro t ⟨h1, h2⟩
    simp (disch := first | omega | (simp only [List.length_append, List.length_cons, List.length_nil, List.length_replicate, List.length_set, List.length_take, List.length_drop, vi_len, vb_len, vo_len, vl_len, vn_len]; omega)) only [↓EC, EV, EL, E2, E3, ER, seval, ↓reduceIte, false_imp_iff, ColV_def, lheap_def]
    (refine Split.mk (fun h => ?_) (fun h => ?_) <;> (try simp only [decide_eq_true_eq, decide_eq_false_iff_not, beq_iff_eq, bne_iff_ne, beq_eq_false_iff_ne, bne_eq_false_iff_eq, Bool.not_eq_true', Bool.not_eq_false', Bool.and_eq_true, Bool.or_eq_true, Bool.and_eq_false_iff, Bool.or_eq_false_iff, Int.not_lt, Int.not_le, Bool.false_eq_true, Bool.true_eq_false, false_and, and_false, true_and, and_true, or_false, false_or, or_true, true_or, not_true_eq_false, not_false_eq_true] at h))
    · have h0 : 0 < t.length := by omega
      have hl := ub_lim (s := t) (i := t.length - 1)
      have e1 : ((t.length : Int) - 1).toNat = t.length - 1 := by omega
      (try simp (disch := first | omega | (simp only [List.length_append, List.length_cons, List.length_nil, List.length_replicate, List.length_set, List.length_take, List.length_drop, vi_len, vb_len, vo_len, vl_len, vn_len]; omega)) only [↓EC, EV, EL, E2, E3, ER, seval, ↓reduceIte, false_imp_iff, EB, hm, e1, dv_pfb])
      refine pcd_v (c_contains hm hl) ?_
      (try simp (disch := first | omega | (simp only [List.length_append, List.length_cons, List.length_nil, List.length_replicate, List.length_set, List.length_take, List.length_drop, vi_len, vb_len, vo_len, vl_len, vn_len]; omega)) only [↓EC, EV, EL, E2, E3, ER, seval, ↓reduceIte, false_imp_iff, EB, hm, e1, dv_pfb])
      (refine Split.mk (fun h => ?_) (fun h => ?_) <;> (try simp only [decide_eq_true_eq, decide_eq_false_iff_not, beq_iff_eq, bne_iff_ne, beq_eq_false_iff_ne, bne_eq_false_iff_eq, Bool.not_eq_true', Bool.not_eq_false', Bool.and_eq_true, Bool.or_eq_true, Bool.and_eq_false_iff, Bool.or_eq_false_iff, Int.not_lt, Int.not_le, Bool.false_eq_true, Bool.true_eq_false, false_and, and_false, true_and, and_true, or_false, false_or, or_true, true_or, not_true_eq_false, not_false_eq_true] at h))
      · (try simp (disch := first | omega | (simp only [List.length_append, List.length_cons, List.length_nil, List.length_replicate, List.length_set, List.length_take, List.length_drop, vi_len, vb_len, vo_len, vl_len, vn_len]; omega)) only [↓EC, EV, EL, E2, E3, ER, seval, ↓reduceIte, false_imp_iff, EB, hm, e1, dv_pfb])
        rw [← h1, trT_no h0 h]
      · (try simp (disch := first | omega | (simp only [List.length_append, List.length_cons, List.length_nil, List.length_replicate, List.length_set, List.length_take, List.length_drop, vi_len, vb_len, vo_len, vl_len, vn_len]; omega)) only [↓EC, EV, EL, E2, E3, ER, seval, ↓reduceIte, false_imp_iff, EB, hm, e1, dv_pfb])
        exact ⟨t.take (t.length - 1), by simp, ⟨by rw [← h1, trT_yes h0 h], by simp; omega⟩, by simp; omega⟩
    · (try simp (disch := first | omega | (simp only [List.length_append, List.length_cons, List.length_nil, List.length_replicate, List.length_set, List.length_take, List.length_drop, vi_len, vb_len, vo_len, vl_len, vn_len]; omega)) only [↓EC, EV, EL, E2, E3, ER, seval, ↓reduceIte, false_imp_iff, EB])
      have : t = [] := by cases t with
        | nil => rfl
        | cons c r => simp at h; omega
      subst this
      rw [← h1]; rfl
theorem c_makeASCIISet {cs : List UInt8} (hc : ∀ i, i < cs.length → gi (ub cs) i < 128) (hl : cs.length ≤ 100) : PSpec Tryd.prog 51 [.str cs] fun v => v = .tup [.agg (vb (asT cs cs.length)), .bool true] := by
  refine strings_makeASCIISet_f.f ?_
  simp (disch := first | omega | (simp only [List.length_append, List.length_cons, List.length_nil, List.length_replicate, List.length_set, List.length_take, List.length_drop, vi_len, vb_len, vo_len, vl_len, vn_len]; omega)) only [↓EC, EV, EL, E2, E3, ER, seval, ↓reduceIte, false_imp_iff, strings_makeASCIISet_F]
  refine LP_of (σ := Nat) 100000 [(66, 72, 1)] (fun i => [.int .i64 i]) (fun i => [vb (asT cs i)]) (fun i => i ≤ cs.length) (fun i => cs.length - i) 0 (by simp [frameOk, names, lpz, sclp, scv, scvs, vi_nrf, vb_nrf, vt_nrf, v2_nrf, v3_nrf, nrfs, nrf, sc_vi, sc_vb, sc_vt, sc_v2, sc_v3, sc_vo, sc_vl, vo_nrf, vl_nrf, sc_vn, vn_nrf]) (Nat.zero_le _) ?_ ?_
  · simp (disch := first | omega | (simp only [List.length_append, List.length_cons, List.length_nil, List.length_replicate, List.length_set, List.length_take, List.length_drop, vi_len, vb_len, vo_len, vl_len, vn_len]; omega)) only [↓EC, EV, EL, E2, E3, ER, seval, ↓reduceIte, false_imp_iff, ColV_def]
    rfl
  · rintro i h1
    have hm := asT_len (cs := cs) i
    simp (disch := first | omega | (simp only [List.length_append, List.length_cons, List.length_nil, List.length_replicate, List.length_set, List.length_take, List.length_drop, vi_len, vb_len, vo_len, vl_len, vn_len]; omega)) only [↓EC, EV, EL, E2, E3, ER, seval, ↓reduceIte, false_imp_iff, ColV_def, lheap_def]
    (refine Split.mk (fun h => ?_) (fun h => ?_) <;> (try simp only [decide_eq_true_eq, decide_eq_false_iff_not, beq_iff_eq, bne_iff_ne, beq_eq_false_iff_ne, bne_eq_false_iff_eq, Bool.not_eq_true', Bool.not_eq_false', Bool.and_eq_true, Bool.or_eq_true, Bool.and_eq_false_iff, Bool.or_eq_false_iff, Int.not_lt, Int.not_le, Bool.false_eq_true, Bool.true_eq_false, false_and, and_false, true_and, and_true, or_false, false_or, or_true, true_or, not_true_eq_false, not_false_eq_true] at h))
    · have hx := hc i (by omega)
      have hy := ub_lim (s := cs) (i := i)
      (try simp (disch := first | omega | (simp only [List.length_append, List.length_cons, List.length_nil, List.length_replicate, List.length_set, List.length_take, List.length_drop, vi_len, vb_len, vo_len, vl_len, vn_len]; omega)) only [↓EC, EV, EL, E2, E3, ER, seval, ↓reduceIte, false_imp_iff, EB, hm, dv_pfb])
      (refine Split.mk (fun h => ?_) (fun h => ?_) <;> (try simp only [decide_eq_true_eq, decide_eq_false_iff_not, beq_iff_eq, bne_iff_ne, beq_eq_false_iff_ne, bne_eq_false_iff_eq, Bool.not_eq_true', Bool.not_eq_false', Bool.and_eq_true, Bool.or_eq_true, Bool.and_eq_false_iff, Bool.or_eq_false_iff, Int.not_lt, Int.not_le, Bool.false_eq_true, Bool.true_eq_false, false_and, and_false, true_and, and_true, or_false, false_or, or_true, true_or, not_true_eq_false, not_false_eq_true] at h))
      · omega
      · have e2 := ub_get (s := cs) (i := i)
        rw [← e2]
        (try simp (disch := first | omega | (simp only [List.length_append, List.length_cons, List.length_nil, List.length_replicate, List.length_set, List.length_take, List.length_drop, vi_len, vb_len, vo_len, vl_len, vn_len]; omega)) only [↓EC, EV, EL, E2, E3, ER, seval, ↓reduceIte, false_imp_iff, EB, hm, dv_pfb])
        exact ⟨i + 1, by simp, by simp [asT], by omega, by omega⟩
    · have : i = cs.length := by omega
      subst this
      (try simp (disch := first | omega | (simp only [List.length_append, List.length_cons, List.length_nil, List.length_replicate, List.length_set, List.length_take, List.length_drop, vi_len, vb_len, vo_len, vl_len, vn_len]; omega)) only [↓EC, EV, EL, E2, E3, ER, seval, ↓reduceIte, false_imp_iff, EB, hm, dv_pfb])
theorem c_Trim {s cs : List UInt8} (hs : s.length ≤ 1048576) (hc : ∀ i, i < cs.length → gi (ub cs) i < 128) (hl : 2 ≤ cs.length ∧ cs.length ≤ 100) :
    PSpec Tryd.prog 31 [.str s, .str cs] fun v => v = .str (tlT (asT cs cs.length) (trT (asT cs cs.length) s)) := by
  have hm := asT_len (cs := cs) cs.length
  have hn : ¬ cs = [] := by intro e; subst e; simp at hl
  have hn2 : ¬ (cs.length : Int) = 1 := by omega
  refine strings_Trim_f.f ?_
  simp (disch := first | omega | (simp only [List.length_append, List.length_cons, List.length_nil, List.length_replicate, List.length_set, List.length_take, List.length_drop, vi_len, vb_len, vo_len, vl_len, vn_len]; omega)) only [↓EC, EV, EL, E2, E3, ER, seval, ↓reduceIte, false_imp_iff, strings_Trim_F]
  (refine Split.mk (fun h => ?_) (fun h => ?_) <;> (try simp only [decide_eq_true_eq, decide_eq_false_iff_not, beq_iff_eq, bne_iff_ne, beq_eq_false_iff_ne, bne_eq_false_iff_eq, Bool.not_eq_true', Bool.not_eq_false', Bool.and_eq_true, Bool.or_eq_true, Bool.and_eq_false_iff, Bool.or_eq_false_iff, Int.not_lt, Int.not_le, Bool.false_eq_true, Bool.true_eq_false, false_and, and_false, true_and, and_true, or_false, false_or, or_true, true_or, not_true_eq_false, not_false_eq_true] at h))
  · subst h
    (try simp (disch := first | omega | (simp only [List.length_append, List.length_cons, List.length_nil, List.length_replicate, List.length_set, List.length_take, List.length_drop, vi_len, vb_len, vo_len, vl_len, vn_len]; omega)) only [↓EC, EV, EL, E2, E3, ER, seval, ↓reduceIte, false_imp_iff])
    rfl
  · (try simp (disch := first | omega | (simp only [List.length_append, List.length_cons, List.length_nil, List.length_replicate, List.length_set, List.length_take, List.length_drop, vi_len, vb_len, vo_len, vl_len, vn_len]; omega)) only [↓EC, EV, EL, E2, E3, ER, seval, ↓reduceIte, false_imp_iff, hn])
    (refine Split.mk (fun h => ?_) (fun h => ?_) <;> (try simp only [decide_eq_true_eq, decide_eq_false_iff_not, beq_iff_eq, bne_iff_ne, beq_eq_false_iff_ne, bne_eq_false_iff_eq, Bool.not_eq_true', Bool.not_eq_false', Bool.and_eq_true, Bool.or_eq_true, Bool.and_eq_false_iff, Bool.or_eq_false_iff, Int.not_lt, Int.not_le, Bool.false_eq_true, Bool.true_eq_false, false_and, and_false, true_and, and_true, or_false, false_or, or_true, true_or, not_true_eq_false, not_false_eq_true] at h))
    · exact absurd h hn
    (try simp (disch := first | omega | (simp only [List.length_append, List.length_cons, List.length_nil, List.length_replicate, List.length_set, List.length_take, List.length_drop, vi_len, vb_len, vo_len, vl_len, vn_len]; omega)) only [↓EC, EV, EL, E2, E3, ER, seval, ↓reduceIte, false_imp_iff, hn2])
    (refine Split.mk (fun h => ?_) (fun h => ?_) <;> (try simp only [decide_eq_true_eq, decide_eq_false_iff_not, beq_iff_eq, bne_iff_ne, beq_eq_false_iff_ne, bne_eq_false_iff_eq, Bool.not_eq_true', Bool.not_eq_false', Bool.and_eq_true, Bool.or_eq_true, Bool.and_eq_false_iff, Bool.or_eq_false_iff, Int.not_lt, Int.not_le, Bool.false_eq_true, Bool.true_eq_false, false_and, and_false, true_and, and_true, or_false, false_or, or_true, true_or, not_true_eq_false, not_false_eq_true] at h))
    · omega
    · (try simp (disch := first | omega | (simp only [List.length_append, List.length_cons, List.length_nil, List.length_replicate, List.length_set, List.length_take, List.length_drop, vi_len, vb_len, vo_len, vl_len, vn_len]; omega)) only [↓EC, EV, EL, E2, E3, ER, seval, ↓reduceIte, false_imp_iff])
      refine pcd_v (c_makeASCIISet hc hl.2) ?_
      (try simp (disch := first | omega | (simp only [List.length_append, List.length_cons, List.length_nil, List.length_replicate, List.length_set, List.length_take, List.length_drop, vi_len, vb_len, vo_len, vl_len, vn_len]; omega)) only [↓EC, EV, EL, E2, E3, ER, seval, ↓reduceIte, false_imp_iff, hm, dv_pfb])
      have hr : (trT (asT cs cs.length) s).length ≤ s.length := by
        unfold trT tlT
        rw [List.length_reverse]
        exact Nat.le_trans (List.dropWhile_sublist _).length_le (by simp)
      generalize asT cs cs.length = m at *
      refine pcd_v (c_trimR hm hs) ?_
      (try simp (disch := first | omega | (simp only [List.length_append, List.length_cons, List.length_nil, List.length_replicate, List.length_set, List.length_take, List.length_drop, vi_len, vb_len, vo_len, vl_len, vn_len]; omega)) only [↓EC, EV, EL, E2, E3, ER, seval, ↓reduceIte, false_imp_iff, hm, dv_pfb])
      refine pcd_v (c_trimL hm (by omega)) ?_
      (try simp (disch := first | omega | (simp only [List.length_append, List.length_cons, List.length_nil, List.length_replicate, List.length_set, List.length_take, List.length_drop, vi_len, vb_len, vo_len, vl_len, vn_len]; omega)) only [↓EC, EV, EL, E2, E3, ER, seval, ↓reduceIte, false_imp_iff])

/-! ### Words of the triangle -/
def xyXY : List UInt8 := [120, 121, 88, 89]
theorem asT_in {cs : List UInt8} {c : UInt8} : inM (asT cs cs.length) c = true ↔ c ∈ cs := by
  unfold inM
  rw [asT_at (by have := c.toNat_lt; omega)]
  constructor
  · rintro ⟨j, h1, h2⟩
    rw [ub_get] at h2
    have h3 : cs.getD j 0 = c := UInt8.toNat_inj.1 h2
    rw [← h3, List.getD, List.getElem?_eq_getElem h1]
    exact List.getElem_mem h1
  · intro h
    obtain ⟨j, h1, h2⟩ := List.getElem_of_mem h
    refine ⟨j, h1, ?_⟩
    rw [ub_get, List.getD, List.getElem?_eq_getElem h1]
    simp [h2]
instance {x : Int} : Decidable (ltr x) := by unfold ltr; infer_instance
def isW (s : List UInt8) : Bool := decide (s.length ≤ 60 ∧ ∀ c ∈ s, c ∈ xyXY)
theorem ltr_mem {c : UInt8} : c ∈ xyXY ↔ ltr (c.toNat : Int) := by
  simp only [xyXY, List.mem_cons, List.not_mem_nil, or_false, ltr]
  constructor
  · rintro (rfl | rfl | rfl | rfl)
    · exact .inl rfl
    · exact .inr (.inr (.inl rfl))
    · exact .inr (.inl rfl)
    · exact .inr (.inr (.inr rfl))
  · intro h
    have : ∀ n : UInt8, (c.toNat : Int) = n.toNat → c = n := fun n h => UInt8.toNat_inj.1 (by omega)
    rcases h with h | h | h | h
    · exact .inl (this 120 h)
    · exact .inr (.inr (.inl (this 88 h)))
    · exact .inr (.inl (this 121 h))
    · exact .inr (.inr (.inr (this 89 h)))
theorem lets_iff {s : List UInt8} : (∀ c ∈ s, c ∈ xyXY) ↔ lets (ub s) := by
  constructor
  · intro h i hi
    rw [ub_len] at hi
    rw [← ub_at, ← ltr_mem, List.getD, List.getElem?_eq_getElem hi]
    exact h _ (List.getElem_mem hi)
  · intro h c hc
    obtain ⟨j, h1, h2⟩ := List.getElem_of_mem hc
    have h3 := h j (by rw [ub_len]; exact h1)
    rw [← ub_at, List.getD, List.getElem?_eq_getElem h1] at h3
    rw [ltr_mem, ← h2]; exact h3
theorem isW_lets {s : List UInt8} (h : isW s = true) : lets (ub s) ∧ s.length ≤ 60 := by
  unfold isW at h
  rw [decide_eq_true_eq] at h
  exact ⟨lets_iff.1 h.2, h.1⟩
theorem c_impl_IsWord {s : List UInt8} (hs : s.length ≤ 1048576) : PSpec Tryd.prog 11 [.str s] fun v => v = .bool (isW s) := by
  refine impl_IsWord_f.f ?_
  simp (disch := first | omega | (simp only [List.length_append, List.length_cons, List.length_nil, List.length_replicate, List.length_set, List.length_take, List.length_drop, vi_len, vb_len, vo_len, vl_len, vn_len]; omega)) only [↓EC, EV, EL, E2, E3, ER, seval, ↓reduceIte, false_imp_iff, impl_IsWord_F]
  have ht := c_Trim (s := s) (cs := xyXY) hs (by decide) (by decide)
  have hq : (tlT (asT xyXY xyXY.length) (trT (asT xyXY xyXY.length) s) = []) ↔ ∀ c ∈ s, c ∈ xyXY := by
    rw [trim_nil]; simp only [asT_in]
  generalize tlT (asT xyXY xyXY.length) (trT (asT xyXY xyXY.length) s) = t at *
  (refine Split.mk (fun h => ?_) (fun h => ?_) <;> (try simp only [decide_eq_true_eq, decide_eq_false_iff_not, beq_iff_eq, bne_iff_ne, beq_eq_false_iff_ne, bne_eq_false_iff_eq, Bool.not_eq_true', Bool.not_eq_false', Bool.and_eq_true, Bool.or_eq_true, Bool.and_eq_false_iff, Bool.or_eq_false_iff, Int.not_lt, Int.not_le, Bool.false_eq_true, Bool.true_eq_false, false_and, and_false, true_and, and_true, or_false, false_or, or_true, true_or, not_true_eq_false, not_false_eq_true] at h))
  · (try simp (disch := first | omega | (simp only [List.length_append, List.length_cons, List.length_nil, List.length_replicate, List.length_set, List.length_take, List.length_drop, vi_len, vb_len, vo_len, vl_len, vn_len]; omega)) only [↓EC, EV, EL, E2, E3, ER, seval, ↓reduceIte, false_imp_iff])
    refine pcd_v ht ?_
    (try simp (disch := first | omega | (simp only [List.length_append, List.length_cons, List.length_nil, List.length_replicate, List.length_set, List.length_take, List.length_drop, vi_len, vb_len, vo_len, vl_len, vn_len]; omega)) only [↓EC, EV, EL, E2, E3, ER, seval, ↓reduceIte, false_imp_iff])
    have h' : s.length ≤ 60 := by omega
    simp only [isW, h', true_and, ← hq]
    cases t <;> rfl
  · (try simp (disch := first | omega | (simp only [List.length_append, List.length_cons, List.length_nil, List.length_replicate, List.length_set, List.length_take, List.length_drop, vi_len, vb_len, vo_len, vl_len, vn_len]; omega)) only [↓EC, EV, EL, E2, E3, ER, seval, ↓reduceIte, false_imp_iff])
    have h' : ¬ s.length ≤ 60 := by omega
    simp only [isW, h', false_and, decide_false]
theorem c_spec_l08Letter {x : Int} : PSpec Tryd.prog 47 [.int .u8 x] fun v => v = .bool (decide (ltr x)) := by
  refine spec_l08Letter_f.f ?_
  simp (disch := first | omega | (simp only [List.length_append, List.length_cons, List.length_nil, List.length_replicate, List.length_set, List.length_take, List.length_drop, vi_len, vb_len, vo_len, vl_len, vn_len]; omega)) only [↓EC, EV, EL, E2, E3, ER, seval, ↓reduceIte, false_imp_iff, spec_l08Letter_F]
  unfold ltr
  repeat' (refine Split.mk (fun h => ?_) (fun h => ?_) <;> (try simp only [decide_eq_true_eq, decide_eq_false_iff_not, beq_iff_eq, bne_iff_ne, beq_eq_false_iff_ne, bne_eq_false_iff_eq, Bool.not_eq_true', Bool.not_eq_false', Bool.and_eq_true, Bool.or_eq_true, Bool.and_eq_false_iff, Bool.or_eq_false_iff, Int.not_lt, Int.not_le, Bool.false_eq_true, Bool.true_eq_false, false_and, and_false, true_and, and_true, or_false, false_or, or_true, true_or, not_true_eq_false, not_false_eq_true] at h))
  all_goals first | (simp_all; done) | skip
  rw [V.bool.injEq, Bool.eq_iff_iff]
  simp_all
theorem c_spec_l08Word {s : List UInt8} (hs : s.length ≤ 1048576) : PSpec Tryd.prog 27 [.str s] fun v => v = .bool (isW s) := by
  refine spec_l08Word_f.f ?_
  simp (disch := first | omega | (simp only [List.length_append, List.length_cons, List.length_nil, List.length_replicate, List.length_set, List.length_take, List.length_drop, vi_len, vb_len, vo_len, vl_len, vn_len]; omega)) only [↓EC, EV, EL, E2, E3, ER, seval, ↓reduceIte, false_imp_iff, spec_l08Word_F]
  refine LP_of (σ := Nat) 100000 [] (fun i => [.int .i64 i]) (fun i => []) (fun i => i ≤ s.length ∧ ∀ j, j < i → ltr (gi (ub s) j)) (fun i => s.length - i) 0 (by simp [frameOk, names, lpz, sclp, scv, scvs, vi_nrf, vb_nrf, vt_nrf, v2_nrf, v3_nrf, nrfs, nrf, sc_vi, sc_vb, sc_vt, sc_v2, sc_v3, sc_vo, sc_vl, vo_nrf, vl_nrf, sc_vn, vn_nrf]) ⟨Nat.zero_le _, fun j hj => absurd hj (Nat.not_lt_zero j)⟩ ?_ ?_
  · simp (disch := first | omega | (simp only [List.length_append, List.length_cons, List.length_nil, List.length_replicate, List.length_set, List.length_take, List.length_drop, vi_len, vb_len, vo_len, vl_len, vn_len]; omega)) only [↓EC, EV, EL, E2, E3, ER, seval, ↓reduceIte, false_imp_iff, ColV_def]
  · rintro i ⟨h1, h2⟩
    simp (disch := first | omega | (simp only [List.length_append, List.length_cons, List.length_nil, List.length_replicate, List.length_set, List.length_take, List.length_drop, vi_len, vb_len, vo_len, vl_len, vn_len]; omega)) only [↓EC, EV, EL, E2, E3, ER, seval, ↓reduceIte, false_imp_iff, ColV_def, lheap_def]
    (refine Split.mk (fun h => ?_) (fun h => ?_) <;> (try simp only [decide_eq_true_eq, decide_eq_false_iff_not, beq_iff_eq, bne_iff_ne, beq_eq_false_iff_ne, bne_eq_false_iff_eq, Bool.not_eq_true', Bool.not_eq_false', Bool.and_eq_true, Bool.or_eq_true, Bool.and_eq_false_iff, Bool.or_eq_false_iff, Int.not_lt, Int.not_le, Bool.false_eq_true, Bool.true_eq_false, false_and, and_false, true_and, and_true, or_false, false_or, or_true, true_or, not_true_eq_false, not_false_eq_true] at h))
    · (try simp (disch := first | omega | (simp only [List.length_append, List.length_cons, List.length_nil, List.length_replicate, List.length_set, List.length_take, List.length_drop, vi_len, vb_len, vo_len, vl_len, vn_len]; omega)) only [↓EC, EV, EL, E2, E3, ER, seval, ↓reduceIte, false_imp_iff, EB])
      refine pcd_v c_spec_l08Letter ?_
      (try simp (disch := first | omega | (simp only [List.length_append, List.length_cons, List.length_nil, List.length_replicate, List.length_set, List.length_take, List.length_drop, vi_len, vb_len, vo_len, vl_len, vn_len]; omega)) only [↓EC, EV, EL, E2, E3, ER, seval, ↓reduceIte, false_imp_iff])
      (refine Split.mk (fun h => ?_) (fun h => ?_) <;> (try simp only [decide_eq_true_eq, decide_eq_false_iff_not, beq_iff_eq, bne_iff_ne, beq_eq_false_iff_ne, bne_eq_false_iff_eq, Bool.not_eq_true', Bool.not_eq_false', Bool.and_eq_true, Bool.or_eq_true, Bool.and_eq_false_iff, Bool.or_eq_false_iff, Int.not_lt, Int.not_le, Bool.false_eq_true, Bool.true_eq_false, false_and, and_false, true_and, and_true, or_false, false_or, or_true, true_or, not_true_eq_false, not_false_eq_true] at h))
      · (try simp (disch := first | omega | (simp only [List.length_append, List.length_cons, List.length_nil, List.length_replicate, List.length_set, List.length_take, List.length_drop, vi_len, vb_len, vo_len, vl_len, vn_len]; omega)) only [↓EC, EV, EL, E2, E3, ER, seval, ↓reduceIte, false_imp_iff])
        unfold isW
        rw [eq_comm, V.bool.injEq, decide_eq_false_iff_not]
        rintro ⟨_, h3⟩
        exact h (lets_iff.1 h3 i (by rw [ub_len]; omega))
      · (try simp (disch := first | omega | (simp only [List.length_append, List.length_cons, List.length_nil, List.length_replicate, List.length_set, List.length_take, List.length_drop, vi_len, vb_len, vo_len, vl_len, vn_len]; omega)) only [↓EC, EV, EL, E2, E3, ER, seval, ↓reduceIte, false_imp_iff])
        refine ⟨i + 1, by simp, ⟨by omega, fun j hj => ?_⟩, by omega⟩
        by_cases e : j = i
        · subst e; exact h
        · exact h2 j (by omega)
    · (try simp (disch := first | omega | (simp only [List.length_append, List.length_cons, List.length_nil, List.length_replicate, List.length_set, List.length_take, List.length_drop, vi_len, vb_len, vo_len, vl_len, vn_len]; omega)) only [↓EC, EV, EL, E2, E3, ER, seval, ↓reduceIte, false_imp_iff])
      have h3 : ∀ c ∈ s, c ∈ xyXY := lets_iff.2 fun j hj => h2 j (by rw [ub_len] at hj; omega)
      unfold isW
      congr 1
      simp only [decide_eq_decide]
      exact ⟨fun a => ⟨by omega, h3⟩, fun a => by have := a.1; omega⟩
theorem c_spec_IsWord {s : List UInt8} (hs : s.length ≤ 1048576) : PSpec Tryd.prog 12 [.str s] fun v => v = .bool (isW s) := by
  refine spec_IsWord_f.f ?_
  simp (disch := first | omega | (simp only [List.length_append, List.length_cons, List.length_nil, List.length_replicate, List.length_set, List.length_take, List.length_drop, vi_len, vb_len, vo_len, vl_len, vn_len]; omega)) only [↓EC, EV, EL, E2, E3, ER, seval, ↓reduceIte, false_imp_iff, spec_IsWord_F]
  refine pcd_v (c_spec_l08Word hs) ?_
  (try simp (disch := first | omega | (simp only [List.length_append, List.length_cons, List.length_nil, List.length_replicate, List.length_set, List.length_take, List.length_drop, vi_len, vb_len, vo_len, vl_len, vn_len]; omega)) only [↓EC, EV, EL, E2, E3, ER, seval, ↓reduceIte, false_imp_iff])
theorem c_spec_InverseWord {s : List UInt8} (hs : s.length ≤ 1048576) : PSpec Tryd.prog 10 [.str s] fun v => v = if isW s = true then .tup [.str (inv s), .int .i64 0] else .tup [.str [], .int .i64 1] := by
  refine spec_InverseWord_f.f ?_
  simp (disch := first | omega | (simp only [List.length_append, List.length_cons, List.length_nil, List.length_replicate, List.length_set, List.length_take, List.length_drop, vi_len, vb_len, vo_len, vl_len, vn_len]; omega)) only [↓EC, EV, EL, E2, E3, ER, seval, ↓reduceIte, false_imp_iff, spec_InverseWord_F]
  refine pcd_v (c_spec_l08Word hs) ?_
  cases h : isW s with
  | false => (try simp (disch := first | omega | (simp only [List.length_append, List.length_cons, List.length_nil, List.length_replicate, List.length_set, List.length_take, List.length_drop, vi_len, vb_len, vo_len, vl_len, vn_len]; omega)) only [↓EC, EV, EL, E2, E3, ER, seval, ↓reduceIte, false_imp_iff])
  | true =>
    obtain ⟨h1, h2⟩ := isW_lets h
    (try simp (disch := first | omega | (simp only [List.length_append, List.length_cons, List.length_nil, List.length_replicate, List.length_set, List.length_take, List.length_drop, vi_len, vb_len, vo_len, vl_len, vn_len]; omega)) only [↓EC, EV, EL, E2, E3, ER, seval, ↓reduceIte, false_imp_iff])
    refine pcd_v (c_spec_l08Inverse h1 hs) ?_
    (try simp (disch := first | omega | (simp only [List.length_append, List.length_cons, List.length_nil, List.length_replicate, List.length_set, List.length_take, List.length_drop, vi_len, vb_len, vo_len, vl_len, vn_len]; omega)) only [↓EC, EV, EL, E2, E3, ER, seval, ↓reduceIte, false_imp_iff])
theorem c_impl_InverseWord {s : List UInt8} (hs : s.length ≤ 1048576) : PSpec Tryd.prog 9 [.str s] fun v => v = if isW s = true then .tup [.str (inv s), .int .i64 0] else .tup [.str [], .int .i64 1] := by
  refine impl_InverseWord_f.f ?_
  simp (disch := first | omega | (simp only [List.length_append, List.length_cons, List.length_nil, List.length_replicate, List.length_set, List.length_take, List.length_drop, vi_len, vb_len, vo_len, vl_len, vn_len]; omega)) only [↓EC, EV, EL, E2, E3, ER, seval, ↓reduceIte, false_imp_iff, impl_InverseWord_F]
  refine pcd_v (c_impl_IsWord hs) ?_
  cases h : isW s with
  | false => (try simp (disch := first | omega | (simp only [List.length_append, List.length_cons, List.length_nil, List.length_replicate, List.length_set, List.length_take, List.length_drop, vi_len, vb_len, vo_len, vl_len, vn_len]; omega)) only [↓EC, EV, EL, E2, E3, ER, seval, ↓reduceIte, false_imp_iff])
  | true =>
    obtain ⟨h1, h2⟩ := isW_lets h
    (try simp (disch := first | omega | (simp only [List.length_append, List.length_cons, List.length_nil, List.length_replicate, List.length_set, List.length_take, List.length_drop, vi_len, vb_len, vo_len, vl_len, vn_len]; omega)) only [↓EC, EV, EL, E2, E3, ER, seval, ↓reduceIte, false_imp_iff])
    refine pcd_v (c_impl_inverted h1 hs) ?_
    (try simp (disch := first | omega | (simp only [List.length_append, List.length_cons, List.length_nil, List.length_replicate, List.length_set, List.length_take, List.length_drop, vi_len, vb_len, vo_len, vl_len, vn_len]; omega)) only [↓EC, EV, EL, E2, E3, ER, seval, ↓reduceIte, false_imp_iff])
theorem c_spec_ReduceWord {s : List UInt8} (hs : s.length ≤ 1048576) : PSpec Tryd.prog 7 [.str s] fun v => v = if isW s = true then .tup [.str (red s), .int .i64 0] else .tup [.str [], .int .i64 1] := by
  refine spec_ReduceWord_f.f ?_
  simp (disch := first | omega | (simp only [List.length_append, List.length_cons, List.length_nil, List.length_replicate, List.length_set, List.length_take, List.length_drop, vi_len, vb_len, vo_len, vl_len, vn_len]; omega)) only [↓EC, EV, EL, E2, E3, ER, seval, ↓reduceIte, false_imp_iff, spec_ReduceWord_F]
  refine pcd_v (c_spec_l08Word hs) ?_
  cases h : isW s with
  | false => (try simp (disch := first | omega | (simp only [List.length_append, List.length_cons, List.length_nil, List.length_replicate, List.length_set, List.length_take, List.length_drop, vi_len, vb_len, vo_len, vl_len, vn_len]; omega)) only [↓EC, EV, EL, E2, E3, ER, seval, ↓reduceIte, false_imp_iff])
  | true =>
    obtain ⟨h1, h2⟩ := isW_lets h
    (try simp (disch := first | omega | (simp only [List.length_append, List.length_cons, List.length_nil, List.length_replicate, List.length_set, List.length_take, List.length_drop, vi_len, vb_len, vo_len, vl_len, vn_len]; omega)) only [↓EC, EV, EL, E2, E3, ER, seval, ↓reduceIte, false_imp_iff])
    refine pcd_v (c_spec_l08Reduce h1 hs) ?_
    (try simp (disch := first | omega | (simp only [List.length_append, List.length_cons, List.length_nil, List.length_replicate, List.length_set, List.length_take, List.length_drop, vi_len, vb_len, vo_len, vl_len, vn_len]; omega)) only [↓EC, EV, EL, E2, E3, ER, seval, ↓reduceIte, false_imp_iff])
theorem c_impl_ReduceWord {s : List UInt8} (hs : s.length ≤ 1048576) : PSpec Tryd.prog 6 [.str s] fun v => v = if isW s = true then .tup [.str (red s), .int .i64 0] else .tup [.str [], .int .i64 1] := by
  refine impl_ReduceWord_f.f ?_
  simp (disch := first | omega | (simp only [List.length_append, List.length_cons, List.length_nil, List.length_replicate, List.length_set, List.length_take, List.length_drop, vi_len, vb_len, vo_len, vl_len, vn_len]; omega)) only [↓EC, EV, EL, E2, E3, ER, seval, ↓reduceIte, false_imp_iff, impl_ReduceWord_F]
  refine pcd_v (c_impl_IsWord hs) ?_
  cases h : isW s with
  | false => (try simp (disch := first | omega | (simp only [List.length_append, List.length_cons, List.length_nil, List.length_replicate, List.length_set, List.length_take, List.length_drop, vi_len, vb_len, vo_len, vl_len, vn_len]; omega)) only [↓EC, EV, EL, E2, E3, ER, seval, ↓reduceIte, false_imp_iff])
  | true =>
    obtain ⟨h1, h2⟩ := isW_lets h
    (try simp (disch := first | omega | (simp only [List.length_append, List.length_cons, List.length_nil, List.length_replicate, List.length_set, List.length_take, List.length_drop, vi_len, vb_len, vo_len, vl_len, vn_len]; omega)) only [↓EC, EV, EL, E2, E3, ER, seval, ↓reduceIte, false_imp_iff])
    refine pcd_v (c_impl_reduced h1 hs) ?_
    (try simp (disch := first | omega | (simp only [List.length_append, List.length_cons, List.length_nil, List.length_replicate, List.length_set, List.length_take, List.length_drop, vi_len, vb_len, vo_len, vl_len, vn_len]; omega)) only [↓EC, EV, EL, E2, E3, ER, seval, ↓reduceIte, false_imp_iff])
end Go.Proofs.YtjklebickfcddaaDoor.Sep

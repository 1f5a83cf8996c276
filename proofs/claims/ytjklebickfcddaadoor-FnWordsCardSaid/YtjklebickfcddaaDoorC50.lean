/- Words: texts of letters, what the functions on them compute. -/
import Derived.Test.YtjklebickfcddaaDoorC20
namespace Go.Proofs.YtjklebickfcddaaDoor.Sep
open Go.RowKit
set_option linter.unusedVariables false
set_option linter.unusedSimpArgs false
set_option maxRecDepth 20000
set_option maxHeartbeats 1000000

/-! ### Texts as bytes -/
def ub (s : List UInt8) : List Int := s.map fun c => (c.toNat : Int)
def sb (l : List Int) : List UInt8 := l.map fun n => UInt8.ofNat n.toNat
theorem ub_len {s : List UInt8} : (ub s).length = s.length := by simp [ub]
theorem sb_len {l : List Int} : (sb l).length = l.length := by simp [sb]
theorem ub_at {s : List UInt8} {i : Nat} : ((s.getD i 0).toNat : Int) = gi (ub s) i := by
  simp only [ub, gi, List.getD, List.getElem?_map]
  cases s[i]? <;> rfl
theorem ub_app {s u : List UInt8} : ub (s ++ u) = ub s ++ ub u := by simp [ub]
theorem sb_app {l m : List Int} : sb (l ++ m) = sb l ++ sb m := by simp [sb]
theorem ub_lim {s : List UInt8} {i : Nat} : 0 ≤ gi (ub s) i ∧ gi (ub s) i ≤ 255 := by
  rw [← ub_at]; have := (s.getD i 0).toNat_lt; omega
theorem sb_ub {s : List UInt8} : sb (ub s) = s := by
  simp only [sb, ub, List.map_map]
  conv => rhs; rw [← List.map_id s]
  refine List.map_congr_left fun c _ => ?_
  simp
theorem ub_sb {l : List Int} (h : ∀ i, i < l.length → 0 ≤ gi l i ∧ gi l i ≤ 255) : ub (sb l) = l := by
  refine gi_ext (by simp [ub, sb]) fun j hj => ?_
  rw [ub_len, sb_len] at hj
  have h1 := h j hj
  rw [gi_of hj] at h1 ⊢
  rw [gi_of (by rw [ub_len, sb_len]; exact hj)]
  simp only [ub, sb, List.getElem_map, UInt8.toNat_ofNat']
  omega
theorem sb_inj {l m : List Int} (h1 : ∀ i, i < l.length → 0 ≤ gi l i ∧ gi l i ≤ 255) (h2 : ∀ i, i < m.length → 0 ≤ gi m i ∧ gi m i ≤ 255) (h : sb l = sb m) : l = m := by
  rw [← ub_sb h1, ← ub_sb h2, h]
theorem vbytes_vi : ∀ {l : List Int}, vbytes (vi .u8 l) = some (sb l)
  | [] => rfl
  | a :: l => by
    have ih := vbytes_vi (l := l)
    simp only [vi, List.map_cons, vbytes] at ih ⊢
    rw [ih]; rfl
def vb2sB (o n : Nat) : Slot → Option V
  | .row _ _ cs => grd ((0 < n ∨ o = 0) ∧ o + n ≤ cs.length) ((vbytes ((cs.drop o).take n)).bind fun s => some (.str s))
  | _ => none
theorem vb2s_rf {h : Hp} {b o n : Nat} : vb2s h (.rf b o n) = vb2sB o n (h b) := by simp only [vb2s]; cases h b <;> rfl
theorem vb2sB_row {o n : Nat} {e : TypeId} {sz : Nat} {cs : List V} : vb2sB o n (.row e sz cs) = grd ((0 < n ∨ o = 0) ∧ o + n ≤ cs.length) ((vbytes ((cs.drop o).take n)).bind fun s => some (.str s)) := rfl
theorem vb2s_nils {h : Hp} : vb2s h .nils = some (.str []) := rfl
theorem vbytes_one {n : Int} : vbytes [.int .u8 n] = some (sb [n]) := rfl
set_option linter.defProp false in
def EB := And.intro @ub_at <| And.intro @vbytes_vi <| And.intro @vb2s_rf <| And.intro @vb2sB_row <| And.intro @vb2s_nils <| And.intro @vbytes_one <| And.intro @ub_len <| And.intro @sb_len <| And.intro @tk_all @Nat.add_sub_cancel

/-! ### Letters -/
def ltr (x : Int) : Prop := x = 120 ∨ x = 88 ∨ x = 121 ∨ x = 89
def lets (l : List Int) : Prop := ∀ i, i < l.length → ltr (gi l i)
def othL (x : Int) : Int := if x = 120 then 88 else if x = 88 then 120 else if x = 121 then 89 else 121
theorem othL_ltr (x : Int) : ltr (othL x) := by unfold othL ltr; grind
theorem ltr.lim {x : Int} (h : ltr x) : 0 ≤ x ∧ x ≤ 255 := by unfold ltr at h; omega
theorem lets.lim {l : List Int} (h : lets l) : ∀ i, i < l.length → 0 ≤ gi l i ∧ gi l i ≤ 255 := fun i hi => (h i hi).lim
theorem lets_app {l m : List Int} (h1 : lets l) (h2 : lets m) : lets (l ++ m) := fun i hi => by
  rw [gi_app]; split
  · exact h1 i (by assumption)
  · exact h2 _ (by simp at hi; omega)
theorem lets_one {x : Int} (h : ltr x) : lets [x] := fun i hi => by
  have : i = 0 := by simp at hi; exact hi
  subst this; exact h
theorem lets_take {l : List Int} (h : lets l) (k : Nat) : lets (l.take k) := fun i hi => by
  simp only [List.length_take] at hi
  have : gi (l.take k) i = gi l i := by simp only [gi, List.getD, List.getElem?_take, if_pos (show i < k by omega)]
  rw [this]; exact h i (by omega)
theorem lets_nil : lets [] := fun i hi => absurd hi (Nat.not_lt_zero i)
theorem c_impl_inverseLetter {x : Int} (hx : ltr x) : PSpec Tryd.prog 46 [.int .u8 x] fun v => v = .int .u8 (othL x) := by
  refine impl_inverseLetter_f.f ?_
  simp (disch := first | omega | (simp only [List.length_append, List.length_cons, List.length_nil, List.length_replicate, List.length_set, List.length_take, List.length_drop, vi_len, vb_len, vo_len, vl_len, vn_len]; omega)) only [↓EC, EV, EL, E2, E3, ER, seval, ↓reduceIte, false_imp_iff, impl_inverseLetter_F]
  rcases hx with rfl | rfl | rfl | rfl <;> rfl
theorem c_spec_l08Other {x : Int} : PSpec Tryd.prog 48 [.int .u8 x] fun v => v = .int .u8 (othL x) := by
  refine spec_l08Other_f.f ?_
  simp (disch := first | omega | (simp only [List.length_append, List.length_cons, List.length_nil, List.length_replicate, List.length_set, List.length_take, List.length_drop, vi_len, vb_len, vo_len, vl_len, vn_len]; omega)) only [↓EC, EV, EL, E2, E3, ER, seval, ↓reduceIte, false_imp_iff, spec_l08Other_F]
  unfold othL
  repeat' (refine Split.mk (fun h => ?_) (fun h => ?_) <;> (try simp only [decide_eq_true_eq, decide_eq_false_iff_not, beq_iff_eq, bne_iff_ne, beq_eq_false_iff_ne, bne_eq_false_iff_eq, Bool.not_eq_true', Bool.not_eq_false', Bool.and_eq_true, Bool.or_eq_true, Bool.and_eq_false_iff, Bool.or_eq_false_iff, Int.not_lt, Int.not_le, Bool.false_eq_true, Bool.true_eq_false, false_and, and_false, true_and, and_true, or_false, false_or, or_true, true_or, not_true_eq_false, not_false_eq_true] at h))
  all_goals simp_all

/-! ### Reduced forms -/
def redS (o : List Int) (x : Int) : List Int := if 0 < o.length ∧ gi o (o.length - 1) = othL x then o.take (o.length - 1) else o ++ [x]
def redT (w : List Int) : Nat → List Int
  | 0 => []
  | i + 1 => redS (redT w i) (gi w i)
theorem redT_len {w : List Int} : ∀ i, (redT w i).length ≤ i
  | 0 => by simp [redT]
  | i + 1 => by
    have := redT_len (w := w) i
    simp only [redT, redS]; split <;> simp <;> omega
theorem redT_lets {w : List Int} (h : lets w) : ∀ i, i ≤ w.length → lets (redT w i)
  | 0, _ => lets_nil
  | i + 1, hi => by
    have ih := redT_lets h i (by omega)
    simp only [redT, redS]; split
    · exact lets_take ih _
    · exact lets_app ih (lets_one (h i (by omega)))
theorem redT_yes {w : List Int} {i : Nat} (h0 : 0 < (redT w i).length) (h : gi (redT w i) ((redT w i).length - 1) = othL (gi w i)) : redT w (i + 1) = (redT w i).take ((redT w i).length - 1) := by
  simp only [redT, redS]; rw [if_pos ⟨h0, h⟩]
theorem redT_no {w : List Int} {i : Nat} (h : ¬ (0 < (redT w i).length ∧ gi (redT w i) ((redT w i).length - 1) = othL (gi w i))) : redT w (i + 1) = redT w i ++ [gi w i] := by
  simp only [redT, redS]; rw [if_neg h]
def red (w : List UInt8) : List UInt8 := sb (redT (ub w) w.length)
theorem c_impl_reduced {w : List UInt8} (hw : lets (ub w)) (hl : w.length ≤ 1048576) : PSpec Tryd.prog 26 [.str w] fun v => v = .str (red w) := by
  refine impl_reduced_f.f ?_
  simp (disch := first | omega | (simp only [List.length_append, List.length_cons, List.length_nil, List.length_replicate, List.length_set, List.length_take, List.length_drop, vi_len, vb_len, vo_len, vl_len, vn_len]; omega)) only [↓EC, EV, EL, E2, E3, ER, seval, ↓reduceIte, false_imp_iff, impl_reduced_F]
  refine LP_ofE (σ := Nat) [1, 1] 100000 [] (fun s => [.own 5 1 (redT (ub w) s).length (vi .u8 (redT (ub w) s)), .int .i64 s]) (fun s => []) (fun s => s ≤ w.length) (fun s => w.length - s) 0 (by simp [frameOk, names, lpz, sclp, scv, scvs, vi_nrf, vb_nrf, vt_nrf, v2_nrf, v3_nrf, nrfs, nrf, sc_vi, sc_vb, sc_vt, sc_v2, sc_v3, sc_vo, sc_vl, vo_nrf, vl_nrf, sc_vn, vn_nrf]) (Nat.zero_le _) ?_ ?_
  · simp (disch := first | omega | (simp only [List.length_append, List.length_cons, List.length_nil, List.length_replicate, List.length_set, List.length_take, List.length_drop, vi_len, vb_len, vo_len, vl_len, vn_len]; omega)) only [↓EC, EV, EL, E2, E3, ER, seval, ↓reduceIte, false_imp_iff, ColV_def]
    exact ⟨fun _ => trivial, rfl⟩
  · rintro s h1
    have hrl := redT_len (w := ub w) s
    simp (disch := first | omega | (simp only [List.length_append, List.length_cons, List.length_nil, List.length_replicate, List.length_set, List.length_take, List.length_drop, vi_len, vb_len, vo_len, vl_len, vn_len]; omega)) only [↓EC, EV, EL, E2, E3, ER, seval, ↓reduceIte, false_imp_iff, ColV_def, lheap_def]
    (refine Split.mk (fun h => ?_) (fun h => ?_) <;> (try simp only [decide_eq_true_eq, decide_eq_false_iff_not, beq_iff_eq, bne_iff_ne, beq_eq_false_iff_ne, bne_eq_false_iff_eq, Bool.not_eq_true', Bool.not_eq_false', Bool.and_eq_true, Bool.or_eq_true, Bool.and_eq_false_iff, Bool.or_eq_false_iff, Int.not_lt, Int.not_le, Bool.false_eq_true, Bool.true_eq_false, false_and, and_false, true_and, and_true, or_false, false_or, or_true, true_or, not_true_eq_false, not_false_eq_true] at h))
    · have hx := hw s (by rw [ub_len]; omega)
      have e1 : (((redT (ub w) s).length : Int) - 1).toNat = (redT (ub w) s).length - 1 := by omega
      (try simp (disch := first | omega | (simp only [List.length_append, List.length_cons, List.length_nil, List.length_replicate, List.length_set, List.length_take, List.length_drop, vi_len, vb_len, vo_len, vl_len, vn_len]; omega)) only [↓EC, EV, EL, E2, E3, ER, seval, ↓reduceIte, false_imp_iff, EB])
      (refine Split.mk (fun h => ?_) (fun h => ?_) <;> (try simp only [decide_eq_true_eq, decide_eq_false_iff_not, beq_iff_eq, bne_iff_ne, beq_eq_false_iff_ne, bne_eq_false_iff_eq, Bool.not_eq_true', Bool.not_eq_false', Bool.and_eq_true, Bool.or_eq_true, Bool.and_eq_false_iff, Bool.or_eq_false_iff, Int.not_lt, Int.not_le, Bool.false_eq_true, Bool.true_eq_false, false_and, and_false, true_and, and_true, or_false, false_or, or_true, true_or, not_true_eq_false, not_false_eq_true] at h))
      · (try simp (disch := first | omega | (simp only [List.length_append, List.length_cons, List.length_nil, List.length_replicate, List.length_set, List.length_take, List.length_drop, vi_len, vb_len, vo_len, vl_len, vn_len]; omega)) only [↓EC, EV, EL, E2, E3, ER, seval, ↓reduceIte, false_imp_iff, EB, e1])
        refine pcd_v (c_impl_inverseLetter hx) ?_
        (try simp (disch := first | omega | (simp only [List.length_append, List.length_cons, List.length_nil, List.length_replicate, List.length_set, List.length_take, List.length_drop, vi_len, vb_len, vo_len, vl_len, vn_len]; omega)) only [↓EC, EV, EL, E2, E3, ER, seval, ↓reduceIte, false_imp_iff, EB, e1])
        (refine Split.mk (fun h => ?_) (fun h => ?_) <;> (try simp only [decide_eq_true_eq, decide_eq_false_iff_not, beq_iff_eq, bne_iff_ne, beq_eq_false_iff_ne, bne_eq_false_iff_eq, Bool.not_eq_true', Bool.not_eq_false', Bool.and_eq_true, Bool.or_eq_true, Bool.and_eq_false_iff, Bool.or_eq_false_iff, Int.not_lt, Int.not_le, Bool.false_eq_true, Bool.true_eq_false, false_and, and_false, true_and, and_true, or_false, false_or, or_true, true_or, not_true_eq_false, not_false_eq_true] at h))
        · (try simp (disch := first | omega | (simp only [List.length_append, List.length_cons, List.length_nil, List.length_replicate, List.length_set, List.length_take, List.length_drop, vi_len, vb_len, vo_len, vl_len, vn_len]; omega)) only [↓EC, EV, EL, E2, E3, ER, seval, ↓reduceIte, false_imp_iff, EB, e1])
          have h2 := redT_yes (w := ub w) (i := s) (by omega) h
          refine ⟨s + 1, ?_, by omega, by omega⟩
          rw [h2]; simp
        · (try simp (disch := first | omega | (simp only [List.length_append, List.length_cons, List.length_nil, List.length_replicate, List.length_set, List.length_take, List.length_drop, vi_len, vb_len, vo_len, vl_len, vn_len]; omega)) only [↓EC, EV, EL, E2, E3, ER, seval, ↓reduceIte, false_imp_iff, EB, e1])
          have h2 := redT_no (w := ub w) (i := s) fun h' => h h'.2
          exact ⟨s + 1, by rw [h2]; simp, by omega, by omega⟩
      · (try simp (disch := first | omega | (simp only [List.length_append, List.length_cons, List.length_nil, List.length_replicate, List.length_set, List.length_take, List.length_drop, vi_len, vb_len, vo_len, vl_len, vn_len]; omega)) only [↓EC, EV, EL, E2, E3, ER, seval, ↓reduceIte, false_imp_iff, EB, e1])
        have h2 := redT_no (w := ub w) (i := s) fun h' => absurd h'.1 (by omega)
        exact ⟨s + 1, by rw [h2]; simp, by omega, by omega⟩
    · have : s = w.length := by omega
      subst this
      (try simp (disch := first | omega | (simp only [List.length_append, List.length_cons, List.length_nil, List.length_replicate, List.length_set, List.length_take, List.length_drop, vi_len, vb_len, vo_len, vl_len, vn_len]; omega)) only [↓EC, EV, EL, E2, E3, ER, seval, ↓reduceIte, false_imp_iff, EB])
      rfl
theorem c_spec_l08Reduce {w : List UInt8} (hw : lets (ub w)) (hl : w.length ≤ 1048576) : PSpec Tryd.prog 28 [.str w] fun v => v = .str (red w) := by
  refine spec_l08Reduce_f.f ?_
  simp (disch := first | omega | (simp only [List.length_append, List.length_cons, List.length_nil, List.length_replicate, List.length_set, List.length_take, List.length_drop, vi_len, vb_len, vo_len, vl_len, vn_len]; omega)) only [↓EC, EV, EL, E2, E3, ER, seval, ↓reduceIte, false_imp_iff, spec_l08Reduce_F]
  refine LP_ofE (σ := Nat) [1, 1] 100000 [] (fun s => [.own 5 1 (redT (ub w) s).length (vi .u8 (redT (ub w) s)), .int .i64 s]) (fun s => []) (fun s => s ≤ w.length) (fun s => w.length - s) 0 (by simp [frameOk, names, lpz, sclp, scv, scvs, vi_nrf, vb_nrf, vt_nrf, v2_nrf, v3_nrf, nrfs, nrf, sc_vi, sc_vb, sc_vt, sc_v2, sc_v3, sc_vo, sc_vl, vo_nrf, vl_nrf, sc_vn, vn_nrf]) (Nat.zero_le _) ?_ ?_
  · simp (disch := first | omega | (simp only [List.length_append, List.length_cons, List.length_nil, List.length_replicate, List.length_set, List.length_take, List.length_drop, vi_len, vb_len, vo_len, vl_len, vn_len]; omega)) only [↓EC, EV, EL, E2, E3, ER, seval, ↓reduceIte, false_imp_iff, ColV_def]
    exact ⟨fun _ => trivial, rfl⟩
  · rintro s h1
    have hrl := redT_len (w := ub w) s
    simp (disch := first | omega | (simp only [List.length_append, List.length_cons, List.length_nil, List.length_replicate, List.length_set, List.length_take, List.length_drop, vi_len, vb_len, vo_len, vl_len, vn_len]; omega)) only [↓EC, EV, EL, E2, E3, ER, seval, ↓reduceIte, false_imp_iff, ColV_def, lheap_def]
    (refine Split.mk (fun h => ?_) (fun h => ?_) <;> (try simp only [decide_eq_true_eq, decide_eq_false_iff_not, beq_iff_eq, bne_iff_ne, beq_eq_false_iff_ne, bne_eq_false_iff_eq, Bool.not_eq_true', Bool.not_eq_false', Bool.and_eq_true, Bool.or_eq_true, Bool.and_eq_false_iff, Bool.or_eq_false_iff, Int.not_lt, Int.not_le, Bool.false_eq_true, Bool.true_eq_false, false_and, and_false, true_and, and_true, or_false, false_or, or_true, true_or, not_true_eq_false, not_false_eq_true] at h))
    · have hx := hw s (by rw [ub_len]; omega)
      have e1 : (((redT (ub w) s).length : Int) - 1).toNat = (redT (ub w) s).length - 1 := by omega
      (try simp (disch := first | omega | (simp only [List.length_append, List.length_cons, List.length_nil, List.length_replicate, List.length_set, List.length_take, List.length_drop, vi_len, vb_len, vo_len, vl_len, vn_len]; omega)) only [↓EC, EV, EL, E2, E3, ER, seval, ↓reduceIte, false_imp_iff, EB])
      (refine Split.mk (fun h => ?_) (fun h => ?_) <;> (try simp only [decide_eq_true_eq, decide_eq_false_iff_not, beq_iff_eq, bne_iff_ne, beq_eq_false_iff_ne, bne_eq_false_iff_eq, Bool.not_eq_true', Bool.not_eq_false', Bool.and_eq_true, Bool.or_eq_true, Bool.and_eq_false_iff, Bool.or_eq_false_iff, Int.not_lt, Int.not_le, Bool.false_eq_true, Bool.true_eq_false, false_and, and_false, true_and, and_true, or_false, false_or, or_true, true_or, not_true_eq_false, not_false_eq_true] at h))
      · (try simp (disch := first | omega | (simp only [List.length_append, List.length_cons, List.length_nil, List.length_replicate, List.length_set, List.length_take, List.length_drop, vi_len, vb_len, vo_len, vl_len, vn_len]; omega)) only [↓EC, EV, EL, E2, E3, ER, seval, ↓reduceIte, false_imp_iff, EB, e1])
        refine pcd_v c_spec_l08Other ?_
        (try simp (disch := first | omega | (simp only [List.length_append, List.length_cons, List.length_nil, List.length_replicate, List.length_set, List.length_take, List.length_drop, vi_len, vb_len, vo_len, vl_len, vn_len]; omega)) only [↓EC, EV, EL, E2, E3, ER, seval, ↓reduceIte, false_imp_iff, EB, e1])
        (refine Split.mk (fun h => ?_) (fun h => ?_) <;> (try simp only [decide_eq_true_eq, decide_eq_false_iff_not, beq_iff_eq, bne_iff_ne, beq_eq_false_iff_ne, bne_eq_false_iff_eq, Bool.not_eq_true', Bool.not_eq_false', Bool.and_eq_true, Bool.or_eq_true, Bool.and_eq_false_iff, Bool.or_eq_false_iff, Int.not_lt, Int.not_le, Bool.false_eq_true, Bool.true_eq_false, false_and, and_false, true_and, and_true, or_false, false_or, or_true, true_or, not_true_eq_false, not_false_eq_true] at h))
        · (try simp (disch := first | omega | (simp only [List.length_append, List.length_cons, List.length_nil, List.length_replicate, List.length_set, List.length_take, List.length_drop, vi_len, vb_len, vo_len, vl_len, vn_len]; omega)) only [↓EC, EV, EL, E2, E3, ER, seval, ↓reduceIte, false_imp_iff, EB, e1])
          have h2 := redT_yes (w := ub w) (i := s) (by omega) h
          refine ⟨s + 1, ?_, by omega, by omega⟩
          rw [h2]; simp
        · (try simp (disch := first | omega | (simp only [List.length_append, List.length_cons, List.length_nil, List.length_replicate, List.length_set, List.length_take, List.length_drop, vi_len, vb_len, vo_len, vl_len, vn_len]; omega)) only [↓EC, EV, EL, E2, E3, ER, seval, ↓reduceIte, false_imp_iff, EB, e1])
          have h2 := redT_no (w := ub w) (i := s) fun h' => h h'.2
          exact ⟨s + 1, by rw [h2]; simp, by omega, by omega⟩
      · (try simp (disch := first | omega | (simp only [List.length_append, List.length_cons, List.length_nil, List.length_replicate, List.length_set, List.length_take, List.length_drop, vi_len, vb_len, vo_len, vl_len, vn_len]; omega)) only [↓EC, EV, EL, E2, E3, ER, seval, ↓reduceIte, false_imp_iff, EB, e1])
        have h2 := redT_no (w := ub w) (i := s) fun h' => absurd h'.1 (by omega)
        exact ⟨s + 1, by rw [h2]; simp, by omega, by omega⟩
    · have : s = w.length := by omega
      subst this
      (try simp (disch := first | omega | (simp only [List.length_append, List.length_cons, List.length_nil, List.length_replicate, List.length_set, List.length_take, List.length_drop, vi_len, vb_len, vo_len, vl_len, vn_len]; omega)) only [↓EC, EV, EL, E2, E3, ER, seval, ↓reduceIte, false_imp_iff, EB])
      rfl

/-! ### Inverse words -/
def invT (w : List Int) : Nat → List Int
  | 0 => []
  | k + 1 => invT w k ++ [othL (gi w (w.length - 1 - k))]
theorem invT_len {w : List Int} : ∀ k, (invT w k).length = k
  | 0 => rfl
  | k + 1 => by simp [invT, invT_len k]
theorem invT_lets {w : List Int} : ∀ k, lets (invT w k)
  | 0 => lets_nil
  | k + 1 => lets_app (invT_lets k) (lets_one (othL_ltr _))
def inv (w : List UInt8) : List UInt8 := sb (invT (ub w) w.length)
theorem c_impl_inverted {w : List UInt8} (hw : lets (ub w)) (hl : w.length ≤ 1048576) : PSpec Tryd.prog 29 [.str w] fun v => v = .str (inv w) := by
  refine impl_inverted_f.f ?_
  simp (disch := first | omega | (simp only [List.length_append, List.length_cons, List.length_nil, List.length_replicate, List.length_set, List.length_take, List.length_drop, vi_len, vb_len, vo_len, vl_len, vn_len]; omega)) only [↓EC, EV, EL, E2, E3, ER, seval, ↓reduceIte, false_imp_iff, impl_inverted_F]
  refine LP_ofE (σ := Nat) [1, 1] 100000 [] (fun s => [.own 5 1 s (vi .u8 (invT (ub w) s)), .int .i64 ((w.length : Int) - 1 - s)]) (fun s => []) (fun s => s ≤ w.length) (fun s => w.length - s) 0 (by simp [frameOk, names, lpz, sclp, scv, scvs, vi_nrf, vb_nrf, vt_nrf, v2_nrf, v3_nrf, nrfs, nrf, sc_vi, sc_vb, sc_vt, sc_v2, sc_v3, sc_vo, sc_vl, vo_nrf, vl_nrf, sc_vn, vn_nrf]) (Nat.zero_le _) ?_ ?_
  · simp (disch := first | omega | (simp only [List.length_append, List.length_cons, List.length_nil, List.length_replicate, List.length_set, List.length_take, List.length_drop, vi_len, vb_len, vo_len, vl_len, vn_len]; omega)) only [↓EC, EV, EL, E2, E3, ER, seval, ↓reduceIte, false_imp_iff, ColV_def]
    simp [invT, vi, Rq]
  · rintro s h1
    have hrl := invT_len (w := ub w) s
    simp (disch := first | omega | (simp only [List.length_append, List.length_cons, List.length_nil, List.length_replicate, List.length_set, List.length_take, List.length_drop, vi_len, vb_len, vo_len, vl_len, vn_len]; omega)) only [↓EC, EV, EL, E2, E3, ER, seval, ↓reduceIte, false_imp_iff, ColV_def, lheap_def]
    (refine Split.mk (fun h => ?_) (fun h => ?_) <;> (try simp only [decide_eq_true_eq, decide_eq_false_iff_not, beq_iff_eq, bne_iff_ne, beq_eq_false_iff_ne, bne_eq_false_iff_eq, Bool.not_eq_true', Bool.not_eq_false', Bool.and_eq_true, Bool.or_eq_true, Bool.and_eq_false_iff, Bool.or_eq_false_iff, Int.not_lt, Int.not_le, Bool.false_eq_true, Bool.true_eq_false, false_and, and_false, true_and, and_true, or_false, false_or, or_true, true_or, not_true_eq_false, not_false_eq_true] at h))
    · have e1 : ((w.length : Int) - 1 - s).toNat = w.length - 1 - s := by omega
      have hx := hw (w.length - 1 - s) (by rw [ub_len]; omega)
      (try simp (disch := first | omega | (simp only [List.length_append, List.length_cons, List.length_nil, List.length_replicate, List.length_set, List.length_take, List.length_drop, vi_len, vb_len, vo_len, vl_len, vn_len]; omega)) only [↓EC, EV, EL, E2, E3, ER, seval, ↓reduceIte, false_imp_iff, EB, e1])
      refine pcd_v (c_impl_inverseLetter hx) ?_
      (try simp (disch := first | omega | (simp only [List.length_append, List.length_cons, List.length_nil, List.length_replicate, List.length_set, List.length_take, List.length_drop, vi_len, vb_len, vo_len, vl_len, vn_len]; omega)) only [↓EC, EV, EL, E2, E3, ER, seval, ↓reduceIte, false_imp_iff, EB, e1, hrl])
      refine ⟨s + 1, ?_, by omega, by omega⟩
      simp only [invT, ub_len]
      rw [show ((w.length : Int) - 1 - s - 1) = (w.length : Int) - 1 - ((s + 1 : Nat) : Int) from by omega]
    · have : s = w.length := by omega
      subst this
      (try simp (disch := first | omega | (simp only [List.length_append, List.length_cons, List.length_nil, List.length_replicate, List.length_set, List.length_take, List.length_drop, vi_len, vb_len, vo_len, vl_len, vn_len]; omega)) only [↓EC, EV, EL, E2, E3, ER, seval, ↓reduceIte, false_imp_iff, EB, hrl])
      rfl
theorem c_spec_l08Inverse {w : List UInt8} (hw : lets (ub w)) (hl : w.length ≤ 1048576) : PSpec Tryd.prog 30 [.str w] fun v => v = .str (inv w) := by
  refine spec_l08Inverse_f.f ?_
  simp (disch := first | omega | (simp only [List.length_append, List.length_cons, List.length_nil, List.length_replicate, List.length_set, List.length_take, List.length_drop, vi_len, vb_len, vo_len, vl_len, vn_len]; omega)) only [↓EC, EV, EL, E2, E3, ER, seval, ↓reduceIte, false_imp_iff, spec_l08Inverse_F]
  refine LP_ofE (σ := Nat) [1, 1] 100000 [] (fun s => [.own 5 1 s (vi .u8 (invT (ub w) s)), .int .i64 ((w.length : Int) - 1 - s)]) (fun s => []) (fun s => s ≤ w.length) (fun s => w.length - s) 0 (by simp [frameOk, names, lpz, sclp, scv, scvs, vi_nrf, vb_nrf, vt_nrf, v2_nrf, v3_nrf, nrfs, nrf, sc_vi, sc_vb, sc_vt, sc_v2, sc_v3, sc_vo, sc_vl, vo_nrf, vl_nrf, sc_vn, vn_nrf]) (Nat.zero_le _) ?_ ?_
  · simp (disch := first | omega | (simp only [List.length_append, List.length_cons, List.length_nil, List.length_replicate, List.length_set, List.length_take, List.length_drop, vi_len, vb_len, vo_len, vl_len, vn_len]; omega)) only [↓EC, EV, EL, E2, E3, ER, seval, ↓reduceIte, false_imp_iff, ColV_def]
    simp [invT, vi, Rq]
  · rintro s h1
    have hrl := invT_len (w := ub w) s
    simp (disch := first | omega | (simp only [List.length_append, List.length_cons, List.length_nil, List.length_replicate, List.length_set, List.length_take, List.length_drop, vi_len, vb_len, vo_len, vl_len, vn_len]; omega)) only [↓EC, EV, EL, E2, E3, ER, seval, ↓reduceIte, false_imp_iff, ColV_def, lheap_def]
    (refine Split.mk (fun h => ?_) (fun h => ?_) <;> (try simp only [decide_eq_true_eq, decide_eq_false_iff_not, beq_iff_eq, bne_iff_ne, beq_eq_false_iff_ne, bne_eq_false_iff_eq, Bool.not_eq_true', Bool.not_eq_false', Bool.and_eq_true, Bool.or_eq_true, Bool.and_eq_false_iff, Bool.or_eq_false_iff, Int.not_lt, Int.not_le, Bool.false_eq_true, Bool.true_eq_false, false_and, and_false, true_and, and_true, or_false, false_or, or_true, true_or, not_true_eq_false, not_false_eq_true] at h))
    · have e1 : ((w.length : Int) - 1 - s).toNat = w.length - 1 - s := by omega
      (try simp (disch := first | omega | (simp only [List.length_append, List.length_cons, List.length_nil, List.length_replicate, List.length_set, List.length_take, List.length_drop, vi_len, vb_len, vo_len, vl_len, vn_len]; omega)) only [↓EC, EV, EL, E2, E3, ER, seval, ↓reduceIte, false_imp_iff, EB, e1])
      refine pcd_v c_spec_l08Other ?_
      (try simp (disch := first | omega | (simp only [List.length_append, List.length_cons, List.length_nil, List.length_replicate, List.length_set, List.length_take, List.length_drop, vi_len, vb_len, vo_len, vl_len, vn_len]; omega)) only [↓EC, EV, EL, E2, E3, ER, seval, ↓reduceIte, false_imp_iff, EB, e1, hrl])
      refine ⟨s + 1, ?_, by omega, by omega⟩
      simp only [invT, ub_len]
      rw [show ((w.length : Int) - 1 - s - 1) = (w.length : Int) - 1 - ((s + 1 : Nat) : Int) from by omega]
    · have : s = w.length := by omega
      subst this
      (try simp (disch := first | omega | (simp only [List.length_append, List.length_cons, List.length_nil, List.length_replicate, List.length_set, List.length_take, List.length_drop, vi_len, vb_len, vo_len, vl_len, vn_len]; omega)) only [↓EC, EV, EL, E2, E3, ER, seval, ↓reduceIte, false_imp_iff, EB, hrl])
      rfl
end Go.Proofs.YtjklebickfcddaaDoor.Sep

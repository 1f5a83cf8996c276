/- Stabiliser words, marks of texts. -/
import Derived.Test.YtjklebickfcddaaDoorC40
import Derived.Test.YtjklebickfcddaaDoorC50
import Derived.Test.YtjklebickfcddaaDoorC49
import Derived.Test.YtjklebickfcddaaDoorC28
namespace Go.Proofs.YtjklebickfcddaaDoor.Sep
open Go.RowKit
set_option linter.unusedVariables false
set_option linter.unusedSimpArgs false
set_option maxRecDepth 20000
set_option maxHeartbeats 1000000

/-! ### Marks of texts -/
def mkD : Nat → Nat → List UInt8 → List UInt8
  | 0, _, s => s
  | f + 1, k, s => if 0 < k then mkD f (k / 10) (sb [48 + ((k : Int).tmod 10)] ++ s) else s
def mkT (k : Int) : List UInt8 := [109] ++ mkD (k.toNat + 1) k.toNat []
def mksT (k : Int) (n : Nat) : List (List UInt8) := (List.range n).map fun j : Nat => mkT (k + j)
theorem mksT_len {k : Int} {n : Nat} : (mksT k n).length = n := by simp [mksT]
theorem mksT_at {k : Int} {n j : Nat} (h : j < n) : gt (mksT k n) j = mkT (k + j) := by
  simp [gt, List.getD, mksT, h]

/-! ### Ways from the dart 0 -/
abbrev Wy := List (List UInt8) × List Bool
def wyV (z : Nat) (c : UInt8) (y : Int) (s : Wy) : Wy := if gb s.2 y.toNat = true then s else (s.1.set y.toNat (gt s.1 z ++ [c]), s.2.set y.toNat true)
def wyS (p q : List Int) (z : Nat) (s : Wy) : Wy := wyV z 121 (gi q z) (wyV z 120 (gi p z) s)
def wy0 : Wy := (List.replicate 16 [], (List.replicate 16 false).set 0 true)
def wyR (p q L : List Int) : Nat → Wy
  | 0 => wy0
  | k + 1 => wyS p q (gi L k).toNat (wyR p q L k)
structure WyOk (k : Nat) (s : Wy) : Prop where
  l1 : s.1.length = 16
  l2 : s.2.length = 16
  len : ∀ j, (gt s.1 j).length ≤ k
  let_ : ∀ j, lets (ub (gt s.1 j))
theorem gt_rep {n i : Nat} : gt (List.replicate n []) i = [] := by
  simp only [gt, List.getD, List.getElem?_replicate]; split <;> rfl
theorem wy0_ok : WyOk 0 wy0 := ⟨by simp [wy0], by simp [wy0], fun j => by simp only [wy0]; rw [gt_rep]; simp, fun j => by simp only [wy0]; rw [gt_rep]; exact lets_nil⟩
theorem wyV_ok {k z : Nat} {c : UInt8} {y : Int} {s : Wy} (hc : ltr (c.toNat : Int)) (h : WyOk k s) : WyOk (k + 1) (wyV z c y s) := by
  unfold wyV
  split
  · exact ⟨h.l1, h.l2, fun j => Nat.le_succ_of_le (h.len j), h.let_⟩
  · refine ⟨by simp [h.l1], by simp [h.l2], fun j => ?_, fun j => ?_⟩
    · simp only [gt_set]; split
      · have := h.len z; simp; omega
      · exact Nat.le_succ_of_le (h.len j)
    · simp only [gt_set]; split
      · rw [ub_app]; exact lets_app (h.let_ z) (lets_one hc)
      · exact h.let_ j
theorem WyOk.mono {k m : Nat} {s : Wy} (h : WyOk k s) (hkm : k ≤ m) : WyOk m s := ⟨h.l1, h.l2, fun j => Nat.le_trans (h.len j) hkm, h.let_⟩
theorem ltr120 : ltr ((120 : UInt8).toNat : Int) := .inl rfl
theorem ltr121 : ltr ((121 : UInt8).toNat : Int) := .inr (.inr (.inl rfl))
theorem wyS_ok {p q : List Int} {k z : Nat} {s : Wy} (h : WyOk k s) : WyOk (k + 2) (wyS p q z s) :=
  wyV_ok ltr121 (wyV_ok ltr120 h)
theorem wyR_ok {p q L : List Int} : ∀ k, WyOk (2 * k) (wyR p q L k)
  | 0 => wy0_ok
  | k + 1 => (wyS_ok (wyR_ok k)).mono (by omega)
theorem wy_mid {p q : List Int} {z k j : Nat} {s0 s : Wy} (h0 : WyOk k s0) (h : s = if j = 0 then s0 else if j = 1 then wyV z 120 (gi p z) s0 else wyS p q z s0) : WyOk (k + 2) s := by
  rw [h]
  split
  · exact h0.mono (by omega)
  · split
    · exact (wyV_ok ltr120 h0).mono (by omega)
    · exact wyS_ok h0
theorem wyV_mk {z : Nat} {c : UInt8} {y : Int} {s : Wy} {t : Sr} (h : s.2 = t.2) : (wyV z c y s).2 = (visit y t).2 := by
  unfold wyV visit; rw [h]
  by_cases hc : gb t.2 y.toNat = true
  · rw [if_pos hc, if_pos hc]; exact h
  · simp only [if_neg hc]
theorem wyV_yes {z : Nat} {c : UInt8} {y : Int} {s : Wy} (h : gb s.2 y.toNat = true) : wyV z c y s = s := if_pos h
theorem wyV_no {z : Nat} {c : UInt8} {y : Int} {s : Wy} (h : gb s.2 y.toNat = false) : wyV z c y s = (s.1.set y.toNat (gt s.1 z ++ [c]), s.2.set y.toNat true) := if_neg (by simp [h])
theorem wyR_congr {p q L M : List Int} : ∀ k, (∀ j, j < k → gi L j = gi M j) → wyR p q L k = wyR p q M k
  | 0, _ => rfl
  | k + 1, h => by simp only [wyR]; rw [wyR_congr k fun j hj => h j (by omega), h k (by omega)]

/-! ### The words themselves -/
theorem ub_inv {w : List UInt8} : ub (inv w) = invT (ub w) w.length := ub_sb (invT_lets _).lim
theorem inv_lets {w : List UInt8} : lets (ub (inv w)) := by rw [ub_inv]; exact invT_lets _
theorem inv_len {w : List UInt8} : (inv w).length = w.length := by unfold inv; rw [sb_len, invT_len]
def outW (W : List (List UInt8)) (z : Nat) (c : UInt8) (y : Int) : List UInt8 := gt W z ++ [c] ++ inv (gt W y.toNat)
def outV (W : List (List UInt8)) (z : Nat) (c : UInt8) (y : Int) (o : List (List UInt8)) : List (List UInt8) :=
  if red (outW W z c y) = [] then o else o ++ [red (outW W z c y)]
def outS (p q : List Int) (W : List (List UInt8)) (z : Nat) (o : List (List UInt8)) : List (List UInt8) := outV W z 121 (gi q z) (outV W z 120 (gi p z) o)
def outR (p q : List Int) (W : List (List UInt8)) (L : List Int) : Nat → List (List UInt8)
  | 0 => []
  | k + 1 => outS p q W (gi L k).toNat (outR p q W L k)
theorem outV_len {W : List (List UInt8)} {z : Nat} {c : UInt8} {y : Int} {o : List (List UInt8)} : (outV W z c y o).length ≤ o.length + 1 := by
  unfold outV; split <;> simp
theorem outS_len {p q : List Int} {W : List (List UInt8)} {z : Nat} {o : List (List UInt8)} : (outS p q W z o).length ≤ o.length + 2 :=
  Nat.le_trans outV_len (Nat.succ_le_succ outV_len)
theorem outR_len {p q L : List Int} {W : List (List UInt8)} : ∀ k, (outR p q W L k).length ≤ 2 * k
  | 0 => Nat.le_refl _
  | k + 1 => by have := Nat.le_trans (outS_len (p := p) (q := q) (W := W) (z := (gi L k).toNat)) (Nat.add_le_add_right (outR_len (p := p) (q := q) (L := L) (W := W) k) 2); simp only [outR]; omega
theorem out_mid {p q : List Int} {W : List (List UInt8)} {z j : Nat} {o0 o : List (List UInt8)} (h : o = if j = 0 then o0 else if j = 1 then outV W z 120 (gi p z) o0 else outS p q W z o0) : o.length ≤ o0.length + 2 := by
  rw [h]
  split
  · omega
  · split
    · exact Nat.le_succ_of_le outV_len
    · exact outS_len
theorem outV_yes {W : List (List UInt8)} {z : Nat} {c : UInt8} {y : Int} {o : List (List UInt8)} (h : red (outW W z c y) = []) : outV W z c y o = o := if_pos h
theorem outV_no {W : List (List UInt8)} {z : Nat} {c : UInt8} {y : Int} {o : List (List UInt8)} (h : ¬ red (outW W z c y) = []) : outV W z c y o = o ++ [red (outW W z c y)] := if_neg h
theorem outW_ok {W : List (List UInt8)} {z : Nat} {c : UInt8} {y : Int} {k : Nat} (hc : ltr (c.toNat : Int)) (h1 : ∀ j, lets (ub (gt W j))) (h2 : ∀ j, (gt W j).length ≤ k) : lets (ub (outW W z c y)) ∧ (outW W z c y).length ≤ 2 * k + 1 := by
  unfold outW
  refine ⟨?_, ?_⟩
  · rw [ub_app, ub_app]
    exact lets_app (lets_app (h1 z) (lets_one hc)) inv_lets
  · have a := h2 z
    have b := h2 y.toNat
    have c := inv_len (w := gt W y.toNat)
    simp only [List.length_append, List.length_cons, List.length_nil]
    omega
def stbO (p q : List Int) : List Int := nmdL p q 0
def stbW (p q : List Int) : List (List UInt8) := (wyR p q (stbO p q) (stbO p q).length).1
def stbL (p q : List Int) : List (List UInt8) := outR p q (stbW p q) (stbO p q) (stbO p q).length
theorem c_impl_StabiliserWords {n : Int} {p q : List Int} (hp : okP p) (hq : okP q) (h0 : isDB n p q = true) : PSpec Tryd.prog 17 [vD n p q] fun v => v = .tup [.own 9 1 (stbL p q).length (vt (stbL p q)), .int .i64 0] := by
  have hl := hp.len
  have hk := hq.len
  obtain ⟨lp, lq, hn⟩ := (isDB_iff.1 h0).lo hp hq
  obtain ⟨n1, n2⟩ := nmdL_ok lp lq (x := 0) (by decide)
  refine impl_StabiliserWords_f.f ?_
  have hi := c_impl_IsDessin (n := n) hp hq
  have hm := c_impl_named (n := n) lp lq (x := 0) (by decide)
  unfold vD at hi hm ⊢
  simp (disch := first | omega | (simp only [List.length_append, List.length_cons, List.length_nil, List.length_replicate, List.length_set, List.length_take, List.length_drop, vi_len, vb_len, vo_len, vl_len, vn_len]; omega)) only [↓EC, EV, EL, E2, E3, ER, seval, ↓reduceIte, false_imp_iff, impl_StabiliserWords_F, hl, hk, setV_tt]
  refine pcd_v hi ?_
  (try simp (disch := first | omega | (simp only [List.length_append, List.length_cons, List.length_nil, List.length_replicate, List.length_set, List.length_take, List.length_drop, vi_len, vb_len, vo_len, vl_len, vn_len]; omega)) only [↓EC, EV, EL, E2, E3, ER, seval, ↓reduceIte, false_imp_iff, hl, hk, h0])
  refine pcd_v hm ?_
  unfold stbL stbW stbO
  generalize nmdL p q 0 = L at *
  (try simp (disch := first | omega | (simp only [List.length_append, List.length_cons, List.length_nil, List.length_replicate, List.length_set, List.length_take, List.length_drop, vi_len, vb_len, vo_len, vl_len, vn_len]; omega)) only [↓EC, EV, EL, E2, E3, ER, seval, ↓reduceIte, false_imp_iff, hl, hk, setV_tt])
  refine LP_of (σ := Nat) 100000 [(65, 31, 1), (68, 53, 1), (69, 54, 1)] (fun s => [.int .i64 s]) (fun s => [.int .i64 n :: vi .u8 (p ++ q), vt (wyR p q L s).1, vb (wyR p q L s).2])
    (fun s => s ≤ L.length) (fun s => L.length - s) 0 (by simp [frameOk, names, lpz, sclp, scv, scvs, vi_nrf, vb_nrf, vt_nrf, v2_nrf, v3_nrf, nrfs, nrf, sc_vi, sc_vb, sc_vt, sc_v2, sc_v3, sc_vo, sc_vl, vo_nrf, vl_nrf, sc_vn, vn_nrf]) (Nat.zero_le _) ?_ ?_
  · simp (disch := first | omega | (simp only [List.length_append, List.length_cons, List.length_nil, List.length_replicate, List.length_set, List.length_take, List.length_drop, vi_len, vb_len, vo_len, vl_len, vn_len]; omega)) only [↓EC, EV, EL, E2, E3, ER, seval, ↓reduceIte, false_imp_iff, ColV_def]
    rfl
  · rintro i h1
    have hw := wyR_ok (p := p) (q := q) (L := L) i
    have w1 := hw.l1
    have w2 := hw.l2
    simp (disch := first | omega | (simp only [List.length_append, List.length_cons, List.length_nil, List.length_replicate, List.length_set, List.length_take, List.length_drop, vi_len, vb_len, vo_len, vl_len, vn_len]; omega)) only [↓EC, EV, EL, E2, E3, ER, seval, ↓reduceIte, false_imp_iff, ColV_def, lheap_def]
    (refine Split.mk (fun h => ?_) (fun h => ?_) <;> (try simp only [decide_eq_true_eq, decide_eq_false_iff_not, beq_iff_eq, bne_iff_ne, beq_eq_false_iff_ne, bne_eq_false_iff_eq, Bool.not_eq_true', Bool.not_eq_false', Bool.and_eq_true, Bool.or_eq_true, Bool.and_eq_false_iff, Bool.or_eq_false_iff, Int.not_lt, Int.not_le, Bool.false_eq_true, Bool.true_eq_false, false_and, and_false, true_and, and_true, or_false, false_or, or_true, true_or, not_true_eq_false, not_false_eq_true] at h))
    · have hlo := n2 i (by omega)
      have hy1 := lp.2 (gi L i).toNat (by omega)
      have hy2 := lq.2 (gi L i).toNat (by omega)
      (try simp (disch := first | omega | (simp only [List.length_append, List.length_cons, List.length_nil, List.length_replicate, List.length_set, List.length_take, List.length_drop, vi_len, vb_len, vo_len, vl_len, vn_len]; omega)) only [↓EC, EV, EL, E2, E3, ER, seval, ↓reduceIte, false_imp_iff, hl, hk])
      refine LP_of (σ := Wy × Nat) 200000 [(65, 31, 1), (68, 53, 1), (69, 54, 1), (102, 5, 1)] (fun s => [.int .i64 s.2])
        (fun s => [.int .i64 n :: vi .u8 (p ++ q), vt s.1.1, vb s.1.2, vi .u8 [gi p (gi L i).toNat, gi q (gi L i).toNat]])
        (fun s => s.2 ≤ 2 ∧ s.1 = if s.2 = 0 then wyR p q L i else if s.2 = 1 then wyV (gi L i).toNat 120 (gi p (gi L i).toNat) (wyR p q L i) else wyS p q (gi L i).toNat (wyR p q L i)) (fun s => 2 - s.2) (wyR p q L i, 0) (by simp [frameOk, names, lpz, sclp, scv, scvs, vi_nrf, vb_nrf, vt_nrf, v2_nrf, v3_nrf, nrfs, nrf, sc_vi, sc_vb, sc_vt, sc_v2, sc_v3, sc_vo, sc_vl, vo_nrf, vl_nrf, sc_vn, vn_nrf]) ⟨Nat.zero_le 2, rfl⟩ ?_ ?_
      · simp (disch := first | omega | (simp only [List.length_append, List.length_cons, List.length_nil, List.length_replicate, List.length_set, List.length_take, List.length_drop, vi_len, vb_len, vo_len, vl_len, vn_len]; omega)) only [↓EC, EV, EL, E2, E3, ER, seval, ↓reduceIte, false_imp_iff, ColV_def]
        rfl
      · rintro ⟨s, j⟩ ⟨g1, g2⟩
        simp only at g1 g2
        have hs := wy_mid (p := p) (q := q) hw g2
        have s1 := hs.l1
        have s2 := hs.l2
        have s3 := hs.len (gi L i).toNat
        simp (disch := first | omega | (simp only [List.length_append, List.length_cons, List.length_nil, List.length_replicate, List.length_set, List.length_take, List.length_drop, vi_len, vb_len, vo_len, vl_len, vn_len]; omega)) only [↓EC, EV, EL, E2, E3, ER, seval, ↓reduceIte, false_imp_iff, ColV_def, lheap_def]
        (refine Split.mk (fun h => ?_) (fun h => ?_) <;> (try simp only [decide_eq_true_eq, decide_eq_false_iff_not, beq_iff_eq, bne_iff_ne, beq_eq_false_iff_ne, bne_eq_false_iff_eq, Bool.not_eq_true', Bool.not_eq_false', Bool.and_eq_true, Bool.or_eq_true, Bool.and_eq_false_iff, Bool.or_eq_false_iff, Int.not_lt, Int.not_le, Bool.false_eq_true, Bool.true_eq_false, false_and, and_false, true_and, and_true, or_false, false_or, or_true, true_or, not_true_eq_false, not_false_eq_true] at h))
        · have hj : j = 0 ∨ j = 1 := by omega
          rcases hj with rfl | rfl
          · (try simp (disch := first | omega | (simp only [List.length_append, List.length_cons, List.length_nil, List.length_replicate, List.length_set, List.length_take, List.length_drop, vi_len, vb_len, vo_len, vl_len, vn_len]; omega)) only [↓EC, EV, EL, E2, E3, ER, seval, ↓reduceIte, false_imp_iff, hl, hk])
            rw [if_pos rfl] at g2
            (refine Split.mk (fun h => ?_) (fun h => ?_) <;> (try simp only [decide_eq_true_eq, decide_eq_false_iff_not, beq_iff_eq, bne_iff_ne, beq_eq_false_iff_ne, bne_eq_false_iff_eq, Bool.not_eq_true', Bool.not_eq_false', Bool.and_eq_true, Bool.or_eq_true, Bool.and_eq_false_iff, Bool.or_eq_false_iff, Int.not_lt, Int.not_le, Bool.false_eq_true, Bool.true_eq_false, false_and, and_false, true_and, and_true, or_false, false_or, or_true, true_or, not_true_eq_false, not_false_eq_true] at h))
            · (try simp (disch := first | omega | (simp only [List.length_append, List.length_cons, List.length_nil, List.length_replicate, List.length_set, List.length_take, List.length_drop, vi_len, vb_len, vo_len, vl_len, vn_len]; omega)) only [↓EC, EV, EL, E2, E3, ER, seval, ↓reduceIte, false_imp_iff, hl, hk])
              exact ⟨(wyV (gi L i).toNat 120 (gi p (gi L i).toNat) s, 1), by simp, by rw [wyV_no h], ⟨by simp, by rw [g2]; rfl⟩, by simp⟩
            · exact ⟨(wyV (gi L i).toNat 120 (gi p (gi L i).toNat) s, 1), by simp, by rw [wyV_yes h], ⟨by simp, by rw [g2]; rfl⟩, by simp⟩
          · (try simp (disch := first | omega | (simp only [List.length_append, List.length_cons, List.length_nil, List.length_replicate, List.length_set, List.length_take, List.length_drop, vi_len, vb_len, vo_len, vl_len, vn_len]; omega)) only [↓EC, EV, EL, E2, E3, ER, seval, ↓reduceIte, false_imp_iff, hl, hk])
            rw [if_neg (by decide), if_pos rfl] at g2
            (refine Split.mk (fun h => ?_) (fun h => ?_) <;> (try simp only [decide_eq_true_eq, decide_eq_false_iff_not, beq_iff_eq, bne_iff_ne, beq_eq_false_iff_ne, bne_eq_false_iff_eq, Bool.not_eq_true', Bool.not_eq_false', Bool.and_eq_true, Bool.or_eq_true, Bool.and_eq_false_iff, Bool.or_eq_false_iff, Int.not_lt, Int.not_le, Bool.false_eq_true, Bool.true_eq_false, false_and, and_false, true_and, and_true, or_false, false_or, or_true, true_or, not_true_eq_false, not_false_eq_true] at h))
            · (try simp (disch := first | omega | (simp only [List.length_append, List.length_cons, List.length_nil, List.length_replicate, List.length_set, List.length_take, List.length_drop, vi_len, vb_len, vo_len, vl_len, vn_len]; omega)) only [↓EC, EV, EL, E2, E3, ER, seval, ↓reduceIte, false_imp_iff, hl, hk])
              exact ⟨(wyV (gi L i).toNat 121 (gi q (gi L i).toNat) s, 2), by simp, by rw [wyV_no h], ⟨by simp, by rw [g2]; rfl⟩, by simp⟩
            · exact ⟨(wyV (gi L i).toNat 121 (gi q (gi L i).toNat) s, 2), by simp, by rw [wyV_yes h], ⟨by simp, by rw [g2]; rfl⟩, by simp⟩
        · (try simp (disch := first | omega | (simp only [List.length_append, List.length_cons, List.length_nil, List.length_replicate, List.length_set, List.length_take, List.length_drop, vi_len, vb_len, vo_len, vl_len, vn_len]; omega)) only [↓EC, EV, EL, E2, E3, ER, seval, ↓reduceIte, false_imp_iff])
          rw [if_neg (by omega), if_neg (by omega)] at g2
          refine ⟨i + 1, rfl, ?_, by omega, by omega⟩
          rw [g2]; rfl
    · have hie : i = L.length := by omega
      subst hie
      (try simp (disch := first | omega | (simp only [List.length_append, List.length_cons, List.length_nil, List.length_replicate, List.length_set, List.length_take, List.length_drop, vi_len, vb_len, vo_len, vl_len, vn_len]; omega)) only [↓EC, EV, EL, E2, E3, ER, seval, ↓reduceIte, false_imp_iff, hl, hk])
      generalize wyR p q L L.length = S at *
      obtain ⟨W, m⟩ := S
      simp only at w1 w2
      have v1 := hw.len
      have v2 := hw.let_
      simp only at v1 v2
      refine LP_ofE (σ := Nat) [1, 1] 100000 [(65, 31, 1), (68, 53, 1)] (fun s => [.own 9 1 (outR p q W L s).length (vt (outR p q W L s)), .int .i64 s]) (fun s => [.int .i64 n :: vi .u8 (p ++ q), vt W])
        (fun s => s ≤ L.length) (fun s => L.length - s) 0 (by simp [frameOk, names, lpz, sclp, scv, scvs, vi_nrf, vb_nrf, vt_nrf, v2_nrf, v3_nrf, nrfs, nrf, sc_vi, sc_vb, sc_vt, sc_v2, sc_v3, sc_vo, sc_vl, vo_nrf, vl_nrf, sc_vn, vn_nrf]) (Nat.zero_le _) ?_ ?_
      · simp (disch := first | omega | (simp only [List.length_append, List.length_cons, List.length_nil, List.length_replicate, List.length_set, List.length_take, List.length_drop, vi_len, vb_len, vo_len, vl_len, vn_len]; omega)) only [↓EC, EV, EL, E2, E3, ER, seval, ↓reduceIte, false_imp_iff, ColV_def]
        exact ⟨fun _ => trivial, rfl⟩
      · rintro i h1
        have r1 := outR_len (p := p) (q := q) (W := W) (L := L) i
        simp (disch := first | omega | (simp only [List.length_append, List.length_cons, List.length_nil, List.length_replicate, List.length_set, List.length_take, List.length_drop, vi_len, vb_len, vo_len, vl_len, vn_len]; omega)) only [↓EC, EV, EL, E2, E3, ER, seval, ↓reduceIte, false_imp_iff, ColV_def, lheap_def]
        (refine Split.mk (fun h => ?_) (fun h => ?_) <;> (try simp only [decide_eq_true_eq, decide_eq_false_iff_not, beq_iff_eq, bne_iff_ne, beq_eq_false_iff_ne, bne_eq_false_iff_eq, Bool.not_eq_true', Bool.not_eq_false', Bool.and_eq_true, Bool.or_eq_true, Bool.and_eq_false_iff, Bool.or_eq_false_iff, Int.not_lt, Int.not_le, Bool.false_eq_true, Bool.true_eq_false, false_and, and_false, true_and, and_true, or_false, false_or, or_true, true_or, not_true_eq_false, not_false_eq_true] at h))
        · have hlo := n2 i (by omega)
          have hy1 := lp.2 (gi L i).toNat (by omega)
          have hy2 := lq.2 (gi L i).toNat (by omega)
          (try simp (disch := first | omega | (simp only [List.length_append, List.length_cons, List.length_nil, List.length_replicate, List.length_set, List.length_take, List.length_drop, vi_len, vb_len, vo_len, vl_len, vn_len]; omega)) only [↓EC, EV, EL, E2, E3, ER, seval, ↓reduceIte, false_imp_iff, hl, hk])
          refine LP_of (σ := List (List UInt8) × Nat) 200000 [(65, 31, 1), (68, 53, 1), (142, 5, 1)] (fun s => [.own 9 1 s.1.length (vt s.1), .int .i64 s.2])
            (fun s => [.int .i64 n :: vi .u8 (p ++ q), vt W, vi .u8 [gi p (gi L i).toNat, gi q (gi L i).toNat]])
            (fun s => s.2 ≤ 2 ∧ s.1 = if s.2 = 0 then outR p q W L i else if s.2 = 1 then outV W (gi L i).toNat 120 (gi p (gi L i).toNat) (outR p q W L i) else outS p q W (gi L i).toNat (outR p q W L i)) (fun s => 2 - s.2) (outR p q W L i, 0) (by simp [frameOk, names, lpz, sclp, scv, scvs, vi_nrf, vb_nrf, vt_nrf, v2_nrf, v3_nrf, nrfs, nrf, sc_vi, sc_vb, sc_vt, sc_v2, sc_v3, sc_vo, sc_vl, vo_nrf, vl_nrf, sc_vn, vn_nrf]) ⟨Nat.zero_le 2, rfl⟩ ?_ ?_
          · simp (disch := first | omega | (simp only [List.length_append, List.length_cons, List.length_nil, List.length_replicate, List.length_set, List.length_take, List.length_drop, vi_len, vb_len, vo_len, vl_len, vn_len]; omega)) only [↓EC, EV, EL, E2, E3, ER, seval, ↓reduceIte, false_imp_iff, ColV_def]
            rfl
          · rintro ⟨o, j⟩ ⟨g1, g2⟩
            simp only at g1 g2
            have s1 := out_mid (p := p) (q := q) g2
            simp (disch := first | omega | (simp only [List.length_append, List.length_cons, List.length_nil, List.length_replicate, List.length_set, List.length_take, List.length_drop, vi_len, vb_len, vo_len, vl_len, vn_len]; omega)) only [↓EC, EV, EL, E2, E3, ER, seval, ↓reduceIte, false_imp_iff, ColV_def, lheap_def]
            (refine Split.mk (fun h => ?_) (fun h => ?_) <;> (try simp only [decide_eq_true_eq, decide_eq_false_iff_not, beq_iff_eq, bne_iff_ne, beq_eq_false_iff_ne, bne_eq_false_iff_eq, Bool.not_eq_true', Bool.not_eq_false', Bool.and_eq_true, Bool.or_eq_true, Bool.and_eq_false_iff, Bool.or_eq_false_iff, Int.not_lt, Int.not_le, Bool.false_eq_true, Bool.true_eq_false, false_and, and_false, true_and, and_true, or_false, false_or, or_true, true_or, not_true_eq_false, not_false_eq_true] at h))
            · have a1 := v1 (gi L i).toNat
              have hj : j = 0 ∨ j = 1 := by omega
              rcases hj with rfl | rfl
              · have a2 := v1 (gi p (gi L i).toNat).toNat
                obtain ⟨a3, a4⟩ := outW_ok (z := (gi L i).toNat) (y := gi p (gi L i).toNat) ltr120 v2 v1; unfold outW at a3 a4
                (try simp (disch := first | omega | (simp only [List.length_append, List.length_cons, List.length_nil, List.length_replicate, List.length_set, List.length_take, List.length_drop, vi_len, vb_len, vo_len, vl_len, vn_len]; omega)) only [↓EC, EV, EL, E2, E3, ER, seval, ↓reduceIte, false_imp_iff, hl, hk])
                rw [if_pos rfl] at g2
                refine pcd_v (c_impl_inverted (v2 _) (by omega)) ?_
                have a5 := inv_len (w := gt W (gi p (gi L i).toNat).toNat)
                (try simp (disch := first | omega | (simp only [List.length_append, List.length_cons, List.length_nil, List.length_replicate, List.length_set, List.length_take, List.length_drop, vi_len, vb_len, vo_len, vl_len, vn_len]; omega)) only [↓EC, EV, EL, E2, E3, ER, seval, ↓reduceIte, false_imp_iff, a5])
                refine pcd_v (c_impl_reduced a3 (by omega)) ?_
                (try simp (disch := first | omega | (simp only [List.length_append, List.length_cons, List.length_nil, List.length_replicate, List.length_set, List.length_take, List.length_drop, vi_len, vb_len, vo_len, vl_len, vn_len]; omega)) only [↓EC, EV, EL, E2, E3, ER, seval, ↓reduceIte, false_imp_iff])
                (refine Split.mk (fun h => ?_) (fun h => ?_) <;> (try simp only [decide_eq_true_eq, decide_eq_false_iff_not, beq_iff_eq, bne_iff_ne, beq_eq_false_iff_ne, bne_eq_false_iff_eq, Bool.not_eq_true', Bool.not_eq_false', Bool.and_eq_true, Bool.or_eq_true, Bool.and_eq_false_iff, Bool.or_eq_false_iff, Int.not_lt, Int.not_le, Bool.false_eq_true, Bool.true_eq_false, false_and, and_false, true_and, and_true, or_false, false_or, or_true, true_or, not_true_eq_false, not_false_eq_true] at h))
                · (try simp (disch := first | omega | (simp only [List.length_append, List.length_cons, List.length_nil, List.length_replicate, List.length_set, List.length_take, List.length_drop, vi_len, vb_len, vo_len, vl_len, vn_len]; omega)) only [↓EC, EV, EL, E2, E3, ER, seval, ↓reduceIte, false_imp_iff])
                  exact ⟨(outV W (gi L i).toNat 120 (gi p (gi L i).toNat) o, 1), by rw [outV_no h]; simp [outW], ⟨by simp, by rw [g2]; rfl⟩, by simp⟩
                · (try simp (disch := first | omega | (simp only [List.length_append, List.length_cons, List.length_nil, List.length_replicate, List.length_set, List.length_take, List.length_drop, vi_len, vb_len, vo_len, vl_len, vn_len]; omega)) only [↓EC, EV, EL, E2, E3, ER, seval, ↓reduceIte, false_imp_iff])
                  exact ⟨(outV W (gi L i).toNat 120 (gi p (gi L i).toNat) o, 1), by rw [outV_yes h]; simp, ⟨by simp, by rw [g2]; rfl⟩, by simp⟩
              · have a2 := v1 (gi q (gi L i).toNat).toNat
                obtain ⟨a3, a4⟩ := outW_ok (z := (gi L i).toNat) (y := gi q (gi L i).toNat) ltr121 v2 v1; unfold outW at a3 a4
                (try simp (disch := first | omega | (simp only [List.length_append, List.length_cons, List.length_nil, List.length_replicate, List.length_set, List.length_take, List.length_drop, vi_len, vb_len, vo_len, vl_len, vn_len]; omega)) only [↓EC, EV, EL, E2, E3, ER, seval, ↓reduceIte, false_imp_iff, hl, hk])
                rw [if_neg (by decide), if_pos rfl] at g2
                refine pcd_v (c_impl_inverted (v2 _) (by omega)) ?_
                have a5 := inv_len (w := gt W (gi q (gi L i).toNat).toNat)
                (try simp (disch := first | omega | (simp only [List.length_append, List.length_cons, List.length_nil, List.length_replicate, List.length_set, List.length_take, List.length_drop, vi_len, vb_len, vo_len, vl_len, vn_len]; omega)) only [↓EC, EV, EL, E2, E3, ER, seval, ↓reduceIte, false_imp_iff, a5])
                refine pcd_v (c_impl_reduced a3 (by omega)) ?_
                (try simp (disch := first | omega | (simp only [List.length_append, List.length_cons, List.length_nil, List.length_replicate, List.length_set, List.length_take, List.length_drop, vi_len, vb_len, vo_len, vl_len, vn_len]; omega)) only [↓EC, EV, EL, E2, E3, ER, seval, ↓reduceIte, false_imp_iff])
                (refine Split.mk (fun h => ?_) (fun h => ?_) <;> (try simp only [decide_eq_true_eq, decide_eq_false_iff_not, beq_iff_eq, bne_iff_ne, beq_eq_false_iff_ne, bne_eq_false_iff_eq, Bool.not_eq_true', Bool.not_eq_false', Bool.and_eq_true, Bool.or_eq_true, Bool.and_eq_false_iff, Bool.or_eq_false_iff, Int.not_lt, Int.not_le, Bool.false_eq_true, Bool.true_eq_false, false_and, and_false, true_and, and_true, or_false, false_or, or_true, true_or, not_true_eq_false, not_false_eq_true] at h))
                · (try simp (disch := first | omega | (simp only [List.length_append, List.length_cons, List.length_nil, List.length_replicate, List.length_set, List.length_take, List.length_drop, vi_len, vb_len, vo_len, vl_len, vn_len]; omega)) only [↓EC, EV, EL, E2, E3, ER, seval, ↓reduceIte, false_imp_iff])
                  exact ⟨(outV W (gi L i).toNat 121 (gi q (gi L i).toNat) o, 2), by rw [outV_no h]; simp [outW], ⟨by simp, by rw [g2]; rfl⟩, by simp⟩
                · (try simp (disch := first | omega | (simp only [List.length_append, List.length_cons, List.length_nil, List.length_replicate, List.length_set, List.length_take, List.length_drop, vi_len, vb_len, vo_len, vl_len, vn_len]; omega)) only [↓EC, EV, EL, E2, E3, ER, seval, ↓reduceIte, false_imp_iff])
                  exact ⟨(outV W (gi L i).toNat 121 (gi q (gi L i).toNat) o, 2), by rw [outV_yes h]; simp, ⟨by simp, by rw [g2]; rfl⟩, by simp⟩
            · (try simp (disch := first | omega | (simp only [List.length_append, List.length_cons, List.length_nil, List.length_replicate, List.length_set, List.length_take, List.length_drop, vi_len, vb_len, vo_len, vl_len, vn_len]; omega)) only [↓EC, EV, EL, E2, E3, ER, seval, ↓reduceIte, false_imp_iff])
              rw [if_neg (by omega), if_neg (by omega)] at g2
              refine ⟨i + 1, ?_, by omega, by omega⟩
              rw [g2]; rfl
        · have hie : i = L.length := by omega
          subst hie
          (try simp (disch := first | omega | (simp only [List.length_append, List.length_cons, List.length_nil, List.length_replicate, List.length_set, List.length_take, List.length_drop, vi_len, vb_len, vo_len, vl_len, vn_len]; omega)) only [↓EC, EV, EL, E2, E3, ER, seval, ↓reduceIte, false_imp_iff])
theorem c_spec_l08Stabiliser {n : Int} {p q : List Int} (hp : lo16 p) (hq : lo16 q) : PSpec Tryd.prog 38 [vD n p q] fun v => v = .own 9 1 (stbL p q).length (vt (stbL p q)) := by
  have hl := hp.1
  have hk := hq.1
  refine spec_l08Stabiliser_f.f ?_
  unfold vD
  simp (disch := first | omega | (simp only [List.length_append, List.length_cons, List.length_nil, List.length_replicate, List.length_set, List.length_take, List.length_drop, vi_len, vb_len, vo_len, vl_len, vn_len]; omega)) only [↓EC, EV, EL, E2, E3, ER, seval, ↓reduceIte, false_imp_iff, spec_l08Stabiliser_F, hl, hk, setV_tt]
  refine LP_of (σ := (Sr × List (List UInt8)) × Nat) 100000 [(65, 31, 1), (67, 53, 1), (68, 54, 1)] (fun s => [.own 5 1 s.1.1.1.length (vi .u8 s.1.1.1), .int .i64 s.2])
    (fun s => [.int .i64 n :: vi .u8 (p ++ q), vt s.1.2, vb s.1.1.2])
    (fun s => SrOk s.1.1 ∧ s.2 ≤ s.1.1.1.length ∧ srRun p q (17 - s.2) s.2 s.1.1 = srRun p q 17 0 (srX 0) ∧ (s.1.2, s.1.1.2) = wyR p q s.1.1.1 s.2) (fun s => 17 - s.2) ((srX 0, List.replicate 16 []), 0) (by simp [frameOk, names, lpz, sclp, scv, scvs, vi_nrf, vb_nrf, vt_nrf, v2_nrf, v3_nrf, nrfs, nrf, sc_vi, sc_vb, sc_vt, sc_v2, sc_v3, sc_vo, sc_vl, vo_nrf, vl_nrf, sc_vn, vn_nrf]) ⟨srX_ok (by decide), Nat.zero_le _, rfl, rfl⟩ ?_ ?_
  · simp (disch := first | omega | (simp only [List.length_append, List.length_cons, List.length_nil, List.length_replicate, List.length_set, List.length_take, List.length_drop, vi_len, vb_len, vo_len, vl_len, vn_len]; omega)) only [↓EC, EV, EL, E2, E3, ER, seval, ↓reduceIte, false_imp_iff, ColV_def]
    exact ⟨rfl, rfl⟩
  · rintro ⟨⟨⟨l, m⟩, W⟩, i⟩ ⟨h1, h2, h3, h4⟩
    simp only at h1 h2 h3 h4
    have hm := h1.len
    have hle := h1.le
    simp only at hm hle
    have hw := wyR_ok (p := p) (q := q) (L := l) i
    rw [← h4] at hw
    have w1 := hw.l1
    have w2 := hw.l2
    simp only at w1 w2
    simp (disch := first | omega | (simp only [List.length_append, List.length_cons, List.length_nil, List.length_replicate, List.length_set, List.length_take, List.length_drop, vi_len, vb_len, vo_len, vl_len, vn_len]; omega)) only [↓EC, EV, EL, E2, E3, ER, seval, ↓reduceIte, false_imp_iff, ColV_def, lheap_def]
    (refine Split.mk (fun h => ?_) (fun h => ?_) <;> (try simp only [decide_eq_true_eq, decide_eq_false_iff_not, beq_iff_eq, bne_iff_ne, beq_eq_false_iff_ne, bne_eq_false_iff_eq, Bool.not_eq_true', Bool.not_eq_false', Bool.and_eq_true, Bool.or_eq_true, Bool.and_eq_false_iff, Bool.or_eq_false_iff, Int.not_lt, Int.not_le, Bool.false_eq_true, Bool.true_eq_false, false_and, and_false, true_and, and_true, or_false, false_or, or_true, true_or, not_true_eq_false, not_false_eq_true] at h))
    · have hi : i < l.length := by omega
      have hlo := h1.lo i hi
      simp only at hlo
      have hy1 := hp.2 (gi l i).toNat (by omega)
      have hy2 := hq.2 (gi l i).toNat (by omega)
      (try simp (disch := first | omega | (simp only [List.length_append, List.length_cons, List.length_nil, List.length_replicate, List.length_set, List.length_take, List.length_drop, vi_len, vb_len, vo_len, vl_len, vn_len]; omega)) only [↓EC, EV, EL, E2, E3, ER, seval, ↓reduceIte, false_imp_iff, hl, hk])
      refine LP_of (σ := (Sr × List (List UInt8)) × Nat) 200000 [(65, 31, 1), (67, 53, 1), (68, 54, 1), (72, 82, 1)] (fun s => [.own 5 1 s.1.1.1.length (vi .u8 s.1.1.1), .int .i64 s.2])
        (fun s => [.int .i64 n :: vi .u8 (p ++ q), vt s.1.2, vb s.1.1.2, vi .u8 [gi p (gi l i).toNat, gi q (gi l i).toNat]])
        (fun s => s.2 ≤ 2 ∧ (s.1.1 = if s.2 = 0 then (l, m) else if s.2 = 1 then visit (gi p (gi l i).toNat) (l, m) else srStep p q i (l, m)) ∧
          ((s.1.2, s.1.1.2) : Wy) = if s.2 = 0 then (W, m) else if s.2 = 1 then wyV (gi l i).toNat 120 (gi p (gi l i).toNat) (W, m) else wyS p q (gi l i).toNat (W, m)) (fun s => 2 - s.2) (((l, m), W), 0) (by simp [frameOk, names, lpz, sclp, scv, scvs, vi_nrf, vb_nrf, vt_nrf, v2_nrf, v3_nrf, nrfs, nrf, sc_vi, sc_vb, sc_vt, sc_v2, sc_v3, sc_vo, sc_vl, vo_nrf, vl_nrf, sc_vn, vn_nrf]) ⟨Nat.zero_le 2, rfl, rfl⟩ ?_ ?_
      · simp (disch := first | omega | (simp only [List.length_append, List.length_cons, List.length_nil, List.length_replicate, List.length_set, List.length_take, List.length_drop, vi_len, vb_len, vo_len, vl_len, vn_len]; omega)) only [↓EC, EV, EL, E2, E3, ER, seval, ↓reduceIte, false_imp_iff, ColV_def]
        rfl
      · rintro ⟨⟨s, X⟩, j⟩ ⟨g1, g2, g3⟩
        simp only at g1 g2 g3
        obtain ⟨hs, hpre, hil⟩ := sr_mid (s0 := (l, m)) hp hq h1 hi g2
        simp only at hil
        have hsm := hs.len
        have hsl := hs.le
        have ht := wy_mid (p := p) (q := q) hw g3
        have s1 := ht.l1
        have s3 := ht.len (gi l i).toNat
        simp only at s1 s3
        simp (disch := first | omega | (simp only [List.length_append, List.length_cons, List.length_nil, List.length_replicate, List.length_set, List.length_take, List.length_drop, vi_len, vb_len, vo_len, vl_len, vn_len]; omega)) only [↓EC, EV, EL, E2, E3, ER, seval, ↓reduceIte, false_imp_iff, ColV_def, lheap_def]
        (refine Split.mk (fun h => ?_) (fun h => ?_) <;> (try simp only [decide_eq_true_eq, decide_eq_false_iff_not, beq_iff_eq, bne_iff_ne, beq_eq_false_iff_ne, bne_eq_false_iff_eq, Bool.not_eq_true', Bool.not_eq_false', Bool.and_eq_true, Bool.or_eq_true, Bool.and_eq_false_iff, Bool.or_eq_false_iff, Int.not_lt, Int.not_le, Bool.false_eq_true, Bool.true_eq_false, false_and, and_false, true_and, and_true, or_false, false_or, or_true, true_or, not_true_eq_false, not_false_eq_true] at h))
        · have hj : j = 0 ∨ j = 1 := by omega
          rcases hj with rfl | rfl
          · (try simp (disch := first | omega | (simp only [List.length_append, List.length_cons, List.length_nil, List.length_replicate, List.length_set, List.length_take, List.length_drop, vi_len, vb_len, vo_len, vl_len, vn_len]; omega)) only [↓EC, EV, EL, E2, E3, ER, seval, ↓reduceIte, false_imp_iff, hl, hk])
            rw [if_pos rfl] at g2 g3
            (refine Split.mk (fun h => ?_) (fun h => ?_) <;> (try simp only [decide_eq_true_eq, decide_eq_false_iff_not, beq_iff_eq, bne_iff_ne, beq_eq_false_iff_ne, bne_eq_false_iff_eq, Bool.not_eq_true', Bool.not_eq_false', Bool.and_eq_true, Bool.or_eq_true, Bool.and_eq_false_iff, Bool.or_eq_false_iff, Int.not_lt, Int.not_le, Bool.false_eq_true, Bool.true_eq_false, false_and, and_false, true_and, and_true, or_false, false_or, or_true, true_or, not_true_eq_false, not_false_eq_true] at h))
            · (try simp (disch := first | omega | (simp only [List.length_append, List.length_cons, List.length_nil, List.length_replicate, List.length_set, List.length_take, List.length_drop, vi_len, vb_len, vo_len, vl_len, vn_len]; omega)) only [↓EC, EV, EL, E2, E3, ER, seval, ↓reduceIte, false_imp_iff, hl, hk])
              exact ⟨((visit (gi p (gi l i).toNat) s, (wyV (gi l i).toNat 120 (gi p (gi l i).toNat) (X, s.2)).1), 1), by rw [visit_no h]; simp, by rw [visit_no h, wyV_no h], ⟨by simp, by rw [g2]; rfl, by rw [← g3]; refine Prod.ext rfl ?_; exact (wyV_mk rfl).symm⟩, by simp⟩
            · (try simp (disch := first | omega | (simp only [List.length_append, List.length_cons, List.length_nil, List.length_replicate, List.length_set, List.length_take, List.length_drop, vi_len, vb_len, vo_len, vl_len, vn_len]; omega)) only [↓EC, EV, EL, E2, E3, ER, seval, ↓reduceIte, false_imp_iff, hl, hk])
              exact ⟨((visit (gi p (gi l i).toNat) s, (wyV (gi l i).toNat 120 (gi p (gi l i).toNat) (X, s.2)).1), 1), by rw [visit_yes h]; simp, by rw [visit_yes h, wyV_yes h], ⟨by simp, by rw [g2]; rfl, by rw [← g3]; refine Prod.ext rfl ?_; exact (wyV_mk rfl).symm⟩, by simp⟩
          · (try simp (disch := first | omega | (simp only [List.length_append, List.length_cons, List.length_nil, List.length_replicate, List.length_set, List.length_take, List.length_drop, vi_len, vb_len, vo_len, vl_len, vn_len]; omega)) only [↓EC, EV, EL, E2, E3, ER, seval, ↓reduceIte, false_imp_iff, hl, hk])
            rw [if_neg (by decide), if_pos rfl] at g2 g3
            (refine Split.mk (fun h => ?_) (fun h => ?_) <;> (try simp only [decide_eq_true_eq, decide_eq_false_iff_not, beq_iff_eq, bne_iff_ne, beq_eq_false_iff_ne, bne_eq_false_iff_eq, Bool.not_eq_true', Bool.not_eq_false', Bool.and_eq_true, Bool.or_eq_true, Bool.and_eq_false_iff, Bool.or_eq_false_iff, Int.not_lt, Int.not_le, Bool.false_eq_true, Bool.true_eq_false, false_and, and_false, true_and, and_true, or_false, false_or, or_true, true_or, not_true_eq_false, not_false_eq_true] at h))
            · (try simp (disch := first | omega | (simp only [List.length_append, List.length_cons, List.length_nil, List.length_replicate, List.length_set, List.length_take, List.length_drop, vi_len, vb_len, vo_len, vl_len, vn_len]; omega)) only [↓EC, EV, EL, E2, E3, ER, seval, ↓reduceIte, false_imp_iff, hl, hk])
              exact ⟨((visit (gi q (gi l i).toNat) s, (wyV (gi l i).toNat 121 (gi q (gi l i).toNat) (X, s.2)).1), 2), by rw [visit_no h]; simp, by rw [visit_no h, wyV_no h], ⟨by simp, by rw [g2]; rfl, by unfold wyS; rw [← g3]; refine Prod.ext rfl ?_; exact (wyV_mk rfl).symm⟩, by simp⟩
            · (try simp (disch := first | omega | (simp only [List.length_append, List.length_cons, List.length_nil, List.length_replicate, List.length_set, List.length_take, List.length_drop, vi_len, vb_len, vo_len, vl_len, vn_len]; omega)) only [↓EC, EV, EL, E2, E3, ER, seval, ↓reduceIte, false_imp_iff, hl, hk])
              exact ⟨((visit (gi q (gi l i).toNat) s, (wyV (gi l i).toNat 121 (gi q (gi l i).toNat) (X, s.2)).1), 2), by rw [visit_yes h]; simp, by rw [visit_yes h, wyV_yes h], ⟨by simp, by rw [g2]; rfl, by unfold wyS; rw [← g3]; refine Prod.ext rfl ?_; exact (wyV_mk rfl).symm⟩, by simp⟩
        · (try simp (disch := first | omega | (simp only [List.length_append, List.length_cons, List.length_nil, List.length_replicate, List.length_set, List.length_take, List.length_drop, vi_len, vb_len, vo_len, vl_len, vn_len]; omega)) only [↓EC, EV, EL, E2, E3, ER, seval, ↓reduceIte, false_imp_iff])
          rw [if_neg (by omega), if_neg (by omega)] at g2 g3
          refine ⟨((s, X), i + 1), rfl, rfl, ⟨hs, by simp only; omega, ?_, ?_⟩, by simp only; omega⟩
          · rw [show 17 - i = 16 - i + 1 from by omega] at h3
            simp only [srRun, if_pos hi] at h3
            try simp only
            rw [g2, show 17 - (i + 1) = 16 - i from by omega]
            exact h3
          · simp only [wyR]
            rw [g3, wyR_congr (L := s.1) (M := l) i fun k hk => hpre k (by simp only; omega), hpre i (by simp only; omega), ← h4]
    · have hL : stbO p q = l := by
        unfold stbO nmdL
        rw [← h3, show 17 - i = 16 - i + 1 from by omega]
        simp only [srRun]
        rw [if_neg (by omega)]
      have hie : i = l.length := by omega
      subst hie
      have hW : stbW p q = W := by
        unfold stbW
        rw [hL, ← h4]
      unfold stbL
      rw [hL, hW]
      have v1 := hw.len
      have v2 := hw.let_
      simp only at v1 v2
      have n2 := h1.lo
      simp only at n2
      (try simp (disch := first | omega | (simp only [List.length_append, List.length_cons, List.length_nil, List.length_replicate, List.length_set, List.length_take, List.length_drop, vi_len, vb_len, vo_len, vl_len, vn_len]; omega)) only [↓EC, EV, EL, E2, E3, ER, seval, ↓reduceIte, false_imp_iff, hl, hk])
      refine LP_ofE (σ := Nat) [1, 1] 200000 [(65, 31, 1), (67, 53, 1), (100000, 5, 1)] (fun s => [.own 9 1 (outR p q W l s).length (vt (outR p q W l s)), .int .i64 s]) (fun s => [.int .i64 n :: vi .u8 (p ++ q), vt W, vi .u8 l])
        (fun s => s ≤ l.length) (fun s => l.length - s) 0 (by simp [frameOk, names, lpz, sclp, scv, scvs, vi_nrf, vb_nrf, vt_nrf, v2_nrf, v3_nrf, nrfs, nrf, sc_vi, sc_vb, sc_vt, sc_v2, sc_v3, sc_vo, sc_vl, vo_nrf, vl_nrf, sc_vn, vn_nrf]) (Nat.zero_le _) ?_ ?_
      · simp (disch := first | omega | (simp only [List.length_append, List.length_cons, List.length_nil, List.length_replicate, List.length_set, List.length_take, List.length_drop, vi_len, vb_len, vo_len, vl_len, vn_len]; omega)) only [↓EC, EV, EL, E2, E3, ER, seval, ↓reduceIte, false_imp_iff, ColV_def]
        exact ⟨fun _ => trivial, rfl⟩
      · rintro i h1
        have r1 := outR_len (p := p) (q := q) (W := W) (L := l) i
        simp (disch := first | omega | (simp only [List.length_append, List.length_cons, List.length_nil, List.length_replicate, List.length_set, List.length_take, List.length_drop, vi_len, vb_len, vo_len, vl_len, vn_len]; omega)) only [↓EC, EV, EL, E2, E3, ER, seval, ↓reduceIte, false_imp_iff, ColV_def, lheap_def]
        (refine Split.mk (fun h => ?_) (fun h => ?_) <;> (try simp only [decide_eq_true_eq, decide_eq_false_iff_not, beq_iff_eq, bne_iff_ne, beq_eq_false_iff_ne, bne_eq_false_iff_eq, Bool.not_eq_true', Bool.not_eq_false', Bool.and_eq_true, Bool.or_eq_true, Bool.and_eq_false_iff, Bool.or_eq_false_iff, Int.not_lt, Int.not_le, Bool.false_eq_true, Bool.true_eq_false, false_and, and_false, true_and, and_true, or_false, false_or, or_true, true_or, not_true_eq_false, not_false_eq_true] at h))
        · have hlo := n2 i (by omega)
          have hy1 := hp.2 (gi l i).toNat (by omega)
          have hy2 := hq.2 (gi l i).toNat (by omega)
          (try simp (disch := first | omega | (simp only [List.length_append, List.length_cons, List.length_nil, List.length_replicate, List.length_set, List.length_take, List.length_drop, vi_len, vb_len, vo_len, vl_len, vn_len]; omega)) only [↓EC, EV, EL, E2, E3, ER, seval, ↓reduceIte, false_imp_iff, hl, hk])
          refine LP_of (σ := List (List UInt8) × Nat) 300000 [(65, 31, 1), (67, 53, 1), (77, 82, 1), (100000, 5, 1)] (fun s => [.own 9 1 s.1.length (vt s.1), .int .i64 s.2])
            (fun s => [.int .i64 n :: vi .u8 (p ++ q), vt W, vi .u8 [gi p (gi l i).toNat, gi q (gi l i).toNat], vi .u8 l])
            (fun s => s.2 ≤ 2 ∧ s.1 = if s.2 = 0 then outR p q W l i else if s.2 = 1 then outV W (gi l i).toNat 120 (gi p (gi l i).toNat) (outR p q W l i) else outS p q W (gi l i).toNat (outR p q W l i)) (fun s => 2 - s.2) (outR p q W l i, 0) (by simp [frameOk, names, lpz, sclp, scv, scvs, vi_nrf, vb_nrf, vt_nrf, v2_nrf, v3_nrf, nrfs, nrf, sc_vi, sc_vb, sc_vt, sc_v2, sc_v3, sc_vo, sc_vl, vo_nrf, vl_nrf, sc_vn, vn_nrf]) ⟨Nat.zero_le 2, rfl⟩ ?_ ?_
          · simp (disch := first | omega | (simp only [List.length_append, List.length_cons, List.length_nil, List.length_replicate, List.length_set, List.length_take, List.length_drop, vi_len, vb_len, vo_len, vl_len, vn_len]; omega)) only [↓EC, EV, EL, E2, E3, ER, seval, ↓reduceIte, false_imp_iff, ColV_def]
            rfl
          · rintro ⟨o, j⟩ ⟨g1, g2⟩
            simp only at g1 g2
            have s1 := out_mid (p := p) (q := q) g2
            simp (disch := first | omega | (simp only [List.length_append, List.length_cons, List.length_nil, List.length_replicate, List.length_set, List.length_take, List.length_drop, vi_len, vb_len, vo_len, vl_len, vn_len]; omega)) only [↓EC, EV, EL, E2, E3, ER, seval, ↓reduceIte, false_imp_iff, ColV_def, lheap_def]
            (refine Split.mk (fun h => ?_) (fun h => ?_) <;> (try simp only [decide_eq_true_eq, decide_eq_false_iff_not, beq_iff_eq, bne_iff_ne, beq_eq_false_iff_ne, bne_eq_false_iff_eq, Bool.not_eq_true', Bool.not_eq_false', Bool.and_eq_true, Bool.or_eq_true, Bool.and_eq_false_iff, Bool.or_eq_false_iff, Int.not_lt, Int.not_le, Bool.false_eq_true, Bool.true_eq_false, false_and, and_false, true_and, and_true, or_false, false_or, or_true, true_or, not_true_eq_false, not_false_eq_true] at h))
            · have a1 := v1 (gi l i).toNat
              have hj : j = 0 ∨ j = 1 := by omega
              rcases hj with rfl | rfl
              · have a2 := v1 (gi p (gi l i).toNat).toNat
                obtain ⟨a3, a4⟩ := outW_ok (z := (gi l i).toNat) (y := gi p (gi l i).toNat) ltr120 v2 v1; unfold outW at a3 a4
                (try simp (disch := first | omega | (simp only [List.length_append, List.length_cons, List.length_nil, List.length_replicate, List.length_set, List.length_take, List.length_drop, vi_len, vb_len, vo_len, vl_len, vn_len]; omega)) only [↓EC, EV, EL, E2, E3, ER, seval, ↓reduceIte, false_imp_iff, hl, hk])
                rw [if_pos rfl] at g2
                refine pcd_v (c_spec_l08Inverse (v2 _) (by omega)) ?_
                have a5 := inv_len (w := gt W (gi p (gi l i).toNat).toNat)
                (try simp (disch := first | omega | (simp only [List.length_append, List.length_cons, List.length_nil, List.length_replicate, List.length_set, List.length_take, List.length_drop, vi_len, vb_len, vo_len, vl_len, vn_len]; omega)) only [↓EC, EV, EL, E2, E3, ER, seval, ↓reduceIte, false_imp_iff, a5])
                refine pcd_v (c_spec_l08Reduce a3 (by omega)) ?_
                (try simp (disch := first | omega | (simp only [List.length_append, List.length_cons, List.length_nil, List.length_replicate, List.length_set, List.length_take, List.length_drop, vi_len, vb_len, vo_len, vl_len, vn_len]; omega)) only [↓EC, EV, EL, E2, E3, ER, seval, ↓reduceIte, false_imp_iff])
                (refine Split.mk (fun h => ?_) (fun h => ?_) <;> (try simp only [decide_eq_true_eq, decide_eq_false_iff_not, beq_iff_eq, bne_iff_ne, beq_eq_false_iff_ne, bne_eq_false_iff_eq, Bool.not_eq_true', Bool.not_eq_false', Bool.and_eq_true, Bool.or_eq_true, Bool.and_eq_false_iff, Bool.or_eq_false_iff, Int.not_lt, Int.not_le, Bool.false_eq_true, Bool.true_eq_false, false_and, and_false, true_and, and_true, or_false, false_or, or_true, true_or, not_true_eq_false, not_false_eq_true] at h))
                · (try simp (disch := first | omega | (simp only [List.length_append, List.length_cons, List.length_nil, List.length_replicate, List.length_set, List.length_take, List.length_drop, vi_len, vb_len, vo_len, vl_len, vn_len]; omega)) only [↓EC, EV, EL, E2, E3, ER, seval, ↓reduceIte, false_imp_iff])
                  exact ⟨(outV W (gi l i).toNat 120 (gi p (gi l i).toNat) o, 1), by rw [outV_no h]; simp [outW], ⟨by simp, by rw [g2]; rfl⟩, by simp⟩
                · (try simp (disch := first | omega | (simp only [List.length_append, List.length_cons, List.length_nil, List.length_replicate, List.length_set, List.length_take, List.length_drop, vi_len, vb_len, vo_len, vl_len, vn_len]; omega)) only [↓EC, EV, EL, E2, E3, ER, seval, ↓reduceIte, false_imp_iff])
                  exact ⟨(outV W (gi l i).toNat 120 (gi p (gi l i).toNat) o, 1), by rw [outV_yes h]; simp, ⟨by simp, by rw [g2]; rfl⟩, by simp⟩
              · have a2 := v1 (gi q (gi l i).toNat).toNat
                obtain ⟨a3, a4⟩ := outW_ok (z := (gi l i).toNat) (y := gi q (gi l i).toNat) ltr121 v2 v1; unfold outW at a3 a4
                (try simp (disch := first | omega | (simp only [List.length_append, List.length_cons, List.length_nil, List.length_replicate, List.length_set, List.length_take, List.length_drop, vi_len, vb_len, vo_len, vl_len, vn_len]; omega)) only [↓EC, EV, EL, E2, E3, ER, seval, ↓reduceIte, false_imp_iff, hl, hk])
                rw [if_neg (by decide), if_pos rfl] at g2
                refine pcd_v (c_spec_l08Inverse (v2 _) (by omega)) ?_
                have a5 := inv_len (w := gt W (gi q (gi l i).toNat).toNat)
                (try simp (disch := first | omega | (simp only [List.length_append, List.length_cons, List.length_nil, List.length_replicate, List.length_set, List.length_take, List.length_drop, vi_len, vb_len, vo_len, vl_len, vn_len]; omega)) only [↓EC, EV, EL, E2, E3, ER, seval, ↓reduceIte, false_imp_iff, a5])
                refine pcd_v (c_spec_l08Reduce a3 (by omega)) ?_
                (try simp (disch := first | omega | (simp only [List.length_append, List.length_cons, List.length_nil, List.length_replicate, List.length_set, List.length_take, List.length_drop, vi_len, vb_len, vo_len, vl_len, vn_len]; omega)) only [↓EC, EV, EL, E2, E3, ER, seval, ↓reduceIte, false_imp_iff])
                (refine Split.mk (fun h => ?_) (fun h => ?_) <;> (try simp only [decide_eq_true_eq, decide_eq_false_iff_not, beq_iff_eq, bne_iff_ne, beq_eq_false_iff_ne, bne_eq_false_iff_eq, Bool.not_eq_true', Bool.not_eq_false', Bool.and_eq_true, Bool.or_eq_true, Bool.and_eq_false_iff, Bool.or_eq_false_iff, Int.not_lt, Int.not_le, Bool.false_eq_true, Bool.true_eq_false, false_and, and_false, true_and, and_true, or_false, false_or, or_true, true_or, not_true_eq_false, not_false_eq_true] at h))
                · (try simp (disch := first | omega | (simp only [List.length_append, List.length_cons, List.length_nil, List.length_replicate, List.length_set, List.length_take, List.length_drop, vi_len, vb_len, vo_len, vl_len, vn_len]; omega)) only [↓EC, EV, EL, E2, E3, ER, seval, ↓reduceIte, false_imp_iff])
                  exact ⟨(outV W (gi l i).toNat 121 (gi q (gi l i).toNat) o, 2), by rw [outV_no h]; simp [outW], ⟨by simp, by rw [g2]; rfl⟩, by simp⟩
                · (try simp (disch := first | omega | (simp only [List.length_append, List.length_cons, List.length_nil, List.length_replicate, List.length_set, List.length_take, List.length_drop, vi_len, vb_len, vo_len, vl_len, vn_len]; omega)) only [↓EC, EV, EL, E2, E3, ER, seval, ↓reduceIte, false_imp_iff])
                  exact ⟨(outV W (gi l i).toNat 121 (gi q (gi l i).toNat) o, 2), by rw [outV_yes h]; simp, ⟨by simp, by rw [g2]; rfl⟩, by simp⟩
            · (try simp (disch := first | omega | (simp only [List.length_append, List.length_cons, List.length_nil, List.length_replicate, List.length_set, List.length_take, List.length_drop, vi_len, vb_len, vo_len, vl_len, vn_len]; omega)) only [↓EC, EV, EL, E2, E3, ER, seval, ↓reduceIte, false_imp_iff])
              rw [if_neg (by omega), if_neg (by omega)] at g2
              refine ⟨i + 1, ?_, by omega, by omega⟩
              rw [g2]; rfl
        · have hie : i = l.length := by omega
          subst hie
          (try simp (disch := first | omega | (simp only [List.length_append, List.length_cons, List.length_nil, List.length_replicate, List.length_set, List.length_take, List.length_drop, vi_len, vb_len, vo_len, vl_len, vn_len]; omega)) only [↓EC, EV, EL, E2, E3, ER, seval, ↓reduceIte, false_imp_iff])
theorem c_spec_StabiliserWords {n : Int} {p q : List Int} (hp : okP p) (hq : okP q) (h0 : isDB n p q = true) : PSpec Tryd.prog 18 [vD n p q] fun v => v = .tup [.own 9 1 (stbL p q).length (vt (stbL p q)), .int .i64 0] := by
  have hl := hp.len
  have hk := hq.len
  obtain ⟨lp, lq, hn⟩ := (isDB_iff.1 h0).lo hp hq
  refine spec_StabiliserWords_f.f ?_
  have hi := c_spec_l01Is (n := n) hp hq
  have hm := c_spec_l08Stabiliser (n := n) lp lq
  unfold vD at hi hm ⊢
  simp (disch := first | omega | (simp only [List.length_append, List.length_cons, List.length_nil, List.length_replicate, List.length_set, List.length_take, List.length_drop, vi_len, vb_len, vo_len, vl_len, vn_len]; omega)) only [↓EC, EV, EL, E2, E3, ER, seval, ↓reduceIte, false_imp_iff, spec_StabiliserWords_F, hl, hk]
  refine pcd_v hi ?_
  (try simp (disch := first | omega | (simp only [List.length_append, List.length_cons, List.length_nil, List.length_replicate, List.length_set, List.length_take, List.length_drop, vi_len, vb_len, vo_len, vl_len, vn_len]; omega)) only [↓EC, EV, EL, E2, E3, ER, seval, ↓reduceIte, false_imp_iff, hl, hk, h0])
  refine pcd_o hm ?_
  (try simp (disch := first | omega | (simp only [List.length_append, List.length_cons, List.length_nil, List.length_replicate, List.length_set, List.length_take, List.length_drop, vi_len, vb_len, vo_len, vl_len, vn_len]; omega)) only [↓EC, EV, EL, E2, E3, ER, seval, ↓reduceIte, false_imp_iff])
theorem c_spec_StabiliserWords_no {n : Int} {p q : List Int} (hp : okP p) (hq : okP q) (h0 : isDB n p q = false) : PSpec Tryd.prog 18 [vD n p q] fun v => v = .tup [.nils, .int .i64 1] := by
  have hl := hp.len
  have hk := hq.len
  refine spec_StabiliserWords_f.f ?_
  have hi := c_spec_l01Is (n := n) hp hq
  unfold vD at hi ⊢
  simp (disch := first | omega | (simp only [List.length_append, List.length_cons, List.length_nil, List.length_replicate, List.length_set, List.length_take, List.length_drop, vi_len, vb_len, vo_len, vl_len, vn_len]; omega)) only [↓EC, EV, EL, E2, E3, ER, seval, ↓reduceIte, false_imp_iff, spec_StabiliserWords_F, hl, hk]
  refine pcd_v hi ?_
  (try simp (disch := first | omega | (simp only [List.length_append, List.length_cons, List.length_nil, List.length_replicate, List.length_set, List.length_take, List.length_drop, vi_len, vb_len, vo_len, vl_len, vn_len]; omega)) only [↓EC, EV, EL, E2, E3, ER, seval, ↓reduceIte, false_imp_iff, hl, hk, h0])
theorem c_impl_StabiliserWords_no {n : Int} {p q : List Int} (hp : okP p) (hq : okP q) (h0 : isDB n p q = false) : PSpec Tryd.prog 17 [vD n p q] fun v => v = .tup [.nils, .int .i64 1] := by
  have hl := hp.len
  have hk := hq.len
  refine impl_StabiliserWords_f.f ?_
  have hi := c_impl_IsDessin (n := n) hp hq
  unfold vD at hi ⊢
  simp (disch := first | omega | (simp only [List.length_append, List.length_cons, List.length_nil, List.length_replicate, List.length_set, List.length_take, List.length_drop, vi_len, vb_len, vo_len, vl_len, vn_len]; omega)) only [↓EC, EV, EL, E2, E3, ER, seval, ↓reduceIte, false_imp_iff, impl_StabiliserWords_F, hl, hk]
  refine pcd_v hi ?_
  (try simp (disch := first | omega | (simp only [List.length_append, List.length_cons, List.length_nil, List.length_replicate, List.length_set, List.length_take, List.length_drop, vi_len, vb_len, vo_len, vl_len, vn_len]; omega)) only [↓EC, EV, EL, E2, E3, ER, seval, ↓reduceIte, false_imp_iff, hl, hk, h0])
theorem stbL_len {p q : List Int} (hp : lo16 p) (hq : lo16 q) : (stbL p q).length ≤ 32 := by
  obtain ⟨n1, n2⟩ := nmdL_ok hp hq (x := 0) (by decide)
  have := outR_len (p := p) (q := q) (W := stbW p q) (L := stbO p q) (stbO p q).length
  unfold stbL
  unfold stbO at *
  omega
end Go.Proofs.YtjklebickfcddaaDoor.Sep

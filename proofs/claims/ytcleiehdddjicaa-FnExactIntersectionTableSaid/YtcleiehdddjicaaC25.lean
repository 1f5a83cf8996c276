/- What the laws' marks compute. -/
import Derived.Test.YtcleiehdddjicaaC24
namespace Go.Proofs.Ytcleiehdddjicaa.Sep
open Go.RowKit
set_option linter.unusedVariables false
set_option linter.unusedSimpArgs false
set_option maxRecDepth 20000

def iota (k : Int) (n : Nat) : List Int := (List.range n).map fun j : Nat => k + (j : Int)
theorem iota_len {k : Int} {n : Nat} : (iota k n).length = n := by simp [iota]
theorem iota_at {k : Int} {n j : Nat} (h : j < n) : gi (iota k n) j = k + j := by
  rw [gi_of (by rw [iota_len]; exact h)]; simp [iota]
theorem c_laws_markInt64S {l : List Int} {k : Int} (hk : 0 ≤ k ∧ k ≤ 4611686018427387904) (hl : l.length ≤ 1048576) :
    PSpecM Try.prog 11 [.rf 0 0 l.length, .int .i64 k] [(0, 2, 1)] [vi .i64 l] fun v c => v = .int .i64 (k + l.length) ∧ c = [vi .i64 (iota k l.length)] := by
  refine laws_markInt64S_f.m rfl rfl ?_
  simp (disch := first | omega | (simp only [List.length_append, List.length_cons, List.length_nil, List.length_replicate, List.length_set, List.length_take, List.length_drop, vi_len, vb_len, vo_len, vl_len, vn_len]; omega)) only [↓EC, EV, EL, E2, E3, ER, seval, ↓reduceIte, false_imp_iff, laws_markInt64S_F]
  refine LP_of (σ := Nat × List Int) 100000 [(0, 2, 1)] (fun s => [.int .i64 (k + s.1), .int .i64 s.1]) (fun s => [vi .i64 s.2])
    (fun s => s.1 ≤ l.length ∧ s.2.length = l.length ∧ ∀ j, j < s.1 → gi s.2 j = k + j) (fun s => l.length - s.1) (0, l) (by simp [frameOk, names, lpz, sclp, scv, scvs, vi_nrf, vb_nrf, vt_nrf, v2_nrf, v3_nrf, nrfs, nrf, sc_vi, sc_vb, sc_vt, sc_v2, sc_v3, sc_vo, sc_vl, vo_nrf, vl_nrf, sc_vn, vn_nrf]) ⟨Nat.zero_le _, rfl, fun j hj => absurd hj (Nat.not_lt_zero j)⟩ ?_ ?_
  · simp (disch := first | omega | (simp only [List.length_append, List.length_cons, List.length_nil, List.length_replicate, List.length_set, List.length_take, List.length_drop, vi_len, vb_len, vo_len, vl_len, vn_len]; omega)) only [↓EC, EV, EL, E2, E3, ER, seval, ↓reduceIte, false_imp_iff, ColV_def]
    simp
  · rintro ⟨i, m⟩ ⟨h1, h2, h3⟩
    simp only at h1 h2 h3
    simp (disch := first | omega | (simp only [List.length_append, List.length_cons, List.length_nil, List.length_replicate, List.length_set, List.length_take, List.length_drop, vi_len, vb_len, vo_len, vl_len, vn_len]; omega)) only [↓EC, EV, EL, E2, E3, ER, seval, ↓reduceIte, false_imp_iff, ColV_def, lheap_def]
    (refine Split.mk (fun h => ?_) (fun h => ?_) <;> (try simp only [decide_eq_true_eq, decide_eq_false_iff_not, beq_iff_eq, bne_iff_ne, beq_eq_false_iff_ne, bne_eq_false_iff_eq, Bool.not_eq_true', Bool.not_eq_false', Bool.and_eq_true, Bool.or_eq_true, Bool.and_eq_false_iff, Bool.or_eq_false_iff, Int.not_lt, Int.not_le, Bool.false_eq_true, Bool.true_eq_false, false_and, and_false, true_and, and_true, or_false, false_or, or_true, true_or, not_true_eq_false, not_false_eq_true] at h))
    · (try simp (disch := first | omega | (simp only [List.length_append, List.length_cons, List.length_nil, List.length_replicate, List.length_set, List.length_take, List.length_drop, vi_len, vb_len, vo_len, vl_len, vn_len]; omega)) only [↓EC, EV, EL, E2, E3, ER, seval, ↓reduceIte, false_imp_iff])
      refine ⟨(i + 1, m.set i (k + i)), by simp; omega, rfl, ⟨by omega, by simpa using h2, fun j hj => ?_⟩, by omega⟩
      simp only at hj ⊢
      rw [gi_set]
      by_cases e : i = j
      · subst e; simp; omega
      · rw [if_neg (by omega)]; exact h3 j (by omega)
    · (try simp (disch := first | omega | (simp only [List.length_append, List.length_cons, List.length_nil, List.length_replicate, List.length_set, List.length_take, List.length_drop, vi_len, vb_len, vo_len, vl_len, vn_len]; omega)) only [↓EC, EV, EL, E2, E3, ER, seval, ↓reduceIte, false_imp_iff])
      have : i = l.length := by omega
      subst this
      have hm : m = iota k l.length := gi_ext (by rw [iota_len, h2]) fun j hj => by rw [iota_at (by omega)]; exact h3 j (by omega)
      subst hm
      exact ⟨rfl, rfl⟩

/-- The marks of rows of rows. -/
def rowsN : List (List Int) → Nat
  | [] => 0
  | l :: r => l.length + rowsN r
def iotaSS : List (List Int) → Int → List (List Int)
  | [], _ => []
  | l :: r, k => iota k l.length :: iotaSS r (k + l.length)
theorem iotaSS_len : ∀ {ls : List (List Int)} {k : Int}, (iotaSS ls k).length = ls.length
  | [], k => rfl
  | l :: r, k => by simp [iotaSS, iotaSS_len (ls := r)]
theorem rowsN_take_le : ∀ (ls : List (List Int)) (i : Nat), rowsN (ls.take i) ≤ rowsN ls
  | [], i => by simp [rowsN]
  | l :: r, 0 => by simp [rowsN]
  | l :: r, i + 1 => by simp only [List.take_succ_cons, rowsN]; have := rowsN_take_le r i; omega
theorem rowsN_app : ∀ (a b : List (List Int)), rowsN (a ++ b) = rowsN a + rowsN b
  | [], b => by simp [rowsN]
  | l :: r, b => by simp only [List.cons_append, rowsN, rowsN_app r b]; omega
theorem iotaSS_app : ∀ (a b : List (List Int)) (k : Int), iotaSS (a ++ b) k = iotaSS a k ++ iotaSS b (k + rowsN a)
  | [], b, k => by simp [iotaSS, rowsN]
  | l :: r, b, k => by
    simp only [List.cons_append, iotaSS, iotaSS_app r b, rowsN]
    rw [Int.natCast_add, ← Int.add_assoc]
theorem vo_rf {e : TypeId} {ls : List (List Int)} {l : List Int} {h : Hp} {d i k : Nat} (hd : h d = .row e 1 (vi .i64 l)) (hk : l.length = k) (hi : i < ls.length) :
    folds (fin 4) h ((vo e ls).set i (.rf d 0 k)) = some (vo e (ls.set i l), hput h d .dead) := by
  subst hk
  rw [List.set_eq_take_append_cons_drop, if_pos (by rw [vo_len]; exact hi), vo_take, vo_drop, folds_app, vo_fin]
  have hf : fin 4 h (.rf d 0 l.length) = some (.own e 1 l.length (vi .i64 l), hput h d .dead) := by
    simp only [fin, hd, grd, Nat.mul_one, vi_len, Nat.le_refl, vi_take, List.take_length, vi_fin]
    simp
  simp only [Option.bind_some, folds, hf, vo_fin, Option.map_some]
  rw [List.set_eq_take_append_cons_drop, if_pos hi]
  simp [vo]
theorem c_laws_markInt64SS {ls : List (List Int)} {k : Int} (hk : 0 ≤ k ∧ k ≤ 1048576) (hl : ls.length ≤ 1048576) (hn : rowsN ls ≤ 1048576) :
    PSpecM Try.prog 16 [.rf 0 0 ls.length, .int .i64 k] [(0, 25, 1)] [vo 2 ls] fun v c => v = .int .i64 (k + rowsN ls) ∧ c = [vo 2 (iotaSS ls k)] := by
  refine laws_markInt64SS_f.m rfl rfl ?_
  simp (disch := first | omega | (simp only [List.length_append, List.length_cons, List.length_nil, List.length_replicate, List.length_set, List.length_take, List.length_drop, vi_len, vb_len, vo_len, vl_len, vn_len]; omega)) only [↓EC, EV, EL, E2, E3, ER, seval, ↓reduceIte, false_imp_iff, laws_markInt64SS_F]
  refine LP_of (σ := Nat) 100000 [(0, 25, 1)] (fun s => [.int .i64 (k + rowsN (ls.take s)), .int .i64 s]) (fun s => [vo 2 (iotaSS (ls.take s) k ++ ls.drop s)])
    (fun s => s ≤ ls.length) (fun s => ls.length - s) 0 (by simp [frameOk, names, lpz, sclp, scv, scvs, vi_nrf, vb_nrf, vt_nrf, v2_nrf, v3_nrf, nrfs, nrf, sc_vi, sc_vb, sc_vt, sc_v2, sc_v3, sc_vo, sc_vl, vo_nrf, vl_nrf, sc_vn, vn_nrf]) (Nat.zero_le _) ?_ ?_
  · simp (disch := first | omega | (simp only [List.length_append, List.length_cons, List.length_nil, List.length_replicate, List.length_set, List.length_take, List.length_drop, vi_len, vb_len, vo_len, vl_len, vn_len]; omega)) only [↓EC, EV, EL, E2, E3, ER, seval, ↓reduceIte, false_imp_iff, ColV_def]
    simp [rowsN, iotaSS]
  · rintro i h1
    have hlen : (iotaSS (ls.take i) k ++ ls.drop i).length = ls.length := by simp [iotaSS_len]; omega
    have hlt : (iotaSS (ls.take i) k).length = i := by rw [iotaSS_len]; simp; omega
    have hrn := rowsN_take_le ls i
    simp (disch := first | omega | (simp only [List.length_append, List.length_cons, List.length_nil, List.length_replicate, List.length_set, List.length_take, List.length_drop, vi_len, vb_len, vo_len, vl_len, vn_len]; omega)) only [↓EC, EV, EL, E2, E3, ER, seval, ↓reduceIte, false_imp_iff, ColV_def, lheap_def, hlt]
    (refine Split.mk (fun h => ?_) (fun h => ?_) <;> (try simp only [decide_eq_true_eq, decide_eq_false_iff_not, beq_iff_eq, bne_iff_ne, beq_eq_false_iff_ne, bne_eq_false_iff_eq, Bool.not_eq_true', Bool.not_eq_false', Bool.and_eq_true, Bool.or_eq_true, Bool.and_eq_false_iff, Bool.or_eq_false_iff, Int.not_lt, Int.not_le, Bool.false_eq_true, Bool.true_eq_false, false_and, and_false, true_and, and_true, or_false, false_or, or_true, true_or, not_true_eq_false, not_false_eq_true] at h))
    · have hi : i < ls.length := by omega
      have hg : gl (iotaSS (ls.take i) k ++ ls.drop i) i = gl ls i := by
        rw [gl_app, if_neg (by omega), hlt, Nat.sub_self]; simp [gl, List.getD, hi]
      have hle : (gl ls i).length ≤ 1048576 := by
        have h5 := rowsN_take_le ls (i + 1)
        rw [take_gl hi, rowsN_app] at h5
        simp only [rowsN] at h5
        omega
      (try simp (disch := first | omega | (simp only [List.length_append, List.length_cons, List.length_nil, List.length_replicate, List.length_set, List.length_take, List.length_drop, vi_len, vb_len, vo_len, vl_len, vn_len]; omega)) only [↓EC, EV, EL, E2, E3, ER, seval, ↓reduceIte, false_imp_iff, hlen, hg, hlt])
      refine ldc_open 700 (by decide) ?_
      (try simp (disch := first | omega | (simp only [List.length_append, List.length_cons, List.length_nil, List.length_replicate, List.length_set, List.length_take, List.length_drop, vi_len, vb_len, vo_len, vl_len, vn_len]; omega)) only [↓EC, EV, EL, E2, E3, ER, seval, ↓reduceIte, false_imp_iff, hlen, hg, hlt])
      refine pcm [700] rfl ?_
      (try simp (disch := first | omega | (simp only [List.length_append, List.length_cons, List.length_nil, List.length_replicate, List.length_set, List.length_take, List.length_drop, vi_len, vb_len, vo_len, vl_len, vn_len]; omega)) only [↓EC, EV, EL, E2, E3, ER, seval, ↓reduceIte, false_imp_iff, hlen, hg, hlt])
      refine callM_v (c_laws_markInt64S (by omega) hle) ?_
      (try simp (disch := first | omega | (simp only [List.length_append, List.length_cons, List.length_nil, List.length_replicate, List.length_set, List.length_take, List.length_drop, vi_len, vb_len, vo_len, vl_len, vn_len]; omega)) only [↓EC, EV, EL, E2, E3, ER, seval, ↓reduceIte, false_imp_iff, hlen, hg, hlt, iota_len])
      rw [vo_rf (l := iota (k + (rowsN (ls.take i) : Int)) (gl ls i).length) rfl iota_len (by omega)]
      (try simp (disch := first | omega | (simp only [List.length_append, List.length_cons, List.length_nil, List.length_replicate, List.length_set, List.length_take, List.length_drop, vi_len, vb_len, vo_len, vl_len, vn_len]; omega)) only [↓EC, EV, EL, E2, E3, ER, seval, ↓reduceIte, false_imp_iff])
      refine ⟨i + 1, ?_, ?_, by omega, by omega⟩
      · rw [take_gl hi, rowsN_app]
        simp [rowsN, Int.add_assoc]
      · rw [take_gl hi, iotaSS_app, List.set_append_right _ _ (by omega), hlt, Nat.sub_self, drop_getD (d := []) hi]
        simp [iotaSS, gl]
    · (try simp (disch := first | omega | (simp only [List.length_append, List.length_cons, List.length_nil, List.length_replicate, List.length_set, List.length_take, List.length_drop, vi_len, vb_len, vo_len, vl_len, vn_len]; omega)) only [↓EC, EV, EL, E2, E3, ER, seval, ↓reduceIte, false_imp_iff])
theorem c_laws_heldInt64S {k : Int} {n : Nat} (hk : 0 ≤ k ∧ k ≤ 4611686018427387904) (hn : n ≤ 1048576) :
    PSpec Try.prog 12 [.sl n (vi .i64 (iota k n)), .int .i64 k] fun v => v = .int .i64 (k + n) := by
  have hl := iota_len (k := k) (n := n)
  refine laws_heldInt64S_f.f ?_
  simp (disch := first | omega | (simp only [List.length_append, List.length_cons, List.length_nil, List.length_replicate, List.length_set, List.length_take, List.length_drop, vi_len, vb_len, vo_len, vl_len, vn_len]; omega)) only [↓EC, EV, EL, E2, E3, ER, seval, ↓reduceIte, false_imp_iff, laws_heldInt64S_F]
  refine LP_of (σ := Nat) 100000 [] (fun s => [.int .i64 (k + s), .int .i64 s]) (fun s => [])
    (fun s => s ≤ n) (fun s => n - s) 0 (by simp [frameOk, names, lpz, sclp, scv, scvs, vi_nrf, vb_nrf, vt_nrf, v2_nrf, v3_nrf, nrfs, nrf, sc_vi, sc_vb, sc_vt, sc_v2, sc_v3, sc_vo, sc_vl, vo_nrf, vl_nrf, sc_vn, vn_nrf]) (Nat.zero_le _) ?_ ?_
  · simp (disch := first | omega | (simp only [List.length_append, List.length_cons, List.length_nil, List.length_replicate, List.length_set, List.length_take, List.length_drop, vi_len, vb_len, vo_len, vl_len, vn_len]; omega)) only [↓EC, EV, EL, E2, E3, ER, seval, ↓reduceIte, false_imp_iff, ColV_def]
    simp
  · rintro i h1
    simp (disch := first | omega | (simp only [List.length_append, List.length_cons, List.length_nil, List.length_replicate, List.length_set, List.length_take, List.length_drop, vi_len, vb_len, vo_len, vl_len, vn_len]; omega)) only [↓EC, EV, EL, E2, E3, ER, seval, ↓reduceIte, false_imp_iff, ColV_def, lheap_def]
    (refine Split.mk (fun h => ?_) (fun h => ?_) <;> (try simp only [decide_eq_true_eq, decide_eq_false_iff_not, beq_iff_eq, bne_iff_ne, beq_eq_false_iff_ne, bne_eq_false_iff_eq, Bool.not_eq_true', Bool.not_eq_false', Bool.and_eq_true, Bool.or_eq_true, Bool.and_eq_false_iff, Bool.or_eq_false_iff, Int.not_lt, Int.not_le, Bool.false_eq_true, Bool.true_eq_false, false_and, and_false, true_and, and_true, or_false, false_or, or_true, true_or, not_true_eq_false, not_false_eq_true] at h))
    · have hi := iota_at (k := k) (n := n) (j := i) (by omega)
      (try simp (disch := first | omega | (simp only [List.length_append, List.length_cons, List.length_nil, List.length_replicate, List.length_set, List.length_take, List.length_drop, vi_len, vb_len, vo_len, vl_len, vn_len]; omega)) only [↓EC, EV, EL, E2, E3, ER, seval, ↓reduceIte, false_imp_iff, hi, bne_self_eq_false])
      exact ⟨i + 1, by simp; omega, by omega, by omega⟩
    · (try simp (disch := first | omega | (simp only [List.length_append, List.length_cons, List.length_nil, List.length_replicate, List.length_set, List.length_take, List.length_drop, vi_len, vb_len, vo_len, vl_len, vn_len]; omega)) only [↓EC, EV, EL, E2, E3, ER, seval, ↓reduceIte, false_imp_iff])
      rw [show i = n from by omega]
theorem c_laws_heldInt64SS {ls : List (List Int)} {k : Int} (hk : 0 ≤ k ∧ k ≤ 1048576) (hl : ls.length ≤ 1048576) (hn : rowsN ls ≤ 1048576) :
    PSpec Try.prog 17 [.sl ls.length (vl (iotaSS ls k)), .int .i64 k] fun v => v = .int .i64 (k + rowsN ls) := by
  have hlt : (iotaSS ls k).length = ls.length := iotaSS_len
  refine laws_heldInt64SS_f.f ?_
  simp (disch := first | omega | (simp only [List.length_append, List.length_cons, List.length_nil, List.length_replicate, List.length_set, List.length_take, List.length_drop, vi_len, vb_len, vo_len, vl_len, vn_len]; omega)) only [↓EC, EV, EL, E2, E3, ER, seval, ↓reduceIte, false_imp_iff, laws_heldInt64SS_F]
  refine LP_of (σ := Nat) 100000 [] (fun s => [.int .i64 (k + rowsN (ls.take s)), .int .i64 s]) (fun s => [])
    (fun s => s ≤ ls.length) (fun s => ls.length - s) 0 (by simp [frameOk, names, lpz, sclp, scv, scvs, vi_nrf, vb_nrf, vt_nrf, v2_nrf, v3_nrf, nrfs, nrf, sc_vi, sc_vb, sc_vt, sc_v2, sc_v3, sc_vo, sc_vl, vo_nrf, vl_nrf, sc_vn, vn_nrf]) (Nat.zero_le _) ?_ ?_
  · simp (disch := first | omega | (simp only [List.length_append, List.length_cons, List.length_nil, List.length_replicate, List.length_set, List.length_take, List.length_drop, vi_len, vb_len, vo_len, vl_len, vn_len]; omega)) only [↓EC, EV, EL, E2, E3, ER, seval, ↓reduceIte, false_imp_iff, ColV_def]
    simp [rowsN]
  · rintro i h1
    have hrn := rowsN_take_le ls i
    simp (disch := first | omega | (simp only [List.length_append, List.length_cons, List.length_nil, List.length_replicate, List.length_set, List.length_take, List.length_drop, vi_len, vb_len, vo_len, vl_len, vn_len]; omega)) only [↓EC, EV, EL, E2, E3, ER, seval, ↓reduceIte, false_imp_iff, ColV_def, lheap_def, hlt]
    (refine Split.mk (fun h => ?_) (fun h => ?_) <;> (try simp only [decide_eq_true_eq, decide_eq_false_iff_not, beq_iff_eq, bne_iff_ne, beq_eq_false_iff_ne, bne_eq_false_iff_eq, Bool.not_eq_true', Bool.not_eq_false', Bool.and_eq_true, Bool.or_eq_true, Bool.and_eq_false_iff, Bool.or_eq_false_iff, Int.not_lt, Int.not_le, Bool.false_eq_true, Bool.true_eq_false, false_and, and_false, true_and, and_true, or_false, false_or, or_true, true_or, not_true_eq_false, not_false_eq_true] at h))
    · have hi : i < ls.length := by omega
      have h5 := rowsN_take_le ls (i + 1)
      rw [take_gl hi, rowsN_app] at h5
      simp only [rowsN] at h5
      have hg : gl (iotaSS ls k) i = iota (k + (rowsN (ls.take i) : Int)) (gl ls i).length := by
        conv => lhs; rw [← List.take_append_drop i ls, iotaSS_app, gl_app, if_neg (by rw [iotaSS_len]; simp; omega), drop_getD (d := []) hi]
        rw [iotaSS_len, List.length_take, Nat.min_eq_left h1, Nat.sub_self]
        rfl
      (try simp (disch := first | omega | (simp only [List.length_append, List.length_cons, List.length_nil, List.length_replicate, List.length_set, List.length_take, List.length_drop, vi_len, vb_len, vo_len, vl_len, vn_len]; omega)) only [↓EC, EV, EL, E2, E3, ER, seval, ↓reduceIte, false_imp_iff, hlt, hg, iota_len])
      refine pcd_v (c_laws_heldInt64S (by omega) (by omega)) ?_
      (try simp (disch := first | omega | (simp only [List.length_append, List.length_cons, List.length_nil, List.length_replicate, List.length_set, List.length_take, List.length_drop, vi_len, vb_len, vo_len, vl_len, vn_len]; omega)) only [↓EC, EV, EL, E2, E3, ER, seval, ↓reduceIte, false_imp_iff, hlt])
      (refine Split.mk (fun h => ?_) (fun h => ?_) <;> (try simp only [decide_eq_true_eq, decide_eq_false_iff_not, beq_iff_eq, bne_iff_ne, beq_eq_false_iff_ne, bne_eq_false_iff_eq, Bool.not_eq_true', Bool.not_eq_false', Bool.and_eq_true, Bool.or_eq_true, Bool.and_eq_false_iff, Bool.or_eq_false_iff, Int.not_lt, Int.not_le, Bool.false_eq_true, Bool.true_eq_false, false_and, and_false, true_and, and_true, or_false, false_or, or_true, true_or, not_true_eq_false, not_false_eq_true] at h))
      · omega
      · (try simp (disch := first | omega | (simp only [List.length_append, List.length_cons, List.length_nil, List.length_replicate, List.length_set, List.length_take, List.length_drop, vi_len, vb_len, vo_len, vl_len, vn_len]; omega)) only [↓EC, EV, EL, E2, E3, ER, seval, ↓reduceIte, false_imp_iff])
        exact ⟨i + 1, by rw [take_gl hi, rowsN_app]; simp [rowsN, Int.add_assoc], by omega, by omega⟩
    · (try simp (disch := first | omega | (simp only [List.length_append, List.length_cons, List.length_nil, List.length_replicate, List.length_set, List.length_take, List.length_drop, vi_len, vb_len, vo_len, vl_len, vn_len]; omega)) only [↓EC, EV, EL, E2, E3, ER, seval, ↓reduceIte, false_imp_iff])
end Go.Proofs.Ytcleiehdddjicaa.Sep

/- The chain of a set. -/
import Derived.Test.YtppkppmkjjbbgaaC14
import Derived.Test.YtppkppmkjjbbgaaC70
namespace Go.Proofs.Ytppkppmkjjbbgaa.Sep
open Go.RowKit
set_option linter.unusedVariables false
set_option linter.unusedSimpArgs false
set_option maxRecDepth 20000
set_option maxHeartbeats 4000000

/-! ### Marks of moves -/
theorem v3_cons {k : IntKind} {a : Int × Int × Int} {m : List (Int × Int × Int)} : v3 k (a :: m) = .int k a.1 :: .int k a.2.1 :: .int k a.2.2 :: v3 k m := rfl
theorem v3_set012 {k : IntKind} {m : List (Int × Int × Int)} {i : Nat} {a b c : Int} (h : i < m.length) : (((v3 k m).set (i * 3) (.int k a)).set (i * 3 + 1) (.int k b)).set (i * 3 + 2) (.int k c) = v3 k (m.set i (a, b, c)) := by
  induction m generalizing i with
  | nil => simp at h
  | cons x m ih =>
    cases i with
    | zero => rfl
    | succ i =>
      rw [v3_cons, List.set_cons_succ, v3_cons, ← ih (by simpa using h), Nat.add_mul]
      rfl
theorem v3_get0 {k : IntKind} {m : List (Int × Int × Int)} {i : Nat} {d : V} (h : i < m.length) : (v3 k m).getD (i * 3) d = .int k (g3 m i).1 := by
  induction m generalizing i with
  | nil => simp at h
  | cons x m ih =>
    cases i with
    | zero => rfl
    | succ i =>
      have := ih (i := i) (by simpa using h)
      rw [v3_cons, Nat.add_mul]
      exact this
theorem v3_get1 {k : IntKind} {m : List (Int × Int × Int)} {i : Nat} {d : V} (h : i < m.length) : (v3 k m).getD (i * 3 + 1) d = .int k (g3 m i).2.1 := by
  induction m generalizing i with
  | nil => simp at h
  | cons x m ih =>
    cases i with
    | zero => rfl
    | succ i =>
      have := ih (i := i) (by simpa using h)
      rw [v3_cons, Nat.add_mul]
      exact this
theorem v3_get2 {k : IntKind} {m : List (Int × Int × Int)} {i : Nat} {d : V} (h : i < m.length) : (v3 k m).getD (i * 3 + 2) d = .int k (g3 m i).2.2 := by
  induction m generalizing i with
  | nil => simp at h
  | cons x m ih =>
    cases i with
    | zero => rfl
    | succ i =>
      have := ih (i := i) (by simpa using h)
      rw [v3_cons, Nat.add_mul]
      exact this
theorem g3_of {l : List (Int × Int × Int)} {i : Nat} (hi : i < l.length) : g3 l i = l[i] := by simp [g3, List.getD, hi]
def iot3 (k : Int) (n : Nat) : List (Int × Int × Int) := (List.range n).map fun j : Nat => (k + 3 * j, k + 3 * j + 1, k + 3 * j + 1 + 1)
theorem iot3_len {k : Int} {n : Nat} : (iot3 k n).length = n := by simp [iot3]
theorem iot3_at {k : Int} {n j : Nat} (h : j < n) : g3 (iot3 k n) j = (k + 3 * j, k + 3 * j + 1, k + 3 * j + 1 + 1) := by
  rw [g3_of (by rw [iot3_len]; exact h)]; simp [iot3]
theorem c_laws_markMoveS {l : List (Int × Int × Int)} {k : Int} (hk : 0 ≤ k ∧ k ≤ 1048576) (hl : l.length ≤ 1048576) :
    PSpecM Try.prog 36 [.rf 0 0 l.length, .int .i64 k] [(0, 25, 3)] [v3 .i64 l] fun v c => v = .int .i64 (k + 3 * l.length) ∧ c = [v3 .i64 (iot3 k l.length)] := by
  refine laws_markMoveS_f.m rfl rfl ?_
  simp (disch := first | omega | (simp only [List.length_append, List.length_cons, List.length_nil, List.length_replicate, List.length_set, List.length_take, List.length_drop, vi_len, vb_len, vo_len, vl_len, vn_len]; omega)) only [↓EC, EV, EL, E2, E3, ER, seval, ↓reduceIte, false_imp_iff, laws_markMoveS_F]
  refine LP_of (σ := Nat × List (Int × Int × Int)) 100000 [(0, 25, 3)] (fun s => [.int .i64 (k + 3 * s.1), .int .i64 s.1]) (fun s => [v3 .i64 s.2])
    (fun s => s.1 ≤ l.length ∧ s.2.length = l.length ∧ ∀ j, j < s.1 → g3 s.2 j = (k + 3 * j, k + 3 * j + 1, k + 3 * j + 1 + 1)) (fun s => l.length - s.1) (0, l) (by simp [frameOk, names, lpz, sclp, scv, scvs, vi_nrf, vb_nrf, vt_nrf, v2_nrf, v3_nrf, nrfs, nrf, sc_vi, sc_vb, sc_vt, sc_v2, sc_v3, sc_vo, sc_vl, vo_nrf, vl_nrf, sc_vn, vn_nrf]) ⟨Nat.zero_le _, rfl, fun j hj => absurd hj (Nat.not_lt_zero j)⟩ ?_ ?_
  · simp (disch := first | omega | (simp only [List.length_append, List.length_cons, List.length_nil, List.length_replicate, List.length_set, List.length_take, List.length_drop, vi_len, vb_len, vo_len, vl_len, vn_len]; omega)) only [↓EC, EV, EL, E2, E3, ER, seval, ↓reduceIte, false_imp_iff, ColV_def]
    simp
  · rintro ⟨i, m⟩ ⟨h1, h2, h3⟩
    simp only at h1 h2 h3
    simp (disch := first | omega | (simp only [List.length_append, List.length_cons, List.length_nil, List.length_replicate, List.length_set, List.length_take, List.length_drop, vi_len, vb_len, vo_len, vl_len, vn_len]; omega)) only [↓EC, EV, EL, E2, E3, ER, seval, ↓reduceIte, false_imp_iff, ColV_def, lheap_def]
    (refine Split.mk (fun h => ?_) (fun h => ?_) <;> (try simp only [decide_eq_true_eq, decide_eq_false_iff_not, beq_iff_eq, bne_iff_ne, beq_eq_false_iff_ne, bne_eq_false_iff_eq, Bool.not_eq_true', Bool.not_eq_false', Bool.and_eq_true, Bool.or_eq_true, Bool.and_eq_false_iff, Bool.or_eq_false_iff, Int.not_lt, Int.not_le, Bool.false_eq_true, Bool.true_eq_false, false_and, and_false, true_and, and_true, or_false, false_or, or_true, true_or, not_true_eq_false, not_false_eq_true] at h))
    · have e := v3_set012 (k := .i64) (m := m) (i := i) (a := k + 3 * i) (b := k + 3 * i + 1) (c := k + 3 * i + 1 + 1) (by omega)
      (try simp (disch := first | omega | (simp only [List.length_append, List.length_cons, List.length_nil, List.length_replicate, List.length_set, List.length_take, List.length_drop, vi_len, vb_len, vo_len, vl_len, vn_len]; omega)) only [↓EC, EV, EL, E2, E3, ER, seval, ↓reduceIte, false_imp_iff, e])
      refine ⟨(i + 1, m.set i (k + 3 * i, k + 3 * i + 1, k + 3 * i + 1 + 1)), by simp; omega, rfl, ⟨by simp only; omega, by simpa using h2, fun j hj => ?_⟩, by simp only; omega⟩
      simp only at hj ⊢
      rw [g3_set]
      by_cases ej : i = j
      · subst ej; rw [if_pos ⟨rfl, by omega⟩]
      · rw [if_neg (by omega)]; exact h3 j (by omega)
    · (try simp (disch := first | omega | (simp only [List.length_append, List.length_cons, List.length_nil, List.length_replicate, List.length_set, List.length_take, List.length_drop, vi_len, vb_len, vo_len, vl_len, vn_len]; omega)) only [↓EC, EV, EL, E2, E3, ER, seval, ↓reduceIte, false_imp_iff])
      have hi : i = l.length := by omega
      subst hi
      have hm : m = iot3 k l.length := g3_ext (by rw [iot3_len, h2]) fun j hj => by rw [iot3_at (by omega)]; exact h3 j (by omega)
      subst hm
      exact ⟨rfl, rfl⟩
theorem c_laws_heldMoveS {k : Int} {n : Nat} (hk : 0 ≤ k ∧ k ≤ 1048576) (hn : n ≤ 1048576) :
    PSpec Try.prog 37 [.sl n (v3 .i64 (iot3 k n)), .int .i64 k] fun v => v = .int .i64 (k + 3 * n) := by
  have hl := iot3_len (k := k) (n := n)
  refine laws_heldMoveS_f.f ?_
  simp (disch := first | omega | (simp only [List.length_append, List.length_cons, List.length_nil, List.length_replicate, List.length_set, List.length_take, List.length_drop, vi_len, vb_len, vo_len, vl_len, vn_len]; omega)) only [↓EC, EV, EL, E2, E3, ER, seval, ↓reduceIte, false_imp_iff, laws_heldMoveS_F]
  refine LP_of (σ := Nat) 100000 [] (fun s => [.int .i64 (k + 3 * s), .int .i64 s]) (fun s => [])
    (fun s => s ≤ n) (fun s => n - s) 0 (by simp [frameOk, names, lpz, sclp, scv, scvs, vi_nrf, vb_nrf, vt_nrf, v2_nrf, v3_nrf, nrfs, nrf, sc_vi, sc_vb, sc_vt, sc_v2, sc_v3, sc_vo, sc_vl, vo_nrf, vl_nrf, sc_vn, vn_nrf]) (Nat.zero_le _) ?_ ?_
  · simp (disch := first | omega | (simp only [List.length_append, List.length_cons, List.length_nil, List.length_replicate, List.length_set, List.length_take, List.length_drop, vi_len, vb_len, vo_len, vl_len, vn_len]; omega)) only [↓EC, EV, EL, E2, E3, ER, seval, ↓reduceIte, false_imp_iff, ColV_def]
    simp
  · rintro i h1
    simp (disch := first | omega | (simp only [List.length_append, List.length_cons, List.length_nil, List.length_replicate, List.length_set, List.length_take, List.length_drop, vi_len, vb_len, vo_len, vl_len, vn_len]; omega)) only [↓EC, EV, EL, E2, E3, ER, seval, ↓reduceIte, false_imp_iff, ColV_def, lheap_def, hl]
    (refine Split.mk (fun h => ?_) (fun h => ?_) <;> (try simp only [decide_eq_true_eq, decide_eq_false_iff_not, beq_iff_eq, bne_iff_ne, beq_eq_false_iff_ne, bne_eq_false_iff_eq, Bool.not_eq_true', Bool.not_eq_false', Bool.and_eq_true, Bool.or_eq_true, Bool.and_eq_false_iff, Bool.or_eq_false_iff, Int.not_lt, Int.not_le, Bool.false_eq_true, Bool.true_eq_false, false_and, and_false, true_and, and_true, or_false, false_or, or_true, true_or, not_true_eq_false, not_false_eq_true] at h))
    · have hi : i < n := by omega
      have e := iot3_at (k := k) hi
      have e0 := v3_get0 (k := .i64) (m := iot3 k n) (i := i) (d := .und) (by omega)
      have e1 := v3_get1 (k := .i64) (m := iot3 k n) (i := i) (d := .und) (by omega)
      have e2 := v3_get2 (k := .i64) (m := iot3 k n) (i := i) (d := .und) (by omega)
      rw [e] at e0 e1 e2
      (try simp (disch := first | omega | (simp only [List.length_append, List.length_cons, List.length_nil, List.length_replicate, List.length_set, List.length_take, List.length_drop, vi_len, vb_len, vo_len, vl_len, vn_len]; omega)) only [↓EC, EV, EL, E2, E3, ER, seval, ↓reduceIte, false_imp_iff, hl, e0, e1, e2])
      repeat' (refine Split.mk (fun h => ?_) (fun h => ?_) <;> (try simp only [decide_eq_true_eq, decide_eq_false_iff_not, beq_iff_eq, bne_iff_ne, beq_eq_false_iff_ne, bne_eq_false_iff_eq, Bool.not_eq_true', Bool.not_eq_false', Bool.and_eq_true, Bool.or_eq_true, Bool.and_eq_false_iff, Bool.or_eq_false_iff, Int.not_lt, Int.not_le, Bool.false_eq_true, Bool.true_eq_false, false_and, and_false, true_and, and_true, or_false, false_or, or_true, true_or, not_true_eq_false, not_false_eq_true] at h))
      all_goals first | omega | skip
      exact ⟨i + 1, by simp; omega, by omega, by omega⟩
    · (try simp (disch := first | omega | (simp only [List.length_append, List.length_cons, List.length_nil, List.length_replicate, List.length_set, List.length_take, List.length_drop, vi_len, vb_len, vo_len, vl_len, vn_len]; omega)) only [↓EC, EV, EL, E2, E3, ER, seval, ↓reduceIte, false_imp_iff])
      have hi : i = n := by omega
      subst hi
      rfl
theorem c_laws_eqMoveS_nil : PSpec Try.prog 24 [.nils, .nils] fun v => v = .bool true := by
  refine laws_eqMoveS_f.f ?_
  simp (disch := first | omega | (simp only [List.length_append, List.length_cons, List.length_nil, List.length_replicate, List.length_set, List.length_take, List.length_drop, vi_len, vb_len, vo_len, vl_len, vn_len]; omega)) only [↓EC, EV, EL, E2, E3, ER, seval, ↓reduceIte, false_imp_iff, laws_eqMoveS_F]
  refine LP_of (σ := Unit) 100000 [] (fun s => [.int .i64 0]) (fun s => []) (fun s => True) (fun s => 0) () (by simp [frameOk, names, lpz, sclp, scv, scvs, vi_nrf, vb_nrf, vt_nrf, v2_nrf, v3_nrf, nrfs, nrf, sc_vi, sc_vb, sc_vt, sc_v2, sc_v3, sc_vo, sc_vl, vo_nrf, vl_nrf, sc_vn, vn_nrf]) trivial ?_ ?_
  · simp (disch := first | omega | (simp only [List.length_append, List.length_cons, List.length_nil, List.length_replicate, List.length_set, List.length_take, List.length_drop, vi_len, vb_len, vo_len, vl_len, vn_len]; omega)) only [↓EC, EV, EL, E2, E3, ER, seval, ↓reduceIte, false_imp_iff, ColV_def]
  · rintro _ _
    simp (disch := first | omega | (simp only [List.length_append, List.length_cons, List.length_nil, List.length_replicate, List.length_set, List.length_take, List.length_drop, vi_len, vb_len, vo_len, vl_len, vn_len]; omega)) only [↓EC, EV, EL, E2, E3, ER, seval, ↓reduceIte, false_imp_iff, ColV_def, lheap_def]
theorem c_laws_markMoveS_nil {k : Int} : PSpec Try.prog 36 [.nils, .int .i64 k] fun v => v = .int .i64 k := by
  refine laws_markMoveS_f.f ?_
  simp (disch := first | omega | (simp only [List.length_append, List.length_cons, List.length_nil, List.length_replicate, List.length_set, List.length_take, List.length_drop, vi_len, vb_len, vo_len, vl_len, vn_len]; omega)) only [↓EC, EV, EL, E2, E3, ER, seval, ↓reduceIte, false_imp_iff, laws_markMoveS_F]
  refine LP_of (σ := Unit) 100000 [] (fun s => [.int .i64 k, .int .i64 0]) (fun s => []) (fun s => True) (fun s => 0) () (by simp [frameOk, names, lpz, sclp, scv, scvs, vi_nrf, vb_nrf, vt_nrf, v2_nrf, v3_nrf, nrfs, nrf, sc_vi, sc_vb, sc_vt, sc_v2, sc_v3, sc_vo, sc_vl, vo_nrf, vl_nrf, sc_vn, vn_nrf]) trivial ?_ ?_
  · simp (disch := first | omega | (simp only [List.length_append, List.length_cons, List.length_nil, List.length_replicate, List.length_set, List.length_take, List.length_drop, vi_len, vb_len, vo_len, vl_len, vn_len]; omega)) only [↓EC, EV, EL, E2, E3, ER, seval, ↓reduceIte, false_imp_iff, ColV_def]
  · rintro _ _
    simp (disch := first | omega | (simp only [List.length_append, List.length_cons, List.length_nil, List.length_replicate, List.length_set, List.length_take, List.length_drop, vi_len, vb_len, vo_len, vl_len, vn_len]; omega)) only [↓EC, EV, EL, E2, E3, ER, seval, ↓reduceIte, false_imp_iff, ColV_def, lheap_def]
theorem c_laws_heldMoveS_nil {k : Int} : PSpec Try.prog 37 [.nils, .int .i64 k] fun v => v = .int .i64 k := by
  refine laws_heldMoveS_f.f ?_
  simp (disch := first | omega | (simp only [List.length_append, List.length_cons, List.length_nil, List.length_replicate, List.length_set, List.length_take, List.length_drop, vi_len, vb_len, vo_len, vl_len, vn_len]; omega)) only [↓EC, EV, EL, E2, E3, ER, seval, ↓reduceIte, false_imp_iff, laws_heldMoveS_F]
  refine LP_of (σ := Unit) 100000 [] (fun s => [.int .i64 k, .int .i64 0]) (fun s => []) (fun s => True) (fun s => 0) () (by simp [frameOk, names, lpz, sclp, scv, scvs, vi_nrf, vb_nrf, vt_nrf, v2_nrf, v3_nrf, nrfs, nrf, sc_vi, sc_vb, sc_vt, sc_v2, sc_v3, sc_vo, sc_vl, vo_nrf, vl_nrf, sc_vn, vn_nrf]) trivial ?_ ?_
  · simp (disch := first | omega | (simp only [List.length_append, List.length_cons, List.length_nil, List.length_replicate, List.length_set, List.length_take, List.length_drop, vi_len, vb_len, vo_len, vl_len, vn_len]; omega)) only [↓EC, EV, EL, E2, E3, ER, seval, ↓reduceIte, false_imp_iff, ColV_def]
  · rintro _ _
    simp (disch := first | omega | (simp only [List.length_append, List.length_cons, List.length_nil, List.length_replicate, List.length_set, List.length_take, List.length_drop, vi_len, vb_len, vo_len, vl_len, vn_len]; omega)) only [↓EC, EV, EL, E2, E3, ER, seval, ↓reduceIte, false_imp_iff, ColV_def, lheap_def]

/-! ### Chains -/
def chF : Nat → List (Int × Int × Int) → List (Int × Int) → Option (List (Int × Int × Int))
  | 0, out, s => if (nmM (opL s)).2 = 5 then some out else none
  | n + 1, out, s => if (nmM (opL s)).2 = 5 then some out else if (nmM (opL s)).2 = 0 then (imS (nmM (opL s)).1.1 (nmM (opL s)).1.2.1 (nmM (opL s)).1.2.2 s).bind fun t => chF n (out ++ [(nmM (opL s)).1]) t else none
theorem nx_cases (o : Option (Int × Int)) : (nmM o = ((0, 0, 0), 5) ∧ nxV o = .tup [mvV (0, 0, 0), .bool true, .bool true]) ∨
    (∃ a b c, nmM o = ((a, b, c), 0) ∧ isMoveB a b c = true ∧ nxV o = .tup [mvV (a, b, c), .bool true, .bool false]) ∨
    (nmM o = ((0, 0, 0), 3) ∧ ∃ a b c, nxV o = .tup [mvV (a, b, c), .bool false, .bool false]) := by
  cases o with
  | none => exact .inl ⟨rfl, rfl⟩
  | some a =>
    right
    unfold nmM nxV
    simp only
    by_cases h1 : a.1 < 0
    · rw [if_pos h1, if_pos h1]; exact .inl ⟨0, 0, 0, rfl, by decide, rfl⟩
    · rw [if_neg h1, if_neg h1]
      by_cases h2 : a.1 > a.2
      · rw [if_pos h2, if_pos h2]; exact .inl ⟨1, 0, 0, rfl, by decide, rfl⟩
      · rw [if_neg h2, if_neg h2]
        cases hm : isMoveB 2 a.1 (a.2 - a.1) with
        | true => exact .inl ⟨2, a.1, a.2 - a.1, by rw [if_pos rfl], hm, rfl⟩
        | false => exact .inr ⟨by rw [if_neg (by simp)], 2, a.1, a.2 - a.1, rfl⟩
theorem imS_all {k f l : Int} {s r : List (Int × Int)} (hm : isMoveB k f l = true) (hs : allF s) (h : imS k f l s = some r) : allF r ∧ r.length ≤ s.length := by
  unfold imS at h
  cases ho : imO k f l s with
  | none => rw [ho] at h; simp at h
  | some a =>
    rw [ho] at h
    simp only [Option.map_some, Option.some.injEq] at h
    obtain ⟨fa, la⟩ := imO_all hm hs ho
    obtain ⟨q1, q2, q3, q4⟩ := srtF_spec fa
    rw [h] at q1 q4
    exact ⟨q1, by omega⟩
def lsV : Bool → List (Int × Int) → V
  | false, s => .sl s.length (v2 .i64 s)
  | true, s => .own 36 2 s.length (v2 .i64 s)
def chV : Option (List (Int × Int × Int)) → Int → V
  | some r, _ => .tup [.own 25 3 r.length (v3 .i64 r), .int .i64 0]
  | none, c => .tup [.nils, .int .i64 c]
def chW : Option (List (Int × Int × Int)) → V
  | some r => .tup [.own 25 3 r.length (v3 .i64 r), .bool true]
  | none => .tup [.nils, .bool false]
theorem lsV_f {s : List (Int × Int)} : lsV false s = .sl s.length (v2 .i64 s) := rfl
theorem lsV_t {s : List (Int × Int)} : lsV true s = .own 36 2 s.length (v2 .i64 s) := rfl
theorem chF_done {n : Nat} {out : List (Int × Int × Int)} {s : List (Int × Int)} (h : (nmM (opL s)).2 = 5) : chF n out s = some out := by
  cases n <;> simp [chF, h]
theorem chF_lim {n : Nat} {out : List (Int × Int × Int)} {s : List (Int × Int)} (h : (nmM (opL s)).2 = 3) : chF n out s = none := by
  cases n <;> simp [chF, h]
theorem chF_full {out : List (Int × Int × Int)} {s : List (Int × Int)} (h : (nmM (opL s)).2 = 0) : chF 0 out s = none := by simp [chF, h]
theorem chF_step {n : Nat} {out : List (Int × Int × Int)} {s : List (Int × Int)} {a b c : Int} (h : nmM (opL s) = ((a, b, c), 0)) : chF (n + 1) out s = (imS a b c s).bind fun t => chF n (out ++ [(a, b, c)]) t := by
  simp [chF, h]
theorem c_spec_l10Chain {s : List (Int × Int)} (hs : allF s) (hl : s.length ≤ 12) : PSpec Try.prog 59 [.sl s.length (v2 .i64 s)] fun v => v = chW (chF 20 [] s) := by
  refine spec_l10Chain_f.f ?_
  simp (disch := first | omega | (simp only [List.length_append, List.length_cons, List.length_nil, List.length_replicate, List.length_set, List.length_take, List.length_drop, vi_len, vb_len, vo_len, vl_len, vn_len]; omega)) only [↓EC, EV, EL, E2, E3, ER, seval, ↓reduceIte, false_imp_iff, spec_l10Chain_F]
  refine LP_ofE (σ := Bool × List (Int × Int × Int) × List (Int × Int)) [2, 3] 100000 [] (fun t => [lsV t.1 t.2.2, .own 25 3 t.2.1.length (v3 .i64 t.2.1)]) (fun t => [])
    (fun t => allF t.2.2 ∧ t.2.2.length ≤ 12 ∧ t.2.1.length ≤ 20 ∧ chF (20 - t.2.1.length) t.2.1 t.2.2 = chF 20 [] s) (fun t => 20 - t.2.1.length) (false, [], s) (by simp [frameOk, names, lpz, sclp, scv, scvs, vi_nrf, vb_nrf, vt_nrf, v2_nrf, v3_nrf, nrfs, nrf, sc_vi, sc_vb, sc_vt, sc_v2, sc_v3, sc_vo, sc_vl, vo_nrf, vl_nrf, sc_vn, vn_nrf]) ⟨hs, hl, by simp, rfl⟩ ?_ ?_
  · simp (disch := first | omega | (simp only [List.length_append, List.length_cons, List.length_nil, List.length_replicate, List.length_set, List.length_take, List.length_drop, vi_len, vb_len, vo_len, vl_len, vn_len]; omega)) only [↓EC, EV, EL, E2, E3, ER, seval, ↓reduceIte, false_imp_iff, ColV_def, lsV_f]
    exact ⟨fun _ => trivial, rfl⟩
  · rintro ⟨b, out, t⟩ ⟨h1, h2, h3, h4⟩
    simp only at h1 h2 h3 h4
    cases b
    case false =>
      simp (disch := first | omega | (simp only [List.length_append, List.length_cons, List.length_nil, List.length_replicate, List.length_set, List.length_take, List.length_drop, vi_len, vb_len, vo_len, vl_len, vn_len]; omega)) only [↓EC, EV, EL, E2, E3, ER, seval, ↓reduceIte, false_imp_iff, ColV_def, lheap_def, lsV_f]
      refine pcd_v (c_spec_l10Next (by omega) h1) ?_
      rcases nx_cases (opL t) with ⟨q1, q2⟩ | ⟨a, b, c, q1, q3, q2⟩ | ⟨q1, a, b, c, q2⟩
      · rw [q2]
        (try simp (disch := first | omega | (simp only [List.length_append, List.length_cons, List.length_nil, List.length_replicate, List.length_set, List.length_take, List.length_drop, vi_len, vb_len, vo_len, vl_len, vn_len]; omega)) only [↓EC, EV, EL, E2, E3, ER, seval, ↓reduceIte, false_imp_iff, mvV])
        rw [← h4, chF_done (by rw [q1])]
        rfl
      · rw [q2]
        (try simp (disch := first | omega | (simp only [List.length_append, List.length_cons, List.length_nil, List.length_replicate, List.length_set, List.length_take, List.length_drop, vi_len, vb_len, vo_len, vl_len, vn_len]; omega)) only [↓EC, EV, EL, E2, E3, ER, seval, ↓reduceIte, false_imp_iff, mvV])
        (refine Split.mk (fun h => ?_) (fun h => ?_) <;> (try simp only [decide_eq_true_eq, decide_eq_false_iff_not, beq_iff_eq, bne_iff_ne, beq_eq_false_iff_ne, bne_eq_false_iff_eq, Bool.not_eq_true', Bool.not_eq_false', Bool.and_eq_true, Bool.or_eq_true, Bool.and_eq_false_iff, Bool.or_eq_false_iff, Int.not_lt, Int.not_le, Bool.false_eq_true, Bool.true_eq_false, false_and, and_false, true_and, and_true, or_false, false_or, or_true, true_or, not_true_eq_false, not_false_eq_true] at h))
        · have e : 20 - out.length = 0 := by omega
          rw [← h4, e, chF_full (by rw [q1])]
          rfl
        · obtain ⟨n, hn⟩ : ∃ n, 20 - out.length = n + 1 := ⟨19 - out.length, by omega⟩
          rw [hn, chF_step q1] at h4
          have hc := c_spec_l10Image q3 h1 h2
          generalize hr : imS a b c t = o at *
          cases o with
          | none =>
            unfold imW at hc
            simp only at hc
            refine pcd_v hc ?_
            (try simp (disch := first | omega | (simp only [List.length_append, List.length_cons, List.length_nil, List.length_replicate, List.length_set, List.length_take, List.length_drop, vi_len, vb_len, vo_len, vl_len, vn_len]; omega)) only [↓EC, EV, EL, E2, E3, ER, seval, ↓reduceIte, false_imp_iff])
            rw [← h4]
            rfl
          | some r =>
            obtain ⟨r1, r2⟩ := imS_all q3 h1 hr
            have tk : (v3 .i64 (out ++ [(a, b, c)])).take ((out.length + 1) * 3) = v3 .i64 (out ++ [(a, b, c)]) := v3_tk (by simp)
            unfold imW at hc
            simp only at hc
            refine pcd_o hc ?_
            (try simp (disch := first | omega | (simp only [List.length_append, List.length_cons, List.length_nil, List.length_replicate, List.length_set, List.length_take, List.length_drop, vi_len, vb_len, vo_len, vl_len, vn_len]; omega)) only [↓EC, EV, EL, E2, E3, ER, seval, ↓reduceIte, false_imp_iff, tk])
            exact ⟨(true, out ++ [(a, b, c)], r), by simp [lsV], ⟨r1, by simp only; omega, by simp; omega, by
              rw [← h4]
              have e : 20 - (out ++ [(a, b, c)]).length = n := by simp; omega
              simp only [e]
              rfl⟩, by simp; omega⟩
      · rw [q2]
        (try simp (disch := first | omega | (simp only [List.length_append, List.length_cons, List.length_nil, List.length_replicate, List.length_set, List.length_take, List.length_drop, vi_len, vb_len, vo_len, vl_len, vn_len]; omega)) only [↓EC, EV, EL, E2, E3, ER, seval, ↓reduceIte, false_imp_iff, mvV])
        rw [← h4, chF_lim (by rw [q1])]
        rfl
    case true =>
      simp (disch := first | omega | (simp only [List.length_append, List.length_cons, List.length_nil, List.length_replicate, List.length_set, List.length_take, List.length_drop, vi_len, vb_len, vo_len, vl_len, vn_len]; omega)) only [↓EC, EV, EL, E2, E3, ER, seval, ↓reduceIte, false_imp_iff, ColV_def, lheap_def, lsV_t]
      refine pcd_v (c_spec_l10Next (by omega) h1) ?_
      rcases nx_cases (opL t) with ⟨q1, q2⟩ | ⟨a, b, c, q1, q3, q2⟩ | ⟨q1, a, b, c, q2⟩
      · rw [q2]
        (try simp (disch := first | omega | (simp only [List.length_append, List.length_cons, List.length_nil, List.length_replicate, List.length_set, List.length_take, List.length_drop, vi_len, vb_len, vo_len, vl_len, vn_len]; omega)) only [↓EC, EV, EL, E2, E3, ER, seval, ↓reduceIte, false_imp_iff, mvV])
        rw [← h4, chF_done (by rw [q1])]
        rfl
      · rw [q2]
        (try simp (disch := first | omega | (simp only [List.length_append, List.length_cons, List.length_nil, List.length_replicate, List.length_set, List.length_take, List.length_drop, vi_len, vb_len, vo_len, vl_len, vn_len]; omega)) only [↓EC, EV, EL, E2, E3, ER, seval, ↓reduceIte, false_imp_iff, mvV])
        (refine Split.mk (fun h => ?_) (fun h => ?_) <;> (try simp only [decide_eq_true_eq, decide_eq_false_iff_not, beq_iff_eq, bne_iff_ne, beq_eq_false_iff_ne, bne_eq_false_iff_eq, Bool.not_eq_true', Bool.not_eq_false', Bool.and_eq_true, Bool.or_eq_true, Bool.and_eq_false_iff, Bool.or_eq_false_iff, Int.not_lt, Int.not_le, Bool.false_eq_true, Bool.true_eq_false, false_and, and_false, true_and, and_true, or_false, false_or, or_true, true_or, not_true_eq_false, not_false_eq_true] at h))
        · have e : 20 - out.length = 0 := by omega
          rw [← h4, e, chF_full (by rw [q1])]
          rfl
        · obtain ⟨n, hn⟩ : ∃ n, 20 - out.length = n + 1 := ⟨19 - out.length, by omega⟩
          rw [hn, chF_step q1] at h4
          have hc := c_spec_l10Image q3 h1 h2
          generalize hr : imS a b c t = o at *
          cases o with
          | none =>
            unfold imW at hc
            simp only at hc
            refine pcd_v hc ?_
            (try simp (disch := first | omega | (simp only [List.length_append, List.length_cons, List.length_nil, List.length_replicate, List.length_set, List.length_take, List.length_drop, vi_len, vb_len, vo_len, vl_len, vn_len]; omega)) only [↓EC, EV, EL, E2, E3, ER, seval, ↓reduceIte, false_imp_iff])
            rw [← h4]
            rfl
          | some r =>
            obtain ⟨r1, r2⟩ := imS_all q3 h1 hr
            have tk : (v3 .i64 (out ++ [(a, b, c)])).take ((out.length + 1) * 3) = v3 .i64 (out ++ [(a, b, c)]) := v3_tk (by simp)
            unfold imW at hc
            simp only at hc
            refine pcd_o hc ?_
            (try simp (disch := first | omega | (simp only [List.length_append, List.length_cons, List.length_nil, List.length_replicate, List.length_set, List.length_take, List.length_drop, vi_len, vb_len, vo_len, vl_len, vn_len]; omega)) only [↓EC, EV, EL, E2, E3, ER, seval, ↓reduceIte, false_imp_iff, tk])
            exact ⟨(true, out ++ [(a, b, c)], r), by simp [lsV], ⟨r1, by simp only; omega, by simp; omega, by
              rw [← h4]
              have e : 20 - (out ++ [(a, b, c)]).length = n := by simp; omega
              simp only [e]
              rfl⟩, by simp; omega⟩
      · rw [q2]
        (try simp (disch := first | omega | (simp only [List.length_append, List.length_cons, List.length_nil, List.length_replicate, List.length_set, List.length_take, List.length_drop, vi_len, vb_len, vo_len, vl_len, vn_len]; omega)) only [↓EC, EV, EL, E2, E3, ER, seval, ↓reduceIte, false_imp_iff, mvV])
        rw [← h4, chF_lim (by rw [q1])]
        rfl
theorem c_impl_ChainOfSet_ok {s : List (Int × Int)} (hB : setB s = true) (hs : allF s) (hl : s.length ≤ 12) : PSpec Try.prog 35 [.sl s.length (v2 .i64 s)] fun v => v = chV (chF 20 [] s) 3 := by
  refine impl_ChainOfSet_f.f ?_
  simp (disch := first | omega | (simp only [List.length_append, List.length_cons, List.length_nil, List.length_replicate, List.length_set, List.length_take, List.length_drop, vi_len, vb_len, vo_len, vl_len, vn_len]; omega)) only [↓EC, EV, EL, E2, E3, ER, seval, ↓reduceIte, false_imp_iff, impl_ChainOfSet_F]
  refine pcd_v (c_impl_IsSet (by omega)) ?_
  rw [hB]
  (try simp (disch := first | omega | (simp only [List.length_append, List.length_cons, List.length_nil, List.length_replicate, List.length_set, List.length_take, List.length_drop, vi_len, vb_len, vo_len, vl_len, vn_len]; omega)) only [↓EC, EV, EL, E2, E3, ER, seval, ↓reduceIte, false_imp_iff])
  refine LP_ofE (σ := Bool × List (Int × Int × Int) × List (Int × Int)) [2, 3] 100000 [] (fun t => [lsV t.1 t.2.2, .own 25 3 t.2.1.length (v3 .i64 t.2.1)]) (fun t => [])
    (fun t => allF t.2.2 ∧ t.2.2.length ≤ 12 ∧ t.2.1.length ≤ 20 ∧ chF (20 - t.2.1.length) t.2.1 t.2.2 = chF 20 [] s) (fun t => 20 - t.2.1.length) (false, [], s) (by simp [frameOk, names, lpz, sclp, scv, scvs, vi_nrf, vb_nrf, vt_nrf, v2_nrf, v3_nrf, nrfs, nrf, sc_vi, sc_vb, sc_vt, sc_v2, sc_v3, sc_vo, sc_vl, vo_nrf, vl_nrf, sc_vn, vn_nrf]) ⟨hs, hl, by simp, rfl⟩ ?_ ?_
  · simp (disch := first | omega | (simp only [List.length_append, List.length_cons, List.length_nil, List.length_replicate, List.length_set, List.length_take, List.length_drop, vi_len, vb_len, vo_len, vl_len, vn_len]; omega)) only [↓EC, EV, EL, E2, E3, ER, seval, ↓reduceIte, false_imp_iff, ColV_def, lsV_f]
    exact ⟨fun _ => trivial, rfl⟩
  · rintro ⟨b, out, t⟩ ⟨h1, h2, h3, h4⟩
    simp only at h1 h2 h3 h4
    cases b
    case false =>
      simp (disch := first | omega | (simp only [List.length_append, List.length_cons, List.length_nil, List.length_replicate, List.length_set, List.length_take, List.length_drop, vi_len, vb_len, vo_len, vl_len, vn_len]; omega)) only [↓EC, EV, EL, E2, E3, ER, seval, ↓reduceIte, false_imp_iff, ColV_def, lheap_def, lsV_f]
      refine pcd_v (c_impl_nextMove (by omega) h1) ?_
      rcases nx_cases (opL t) with ⟨q1, q2⟩ | ⟨a, b, c, q1, q3, q2⟩ | ⟨q1, _, _, _, q2⟩
      · rw [q1]
        (try simp (disch := first | omega | (simp only [List.length_append, List.length_cons, List.length_nil, List.length_replicate, List.length_set, List.length_take, List.length_drop, vi_len, vb_len, vo_len, vl_len, vn_len]; omega)) only [↓EC, EV, EL, E2, E3, ER, seval, ↓reduceIte, false_imp_iff, mvV])
        rw [← h4, chF_done (by rw [q1])]
        rfl
      · rw [q1]
        (try simp (disch := first | omega | (simp only [List.length_append, List.length_cons, List.length_nil, List.length_replicate, List.length_set, List.length_take, List.length_drop, vi_len, vb_len, vo_len, vl_len, vn_len]; omega)) only [↓EC, EV, EL, E2, E3, ER, seval, ↓reduceIte, false_imp_iff, mvV])
        (refine Split.mk (fun h => ?_) (fun h => ?_) <;> (try simp only [decide_eq_true_eq, decide_eq_false_iff_not, beq_iff_eq, bne_iff_ne, beq_eq_false_iff_ne, bne_eq_false_iff_eq, Bool.not_eq_true', Bool.not_eq_false', Bool.and_eq_true, Bool.or_eq_true, Bool.and_eq_false_iff, Bool.or_eq_false_iff, Int.not_lt, Int.not_le, Bool.false_eq_true, Bool.true_eq_false, false_and, and_false, true_and, and_true, or_false, false_or, or_true, true_or, not_true_eq_false, not_false_eq_true] at h))
        · have e : 20 - out.length = 0 := by omega
          rw [← h4, e, chF_full (by rw [q1])]
          rfl
        · obtain ⟨n, hn⟩ : ∃ n, 20 - out.length = n + 1 := ⟨19 - out.length, by omega⟩
          rw [hn, chF_step q1] at h4
          have hc := c_impl_image q3 h1 h2
          generalize hr : imS a b c t = o at *
          cases o with
          | none =>
            unfold imV at hc
            simp only at hc
            refine pcd_v hc ?_
            (try simp (disch := first | omega | (simp only [List.length_append, List.length_cons, List.length_nil, List.length_replicate, List.length_set, List.length_take, List.length_drop, vi_len, vb_len, vo_len, vl_len, vn_len]; omega)) only [↓EC, EV, EL, E2, E3, ER, seval, ↓reduceIte, false_imp_iff])
            rw [← h4]
            rfl
          | some r =>
            obtain ⟨r1, r2⟩ := imS_all q3 h1 hr
            have tk : (v3 .i64 (out ++ [(a, b, c)])).take ((out.length + 1) * 3) = v3 .i64 (out ++ [(a, b, c)]) := v3_tk (by simp)
            unfold imV at hc
            simp only at hc
            refine pcd_o hc ?_
            (try simp (disch := first | omega | (simp only [List.length_append, List.length_cons, List.length_nil, List.length_replicate, List.length_set, List.length_take, List.length_drop, vi_len, vb_len, vo_len, vl_len, vn_len]; omega)) only [↓EC, EV, EL, E2, E3, ER, seval, ↓reduceIte, false_imp_iff, tk])
            exact ⟨(true, out ++ [(a, b, c)], r), by simp [lsV], ⟨r1, by simp only; omega, by simp; omega, by
              rw [← h4]
              have e : 20 - (out ++ [(a, b, c)]).length = n := by simp; omega
              simp only [e]
              rfl⟩, by simp; omega⟩
      · rw [q1]
        (try simp (disch := first | omega | (simp only [List.length_append, List.length_cons, List.length_nil, List.length_replicate, List.length_set, List.length_take, List.length_drop, vi_len, vb_len, vo_len, vl_len, vn_len]; omega)) only [↓EC, EV, EL, E2, E3, ER, seval, ↓reduceIte, false_imp_iff, mvV])
        rw [← h4, chF_lim (by rw [q1])]
        rfl
    case true =>
      simp (disch := first | omega | (simp only [List.length_append, List.length_cons, List.length_nil, List.length_replicate, List.length_set, List.length_take, List.length_drop, vi_len, vb_len, vo_len, vl_len, vn_len]; omega)) only [↓EC, EV, EL, E2, E3, ER, seval, ↓reduceIte, false_imp_iff, ColV_def, lheap_def, lsV_t]
      refine pcd_v (c_impl_nextMove (by omega) h1) ?_
      rcases nx_cases (opL t) with ⟨q1, q2⟩ | ⟨a, b, c, q1, q3, q2⟩ | ⟨q1, _, _, _, q2⟩
      · rw [q1]
        (try simp (disch := first | omega | (simp only [List.length_append, List.length_cons, List.length_nil, List.length_replicate, List.length_set, List.length_take, List.length_drop, vi_len, vb_len, vo_len, vl_len, vn_len]; omega)) only [↓EC, EV, EL, E2, E3, ER, seval, ↓reduceIte, false_imp_iff, mvV])
        rw [← h4, chF_done (by rw [q1])]
        rfl
      · rw [q1]
        (try simp (disch := first | omega | (simp only [List.length_append, List.length_cons, List.length_nil, List.length_replicate, List.length_set, List.length_take, List.length_drop, vi_len, vb_len, vo_len, vl_len, vn_len]; omega)) only [↓EC, EV, EL, E2, E3, ER, seval, ↓reduceIte, false_imp_iff, mvV])
        (refine Split.mk (fun h => ?_) (fun h => ?_) <;> (try simp only [decide_eq_true_eq, decide_eq_false_iff_not, beq_iff_eq, bne_iff_ne, beq_eq_false_iff_ne, bne_eq_false_iff_eq, Bool.not_eq_true', Bool.not_eq_false', Bool.and_eq_true, Bool.or_eq_true, Bool.and_eq_false_iff, Bool.or_eq_false_iff, Int.not_lt, Int.not_le, Bool.false_eq_true, Bool.true_eq_false, false_and, and_false, true_and, and_true, or_false, false_or, or_true, true_or, not_true_eq_false, not_false_eq_true] at h))
        · have e : 20 - out.length = 0 := by omega
          rw [← h4, e, chF_full (by rw [q1])]
          rfl
        · obtain ⟨n, hn⟩ : ∃ n, 20 - out.length = n + 1 := ⟨19 - out.length, by omega⟩
          rw [hn, chF_step q1] at h4
          have hc := c_impl_image q3 h1 h2
          generalize hr : imS a b c t = o at *
          cases o with
          | none =>
            unfold imV at hc
            simp only at hc
            refine pcd_v hc ?_
            (try simp (disch := first | omega | (simp only [List.length_append, List.length_cons, List.length_nil, List.length_replicate, List.length_set, List.length_take, List.length_drop, vi_len, vb_len, vo_len, vl_len, vn_len]; omega)) only [↓EC, EV, EL, E2, E3, ER, seval, ↓reduceIte, false_imp_iff])
            rw [← h4]
            rfl
          | some r =>
            obtain ⟨r1, r2⟩ := imS_all q3 h1 hr
            have tk : (v3 .i64 (out ++ [(a, b, c)])).take ((out.length + 1) * 3) = v3 .i64 (out ++ [(a, b, c)]) := v3_tk (by simp)
            unfold imV at hc
            simp only at hc
            refine pcd_o hc ?_
            (try simp (disch := first | omega | (simp only [List.length_append, List.length_cons, List.length_nil, List.length_replicate, List.length_set, List.length_take, List.length_drop, vi_len, vb_len, vo_len, vl_len, vn_len]; omega)) only [↓EC, EV, EL, E2, E3, ER, seval, ↓reduceIte, false_imp_iff, tk])
            exact ⟨(true, out ++ [(a, b, c)], r), by simp [lsV], ⟨r1, by simp only; omega, by simp; omega, by
              rw [← h4]
              have e : 20 - (out ++ [(a, b, c)]).length = n := by simp; omega
              simp only [e]
              rfl⟩, by simp; omega⟩
      · rw [q1]
        (try simp (disch := first | omega | (simp only [List.length_append, List.length_cons, List.length_nil, List.length_replicate, List.length_set, List.length_take, List.length_drop, vi_len, vb_len, vo_len, vl_len, vn_len]; omega)) only [↓EC, EV, EL, E2, E3, ER, seval, ↓reduceIte, false_imp_iff, mvV])
        rw [← h4, chF_lim (by rw [q1])]
        rfl
end Go.Proofs.Ytppkppmkjjbbgaa.Sep

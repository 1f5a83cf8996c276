/- What the functions on chains and vertices compute. -/
import Derived.Test.YtcleiehdddjicaaC27
import Derived.Test.YtcleiehdddjicaaC22
namespace Go.Proofs.Ytcleiehdddjicaa.Sep
open Go.RowKit
set_option linter.unusedVariables false
set_option linter.unusedSimpArgs false
set_option maxRecDepth 20000

def chnB (n : Int) (l : List Int) : Bool := rngB l (-1000) 1000 && decide ((l.length : Int) = n)
theorem chnB_no {n : Int} {l : List Int} {i : Nat} (hi : i < l.length) (h : ¬ (-1000 ≤ gi l i ∧ gi l i ≤ 1000)) : chnB n l = false := by
  unfold chnB
  rw [Bool.and_eq_false_iff]
  left
  cases ha : rngB l (-1000) 1000 with
  | false => rfl
  | true => exact absurd (by simpa [gi] using (all_getD (d := 0)).1 ha i hi) h
theorem chnB_of {n : Int} {l : List Int} (h1 : (l.length : Int) = n) (h2 : ∀ k, k < l.length → -1000 ≤ gi l k ∧ gi l k ≤ 1000) : chnB n l = true := by
  unfold chnB
  rw [Bool.and_eq_true]
  exact ⟨(all_getD (d := 0)).2 fun j hj => by simpa [gi] using h2 j hj, by simp [h1]⟩
theorem chnB_at {n : Int} {l : List Int} (h : chnB n l = true) : (l.length : Int) = n ∧ ∀ k : Nat, -1000 ≤ gi l k ∧ gi l k ≤ 1000 := by
  unfold chnB at h
  rw [Bool.and_eq_true] at h
  refine ⟨by simpa using h.2, fun k => ?_⟩
  by_cases hk : k < l.length
  · simpa [gi] using (all_getD (d := 0)).1 h.1 k hk
  · rw [gi_over (by omega)]; omega
theorem c_spec_l09Chain {n : Int} {b w l : List Int} (hb : b.length = 16) (hw : w.length = 16) (hl : l.length ≤ 1048576) : PSpec Try.prog 35 [vD n b w, .sl l.length (vi .i64 l)] fun v => v = .bool (chnB n l) := by
  refine spec_l09Chain_f.f ?_
  unfold vD
  simp (disch := first | omega | (simp only [List.length_append, List.length_cons, List.length_nil, List.length_replicate, List.length_set, List.length_take, List.length_drop, vi_len, vb_len, vo_len, vl_len, vn_len]; omega)) only [↓EC, EV, EL, E2, E3, ER, seval, ↓reduceIte, false_imp_iff, spec_l09Chain_F, hb, hw]
  refine pcd_v (c_spec_l09List hl) ?_
  (try simp (disch := first | omega | (simp only [List.length_append, List.length_cons, List.length_nil, List.length_replicate, List.length_set, List.length_take, List.length_drop, vi_len, vb_len, vo_len, vl_len, vn_len]; omega)) only [↓EC, EV, EL, E2, E3, ER, seval, ↓reduceIte, false_imp_iff])
  rfl
theorem c_impl_isChain {n : Int} {b w l : List Int} (hb : b.length = 16) (hw : w.length = 16) (hl : l.length ≤ 1048576) : PSpec Try.prog 61 [vD n b w, .sl l.length (vi .i64 l)] fun v => v = .bool (chnB n l) := by
  refine impl_isChain_f.f ?_
  unfold vD
  simp (disch := first | omega | (simp only [List.length_append, List.length_cons, List.length_nil, List.length_replicate, List.length_set, List.length_take, List.length_drop, vi_len, vb_len, vo_len, vl_len, vn_len]; omega)) only [↓EC, EV, EL, E2, E3, ER, seval, ↓reduceIte, false_imp_iff, impl_isChain_F, hb, hw]
  (refine Split.mk (fun h => ?_) (fun h => ?_) <;> (try simp only [decide_eq_true_eq, decide_eq_false_iff_not, beq_iff_eq, bne_iff_ne, beq_eq_false_iff_ne, bne_eq_false_iff_eq, Bool.not_eq_true', Bool.not_eq_false', Bool.and_eq_true, Bool.or_eq_true, Bool.and_eq_false_iff, Bool.or_eq_false_iff, Int.not_lt, Int.not_le, Bool.false_eq_true, Bool.true_eq_false, false_and, and_false, true_and, and_true, or_false, false_or, or_true, true_or, not_true_eq_false, not_false_eq_true] at h))
  · (try simp (disch := first | omega | (simp only [List.length_append, List.length_cons, List.length_nil, List.length_replicate, List.length_set, List.length_take, List.length_drop, vi_len, vb_len, vo_len, vl_len, vn_len]; omega)) only [↓EC, EV, EL, E2, E3, ER, seval, ↓reduceIte, false_imp_iff])
    rw [eq_comm, V.bool.injEq]; unfold chnB; rw [Bool.and_eq_false_iff]; right; simpa using h
  · (try simp (disch := first | omega | (simp only [List.length_append, List.length_cons, List.length_nil, List.length_replicate, List.length_set, List.length_take, List.length_drop, vi_len, vb_len, vo_len, vl_len, vn_len]; omega)) only [↓EC, EV, EL, E2, E3, ER, seval, ↓reduceIte, false_imp_iff])
    refine LP_of (σ := Nat) 100000 [] (fun s => [.int .i64 s]) (fun s => [])
      (fun s => s ≤ l.length ∧ ∀ j, j < s → -1000 ≤ gi l j ∧ gi l j ≤ 1000) (fun s => l.length - s) 0 (by simp [frameOk, names, lpz, sclp, scv, scvs, vi_nrf, vb_nrf, vt_nrf, v2_nrf, v3_nrf, nrfs, nrf, sc_vi, sc_vb, sc_vt, sc_v2, sc_v3, sc_vo, sc_vl, vo_nrf, vl_nrf, sc_vn, vn_nrf]) ⟨Nat.zero_le _, fun j hj => absurd hj (Nat.not_lt_zero j)⟩ ?_ ?_
    · simp (disch := first | omega | (simp only [List.length_append, List.length_cons, List.length_nil, List.length_replicate, List.length_set, List.length_take, List.length_drop, vi_len, vb_len, vo_len, vl_len, vn_len]; omega)) only [↓EC, EV, EL, E2, E3, ER, seval, ↓reduceIte, false_imp_iff, ColV_def]
    · rintro i ⟨h1, h2⟩
      simp (disch := first | omega | (simp only [List.length_append, List.length_cons, List.length_nil, List.length_replicate, List.length_set, List.length_take, List.length_drop, vi_len, vb_len, vo_len, vl_len, vn_len]; omega)) only [↓EC, EV, EL, E2, E3, ER, seval, ↓reduceIte, false_imp_iff, ColV_def, lheap_def]
      (refine Split.mk (fun h => ?_) (fun h => ?_) <;> (try simp only [decide_eq_true_eq, decide_eq_false_iff_not, beq_iff_eq, bne_iff_ne, beq_eq_false_iff_ne, bne_eq_false_iff_eq, Bool.not_eq_true', Bool.not_eq_false', Bool.and_eq_true, Bool.or_eq_true, Bool.and_eq_false_iff, Bool.or_eq_false_iff, Int.not_lt, Int.not_le, Bool.false_eq_true, Bool.true_eq_false, false_and, and_false, true_and, and_true, or_false, false_or, or_true, true_or, not_true_eq_false, not_false_eq_true] at h))
      · (try simp (disch := first | omega | (simp only [List.length_append, List.length_cons, List.length_nil, List.length_replicate, List.length_set, List.length_take, List.length_drop, vi_len, vb_len, vo_len, vl_len, vn_len]; omega)) only [↓EC, EV, EL, E2, E3, ER, seval, ↓reduceIte, false_imp_iff])
        (refine Split.mk (fun h => ?_) (fun h => ?_) <;> (try simp only [decide_eq_true_eq, decide_eq_false_iff_not, beq_iff_eq, bne_iff_ne, beq_eq_false_iff_ne, bne_eq_false_iff_eq, Bool.not_eq_true', Bool.not_eq_false', Bool.and_eq_true, Bool.or_eq_true, Bool.and_eq_false_iff, Bool.or_eq_false_iff, Int.not_lt, Int.not_le, Bool.false_eq_true, Bool.true_eq_false, false_and, and_false, true_and, and_true, or_false, false_or, or_true, true_or, not_true_eq_false, not_false_eq_true] at h))
        · (try simp (disch := first | omega | (simp only [List.length_append, List.length_cons, List.length_nil, List.length_replicate, List.length_set, List.length_take, List.length_drop, vi_len, vb_len, vo_len, vl_len, vn_len]; omega)) only [↓EC, EV, EL, E2, E3, ER, seval, ↓reduceIte, false_imp_iff])
          rw [chnB_no (i := i) (by omega) (by omega)]
        · (refine Split.mk (fun h => ?_) (fun h => ?_) <;> (try simp only [decide_eq_true_eq, decide_eq_false_iff_not, beq_iff_eq, bne_iff_ne, beq_eq_false_iff_ne, bne_eq_false_iff_eq, Bool.not_eq_true', Bool.not_eq_false', Bool.and_eq_true, Bool.or_eq_true, Bool.and_eq_false_iff, Bool.or_eq_false_iff, Int.not_lt, Int.not_le, Bool.false_eq_true, Bool.true_eq_false, false_and, and_false, true_and, and_true, or_false, false_or, or_true, true_or, not_true_eq_false, not_false_eq_true] at h))
          · (try simp (disch := first | omega | (simp only [List.length_append, List.length_cons, List.length_nil, List.length_replicate, List.length_set, List.length_take, List.length_drop, vi_len, vb_len, vo_len, vl_len, vn_len]; omega)) only [↓EC, EV, EL, E2, E3, ER, seval, ↓reduceIte, false_imp_iff])
            rw [chnB_no (i := i) (by omega) (by omega)]
          · (try simp (disch := first | omega | (simp only [List.length_append, List.length_cons, List.length_nil, List.length_replicate, List.length_set, List.length_take, List.length_drop, vi_len, vb_len, vo_len, vl_len, vn_len]; omega)) only [↓EC, EV, EL, E2, E3, ER, seval, ↓reduceIte, false_imp_iff])
            refine ⟨i + 1, rfl, ⟨by omega, fun j hj => ?_⟩, by omega⟩
            by_cases e : j = i
            · subst e; omega
            · exact h2 j (by omega)
      · (try simp (disch := first | omega | (simp only [List.length_append, List.length_cons, List.length_nil, List.length_replicate, List.length_set, List.length_take, List.length_drop, vi_len, vb_len, vo_len, vl_len, vn_len]; omega)) only [↓EC, EV, EL, E2, E3, ER, seval, ↓reduceIte, false_imp_iff])
        rw [chnB_of (by omega) fun k hk => h2 k (by omega)]

/-! ### Vertices -/
theorem vnilS_pos {g : Bool} {m : Nat} {l : List V} (h : 0 < m) : vnilS g (.sl m l) = some (.bool g) := by
  cases m with
  | zero => omega
  | succ m => rfl
theorem c_slices_Clone {ls : List (List Int)} (h0 : 0 < ls.length) (hl : ls.length ≤ 1048576) : PSpecV Try.prog 64 [.sl ls.length (vl ls)] fun v => v = .own 25 1 ls.length (vl ls) := by
  refine slices_Clone_int64_int64_f.v ?_
  simp (disch := first | omega | (simp only [List.length_append, List.length_cons, List.length_nil, List.length_replicate, List.length_set, List.length_take, List.length_drop, vi_len, vb_len, vo_len, vl_len, vn_len]; omega)) only [↓EC, EV, EL, E2, E3, ER, seval, ↓reduceIte, false_imp_iff, slices_Clone_int64_int64_F, vnilS_pos h0]
def eI (B v : Nat) (c : List Int) : Nat → List Int → List Int
  | 0, E => E
  | s + 1, E => (eI B v c s E).set ((gi c s).toNat * 2 + if v < B then 0 else 1) v
def eO (B : Nat) (A : List (List Int)) (n : Int) : Nat → List Int
  | 0 => List.replicate (n.toNat * 2) 0
  | v + 1 => eI B v (gl A v) (gl A v).length (eO B A n v)
theorem eI_len {B v : Nat} {c E : List Int} : ∀ s, (eI B v c s E).length = E.length
  | 0 => rfl
  | s + 1 => by simp [eI, eI_len s]
theorem eO_len {B : Nat} {A : List (List Int)} {n : Int} : ∀ v, (eO B A n v).length = n.toNat * 2
  | 0 => by simp [eO]
  | v + 1 => by simp [eO, eI_len, eO_len v]
def allV (b w : List Int) (n : Int) : List (List Int) := cyc b n ++ cyc w n
def endV (b w : List Int) (n : Int) : List Int := eO (cyc b n).length (allV b w n) n (allV b w n).length
theorem v2_vi {k : IntKind} {x : Int} : ∀ n : Nat, v2 k (List.replicate n (x, x)) = vi k (List.replicate (n * 2) x)
  | 0 => rfl
  | n + 1 => by
    rw [List.replicate_succ, show (n + 1) * 2 = n * 2 + 1 + 1 from by omega, List.replicate_succ, List.replicate_succ]
    have : v2 k ((x, x) :: List.replicate n (x, x)) = V.int k x :: V.int k x :: v2 k (List.replicate n (x, x)) := rfl
    rw [this, v2_vi n]
    rfl
theorem cyc_pos {p : List Int} {n : Int} (hn : 1 ≤ n ∧ n ≤ 16) : 0 < (cyc p n).length := by
  have h1 : ∀ i, 1 ≤ i → 0 < (cycO p i).2.length := by
    intro i hi
    induction i with
    | zero => omega
    | succ i ih =>
      simp only [cycO]
      split
      · by_cases h0 : i = 0
        · subst h0; rename_i h; exact absurd h (by show ¬ gb (List.replicate 16 false) 0 = true; decide)
        · exact ih (by omega)
      · simp
  exact h1 n.toNat (by omega)
theorem cyc_lim {p : List Int} {n : Int} (hn : 1 ≤ n ∧ n ≤ 16) : (cyc p n).length ≤ 16 := Nat.le_trans (cycO_len (p := p) n.toNat).2 (by omega)
theorem cyc_at {p : List Int} {n : Int} (hp : ltP p n) (hn : 1 ≤ n ∧ n ≤ 16) : ∀ l ∈ cyc p n, (∀ y ∈ l, 0 ≤ y ∧ y < n) ∧ l.length ≤ 16 := cycO_lt hp n.toNat (by omega)
theorem allV_at {b w : List Int} {n : Int} (hb : ltP b n) (hw : ltP w n) (hn : 1 ≤ n ∧ n ≤ 16) : ∀ l ∈ allV b w n, (∀ y ∈ l, 0 ≤ y ∧ y < n) ∧ l.length ≤ 16 := fun l hl => by
  unfold allV at hl
  rcases List.mem_append.1 hl with h | h
  · exact cyc_at hb hn l h
  · exact cyc_at hw hn l h
theorem allV_len {b w : List Int} {n : Int} (hn : 1 ≤ n ∧ n ≤ 16) : (allV b w n).length = (cyc b n).length + (cyc w n).length ∧ (allV b w n).length ≤ 32 := by
  have h1 := cyc_lim (p := b) hn
  have h2 := cyc_lim (p := w) hn
  unfold allV; simp; omega
theorem c_impl_vertices {n : Int} {b w : List Int} (hb : okP b) (hw : okP w) (h0 : isD n b w) : PSpecV Try.prog 49 [vD n b w] fun v => v = .tup [.own 25 1 (allV b w n).length (vl (allV b w n)), .own 72 2 n.toNat (vi .i64 (endV b w n))] := by
  have hl := hb.len
  have hk := hw.len
  have lb := h0.pb.lo hb
  have lw := h0.pw.lo hw
  have hn := h0.pb.1
  refine impl_vertices_f.v ?_
  unfold vD
  have hbl := cyc_lim (p := b) hn
  have hwl := cyc_lim (p := w) hn
  simp (disch := first | omega | (simp only [List.length_append, List.length_cons, List.length_nil, List.length_replicate, List.length_set, List.length_take, List.length_drop, vi_len, vb_len, vo_len, vl_len, vn_len]; omega)) only [↓EC, EV, EL, E2, E3, ER, seval, ↓reduceIte, false_imp_iff, impl_vertices_F, hl, hk]
  refine pcd_v (c_impl_cycles lb hn) ?_
  (try simp (disch := first | omega | (simp only [List.length_append, List.length_cons, List.length_nil, List.length_replicate, List.length_set, List.length_take, List.length_drop, vi_len, vb_len, vo_len, vl_len, vn_len]; omega)) only [↓EC, EV, EL, E2, E3, ER, seval, ↓reduceIte, false_imp_iff, hl, hk])
  refine pcd_wo (by rw [nrfs_cons, nrf_sl, vl_nrf]; rfl) (c_slices_Clone (cyc_pos hn) (by omega)) ?_
  (try simp (disch := first | omega | (simp only [List.length_append, List.length_cons, List.length_nil, List.length_replicate, List.length_set, List.length_take, List.length_drop, vi_len, vb_len, vo_len, vl_len, vn_len]; omega)) only [↓EC, EV, EL, E2, E3, ER, seval, ↓reduceIte, false_imp_iff, hl, hk])
  refine pcd_v (c_impl_cycles lw hn) ?_
  (try simp (disch := first | omega | (simp only [List.length_append, List.length_cons, List.length_nil, List.length_replicate, List.length_set, List.length_take, List.length_drop, vi_len, vb_len, vo_len, vl_len, vn_len]; omega)) only [↓EC, EV, EL, E2, E3, ER, seval, ↓reduceIte, false_imp_iff, hl, hk, vl_app])
  have hA : cyc b n ++ cyc w n = allV b w n := rfl
  rw [hA]
  obtain ⟨hal, hal2⟩ := allV_len (b := b) (w := w) hn
  have hat := allV_at (h0.pb.ltP hb) (h0.pw.ltP hw) hn
  unfold endV
  generalize allV b w n = A at *
  generalize (cyc b n).length = B at *
  refine LP_of (σ := Nat) 100000 [(65, 30, 1), (87, 25, 1), (90, 72, 2)] (fun s => [.int .i64 s]) (fun s => [.int .i64 n :: vi .u8 (b ++ w), vl A, vi .i64 (eO B A n s)])
    (fun s => s ≤ A.length) (fun s => A.length - s) 0 (by simp [frameOk, names, lpz, sclp, scv, scvs, vi_nrf, vb_nrf, vt_nrf, v2_nrf, v3_nrf, nrfs, nrf, sc_vi, sc_vb, sc_vt, sc_v2, sc_v3, sc_vo, sc_vl, vo_nrf, vl_nrf, sc_vn, vn_nrf]) (Nat.zero_le _) ?_ ?_
  · simp (disch := first | omega | (simp only [List.length_append, List.length_cons, List.length_nil, List.length_replicate, List.length_set, List.length_take, List.length_drop, vi_len, vb_len, vo_len, vl_len, vn_len]; omega)) only [↓EC, EV, EL, E2, E3, ER, seval, ↓reduceIte, false_imp_iff, ColV_def, v2_vi]
    rfl
  · rintro v h1
    have hel := eO_len (B := B) (A := A) (n := n) v
    simp (disch := first | omega | (simp only [List.length_append, List.length_cons, List.length_nil, List.length_replicate, List.length_set, List.length_take, List.length_drop, vi_len, vb_len, vo_len, vl_len, vn_len]; omega)) only [↓EC, EV, EL, E2, E3, ER, seval, ↓reduceIte, false_imp_iff, ColV_def, lheap_def]
    (refine Split.mk (fun h => ?_) (fun h => ?_) <;> (try simp only [decide_eq_true_eq, decide_eq_false_iff_not, beq_iff_eq, bne_iff_ne, beq_eq_false_iff_ne, bne_eq_false_iff_eq, Bool.not_eq_true', Bool.not_eq_false', Bool.and_eq_true, Bool.or_eq_true, Bool.and_eq_false_iff, Bool.or_eq_false_iff, Int.not_lt, Int.not_le, Bool.false_eq_true, Bool.true_eq_false, false_and, and_false, true_and, and_true, or_false, false_or, or_true, true_or, not_true_eq_false, not_false_eq_true] at h))
    · have hv : v < A.length := by omega
      have hvat := hat _ (gl_mem hv)
      (try simp (disch := first | omega | (simp only [List.length_append, List.length_cons, List.length_nil, List.length_replicate, List.length_set, List.length_take, List.length_drop, vi_len, vb_len, vo_len, vl_len, vn_len]; omega)) only [↓EC, EV, EL, E2, E3, ER, seval, ↓reduceIte, false_imp_iff, hl, hk])
      refine LP_of (σ := Nat) 200000 [(65, 30, 1), (87, 25, 1), (90, 72, 2)] (fun s => [.int .i64 s]) (fun s => [.int .i64 n :: vi .u8 (b ++ w), vl A, vi .i64 (eI B v (gl A v) s (eO B A n v))])
        (fun s => s ≤ (gl A v).length) (fun s => (gl A v).length - s) 0 (by simp [frameOk, names, lpz, sclp, scv, scvs, vi_nrf, vb_nrf, vt_nrf, v2_nrf, v3_nrf, nrfs, nrf, sc_vi, sc_vb, sc_vt, sc_v2, sc_v3, sc_vo, sc_vl, vo_nrf, vl_nrf, sc_vn, vn_nrf]) (Nat.zero_le _) ?_ ?_
      · simp (disch := first | omega | (simp only [List.length_append, List.length_cons, List.length_nil, List.length_replicate, List.length_set, List.length_take, List.length_drop, vi_len, vb_len, vo_len, vl_len, vn_len]; omega)) only [↓EC, EV, EL, E2, E3, ER, seval, ↓reduceIte, false_imp_iff, ColV_def]
        rfl
      · rintro s g1
        have hil := eI_len (B := B) (v := v) (c := gl A v) (E := eO B A n v) s
        simp (disch := first | omega | (simp only [List.length_append, List.length_cons, List.length_nil, List.length_replicate, List.length_set, List.length_take, List.length_drop, vi_len, vb_len, vo_len, vl_len, vn_len]; omega)) only [↓EC, EV, EL, E2, E3, ER, seval, ↓reduceIte, false_imp_iff, ColV_def, lheap_def]
        (refine Split.mk (fun h => ?_) (fun h => ?_) <;> (try simp only [decide_eq_true_eq, decide_eq_false_iff_not, beq_iff_eq, bne_iff_ne, beq_eq_false_iff_ne, bne_eq_false_iff_eq, Bool.not_eq_true', Bool.not_eq_false', Bool.and_eq_true, Bool.or_eq_true, Bool.and_eq_false_iff, Bool.or_eq_false_iff, Int.not_lt, Int.not_le, Bool.false_eq_true, Bool.true_eq_false, false_and, and_false, true_and, and_true, or_false, false_or, or_true, true_or, not_true_eq_false, not_false_eq_true] at h))
        · have hs : s < (gl A v).length := by omega
          have hx := hvat.1 (gi (gl A v) s) (by rw [gi_of hs]; exact List.getElem_mem hs)
          (try simp (disch := first | omega | (simp only [List.length_append, List.length_cons, List.length_nil, List.length_replicate, List.length_set, List.length_take, List.length_drop, vi_len, vb_len, vo_len, vl_len, vn_len]; omega)) only [↓EC, EV, EL, E2, E3, ER, seval, ↓reduceIte, false_imp_iff])
          (refine Split.mk (fun h => ?_) (fun h => ?_) <;> (try simp only [decide_eq_true_eq, decide_eq_false_iff_not, beq_iff_eq, bne_iff_ne, beq_eq_false_iff_ne, bne_eq_false_iff_eq, Bool.not_eq_true', Bool.not_eq_false', Bool.and_eq_true, Bool.or_eq_true, Bool.and_eq_false_iff, Bool.or_eq_false_iff, Int.not_lt, Int.not_le, Bool.false_eq_true, Bool.true_eq_false, false_and, and_false, true_and, and_true, or_false, false_or, or_true, true_or, not_true_eq_false, not_false_eq_true] at h))
          · (try simp (disch := first | omega | (simp only [List.length_append, List.length_cons, List.length_nil, List.length_replicate, List.length_set, List.length_take, List.length_drop, vi_len, vb_len, vo_len, vl_len, vn_len]; omega)) only [↓EC, EV, EL, E2, E3, ER, seval, ↓reduceIte, false_imp_iff])
            exact ⟨s + 1, rfl, by simp only [eI]; rw [if_pos (by omega)]; rfl, by omega, by omega⟩
          · (try simp (disch := first | omega | (simp only [List.length_append, List.length_cons, List.length_nil, List.length_replicate, List.length_set, List.length_take, List.length_drop, vi_len, vb_len, vo_len, vl_len, vn_len]; omega)) only [↓EC, EV, EL, E2, E3, ER, seval, ↓reduceIte, false_imp_iff])
            exact ⟨s + 1, rfl, by simp only [eI]; rw [if_neg (by omega)], by omega, by omega⟩
        · (try simp (disch := first | omega | (simp only [List.length_append, List.length_cons, List.length_nil, List.length_replicate, List.length_set, List.length_take, List.length_drop, vi_len, vb_len, vo_len, vl_len, vn_len]; omega)) only [↓EC, EV, EL, E2, E3, ER, seval, ↓reduceIte, false_imp_iff])
          have : s = (gl A v).length := by omega
          subst this
          exact ⟨v + 1, rfl, rfl, by omega, by omega⟩
    · (try simp (disch := first | omega | (simp only [List.length_append, List.length_cons, List.length_nil, List.length_replicate, List.length_set, List.length_take, List.length_drop, vi_len, vb_len, vo_len, vl_len, vn_len]; omega)) only [↓EC, EV, EL, E2, E3, ER, seval, ↓reduceIte, false_imp_iff])
      have : v = A.length := by omega
      rw [this, ← hal]

/-! ### Sums over vertices -/
def sumT (a c : List Int) : Nat → Int
  | 0 => 0
  | s + 1 => sumT a c s + gi a (gi c s).toNat
theorem sumT_lim {a c : List Int} {M : Int} (h : ∀ k : Nat, -M ≤ gi a k ∧ gi a k ≤ M) : ∀ s : Nat, -(M * s) ≤ sumT a c s ∧ sumT a c s ≤ M * s
  | 0 => by simp [sumT]
  | s + 1 => by
    have ih := sumT_lim (c := c) h s
    have h1 := h (gi c s).toNat
    simp only [sumT, Int.natCast_add, Int.mul_add]
    omega
def cycB (a : List Int) (A : List (List Int)) : Bool := A.all fun c => sumT a c c.length == 0
theorem cycB_no {a : List Int} {A : List (List Int)} {v : Nat} (hv : v < A.length) (h : ¬ sumT a (gl A v) (gl A v).length = 0) : cycB a A = false := by
  cases hc : cycB a A with
  | false => rfl
  | true =>
    have := (all_getD (d := [])).1 hc v hv
    exact absurd (by simpa [gl] using this) h
theorem cycB_yes {a : List Int} {A : List (List Int)} (h : ∀ v, v < A.length → sumT a (gl A v) (gl A v).length = 0) : cycB a A = true :=
  (all_getD (d := [])).2 fun v hv => by simpa [gl] using h v hv
theorem c_impl_isCycle {n : Int} {b w a : List Int} (hb : okP b) (hw : okP w) (h0 : isD n b w) (hc : chnB n a = true) : PSpec Try.prog 62 [vD n b w, .sl a.length (vi .i64 a)] fun v => v = .bool (cycB a (allV b w n)) := by
  have hl := hb.len
  have hk := hw.len
  have hn := h0.pb.1
  obtain ⟨hal, hav⟩ := chnB_at hc
  obtain ⟨-, hal2⟩ := allV_len (b := b) (w := w) hn
  have hat := allV_at (h0.pb.ltP hb) (h0.pw.ltP hw) hn
  refine impl_isCycle_f.f ?_
  have hvs := c_impl_vertices hb hw h0
  unfold vD at hvs ⊢
  simp (disch := first | omega | (simp only [List.length_append, List.length_cons, List.length_nil, List.length_replicate, List.length_set, List.length_take, List.length_drop, vi_len, vb_len, vo_len, vl_len, vn_len]; omega)) only [↓EC, EV, EL, E2, E3, ER, seval, ↓reduceIte, false_imp_iff, impl_isCycle_F, hl, hk]
  refine pcd_wv (by simp [nrfs_cons, nrf_agg, nrf_int, vi_nrf, nrfs_nil]) hvs ?_
  (try simp (disch := first | omega | (simp only [List.length_append, List.length_cons, List.length_nil, List.length_replicate, List.length_set, List.length_take, List.length_drop, vi_len, vb_len, vo_len, vl_len, vn_len]; omega)) only [↓EC, EV, EL, E2, E3, ER, seval, ↓reduceIte, false_imp_iff, hl, hk])
  generalize allV b w n = A at *
  refine LP_of (σ := Nat) 100000 [] (fun s => [.int .i64 s]) (fun s => []) (fun s => s ≤ A.length ∧ ∀ v, v < s → sumT a (gl A v) (gl A v).length = 0) (fun s => A.length - s) 0 (by simp [frameOk, names, lpz, sclp, scv, scvs, vi_nrf, vb_nrf, vt_nrf, v2_nrf, v3_nrf, nrfs, nrf, sc_vi, sc_vb, sc_vt, sc_v2, sc_v3, sc_vo, sc_vl, vo_nrf, vl_nrf, sc_vn, vn_nrf]) ⟨Nat.zero_le _, fun v hv => absurd hv (Nat.not_lt_zero v)⟩ ?_ ?_
  · simp (disch := first | omega | (simp only [List.length_append, List.length_cons, List.length_nil, List.length_replicate, List.length_set, List.length_take, List.length_drop, vi_len, vb_len, vo_len, vl_len, vn_len]; omega)) only [↓EC, EV, EL, E2, E3, ER, seval, ↓reduceIte, false_imp_iff, ColV_def]
  · rintro v ⟨h1, h2⟩
    simp (disch := first | omega | (simp only [List.length_append, List.length_cons, List.length_nil, List.length_replicate, List.length_set, List.length_take, List.length_drop, vi_len, vb_len, vo_len, vl_len, vn_len]; omega)) only [↓EC, EV, EL, E2, E3, ER, seval, ↓reduceIte, false_imp_iff, ColV_def, lheap_def]
    (refine Split.mk (fun h => ?_) (fun h => ?_) <;> (try simp only [decide_eq_true_eq, decide_eq_false_iff_not, beq_iff_eq, bne_iff_ne, beq_eq_false_iff_ne, bne_eq_false_iff_eq, Bool.not_eq_true', Bool.not_eq_false', Bool.and_eq_true, Bool.or_eq_true, Bool.and_eq_false_iff, Bool.or_eq_false_iff, Int.not_lt, Int.not_le, Bool.false_eq_true, Bool.true_eq_false, false_and, and_false, true_and, and_true, or_false, false_or, or_true, true_or, not_true_eq_false, not_false_eq_true] at h))
    · have hv : v < A.length := by omega
      have hvat := hat _ (gl_mem hv)
      (try simp (disch := first | omega | (simp only [List.length_append, List.length_cons, List.length_nil, List.length_replicate, List.length_set, List.length_take, List.length_drop, vi_len, vb_len, vo_len, vl_len, vn_len]; omega)) only [↓EC, EV, EL, E2, E3, ER, seval, ↓reduceIte, false_imp_iff])
      refine LP_of (σ := Nat) 200000 [] (fun s => [.int .i64 (sumT a (gl A v) s), .int .i64 s]) (fun s => []) (fun s => s ≤ (gl A v).length) (fun s => (gl A v).length - s) 0 (by simp [frameOk, names, lpz, sclp, scv, scvs, vi_nrf, vb_nrf, vt_nrf, v2_nrf, v3_nrf, nrfs, nrf, sc_vi, sc_vb, sc_vt, sc_v2, sc_v3, sc_vo, sc_vl, vo_nrf, vl_nrf, sc_vn, vn_nrf]) (Nat.zero_le _) ?_ ?_
      · simp (disch := first | omega | (simp only [List.length_append, List.length_cons, List.length_nil, List.length_replicate, List.length_set, List.length_take, List.length_drop, vi_len, vb_len, vo_len, vl_len, vn_len]; omega)) only [↓EC, EV, EL, E2, E3, ER, seval, ↓reduceIte, false_imp_iff, ColV_def]
        rfl
      · rintro s g1
        simp (disch := first | omega | (simp only [List.length_append, List.length_cons, List.length_nil, List.length_replicate, List.length_set, List.length_take, List.length_drop, vi_len, vb_len, vo_len, vl_len, vn_len]; omega)) only [↓EC, EV, EL, E2, E3, ER, seval, ↓reduceIte, false_imp_iff, ColV_def, lheap_def]
        (refine Split.mk (fun h => ?_) (fun h => ?_) <;> (try simp only [decide_eq_true_eq, decide_eq_false_iff_not, beq_iff_eq, bne_iff_ne, beq_eq_false_iff_ne, bne_eq_false_iff_eq, Bool.not_eq_true', Bool.not_eq_false', Bool.and_eq_true, Bool.or_eq_true, Bool.and_eq_false_iff, Bool.or_eq_false_iff, Int.not_lt, Int.not_le, Bool.false_eq_true, Bool.true_eq_false, false_and, and_false, true_and, and_true, or_false, false_or, or_true, true_or, not_true_eq_false, not_false_eq_true] at h))
        · have hs : s < (gl A v).length := by omega
          have hx := hvat.1 (gi (gl A v) s) (by rw [gi_of hs]; exact List.getElem_mem hs)
          have q1 := sumT_lim (c := gl A v) hav s
          have q2 := hav (gi (gl A v) s).toNat
          (try simp (disch := first | omega | (simp only [List.length_append, List.length_cons, List.length_nil, List.length_replicate, List.length_set, List.length_take, List.length_drop, vi_len, vb_len, vo_len, vl_len, vn_len]; omega)) only [↓EC, EV, EL, E2, E3, ER, seval, ↓reduceIte, false_imp_iff])
          exact ⟨s + 1, rfl, by omega, by omega⟩
        · (try simp (disch := first | omega | (simp only [List.length_append, List.length_cons, List.length_nil, List.length_replicate, List.length_set, List.length_take, List.length_drop, vi_len, vb_len, vo_len, vl_len, vn_len]; omega)) only [↓EC, EV, EL, E2, E3, ER, seval, ↓reduceIte, false_imp_iff])
          have : s = (gl A v).length := by omega
          subst this
          (refine Split.mk (fun h => ?_) (fun h => ?_) <;> (try simp only [decide_eq_true_eq, decide_eq_false_iff_not, beq_iff_eq, bne_iff_ne, beq_eq_false_iff_ne, bne_eq_false_iff_eq, Bool.not_eq_true', Bool.not_eq_false', Bool.and_eq_true, Bool.or_eq_true, Bool.and_eq_false_iff, Bool.or_eq_false_iff, Int.not_lt, Int.not_le, Bool.false_eq_true, Bool.true_eq_false, false_and, and_false, true_and, and_true, or_false, false_or, or_true, true_or, not_true_eq_false, not_false_eq_true] at h))
          · (try simp (disch := first | omega | (simp only [List.length_append, List.length_cons, List.length_nil, List.length_replicate, List.length_set, List.length_take, List.length_drop, vi_len, vb_len, vo_len, vl_len, vn_len]; omega)) only [↓EC, EV, EL, E2, E3, ER, seval, ↓reduceIte, false_imp_iff])
            rw [cycB_no hv h]
          · (try simp (disch := first | omega | (simp only [List.length_append, List.length_cons, List.length_nil, List.length_replicate, List.length_set, List.length_take, List.length_drop, vi_len, vb_len, vo_len, vl_len, vn_len]; omega)) only [↓EC, EV, EL, E2, E3, ER, seval, ↓reduceIte, false_imp_iff])
            refine ⟨v + 1, rfl, ⟨by omega, fun j hj => ?_⟩, by omega⟩
            by_cases e : j = v
            · subst e; exact h
            · exact h2 j (by omega)
    · (try simp (disch := first | omega | (simp only [List.length_append, List.length_cons, List.length_nil, List.length_replicate, List.length_set, List.length_take, List.length_drop, vi_len, vb_len, vo_len, vl_len, vn_len]; omega)) only [↓EC, EV, EL, E2, E3, ER, seval, ↓reduceIte, false_imp_iff])
      rw [cycB_yes fun v hv => h2 v (by omega)]
theorem c_spec_l09Cycle {n : Int} {b w a : List Int} (hb : okP b) (hw : okP w) (h0 : isD n b w) (hc : chnB n a = true) : PSpec Try.prog 36 [vD n b w, .sl a.length (vi .i64 a)] fun v => v = .bool (cycB a (allV b w n)) := by
  have hl := hb.len
  have hk := hw.len
  have hn := h0.pb.1
  have lb := h0.pb.lo hb
  have lw := h0.pw.lo hw
  obtain ⟨hal, hav⟩ := chnB_at hc
  obtain ⟨-, hal2⟩ := allV_len (b := b) (w := w) hn
  have hat := allV_at (h0.pb.ltP hb) (h0.pw.ltP hw) hn
  have hbl := cyc_lim (p := b) hn
  have hwl := cyc_lim (p := w) hn
  refine spec_l09Cycle_f.f ?_
  unfold vD
  simp (disch := first | omega | (simp only [List.length_append, List.length_cons, List.length_nil, List.length_replicate, List.length_set, List.length_take, List.length_drop, vi_len, vb_len, vo_len, vl_len, vn_len]; omega)) only [↓EC, EV, EL, E2, E3, ER, seval, ↓reduceIte, false_imp_iff, spec_l09Cycle_F, hl, hk]
  refine pcd_v (c_spec_l01Cycles lb hn) ?_
  (try simp (disch := first | omega | (simp only [List.length_append, List.length_cons, List.length_nil, List.length_replicate, List.length_set, List.length_take, List.length_drop, vi_len, vb_len, vo_len, vl_len, vn_len]; omega)) only [↓EC, EV, EL, E2, E3, ER, seval, ↓reduceIte, false_imp_iff, hl, hk])
  refine pcd_v (c_spec_l01Cycles lw hn) ?_
  (try simp (disch := first | omega | (simp only [List.length_append, List.length_cons, List.length_nil, List.length_replicate, List.length_set, List.length_take, List.length_drop, vi_len, vb_len, vo_len, vl_len, vn_len]; omega)) only [↓EC, EV, EL, E2, E3, ER, seval, ↓reduceIte, false_imp_iff, hl, hk, vl_app])
  have hA : cyc b n ++ cyc w n = allV b w n := rfl
  have hA2 : (cyc b n).length + (cyc w n).length = (allV b w n).length := by rw [← hA]; simp
  rw [hA, hA2]
  generalize allV b w n = A at *
  refine LP_of (σ := Nat) 100000 [(66, 30, 1), (85, 25, 1)] (fun s => [.int .i64 s]) (fun s => [.int .i64 n :: vi .u8 (b ++ w), vl A]) (fun s => s ≤ A.length ∧ ∀ v, v < s → sumT a (gl A v) (gl A v).length = 0) (fun s => A.length - s) 0 (by simp [frameOk, names, lpz, sclp, scv, scvs, vi_nrf, vb_nrf, vt_nrf, v2_nrf, v3_nrf, nrfs, nrf, sc_vi, sc_vb, sc_vt, sc_v2, sc_v3, sc_vo, sc_vl, vo_nrf, vl_nrf, sc_vn, vn_nrf]) ⟨Nat.zero_le _, fun v hv => absurd hv (Nat.not_lt_zero v)⟩ ?_ ?_
  · simp (disch := first | omega | (simp only [List.length_append, List.length_cons, List.length_nil, List.length_replicate, List.length_set, List.length_take, List.length_drop, vi_len, vb_len, vo_len, vl_len, vn_len]; omega)) only [↓EC, EV, EL, E2, E3, ER, seval, ↓reduceIte, false_imp_iff, ColV_def]
  · rintro v ⟨h1, h2⟩
    simp (disch := first | omega | (simp only [List.length_append, List.length_cons, List.length_nil, List.length_replicate, List.length_set, List.length_take, List.length_drop, vi_len, vb_len, vo_len, vl_len, vn_len]; omega)) only [↓EC, EV, EL, E2, E3, ER, seval, ↓reduceIte, false_imp_iff, ColV_def, lheap_def]
    (refine Split.mk (fun h => ?_) (fun h => ?_) <;> (try simp only [decide_eq_true_eq, decide_eq_false_iff_not, beq_iff_eq, bne_iff_ne, beq_eq_false_iff_ne, bne_eq_false_iff_eq, Bool.not_eq_true', Bool.not_eq_false', Bool.and_eq_true, Bool.or_eq_true, Bool.and_eq_false_iff, Bool.or_eq_false_iff, Int.not_lt, Int.not_le, Bool.false_eq_true, Bool.true_eq_false, false_and, and_false, true_and, and_true, or_false, false_or, or_true, true_or, not_true_eq_false, not_false_eq_true] at h))
    · have hv : v < A.length := by omega
      have hvat := hat _ (gl_mem hv)
      refine LP_of (σ := Nat) 200000 [(66, 30, 1), (85, 25, 1)] (fun s => [.int .i64 (sumT a (gl A v) s), .int .i64 s]) (fun s => [.int .i64 n :: vi .u8 (b ++ w), vl A]) (fun s => s ≤ (gl A v).length) (fun s => (gl A v).length - s) 0 (by simp [frameOk, names, lpz, sclp, scv, scvs, vi_nrf, vb_nrf, vt_nrf, v2_nrf, v3_nrf, nrfs, nrf, sc_vi, sc_vb, sc_vt, sc_v2, sc_v3, sc_vo, sc_vl, vo_nrf, vl_nrf, sc_vn, vn_nrf]) (Nat.zero_le _) ?_ ?_
      · simp (disch := first | omega | (simp only [List.length_append, List.length_cons, List.length_nil, List.length_replicate, List.length_set, List.length_take, List.length_drop, vi_len, vb_len, vo_len, vl_len, vn_len]; omega)) only [↓EC, EV, EL, E2, E3, ER, seval, ↓reduceIte, false_imp_iff, ColV_def]
        rfl
      · rintro s g1
        simp (disch := first | omega | (simp only [List.length_append, List.length_cons, List.length_nil, List.length_replicate, List.length_set, List.length_take, List.length_drop, vi_len, vb_len, vo_len, vl_len, vn_len]; omega)) only [↓EC, EV, EL, E2, E3, ER, seval, ↓reduceIte, false_imp_iff, ColV_def, lheap_def]
        (refine Split.mk (fun h => ?_) (fun h => ?_) <;> (try simp only [decide_eq_true_eq, decide_eq_false_iff_not, beq_iff_eq, bne_iff_ne, beq_eq_false_iff_ne, bne_eq_false_iff_eq, Bool.not_eq_true', Bool.not_eq_false', Bool.and_eq_true, Bool.or_eq_true, Bool.and_eq_false_iff, Bool.or_eq_false_iff, Int.not_lt, Int.not_le, Bool.false_eq_true, Bool.true_eq_false, false_and, and_false, true_and, and_true, or_false, false_or, or_true, true_or, not_true_eq_false, not_false_eq_true] at h))
        · have hs : s < (gl A v).length := by omega
          have hx := hvat.1 (gi (gl A v) s) (by rw [gi_of hs]; exact List.getElem_mem hs)
          have q1 := sumT_lim (c := gl A v) hav s
          have q2 := hav (gi (gl A v) s).toNat
          (try simp (disch := first | omega | (simp only [List.length_append, List.length_cons, List.length_nil, List.length_replicate, List.length_set, List.length_take, List.length_drop, vi_len, vb_len, vo_len, vl_len, vn_len]; omega)) only [↓EC, EV, EL, E2, E3, ER, seval, ↓reduceIte, false_imp_iff])
          exact ⟨s + 1, rfl, by omega, by omega⟩
        · (try simp (disch := first | omega | (simp only [List.length_append, List.length_cons, List.length_nil, List.length_replicate, List.length_set, List.length_take, List.length_drop, vi_len, vb_len, vo_len, vl_len, vn_len]; omega)) only [↓EC, EV, EL, E2, E3, ER, seval, ↓reduceIte, false_imp_iff])
          have : s = (gl A v).length := by omega
          subst this
          (refine Split.mk (fun h => ?_) (fun h => ?_) <;> (try simp only [decide_eq_true_eq, decide_eq_false_iff_not, beq_iff_eq, bne_iff_ne, beq_eq_false_iff_ne, bne_eq_false_iff_eq, Bool.not_eq_true', Bool.not_eq_false', Bool.and_eq_true, Bool.or_eq_true, Bool.and_eq_false_iff, Bool.or_eq_false_iff, Int.not_lt, Int.not_le, Bool.false_eq_true, Bool.true_eq_false, false_and, and_false, true_and, and_true, or_false, false_or, or_true, true_or, not_true_eq_false, not_false_eq_true] at h))
          · (try simp (disch := first | omega | (simp only [List.length_append, List.length_cons, List.length_nil, List.length_replicate, List.length_set, List.length_take, List.length_drop, vi_len, vb_len, vo_len, vl_len, vn_len]; omega)) only [↓EC, EV, EL, E2, E3, ER, seval, ↓reduceIte, false_imp_iff])
            rw [cycB_no hv h]
          · (try simp (disch := first | omega | (simp only [List.length_append, List.length_cons, List.length_nil, List.length_replicate, List.length_set, List.length_take, List.length_drop, vi_len, vb_len, vo_len, vl_len, vn_len]; omega)) only [↓EC, EV, EL, E2, E3, ER, seval, ↓reduceIte, false_imp_iff])
            refine ⟨v + 1, rfl, ⟨by omega, fun j hj => ?_⟩, by omega⟩
            by_cases e : j = v
            · subst e; exact h
            · exact h2 j (by omega)
    · (try simp (disch := first | omega | (simp only [List.length_append, List.length_cons, List.length_nil, List.length_replicate, List.length_set, List.length_take, List.length_drop, vi_len, vb_len, vo_len, vl_len, vn_len]; omega)) only [↓EC, EV, EL, E2, E3, ER, seval, ↓reduceIte, false_imp_iff])
      rw [cycB_yes fun v hv => h2 v (by omega)]

/-! ### Intersections -/
def mtI (a b c : List Int) (y : Int) : Nat → Int → Int
  | 0, s => s
  | i + 1, s => mtI a b c y i s + (gi a (gi c i).toNat * gi b y.toNat - gi a y.toNat * gi b (gi c i).toNat)
def mtJ (a b c : List Int) : Nat → Int → Int
  | 0, s => s
  | j + 1, s => mtI a b c (gi c j) j (mtJ a b c j s)
def mtV (a b : List Int) (A : List (List Int)) : Nat → Int
  | 0 => 0
  | v + 1 => mtJ a b (gl A v) (gl A v).length (mtV a b A v)
def lmM (a : List Int) : Prop := ∀ k : Nat, -1000000 ≤ gi a k ∧ gi a k ≤ 1000000
theorem mtI_lim {a b c : List Int} {y s : Int} {L : Int} (ha : lmM a) (hb : lmM b) (h : -L ≤ s ∧ s ≤ L) : ∀ i : Nat, -(L + 2000000000000 * i) ≤ mtI a b c y i s ∧ mtI a b c y i s ≤ L + 2000000000000 * i
  | 0 => by simp only [mtI]; omega
  | i + 1 => by
    have ih := mtI_lim (c := c) (y := y) ha hb h i
    have m1 := mul_lim 1000000 1000000 (ha (gi c i).toNat) (hb y.toNat)
    have m2 := mul_lim 1000000 1000000 (ha y.toNat) (hb (gi c i).toNat)
    simp only [mtI]
    omega
theorem mtJ_lim {a b c : List Int} {s : Int} {L : Int} (ha : lmM a) (hb : lmM b) (h : -L ≤ s ∧ s ≤ L) : ∀ j : Nat, j ≤ 16 → -(L + 32000000000000 * j) ≤ mtJ a b c j s ∧ mtJ a b c j s ≤ L + 32000000000000 * j
  | 0, _ => by simp only [mtJ]; omega
  | j + 1, hj => by
    have ih := mtJ_lim (c := c) ha hb h j (by omega)
    have := mtI_lim (c := c) (y := gi c j) (L := L + 32000000000000 * j) ha hb ih j
    simp only [mtJ]
    omega
theorem mtV_lim {a b : List Int} {A : List (List Int)} (ha : lmM a) (hb : lmM b) (hA : ∀ l ∈ A, l.length ≤ 16) : ∀ v : Nat, v ≤ A.length → -(512000000000000 * (v : Int)) ≤ mtV a b A v ∧ mtV a b A v ≤ 512000000000000 * v
  | 0, _ => by simp [mtV]
  | v + 1, hv => by
    have ih := mtV_lim ha hb hA v (by omega)
    have hl := hA _ (gl_mem (ls := A) (i := v) (by omega))
    have := mtJ_lim (c := gl A v) (L := 512000000000000 * v) ha hb ih (gl A v).length hl
    simp only [mtV]
    omega
def meetV (b w : List Int) (n : Int) (x y : List Int) : Int := (mtV x y (allV b w n) (allV b w n).length).tdiv 2
theorem gi_take {l : List Int} {i k : Nat} (h : i < k) : gi (l.take k) i = gi l i := by
  simp only [gi, List.getD, List.getElem?_take, if_pos h]
theorem tdiv2_lim {x L : Int} (h : -L ≤ x ∧ x ≤ L) : -L ≤ x.tdiv 2 ∧ x.tdiv 2 ≤ L := by
  by_cases h0 : 0 ≤ x
  · rw [Int.tdiv_eq_ediv_of_nonneg h0]; omega
  · have := Int.neg_tdiv (-x) 2
    rw [Int.neg_neg] at this
    have h2 := Int.tdiv_eq_ediv_of_nonneg (a := -x) (b := 2) (by omega)
    omega
theorem c_impl_intersection {n : Int} {b w x y : List Int} (hb : okP b) (hw : okP w) (h0 : isD n b w) (hxl : (x.length : Int) = n) (hyl : (y.length : Int) = n) (hx : lmM x) (hy : lmM y) :
    PSpec Try.prog 40 [vD n b w, .sl x.length (vi .i64 x), .sl y.length (vi .i64 y)] fun v => v = .int .i64 (meetV b w n x y) := by
  have hl := hb.len
  have hk := hw.len
  have hn := h0.pb.1
  obtain ⟨-, hal2⟩ := allV_len (b := b) (w := w) hn
  have hat := allV_at (h0.pb.ltP hb) (h0.pw.ltP hw) hn
  refine impl_intersection_f.f ?_
  have hvs := c_impl_vertices hb hw h0
  unfold vD at hvs ⊢
  unfold meetV
  simp (disch := first | omega | (simp only [List.length_append, List.length_cons, List.length_nil, List.length_replicate, List.length_set, List.length_take, List.length_drop, vi_len, vb_len, vo_len, vl_len, vn_len]; omega)) only [↓EC, EV, EL, E2, E3, ER, seval, ↓reduceIte, false_imp_iff, impl_intersection_F, hl, hk]
  refine pcd_wv (by simp [nrfs_cons, nrf_agg, nrf_int, vi_nrf, nrfs_nil]) hvs ?_
  (try simp (disch := first | omega | (simp only [List.length_append, List.length_cons, List.length_nil, List.length_replicate, List.length_set, List.length_take, List.length_drop, vi_len, vb_len, vo_len, vl_len, vn_len]; omega)) only [↓EC, EV, EL, E2, E3, ER, seval, ↓reduceIte, false_imp_iff, hl, hk])
  generalize allV b w n = A at *
  refine LP_of (σ := Nat) 100000 [] (fun s => [.int .i64 (mtV x y A s), .int .i64 s]) (fun s => []) (fun s => s ≤ A.length) (fun s => A.length - s) 0 (by simp [frameOk, names, lpz, sclp, scv, scvs, vi_nrf, vb_nrf, vt_nrf, v2_nrf, v3_nrf, nrfs, nrf, sc_vi, sc_vb, sc_vt, sc_v2, sc_v3, sc_vo, sc_vl, vo_nrf, vl_nrf, sc_vn, vn_nrf]) (Nat.zero_le _) ?_ ?_
  · simp (disch := first | omega | (simp only [List.length_append, List.length_cons, List.length_nil, List.length_replicate, List.length_set, List.length_take, List.length_drop, vi_len, vb_len, vo_len, vl_len, vn_len]; omega)) only [↓EC, EV, EL, E2, E3, ER, seval, ↓reduceIte, false_imp_iff, ColV_def]
    rfl
  · rintro v h1
    simp (disch := first | omega | (simp only [List.length_append, List.length_cons, List.length_nil, List.length_replicate, List.length_set, List.length_take, List.length_drop, vi_len, vb_len, vo_len, vl_len, vn_len]; omega)) only [↓EC, EV, EL, E2, E3, ER, seval, ↓reduceIte, false_imp_iff, ColV_def, lheap_def]
    have lv := mtV_lim hx hy (fun l hl => (hat l hl).2) v h1
    (refine Split.mk (fun h => ?_) (fun h => ?_) <;> (try simp only [decide_eq_true_eq, decide_eq_false_iff_not, beq_iff_eq, bne_iff_ne, beq_eq_false_iff_ne, bne_eq_false_iff_eq, Bool.not_eq_true', Bool.not_eq_false', Bool.and_eq_true, Bool.or_eq_true, Bool.and_eq_false_iff, Bool.or_eq_false_iff, Int.not_lt, Int.not_le, Bool.false_eq_true, Bool.true_eq_false, false_and, and_false, true_and, and_true, or_false, false_or, or_true, true_or, not_true_eq_false, not_false_eq_true] at h))
    · have hv : v < A.length := by omega
      have hvat := hat _ (gl_mem hv)
      (try simp (disch := first | omega | (simp only [List.length_append, List.length_cons, List.length_nil, List.length_replicate, List.length_set, List.length_take, List.length_drop, vi_len, vb_len, vo_len, vl_len, vn_len]; omega)) only [↓EC, EV, EL, E2, E3, ER, seval, ↓reduceIte, false_imp_iff])
      refine LP_of (σ := Nat) 200000 [] (fun s => [.int .i64 (mtJ x y (gl A v) s (mtV x y A v)), .int .i64 s]) (fun s => []) (fun s => s ≤ (gl A v).length) (fun s => (gl A v).length - s) 0 (by simp [frameOk, names, lpz, sclp, scv, scvs, vi_nrf, vb_nrf, vt_nrf, v2_nrf, v3_nrf, nrfs, nrf, sc_vi, sc_vb, sc_vt, sc_v2, sc_v3, sc_vo, sc_vl, vo_nrf, vl_nrf, sc_vn, vn_nrf]) (Nat.zero_le _) ?_ ?_
      · simp (disch := first | omega | (simp only [List.length_append, List.length_cons, List.length_nil, List.length_replicate, List.length_set, List.length_take, List.length_drop, vi_len, vb_len, vo_len, vl_len, vn_len]; omega)) only [↓EC, EV, EL, E2, E3, ER, seval, ↓reduceIte, false_imp_iff, ColV_def]
        rfl
      · rintro j g1
        have lj := mtJ_lim (c := gl A v) hx hy lv j (by omega)
        simp (disch := first | omega | (simp only [List.length_append, List.length_cons, List.length_nil, List.length_replicate, List.length_set, List.length_take, List.length_drop, vi_len, vb_len, vo_len, vl_len, vn_len]; omega)) only [↓EC, EV, EL, E2, E3, ER, seval, ↓reduceIte, false_imp_iff, ColV_def, lheap_def]
        (refine Split.mk (fun h => ?_) (fun h => ?_) <;> (try simp only [decide_eq_true_eq, decide_eq_false_iff_not, beq_iff_eq, bne_iff_ne, beq_eq_false_iff_ne, bne_eq_false_iff_eq, Bool.not_eq_true', Bool.not_eq_false', Bool.and_eq_true, Bool.or_eq_true, Bool.and_eq_false_iff, Bool.or_eq_false_iff, Int.not_lt, Int.not_le, Bool.false_eq_true, Bool.true_eq_false, false_and, and_false, true_and, and_true, or_false, false_or, or_true, true_or, not_true_eq_false, not_false_eq_true] at h))
        · have hj : j < (gl A v).length := by omega
          have hcj := hvat.1 (gi (gl A v) j) (by rw [gi_of hj]; exact List.getElem_mem hj)
          (try simp (disch := first | omega | (simp only [List.length_append, List.length_cons, List.length_nil, List.length_replicate, List.length_set, List.length_take, List.length_drop, vi_len, vb_len, vo_len, vl_len, vn_len]; omega)) only [↓EC, EV, EL, E2, E3, ER, seval, ↓reduceIte, false_imp_iff])
          refine LP_of (σ := Nat) 300000 [] (fun s => [.int .i64 (mtI x y (gl A v) (gi (gl A v) j) s (mtJ x y (gl A v) j (mtV x y A v))), .int .i64 s]) (fun s => []) (fun s => s ≤ j) (fun s => j - s) 0 (by simp [frameOk, names, lpz, sclp, scv, scvs, vi_nrf, vb_nrf, vt_nrf, v2_nrf, v3_nrf, nrfs, nrf, sc_vi, sc_vb, sc_vt, sc_v2, sc_v3, sc_vo, sc_vl, vo_nrf, vl_nrf, sc_vn, vn_nrf]) (Nat.zero_le _) ?_ ?_
          · simp (disch := first | omega | (simp only [List.length_append, List.length_cons, List.length_nil, List.length_replicate, List.length_set, List.length_take, List.length_drop, vi_len, vb_len, vo_len, vl_len, vn_len]; omega)) only [↓EC, EV, EL, E2, E3, ER, seval, ↓reduceIte, false_imp_iff, ColV_def]
            rfl
          · rintro i k1
            have li := mtI_lim (c := gl A v) (y := gi (gl A v) j) hx hy lj i
            simp (disch := first | omega | (simp only [List.length_append, List.length_cons, List.length_nil, List.length_replicate, List.length_set, List.length_take, List.length_drop, vi_len, vb_len, vo_len, vl_len, vn_len]; omega)) only [↓EC, EV, EL, E2, E3, ER, seval, ↓reduceIte, false_imp_iff, ColV_def, lheap_def]
            (refine Split.mk (fun h => ?_) (fun h => ?_) <;> (try simp only [decide_eq_true_eq, decide_eq_false_iff_not, beq_iff_eq, bne_iff_ne, beq_eq_false_iff_ne, bne_eq_false_iff_eq, Bool.not_eq_true', Bool.not_eq_false', Bool.and_eq_true, Bool.or_eq_true, Bool.and_eq_false_iff, Bool.or_eq_false_iff, Int.not_lt, Int.not_le, Bool.false_eq_true, Bool.true_eq_false, false_and, and_false, true_and, and_true, or_false, false_or, or_true, true_or, not_true_eq_false, not_false_eq_true] at h))
            · have hi : i < j := by omega
              have hti := gi_take (l := gl A v) hi
              have hci := hvat.1 (gi (gl A v) i) (by rw [gi_of (show i < (gl A v).length by omega)]; exact List.getElem_mem _)
              have m1 := mul_lim 1000000 1000000 (hx (gi (gl A v) i).toNat) (hy (gi (gl A v) j).toNat)
              have m2 := mul_lim 1000000 1000000 (hx (gi (gl A v) j).toNat) (hy (gi (gl A v) i).toNat)
              (try simp (disch := first | omega | (simp only [List.length_append, List.length_cons, List.length_nil, List.length_replicate, List.length_set, List.length_take, List.length_drop, vi_len, vb_len, vo_len, vl_len, vn_len]; omega)) only [↓EC, EV, EL, E2, E3, ER, seval, ↓reduceIte, false_imp_iff, hti])
              exact ⟨i + 1, rfl, by omega, by omega⟩
            · (try simp (disch := first | omega | (simp only [List.length_append, List.length_cons, List.length_nil, List.length_replicate, List.length_set, List.length_take, List.length_drop, vi_len, vb_len, vo_len, vl_len, vn_len]; omega)) only [↓EC, EV, EL, E2, E3, ER, seval, ↓reduceIte, false_imp_iff])
              have : i = j := by omega
              subst this
              exact ⟨i + 1, rfl, by omega, by omega⟩
        · (try simp (disch := first | omega | (simp only [List.length_append, List.length_cons, List.length_nil, List.length_replicate, List.length_set, List.length_take, List.length_drop, vi_len, vb_len, vo_len, vl_len, vn_len]; omega)) only [↓EC, EV, EL, E2, E3, ER, seval, ↓reduceIte, false_imp_iff])
          have : j = (gl A v).length := by omega
          subst this
          exact ⟨v + 1, rfl, by omega, by omega⟩
    · have : v = A.length := by omega
      subst this
      have := tdiv2_lim lv
      (try simp (disch := first | omega | (simp only [List.length_append, List.length_cons, List.length_nil, List.length_replicate, List.length_set, List.length_take, List.length_drop, vi_len, vb_len, vo_len, vl_len, vn_len]; omega)) only [↓EC, EV, EL, E2, E3, ER, seval, ↓reduceIte, false_imp_iff])
theorem c_spec_l09Meet {n : Int} {b w x y : List Int} (hb : okP b) (hw : okP w) (h0 : isD n b w) (hxl : (x.length : Int) = n) (hyl : (y.length : Int) = n) (hx : lmM x) (hy : lmM y) :
    PSpec Try.prog 37 [vD n b w, .sl x.length (vi .i64 x), .sl y.length (vi .i64 y)] fun v => v = .int .i64 (meetV b w n x y) := by
  have hl := hb.len
  have hk := hw.len
  have hn := h0.pb.1
  have lb := h0.pb.lo hb
  have lw := h0.pw.lo hw
  obtain ⟨-, hal2⟩ := allV_len (b := b) (w := w) hn
  have hat := allV_at (h0.pb.ltP hb) (h0.pw.ltP hw) hn
  have hbl := cyc_lim (p := b) hn
  have hwl := cyc_lim (p := w) hn
  refine spec_l09Meet_f.f ?_
  unfold vD
  unfold meetV
  simp (disch := first | omega | (simp only [List.length_append, List.length_cons, List.length_nil, List.length_replicate, List.length_set, List.length_take, List.length_drop, vi_len, vb_len, vo_len, vl_len, vn_len]; omega)) only [↓EC, EV, EL, E2, E3, ER, seval, ↓reduceIte, false_imp_iff, spec_l09Meet_F, hl, hk]
  refine pcd_v (c_spec_l01Cycles lb hn) ?_
  (try simp (disch := first | omega | (simp only [List.length_append, List.length_cons, List.length_nil, List.length_replicate, List.length_set, List.length_take, List.length_drop, vi_len, vb_len, vo_len, vl_len, vn_len]; omega)) only [↓EC, EV, EL, E2, E3, ER, seval, ↓reduceIte, false_imp_iff, hl, hk])
  refine pcd_v (c_spec_l01Cycles lw hn) ?_
  (try simp (disch := first | omega | (simp only [List.length_append, List.length_cons, List.length_nil, List.length_replicate, List.length_set, List.length_take, List.length_drop, vi_len, vb_len, vo_len, vl_len, vn_len]; omega)) only [↓EC, EV, EL, E2, E3, ER, seval, ↓reduceIte, false_imp_iff, hl, hk, vl_app])
  have hA : cyc b n ++ cyc w n = allV b w n := rfl
  have hA2 : (cyc b n).length + (cyc w n).length = (allV b w n).length := by rw [← hA]; simp
  rw [hA, hA2]
  generalize allV b w n = A at *
  refine LP_of (σ := Nat) 100000 [(67, 30, 1), (90, 25, 1)] (fun s => [.int .i64 (mtV x y A s), .int .i64 s]) (fun s => [.int .i64 n :: vi .u8 (b ++ w), vl A]) (fun s => s ≤ A.length) (fun s => A.length - s) 0 (by simp [frameOk, names, lpz, sclp, scv, scvs, vi_nrf, vb_nrf, vt_nrf, v2_nrf, v3_nrf, nrfs, nrf, sc_vi, sc_vb, sc_vt, sc_v2, sc_v3, sc_vo, sc_vl, vo_nrf, vl_nrf, sc_vn, vn_nrf]) (Nat.zero_le _) ?_ ?_
  · simp (disch := first | omega | (simp only [List.length_append, List.length_cons, List.length_nil, List.length_replicate, List.length_set, List.length_take, List.length_drop, vi_len, vb_len, vo_len, vl_len, vn_len]; omega)) only [↓EC, EV, EL, E2, E3, ER, seval, ↓reduceIte, false_imp_iff, ColV_def]
    rfl
  · rintro v h1
    simp (disch := first | omega | (simp only [List.length_append, List.length_cons, List.length_nil, List.length_replicate, List.length_set, List.length_take, List.length_drop, vi_len, vb_len, vo_len, vl_len, vn_len]; omega)) only [↓EC, EV, EL, E2, E3, ER, seval, ↓reduceIte, false_imp_iff, ColV_def, lheap_def]
    have lv := mtV_lim hx hy (fun l hl => (hat l hl).2) v h1
    (refine Split.mk (fun h => ?_) (fun h => ?_) <;> (try simp only [decide_eq_true_eq, decide_eq_false_iff_not, beq_iff_eq, bne_iff_ne, beq_eq_false_iff_ne, bne_eq_false_iff_eq, Bool.not_eq_true', Bool.not_eq_false', Bool.and_eq_true, Bool.or_eq_true, Bool.and_eq_false_iff, Bool.or_eq_false_iff, Int.not_lt, Int.not_le, Bool.false_eq_true, Bool.true_eq_false, false_and, and_false, true_and, and_true, or_false, false_or, or_true, true_or, not_true_eq_false, not_false_eq_true] at h))
    · have hv : v < A.length := by omega
      have hvat := hat _ (gl_mem hv)
      (try simp (disch := first | omega | (simp only [List.length_append, List.length_cons, List.length_nil, List.length_replicate, List.length_set, List.length_take, List.length_drop, vi_len, vb_len, vo_len, vl_len, vn_len]; omega)) only [↓EC, EV, EL, E2, E3, ER, seval, ↓reduceIte, false_imp_iff])
      refine LP_of (σ := Nat) 200000 [(67, 30, 1), (90, 25, 1)] (fun s => [.int .i64 (mtJ x y (gl A v) s (mtV x y A v)), .int .i64 s]) (fun s => [.int .i64 n :: vi .u8 (b ++ w), vl A]) (fun s => s ≤ (gl A v).length) (fun s => (gl A v).length - s) 0 (by simp [frameOk, names, lpz, sclp, scv, scvs, vi_nrf, vb_nrf, vt_nrf, v2_nrf, v3_nrf, nrfs, nrf, sc_vi, sc_vb, sc_vt, sc_v2, sc_v3, sc_vo, sc_vl, vo_nrf, vl_nrf, sc_vn, vn_nrf]) (Nat.zero_le _) ?_ ?_
      · simp (disch := first | omega | (simp only [List.length_append, List.length_cons, List.length_nil, List.length_replicate, List.length_set, List.length_take, List.length_drop, vi_len, vb_len, vo_len, vl_len, vn_len]; omega)) only [↓EC, EV, EL, E2, E3, ER, seval, ↓reduceIte, false_imp_iff, ColV_def]
        rfl
      · rintro j g1
        have lj := mtJ_lim (c := gl A v) hx hy lv j (by omega)
        simp (disch := first | omega | (simp only [List.length_append, List.length_cons, List.length_nil, List.length_replicate, List.length_set, List.length_take, List.length_drop, vi_len, vb_len, vo_len, vl_len, vn_len]; omega)) only [↓EC, EV, EL, E2, E3, ER, seval, ↓reduceIte, false_imp_iff, ColV_def, lheap_def]
        (refine Split.mk (fun h => ?_) (fun h => ?_) <;> (try simp only [decide_eq_true_eq, decide_eq_false_iff_not, beq_iff_eq, bne_iff_ne, beq_eq_false_iff_ne, bne_eq_false_iff_eq, Bool.not_eq_true', Bool.not_eq_false', Bool.and_eq_true, Bool.or_eq_true, Bool.and_eq_false_iff, Bool.or_eq_false_iff, Int.not_lt, Int.not_le, Bool.false_eq_true, Bool.true_eq_false, false_and, and_false, true_and, and_true, or_false, false_or, or_true, true_or, not_true_eq_false, not_false_eq_true] at h))
        · have hj : j < (gl A v).length := by omega
          have hcj := hvat.1 (gi (gl A v) j) (by rw [gi_of hj]; exact List.getElem_mem hj)
          (try simp (disch := first | omega | (simp only [List.length_append, List.length_cons, List.length_nil, List.length_replicate, List.length_set, List.length_take, List.length_drop, vi_len, vb_len, vo_len, vl_len, vn_len]; omega)) only [↓EC, EV, EL, E2, E3, ER, seval, ↓reduceIte, false_imp_iff])
          refine LP_of (σ := Nat) 300000 [(67, 30, 1), (90, 25, 1)] (fun s => [.int .i64 (mtI x y (gl A v) (gi (gl A v) j) s (mtJ x y (gl A v) j (mtV x y A v))), .int .i64 s]) (fun s => [.int .i64 n :: vi .u8 (b ++ w), vl A]) (fun s => s ≤ j) (fun s => j - s) 0 (by simp [frameOk, names, lpz, sclp, scv, scvs, vi_nrf, vb_nrf, vt_nrf, v2_nrf, v3_nrf, nrfs, nrf, sc_vi, sc_vb, sc_vt, sc_v2, sc_v3, sc_vo, sc_vl, vo_nrf, vl_nrf, sc_vn, vn_nrf]) (Nat.zero_le _) ?_ ?_
          · simp (disch := first | omega | (simp only [List.length_append, List.length_cons, List.length_nil, List.length_replicate, List.length_set, List.length_take, List.length_drop, vi_len, vb_len, vo_len, vl_len, vn_len]; omega)) only [↓EC, EV, EL, E2, E3, ER, seval, ↓reduceIte, false_imp_iff, ColV_def]
            rfl
          · rintro i k1
            have li := mtI_lim (c := gl A v) (y := gi (gl A v) j) hx hy lj i
            simp (disch := first | omega | (simp only [List.length_append, List.length_cons, List.length_nil, List.length_replicate, List.length_set, List.length_take, List.length_drop, vi_len, vb_len, vo_len, vl_len, vn_len]; omega)) only [↓EC, EV, EL, E2, E3, ER, seval, ↓reduceIte, false_imp_iff, ColV_def, lheap_def]
            (refine Split.mk (fun h => ?_) (fun h => ?_) <;> (try simp only [decide_eq_true_eq, decide_eq_false_iff_not, beq_iff_eq, bne_iff_ne, beq_eq_false_iff_ne, bne_eq_false_iff_eq, Bool.not_eq_true', Bool.not_eq_false', Bool.and_eq_true, Bool.or_eq_true, Bool.and_eq_false_iff, Bool.or_eq_false_iff, Int.not_lt, Int.not_le, Bool.false_eq_true, Bool.true_eq_false, false_and, and_false, true_and, and_true, or_false, false_or, or_true, true_or, not_true_eq_false, not_false_eq_true] at h))
            · have hi : i < j := by omega
              have hci := hvat.1 (gi (gl A v) i) (by rw [gi_of (show i < (gl A v).length by omega)]; exact List.getElem_mem _)
              have m1 := mul_lim 1000000 1000000 (hx (gi (gl A v) i).toNat) (hy (gi (gl A v) j).toNat)
              have m2 := mul_lim 1000000 1000000 (hx (gi (gl A v) j).toNat) (hy (gi (gl A v) i).toNat)
              (try simp (disch := first | omega | (simp only [List.length_append, List.length_cons, List.length_nil, List.length_replicate, List.length_set, List.length_take, List.length_drop, vi_len, vb_len, vo_len, vl_len, vn_len]; omega)) only [↓EC, EV, EL, E2, E3, ER, seval, ↓reduceIte, false_imp_iff])
              exact ⟨i + 1, by simp only [mtI]; rw [Int.add_sub_assoc]; rfl, by omega, by omega⟩
            · (try simp (disch := first | omega | (simp only [List.length_append, List.length_cons, List.length_nil, List.length_replicate, List.length_set, List.length_take, List.length_drop, vi_len, vb_len, vo_len, vl_len, vn_len]; omega)) only [↓EC, EV, EL, E2, E3, ER, seval, ↓reduceIte, false_imp_iff])
              have : i = j := by omega
              subst this
              exact ⟨i + 1, rfl, by omega, by omega⟩
        · (try simp (disch := first | omega | (simp only [List.length_append, List.length_cons, List.length_nil, List.length_replicate, List.length_set, List.length_take, List.length_drop, vi_len, vb_len, vo_len, vl_len, vn_len]; omega)) only [↓EC, EV, EL, E2, E3, ER, seval, ↓reduceIte, false_imp_iff])
          have : j = (gl A v).length := by omega
          subst this
          exact ⟨v + 1, rfl, by omega, by omega⟩
    · have : v = A.length := by omega
      subst this
      have := tdiv2_lim lv
      (try simp (disch := first | omega | (simp only [List.length_append, List.length_cons, List.length_nil, List.length_replicate, List.length_set, List.length_take, List.length_drop, vi_len, vb_len, vo_len, vl_len, vn_len]; omega)) only [↓EC, EV, EL, E2, E3, ER, seval, ↓reduceIte, false_imp_iff])

/-! ### Cycles -/
noncomputable def icR (n : Int) (b w l : List Int) : Bool × Int := if isDB n b w = true then (if chnB n l = true then (cycB l (allV b w n), 0) else (false, 2)) else (false, 1)
theorem c_impl_IsCycle {n : Int} {b w l : List Int} (hb : okP b) (hw : okP w) (hl : l.length ≤ 1048576) : PSpec Try.prog 38 [vD n b w, .sl l.length (vi .i64 l)] fun v => v = .tup [.bool (icR n b w l).1, .int .i64 (icR n b w l).2] := by
  have hbl := hb.len
  have hwl := hw.len
  refine impl_IsCycle_f.f ?_
  have h1 := c_impl_isChain (n := n) hbl hwl hl
  have h2 := fun h0 hc => c_impl_isCycle (n := n) (a := l) hb hw h0 hc
  unfold vD at h1 h2 ⊢
  unfold icR
  simp (disch := first | omega | (simp only [List.length_append, List.length_cons, List.length_nil, List.length_replicate, List.length_set, List.length_take, List.length_drop, vi_len, vb_len, vo_len, vl_len, vn_len]; omega)) only [↓EC, EV, EL, E2, E3, ER, seval, ↓reduceIte, false_imp_iff, impl_IsCycle_F, hbl, hwl]
  refine pcd_v (c_impl_IsDessin hb hw) ?_
  cases h0 : isDB n b w with
  | false => (try simp (disch := first | omega | (simp only [List.length_append, List.length_cons, List.length_nil, List.length_replicate, List.length_set, List.length_take, List.length_drop, vi_len, vb_len, vo_len, vl_len, vn_len]; omega)) only [↓EC, EV, EL, E2, E3, ER, seval, ↓reduceIte, false_imp_iff, hbl, hwl])
  | true =>
    (try simp (disch := first | omega | (simp only [List.length_append, List.length_cons, List.length_nil, List.length_replicate, List.length_set, List.length_take, List.length_drop, vi_len, vb_len, vo_len, vl_len, vn_len]; omega)) only [↓EC, EV, EL, E2, E3, ER, seval, ↓reduceIte, false_imp_iff, hbl, hwl])
    refine pcd_v h1 ?_
    cases hc : chnB n l with
    | false => (try simp (disch := first | omega | (simp only [List.length_append, List.length_cons, List.length_nil, List.length_replicate, List.length_set, List.length_take, List.length_drop, vi_len, vb_len, vo_len, vl_len, vn_len]; omega)) only [↓EC, EV, EL, E2, E3, ER, seval, ↓reduceIte, false_imp_iff, hbl, hwl])
    | true =>
      (try simp (disch := first | omega | (simp only [List.length_append, List.length_cons, List.length_nil, List.length_replicate, List.length_set, List.length_take, List.length_drop, vi_len, vb_len, vo_len, vl_len, vn_len]; omega)) only [↓EC, EV, EL, E2, E3, ER, seval, ↓reduceIte, false_imp_iff, hbl, hwl])
      refine pcd_v (h2 (isDB_iff.1 h0) hc) ?_
      (try simp (disch := first | omega | (simp only [List.length_append, List.length_cons, List.length_nil, List.length_replicate, List.length_set, List.length_take, List.length_drop, vi_len, vb_len, vo_len, vl_len, vn_len]; omega)) only [↓EC, EV, EL, E2, E3, ER, seval, ↓reduceIte, false_imp_iff, hbl, hwl])
noncomputable def iofR (n : Int) (b w x y : List Int) : Int × Int := if isDB n b w = true then (if chnB n x = true then (if chnB n y = true then (if cycB x (allV b w n) = true then (if cycB y (allV b w n) = true then (meetV b w n x y, 0) else (0, 5)) else (0, 5)) else (0, 2)) else (0, 2)) else (0, 1)
theorem chnB_lm {n : Int} {l : List Int} (h : chnB n l = true) : lmM l := fun k => by have := (chnB_at h).2 k; omega
end Go.Proofs.Ytcleiehdddjicaa.Sep

/- Draws: the source of a code, its numbers. -/
import Derived.Test.YtjklebickfcddaaDoorSepRec
import Derived.Test.YtjklebickfcddaaDoorForm
namespace Go.Proofs.YtjklebickfcddaaDoor.Sep
open Go.RowKit
set_option linter.unusedVariables false
set_option linter.unusedSimpArgs false
set_option maxRecDepth 20000
set_option maxHeartbeats 1000000

theorem callM_d {P : Program} {f : FuncId} {d : Nat} {h : Hp} {K : V → Hp → Prop} {bs : List Nat} {bx : List (Nat × TypeId × Nat)} {cells : List (List V)} {ws : List V} {Φ : V → List (List V) → Prop}
    (hs : PSpecM P f ws bx cells Φ) (hK : ∀ v cs, Φ v cs → K (vw v) (hputs2 h bs bx cs)) : CallM P f d h K bs bx cells ws := ⟨Φ, hs, .inl hK⟩
theorem pcn_q {P : Program} {f : FuncId} {d : Nat} {h : Hp} {K : V → Hp → Prop} {ws vs : List V} {Φ : TypeId → List V → Prop} (hs : PSpecB P f vs Φ) (hn : nrfs vs = true) (hK : ∀ e c, Φ e c → Rq (h d = .free) (K (.ptr d 0) (hput h d (.row e 1 c)))) : pcd P f d h K ws true vs :=
  .inr ⟨rfl, .inr ⟨hn, _, hs, hK⟩⟩
/-- The bytes of a code. -/
def okB (l : List Int) : Prop := l.length ≤ 4096 ∧ ∀ a ∈ l, 0 ≤ a ∧ a ≤ 255
def srcC (x : Value) (l : List Int) (a h : Int) : List V := [.fz x l, .int .i64 a, .int .u64 h]
def okS (l : List Int) (a : Int) : Prop := okB l ∧ 0 ≤ a ∧ a ≤ 4096
theorem okS_0 {l : List Int} (h : okB l) : okS l 0 := ⟨h, by omega, by omega⟩
theorem and24 (A : BitVec IntKind.u64.bits) : ∃ q : Nat, q ≤ 16777215 ∧ IntKind.i64.wrap (IntKind.u64.wrap ((A &&& BitVec.ofInt IntKind.u64.bits 16777215).toNat : Int)) = (q : Int) := by
  refine ⟨(A &&& BitVec.ofInt IntKind.u64.bits 16777215).toNat, ?_, ?_⟩
  · rw [BitVec.toNat_and]
    exact Nat.le_trans Nat.and_le_right (by decide)
  · have h : (A &&& BitVec.ofInt IntKind.u64.bits 16777215).toNat ≤ 16777215 := by
      rw [BitVec.toNat_and]
      exact Nat.le_trans Nat.and_le_right (by decide)
    generalize (A &&& BitVec.ofInt IntKind.u64.bits 16777215).toNat = q at *
    simp [IntKind.wrap, IntKind.signed, IntKind.bits]
    omega
theorem map_u8 {l : List Int} {i : Nat} (h : i < l.length) : (l.map (V.int .u8)).getD i .und = .int .u8 (gi l i) := by simp [List.getD, gi, h]
theorem okB_gi {l : List Int} (h : okB l) {i : Nat} (hi : i < l.length) : 0 ≤ gi l i ∧ gi l i ≤ 255 := by
  apply h.2
  rw [gi, List.getD, List.getElem?_eq_getElem hi]; exact List.getElem_mem hi
theorem c_spec_l01Next {x : Value} {l : List Int} {a z n : Int} (hs : okS l a) (hn : n ≤ 2000000000) : PSpecM Tryd.prog 39 [.ptr 0 0, .int .i64 n] [(0, 67, 1)] [srcC x l a z] fun v c =>
    ∃ r a' h', v = .int .i64 r ∧ c = [srcC x l a' h'] ∧ okS l a' ∧ (0 ≤ r ∧ (r < n ∨ r = 0)) := by
  refine spec_l01Next_f.m rfl rfl ?_
  unfold srcC
  obtain ⟨hB, ha1, ha2⟩ := hs
  simp (disch := first | omega | (simp only [List.length_append, List.length_cons, List.length_nil, List.length_replicate, List.length_set, List.length_take, List.length_drop, vi_len, vb_len, vo_len, vl_len, vn_len]; omega)) only [↓EC, EV, EL, E2, E3, ER, seval, ↓reduceIte, false_imp_iff, spec_l01Next_F]
  (refine Split.mk (fun h => ?_) (fun h => ?_) <;> (try simp only [decide_eq_true_eq, decide_eq_false_iff_not, beq_iff_eq, bne_iff_ne, beq_eq_false_iff_ne, bne_eq_false_iff_eq, Bool.not_eq_true', Bool.not_eq_false', Bool.and_eq_true, Bool.or_eq_true, Bool.and_eq_false_iff, Bool.or_eq_false_iff, Int.not_lt, Int.not_le, Bool.false_eq_true, Bool.true_eq_false, false_and, and_false, true_and, and_true, or_false, false_or, or_true, true_or, not_true_eq_false, not_false_eq_true] at h))
  · exact ⟨0, a, z, rfl, rfl, ⟨hB, ha1, ha2⟩, by omega, .inr rfl⟩
  · generalize IntKind.u64.wrap (IntKind.u64.wrap (z * 6364136223846793005) + 1442695040888963407) = hh
    obtain ⟨q, hq, e⟩ := and24 (BitVec.ofInt IntKind.u64.bits (hh.fdiv (2 ^ Nat.min 33 IntKind.u64.bits)))
    rw [e]
    have m0 : ∀ y : Int, 0 ≤ y → 0 ≤ y.tmod n ∧ (y.tmod n < n ∨ y.tmod n = 0) := fun y hy => ⟨Int.tmod_nonneg _ hy, .inl (Int.tmod_lt_of_pos _ (by omega))⟩
    (try simp (disch := first | omega | (simp only [List.length_append, List.length_cons, List.length_nil, List.length_replicate, List.length_set, List.length_take, List.length_drop, vi_len, vb_len, vo_len, vl_len, vn_len]; omega)) only [↓EC, EV, EL, E2, E3, ER, seval, ↓reduceIte, false_imp_iff])
    (refine Split.mk (fun h => ?_) (fun h => ?_) <;> (try simp only [decide_eq_true_eq, decide_eq_false_iff_not, beq_iff_eq, bne_iff_ne, beq_eq_false_iff_ne, bne_eq_false_iff_eq, Bool.not_eq_true', Bool.not_eq_false', Bool.and_eq_true, Bool.or_eq_true, Bool.and_eq_false_iff, Bool.or_eq_false_iff, Int.not_lt, Int.not_le, Bool.false_eq_true, Bool.true_eq_false, false_and, and_false, true_and, and_true, or_false, false_or, or_true, true_or, not_true_eq_false, not_false_eq_true] at h))
    · have hB1 := hB.1
      have hlt : a.toNat < l.length := by omega
      have hg := okB_gi hB hlt
      (try simp (disch := first | omega | (simp only [List.length_append, List.length_cons, List.length_nil, List.length_replicate, List.length_set, List.length_take, List.length_drop, vi_len, vb_len, vo_len, vl_len, vn_len]; omega)) only [↓EC, EV, EL, E2, E3, ER, seval, ↓reduceIte, false_imp_iff, map_u8 hlt])
      have := m0 (q + gi l a.toNat) (by omega)
      exact ⟨by simpa using hlt, _, a + 1, hh, rfl, rfl, ⟨hB, by omega, by omega⟩, this⟩
    · have := m0 q (by omega)
      exact ⟨_, a, hh, rfl, rfl, ⟨hB, ha1, ha2⟩, this⟩
theorem c_spec_l01Pick {x : Value} {l m : List Int} {a z : Int} (hs : okS l a) (h0 : 0 < m.length) (hn : m.length ≤ 1000) : PSpecM Tryd.prog 40 [.ptr 0 0, .sl m.length (vi .i64 m)] [(0, 67, 1)] [srcC x l a z] fun v c =>
    ∃ y a' z', y ∈ m ∧ v = .int .i64 y ∧ c = [srcC x l a' z'] ∧ okS l a' := by
  refine spec_l01Pick_f.m rfl rfl ?_
  have hnx := c_spec_l01Next (x := x) (z := z) hs (n := m.length) (by omega)
  unfold srcC at hnx ⊢
  simp (disch := first | omega | (simp only [List.length_append, List.length_cons, List.length_nil, List.length_replicate, List.length_set, List.length_take, List.length_drop, vi_len, vb_len, vo_len, vl_len, vn_len]; omega)) only [↓EC, EV, EL, E2, E3, ER, seval, ↓reduceIte, false_imp_iff, spec_l01Pick_F]
  refine pcm [0] rfl ?_
  (try simp (disch := first | omega | (simp only [List.length_append, List.length_cons, List.length_nil, List.length_replicate, List.length_set, List.length_take, List.length_drop, vi_len, vb_len, vo_len, vl_len, vn_len]; omega)) only [↓EC, EV, EL, E2, E3, ER, seval, ↓reduceIte, false_imp_iff])
  refine callM_d hnx ?_
  rintro v c ⟨r, a', z', rfl, rfl, hs', hr⟩
  (try simp (disch := first | omega | (simp only [List.length_append, List.length_cons, List.length_nil, List.length_replicate, List.length_set, List.length_take, List.length_drop, vi_len, vb_len, vo_len, vl_len, vn_len]; omega)) only [↓EC, EV, EL, E2, E3, ER, seval, ↓reduceIte, false_imp_iff])
  refine ⟨gi m r.toNat, a', z', ?_, rfl, rfl, hs'⟩
  rw [gi, List.getD, List.getElem?_eq_getElem (by omega)]; exact List.getElem_mem _
theorem finB_src {x : Value} {l : List Int} {z : Int} : FINB [.fz x l] (hput hnil 75 (Slot.row 67 1 [.fz x l, .int .i64 0, .int .u64 z])) (fun e c => e = 67 ∧ ∃ z, c = [.fz x l, .int .i64 0, .int .u64 z]) (.ptr 75 0) := by
  simp only [FINB, hput, ↓reduceIte]
  refine ⟨?_, trivial, z, rfl⟩
  intro v hv
  simp only [List.mem_cons, List.not_mem_nil, or_false] at hv
  rcases hv with rfl | rfl | rfl
  · exact .inr ⟨x, l, rfl, by simp⟩
  · exact .inl ⟨by simp [clo], rfl⟩
  · exact .inl ⟨by simp [clo], rfl⟩
theorem c_spec_l01From {x : Value} {l : List Int} (hB : okB l) : PSpecB Tryd.prog 25 [.fz x l] fun e c => e = 67 ∧ ∃ z, c = srcC x l 0 z := by
  refine spec_l01From_f.b ?_
  unfold srcC
  simp (disch := first | omega | (simp only [List.length_append, List.length_cons, List.length_nil, List.length_replicate, List.length_set, List.length_take, List.length_drop, vi_len, vb_len, vo_len, vl_len, vn_len]; omega)) only [↓EC, EV, EL, E2, E3, ER, seval, ↓reduceIte, false_imp_iff, spec_l01From_F]
  refine LP_of (σ := Nat × Int) 100000 [(75, 67, 1)] (fun s => [.int .i64 s.1]) (fun s => [[.fz x l, .int .i64 0, .int .u64 s.2]]) (fun s => s.1 ≤ l.length) (fun s => l.length - s.1) (0, IntKind.u64.wrap (8117 + IntKind.u64.wrap l.length)) (by simp [frameOk, names, lpz, sclp, scv, scvs, vi_nrf, vb_nrf, vt_nrf, v2_nrf, v3_nrf, nrfs, nrf, sc_vi, sc_vb, sc_vt, sc_v2, sc_v3, sc_vo, sc_vl, vo_nrf, vl_nrf, sc_vn, vn_nrf]) (Nat.zero_le _) ?_ ?_
  · simp (disch := first | omega | (simp only [List.length_append, List.length_cons, List.length_nil, List.length_replicate, List.length_set, List.length_take, List.length_drop, vi_len, vb_len, vo_len, vl_len, vn_len]; omega)) only [↓EC, EV, EL, E2, E3, ER, seval, ↓reduceIte, false_imp_iff, ColV_def]
  · rintro ⟨i, z⟩ h1
    simp only at h1
    have hB1 := hB.1
    simp (disch := first | omega | (simp only [List.length_append, List.length_cons, List.length_nil, List.length_replicate, List.length_set, List.length_take, List.length_drop, vi_len, vb_len, vo_len, vl_len, vn_len]; omega)) only [↓EC, EV, EL, E2, E3, ER, seval, ↓reduceIte, false_imp_iff, ColV_def, lheap_def]
    (refine Split.mk (fun h => ?_) (fun h => ?_) <;> (try simp only [decide_eq_true_eq, decide_eq_false_iff_not, beq_iff_eq, bne_iff_ne, beq_eq_false_iff_ne, bne_eq_false_iff_eq, Bool.not_eq_true', Bool.not_eq_false', Bool.and_eq_true, Bool.or_eq_true, Bool.and_eq_false_iff, Bool.or_eq_false_iff, Int.not_lt, Int.not_le, Bool.false_eq_true, Bool.true_eq_false, false_and, and_false, true_and, and_true, or_false, false_or, or_true, true_or, not_true_eq_false, not_false_eq_true] at h))
    · have hlt : i < l.length := by omega
      (try simp (disch := first | omega | (simp only [List.length_append, List.length_cons, List.length_nil, List.length_replicate, List.length_set, List.length_take, List.length_drop, vi_len, vb_len, vo_len, vl_len, vn_len]; omega)) only [↓EC, EV, EL, E2, E3, ER, seval, ↓reduceIte, false_imp_iff, map_u8 hlt])
      (refine Split.mk (fun h => ?_) (fun h => ?_) <;> (try simp only [decide_eq_true_eq, decide_eq_false_iff_not, beq_iff_eq, bne_iff_ne, beq_eq_false_iff_ne, bne_eq_false_iff_eq, Bool.not_eq_true', Bool.not_eq_false', Bool.and_eq_true, Bool.or_eq_true, Bool.and_eq_false_iff, Bool.or_eq_false_iff, Int.not_lt, Int.not_le, Bool.false_eq_true, Bool.true_eq_false, false_and, and_false, true_and, and_true, or_false, false_or, or_true, true_or, not_true_eq_false, not_false_eq_true] at h))
      · (try simp (disch := first | omega | (simp only [List.length_append, List.length_cons, List.length_nil, List.length_replicate, List.length_set, List.length_take, List.length_drop, vi_len, vb_len, vo_len, vl_len, vn_len]; omega)) only [↓EC, EV, EL, E2, E3, ER, seval, ↓reduceIte, false_imp_iff])
        exact ⟨by simpa using hlt, (i + 1, _), rfl, rfl, by simp only; omega, by simp only; omega⟩
      · exact finB_src
    · exact finB_src
end Go.Proofs.YtjklebickfcddaaDoor.Sep

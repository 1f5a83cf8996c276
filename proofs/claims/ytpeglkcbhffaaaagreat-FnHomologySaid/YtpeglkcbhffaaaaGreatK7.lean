/- Texts put together: C92, C93, C94, C107. -/
import Derived.Test.YtpeglkcbhffaaaaGreatK6
namespace Go.Proofs.YtpeglkcbhffaaaaGreat.Sep
open Go.RowKit
set_option linter.unusedVariables false
set_option linter.unusedSimpArgs false
set_option maxRecDepth 20000
section
set_option maxHeartbeats 4000000
def kp (n : Nat) (c : List (List V)) : Prop := ∃ m : List Int, c = [vi .i64 m] ∧ m.length = n
theorem c_insertionSortN {l : List Int} {n : Nat} {a b : Int} (hn : l.length = n) (h0 : 0 ≤ a ∧ a ≤ 1000) (hb : b ≤ n) (hl : n ≤ 1000) : PSpecM Tryz.prog 92 [.rf 0 0 n, .int .i64 a, .int .i64 b] [(0, 2, 1)] [vi .i64 l] fun v c => v = .tup [] ∧ kp n c := by
  refine slices_insertionSortOrdered_int64_f.m rfl rfl ?_
  dsimp only [slices_insertionSortOrdered_int64_F, pcal_B, pcalp_B, pcala_B, pcond_B, pgk_B, JN_B, LP_B]
  (refine bni ?_; repeat (refine bnk ?_; (try simp (disch := first | omega | (simp only [LN]; omega)) only [↓EC, EW, seval, ↓reduceIte, ↓EBD, EBE])))
  refine LPx_of (σ := List Int × Int) 100000 [(0, 2, 1)] (fun s => [.int .i64 s.2]) (fun s => [vi .i64 s.1])
    (fun s => s.1.length = n ∧ a + 1 ≤ s.2) (fun s => (b - s.2).toNat) (l, a + 1) (by simp [frameOk, names, lpz, sclp, scv, scvs, nrfs, nrf, FRB]) ⟨hn, Int.le_refl _⟩ ?_ ?_
  · (refine bni ?_; repeat (refine bnk ?_; simp (disch := first | omega | (simp only [LN]; omega)) only [↓EC, EW, seval, ↓reduceIte, ↓EBD, EBE, ColV_def]))
  · rintro ⟨m, i⟩ ⟨h1, h2⟩
    simp only at h1 h2
    (refine bni ?_; repeat (refine bnk ?_; simp (disch := first | omega | (simp only [LN]; omega)) only [↓EC, EW, seval, ↓reduceIte, ↓EBD, EBE, ColV_def, lheap_def]))
    (refine Split.mkB (fun h => ?_) (fun h => ?_) <;> (try simp only [SD] at h))
    · (refine bni ?_; repeat (refine bnk ?_; (try simp (disch := first | omega | (simp only [LN]; omega)) only [↓EC, EW, seval, ↓reduceIte, ↓EBD, EBE])))
      refine LPx_of (σ := List Int × Int) 200000 [(0, 2, 1)] (fun s => [.int .i64 s.2]) (fun s => [vi .i64 s.1])
        (fun s => s.1.length = n ∧ a ≤ s.2 ∧ s.2 ≤ i) (fun s => s.2.toNat) (m, i) (by simp [frameOk, names, lpz, sclp, scv, scvs, nrfs, nrf, FRB]) ⟨h1, by simp only; omega, Int.le_refl _⟩ ?_ ?_
      · (refine bni ?_; repeat (refine bnk ?_; simp (disch := first | omega | (simp only [LN]; omega)) only [↓EC, EW, seval, ↓reduceIte, ↓EBD, EBE, ColV_def]))
      · rintro ⟨m, j⟩ ⟨h3, h4, h5⟩
        simp only at h3 h4 h5
        (refine bni ?_; repeat (refine bnk ?_; simp (disch := first | omega | (simp only [LN]; omega)) only [↓EC, EW, seval, ↓reduceIte, ↓EBD, EBE, ColV_def, lheap_def]))
        (refine Split.mkB (fun h => ?_) (fun h => ?_) <;> (try simp only [SD] at h))
        · (refine bni ?_; repeat (refine bnk ?_; (try simp (disch := first | omega | (simp only [LN]; omega)) only [↓EC, EW, seval, ↓reduceIte, ↓EBD, EBE])))
          refine pcd_v c_less ?_
          (refine bni ?_; repeat (refine bnk ?_; (try simp (disch := first | omega | (simp only [LN]; omega)) only [↓EC, EW, seval, ↓reduceIte, ↓EBD, EBE])))
          (refine Split.mkB (fun h => ?_) (fun h => ?_) <;> (try simp only [SD] at h))
          · (refine bni ?_; repeat (refine bnk ?_; (try simp (disch := first | omega | (simp only [LN]; omega)) only [↓EC, EW, seval, ↓reduceIte, ↓EBD, EBE])))
            exact ⟨(_, j - 1), rfl, rfl, ⟨by simp [h3], by simp only; omega, by simp only; omega⟩, by simp only; omega⟩
          · (refine bni ?_; repeat (refine bnk ?_; (try simp (disch := first | omega | (simp only [LN]; omega)) only [↓EC, EW, seval, ↓reduceIte, ↓EBD, EBE])))
            exact ⟨(m, i + 1), rfl, rfl, ⟨h3, by simp only; omega⟩, by simp only; omega⟩
        · (refine bni ?_; repeat (refine bnk ?_; (try simp (disch := first | omega | (simp only [LN]; omega)) only [↓EC, EW, seval, ↓reduceIte, ↓EBD, EBE])))
          exact ⟨(m, i + 1), rfl, rfl, ⟨h3, by simp only; omega⟩, by simp only; omega⟩
    · (refine bni ?_; repeat (refine bnk ?_; (try simp (disch := first | omega | (simp only [LN]; omega)) only [↓EC, EW, seval, ↓reduceIte, ↓EBD, EBE])))
      exact ⟨m, rfl, h1⟩
theorem c_siftDown {l : List Int} {n : Nat} {lo hi f : Int} (hn : l.length = n) (h0 : 0 ≤ lo ∧ lo ≤ 1000) (hf : 0 ≤ f) (hh : f + hi ≤ n) (hl : n ≤ 1000) : PSpecM Tryz.prog 103 [.rf 0 0 n, .int .i64 lo, .int .i64 hi, .int .i64 f] [(0, 2, 1)] [vi .i64 l] fun v c => v = .tup [] ∧ kp n c := by
  refine slices_siftDownOrdered_int64_f.m rfl rfl ?_
  dsimp only [slices_siftDownOrdered_int64_F, pcal_B, pcalp_B, pcala_B, pcond_B, pgk_B, JN_B, LP_B]
  (refine bni ?_; repeat (refine bnk ?_; (try simp (disch := first | omega | (simp only [LN]; omega)) only [↓EC, EW, seval, ↓reduceIte, ↓EBD, EBE])))
  refine LPx_of (σ := List Int × Int) 100000 [(0, 2, 1)] (fun s => [.int .i64 s.2]) (fun s => [vi .i64 s.1])
    (fun s => s.1.length = n ∧ 0 ≤ s.2 ∧ s.2 ≤ 1000) (fun s => (1000 - s.2).toNat) (l, lo) (by simp [frameOk, names, lpz, sclp, scv, scvs, nrfs, nrf, FRB]) ⟨hn, h0⟩ ?_ ?_
  · (refine bni ?_; repeat (refine bnk ?_; simp (disch := first | omega | (simp only [LN]; omega)) only [↓EC, EW, seval, ↓reduceIte, ↓EBD, EBE, ColV_def]))
  · rintro ⟨m, r⟩ ⟨h1, h2, h3⟩
    simp only at h1 h2 h3
    (refine bni ?_; repeat (refine bnk ?_; simp (disch := first | omega | (simp only [LN]; omega)) only [↓EC, EW, seval, ↓reduceIte, ↓EBD, EBE, ColV_def, lheap_def]))
    (refine Split.mkB (fun h => ?_) (fun h => ?_) <;> (try simp only [SD] at h))
    · (refine bni ?_; repeat (refine bnk ?_; (try simp (disch := first | omega | (simp only [LN]; omega)) only [↓EC, EW, seval, ↓reduceIte, ↓EBD, EBE])))
      exact ⟨m, rfl, h1⟩
    · (refine bni ?_; repeat (refine bnk ?_; (try simp (disch := first | omega | (simp only [LN]; omega)) only [↓EC, EW, seval, ↓reduceIte, ↓EBD, EBE])))
      refine JNx_un ?_
      (refine bni ?_; repeat (refine bnk ?_; (try simp (disch := first | omega | (simp only [LN]; omega)) only [↓EC, EW, seval, ↓reduceIte, ↓EBD, EBE])))
      (refine Split.mkB (fun h => ?_) (fun h => ?_) <;> (try simp only [SD] at h))
      · (refine bni ?_; repeat (refine bnk ?_; (try simp (disch := first | omega | (simp only [LN]; omega)) only [↓EC, EW, seval, ↓reduceIte, ↓EBD, EBE])))
        refine pcd_v c_less ?_
        (refine bni ?_; repeat (refine bnk ?_; (try simp (disch := first | omega | (simp only [LN]; omega)) only [↓EC, EW, seval, ↓reduceIte, ↓EBD, EBE])))
        (refine Split.mkB (fun h => ?_) (fun h => ?_) <;> (try simp only [SD] at h))
        · (refine bni ?_; repeat (refine bnk ?_; (try simp (disch := first | omega | (simp only [LN]; omega)) only [↓EC, EW, seval, ↓reduceIte, ↓EBD, EBE])))
          refine pcd_v c_less ?_
          (refine bni ?_; repeat (refine bnk ?_; (try simp (disch := first | omega | (simp only [LN]; omega)) only [↓EC, EW, seval, ↓reduceIte, ↓EBD, EBE])))
          (refine Split.mkB (fun h => ?_) (fun h => ?_) <;> (try simp only [SD] at h))
          · (refine bni ?_; repeat (refine bnk ?_; (try simp (disch := first | omega | (simp only [LN]; omega)) only [↓EC, EW, seval, ↓reduceIte, ↓EBD, EBE])))
            exact ⟨m, rfl, h1⟩
          · (refine bni ?_; repeat (refine bnk ?_; (try simp (disch := first | omega | (simp only [LN]; omega)) only [↓EC, EW, seval, ↓reduceIte, ↓EBD, EBE])))
            exact ⟨(_, 2 * r + 1 + 1), rfl, rfl, ⟨by simp [h1], by simp only; omega, by simp only; omega⟩, by simp only; omega⟩
        · (refine bni ?_; repeat (refine bnk ?_; (try simp (disch := first | omega | (simp only [LN]; omega)) only [↓EC, EW, seval, ↓reduceIte, ↓EBD, EBE])))
          refine pcd_v c_less ?_
          (refine bni ?_; repeat (refine bnk ?_; (try simp (disch := first | omega | (simp only [LN]; omega)) only [↓EC, EW, seval, ↓reduceIte, ↓EBD, EBE])))
          (refine Split.mkB (fun h => ?_) (fun h => ?_) <;> (try simp only [SD] at h))
          · (refine bni ?_; repeat (refine bnk ?_; (try simp (disch := first | omega | (simp only [LN]; omega)) only [↓EC, EW, seval, ↓reduceIte, ↓EBD, EBE])))
            exact ⟨m, rfl, h1⟩
          · (refine bni ?_; repeat (refine bnk ?_; (try simp (disch := first | omega | (simp only [LN]; omega)) only [↓EC, EW, seval, ↓reduceIte, ↓EBD, EBE])))
            exact ⟨(_, 2 * r + 1), rfl, rfl, ⟨by simp [h1], by simp only; omega, by simp only; omega⟩, by simp only; omega⟩
      · (refine bni ?_; repeat (refine bnk ?_; (try simp (disch := first | omega | (simp only [LN]; omega)) only [↓EC, EW, seval, ↓reduceIte, ↓EBD, EBE])))
        refine pcd_v c_less ?_
        (refine bni ?_; repeat (refine bnk ?_; (try simp (disch := first | omega | (simp only [LN]; omega)) only [↓EC, EW, seval, ↓reduceIte, ↓EBD, EBE])))
        (refine Split.mkB (fun h => ?_) (fun h => ?_) <;> (try simp only [SD] at h))
        · (refine bni ?_; repeat (refine bnk ?_; (try simp (disch := first | omega | (simp only [LN]; omega)) only [↓EC, EW, seval, ↓reduceIte, ↓EBD, EBE])))
          exact ⟨m, rfl, h1⟩
        · (refine bni ?_; repeat (refine bnk ?_; (try simp (disch := first | omega | (simp only [LN]; omega)) only [↓EC, EW, seval, ↓reduceIte, ↓EBD, EBE])))
          exact ⟨(_, 2 * r + 1), rfl, rfl, ⟨by simp [h1], by simp only; omega, by simp only; omega⟩, by simp only; omega⟩
theorem c_heapSort {l : List Int} {n : Nat} {a b : Int} (hn : l.length = n) (h0 : 0 ≤ a) (hab : a ≤ b) (hb : b ≤ n) (hl : n ≤ 1000) : PSpecM Tryz.prog 93 [.rf 0 0 n, .int .i64 a, .int .i64 b] [(0, 2, 1)] [vi .i64 l] fun v c => v = .tup [] ∧ kp n c := by
  refine slices_heapSortOrdered_int64_f.m rfl rfl ?_
  dsimp only [slices_heapSortOrdered_int64_F, pcal_B, pcalp_B, pcala_B, pcond_B, pgk_B, JN_B, LP_B]
  (refine bni ?_; repeat (refine bnk ?_; (try simp (disch := first | omega | (simp only [LN]; omega)) only [↓EC, EW, seval, ↓reduceIte, ↓EBD, EBE])))
  have hd : -1 ≤ (b - a - 1).tdiv 2 ∧ (b - a - 1).tdiv 2 ≤ 1000 := by
    by_cases h : b - a - 1 < 0
    · have : b - a - 1 = -1 := by omega
      rw [this]; decide
    · have h1 := Int.tdiv_nonneg (a := b - a - 1) (b := 2) (by omega) (by omega)
      have h2 := Int.tdiv_le_self (a := b - a - 1) 2 (by omega)
      omega
  generalize (b - a - 1).tdiv 2 = d at *
  refine LPx_of (σ := List Int × Int) 100000 [(0, 2, 1)] (fun s => [.int .i64 s.2]) (fun s => [vi .i64 s.1])
    (fun s => s.1.length = n ∧ -1 ≤ s.2 ∧ s.2 ≤ 1000) (fun s => (s.2 + 1).toNat) (l, d) (by simp [frameOk, names, lpz, sclp, scv, scvs, nrfs, nrf, FRB]) ⟨hn, hd⟩ ?_ ?_
  · (refine bni ?_; repeat (refine bnk ?_; simp (disch := first | omega | (simp only [LN]; omega)) only [↓EC, EW, seval, ↓reduceIte, ↓EBD, EBE, ColV_def]))
  · rintro ⟨m, i⟩ ⟨h1, h2, h3⟩
    simp only at h1 h2 h3
    (refine bni ?_; repeat (refine bnk ?_; simp (disch := first | omega | (simp only [LN]; omega)) only [↓EC, EW, seval, ↓reduceIte, ↓EBD, EBE, ColV_def, lheap_def]))
    (refine Split.mkB (fun h => ?_) (fun h => ?_) <;> (try simp only [SD] at h))
    · (refine bni ?_; repeat (refine bnk ?_; (try simp (disch := first | omega | (simp only [LN]; omega)) only [↓EC, EW, seval, ↓reduceIte, ↓EBD, EBE])))
      refine pcm [0] rfl ?_
      (refine bni ?_; repeat (refine bnk ?_; (try simp (disch := first | omega | (simp only [LN]; omega)) only [↓EC, EW, seval, ↓reduceIte, ↓EBD, EBE])))
      refine callM_d (c_siftDown (l := m) (lo := i) (hi := b - a) (f := a) h1 (by omega) h0 (by omega) (by omega)) ?_
      rintro _ _ ⟨rfl, m', rfl, hm'⟩
      (refine bni ?_; repeat (refine bnk ?_; (try simp (disch := first | omega | (simp only [LN]; omega)) only [↓EC, EW, seval, ↓reduceIte, ↓EBD, EBE])))
      exact ⟨(m', i - 1), rfl, rfl, ⟨by simp only; omega, by simp only; omega⟩, by simp only; omega⟩
    · (refine bni ?_; repeat (refine bnk ?_; (try simp (disch := first | omega | (simp only [LN]; omega)) only [↓EC, EW, seval, ↓reduceIte, ↓EBD, EBE])))
      refine LPx_of (σ := List Int × Int) 200000 [(0, 2, 1)] (fun s => [.int .i64 s.2]) (fun s => [vi .i64 s.1])
        (fun s => s.1.length = n ∧ -1 ≤ s.2 ∧ s.2 ≤ b - a - 1) (fun s => (s.2 + 1).toNat) (m, b - a - 1) (by simp [frameOk, names, lpz, sclp, scv, scvs, nrfs, nrf, FRB]) ⟨h1, by simp only; omega⟩ ?_ ?_
      · (refine bni ?_; repeat (refine bnk ?_; simp (disch := first | omega | (simp only [LN]; omega)) only [↓EC, EW, seval, ↓reduceIte, ↓EBD, EBE, ColV_def]))
      · rintro ⟨m, i⟩ ⟨h1, h2, h3⟩
        simp only at h1 h2 h3
        (refine bni ?_; repeat (refine bnk ?_; simp (disch := first | omega | (simp only [LN]; omega)) only [↓EC, EW, seval, ↓reduceIte, ↓EBD, EBE, ColV_def, lheap_def]))
        (refine Split.mkB (fun h => ?_) (fun h => ?_) <;> (try simp only [SD] at h))
        · (refine bni ?_; repeat (refine bnk ?_; (try simp (disch := first | omega | (simp only [LN]; omega)) only [↓EC, EW, seval, ↓reduceIte, ↓EBD, EBE])))
          refine pcm [0] rfl ?_
          (refine bni ?_; repeat (refine bnk ?_; (try simp (disch := first | omega | (simp only [LN]; omega)) only [↓EC, EW, seval, ↓reduceIte, ↓EBD, EBE])))
          refine callM_d (c_siftDown (lo := 0) (hi := i) (f := a) (by simp [h1]) (by omega) h0 (by omega) (by omega)) ?_
          rintro _ _ ⟨rfl, m', rfl, hm'⟩
          (refine bni ?_; repeat (refine bnk ?_; (try simp (disch := first | omega | (simp only [LN]; omega)) only [↓EC, EW, seval, ↓reduceIte, ↓EBD, EBE])))
          exact ⟨(m', i - 1), rfl, rfl, ⟨by simp only; omega, by simp only; omega⟩, by simp only; omega⟩
        · (refine bni ?_; repeat (refine bnk ?_; (try simp (disch := first | omega | (simp only [LN]; omega)) only [↓EC, EW, seval, ↓reduceIte, ↓EBD, EBE])))
          exact ⟨m, rfl, h1⟩
theorem c_reverseRange {l : List Int} {n : Nat} {a b : Int} (hn : l.length = n) (h0 : 0 ≤ a ∧ a ≤ 1000) (hb : 0 ≤ b ∧ b ≤ n) (hl : n ≤ 1000) : PSpecM Tryz.prog 96 [.rf 0 0 n, .int .i64 a, .int .i64 b] [(0, 2, 1)] [vi .i64 l] fun v c => v = .tup [] ∧ kp n c := by
  refine slices_reverseRangeOrdered_int64_f.m rfl rfl ?_
  dsimp only [slices_reverseRangeOrdered_int64_F, pcal_B, pcalp_B, pcala_B, pcond_B, pgk_B, JN_B, LP_B]
  (refine bni ?_; repeat (refine bnk ?_; (try simp (disch := first | omega | (simp only [LN]; omega)) only [↓EC, EW, seval, ↓reduceIte, ↓EBD, EBE])))
  refine LPx_of (σ := List Int × Int × Int) 100000 [(0, 2, 1)] (fun s => [.int .i64 s.2.1, .int .i64 s.2.2]) (fun s => [vi .i64 s.1])
    (fun s => s.1.length = n ∧ 0 ≤ s.2.1 ∧ s.2.2 ≤ b - 1 ∧ -1 ≤ s.2.2 ∧ s.2.1 ≤ 1001) (fun s => (s.2.2 + 1).toNat) (l, a, b - 1) (by simp [frameOk, names, lpz, sclp, scv, scvs, nrfs, nrf, FRB]) ⟨hn, by simp only; omega⟩ ?_ ?_
  · (refine bni ?_; repeat (refine bnk ?_; simp (disch := first | omega | (simp only [LN]; omega)) only [↓EC, EW, seval, ↓reduceIte, ↓EBD, EBE, ColV_def]))
  · rintro ⟨m, i, j⟩ ⟨h1, h2, h3, h4, h5⟩
    simp only at h1 h2 h3 h4 h5
    (refine bni ?_; repeat (refine bnk ?_; simp (disch := first | omega | (simp only [LN]; omega)) only [↓EC, EW, seval, ↓reduceIte, ↓EBD, EBE, ColV_def, lheap_def]))
    (refine Split.mkB (fun h => ?_) (fun h => ?_) <;> (try simp only [SD] at h))
    · (refine bni ?_; repeat (refine bnk ?_; (try simp (disch := first | omega | (simp only [LN]; omega)) only [↓EC, EW, seval, ↓reduceIte, ↓EBD, EBE])))
      exact ⟨(_, i + 1, j - 1), rfl, rfl, ⟨by simp [h1], by simp only; omega⟩, by simp only; omega⟩
    · (refine bni ?_; repeat (refine bnk ?_; (try simp (disch := first | omega | (simp only [LN]; omega)) only [↓EC, EW, seval, ↓reduceIte, ↓EBD, EBE])))
      exact ⟨m, rfl, h1⟩
theorem c_order2 {l : List Int} {n : Nat} {a b k : Int} (hn : l.length = n) (h0 : 0 ≤ a ∧ a < n) (hb : 0 ≤ b ∧ b < n) (hk : 0 ≤ k ∧ k ≤ 1000) : PSpecM Tryz.prog 109 [.sl n (vi .i64 l), .int .i64 a, .int .i64 b, .ptr 0 0] [(0, 3, 1)] [[.int .i64 k]] fun v c =>
    ∃ x y k', v = .tup [.int .i64 x, .int .i64 y] ∧ (x = a ∨ x = b) ∧ (y = a ∨ y = b) ∧ c = [[.int .i64 k']] ∧ k ≤ k' ∧ k' ≤ k + 1 := by
  refine slices_order2Ordered_int64_f.m rfl rfl ?_
  dsimp only [slices_order2Ordered_int64_F, pcal_B, pcalp_B, pcala_B, pcond_B, pgk_B, JN_B, LP_B]
  (refine bni ?_; repeat (refine bnk ?_; (try simp (disch := first | omega | (simp only [LN]; omega)) only [↓EC, EW, seval, ↓reduceIte, ↓EBD, EBE])))
  refine pcd_v c_less ?_
  (refine bni ?_; repeat (refine bnk ?_; (try simp (disch := first | omega | (simp only [LN]; omega)) only [↓EC, EW, seval, ↓reduceIte, ↓EBD, EBE])))
  (refine Split.mkB (fun h => ?_) (fun h => ?_) <;> (try simp only [SD] at h))
  · (refine bni ?_; repeat (refine bnk ?_; (try simp (disch := first | omega | (simp only [LN]; omega)) only [↓EC, EW, seval, ↓reduceIte, ↓EBD, EBE])))
    exact ⟨b, a, k + 1, rfl, .inr rfl, .inl rfl, rfl, by omega, by omega⟩
  · (refine bni ?_; repeat (refine bnk ?_; (try simp (disch := first | omega | (simp only [LN]; omega)) only [↓EC, EW, seval, ↓reduceIte, ↓EBD, EBE])))
    exact ⟨a, b, k, rfl, .inl rfl, .inr rfl, rfl, by omega, by omega⟩
theorem c_median {l : List Int} {n : Nat} {a b d k : Int} (hn : l.length = n) (h0 : 0 ≤ a ∧ a < n) (hb : 0 ≤ b ∧ b < n) (hd : 0 ≤ d ∧ d < n) (hk : 0 ≤ k ∧ k ≤ 900) : PSpecM Tryz.prog 107 [.sl n (vi .i64 l), .int .i64 a, .int .i64 b, .int .i64 d, .ptr 0 0] [(0, 3, 1)] [[.int .i64 k]] fun v c =>
    ∃ x k', v = .int .i64 x ∧ (x = a ∨ x = b ∨ x = d) ∧ c = [[.int .i64 k']] ∧ k ≤ k' ∧ k' ≤ k + 3 := by
  refine slices_medianOrdered_int64_f.m rfl rfl ?_
  dsimp only [slices_medianOrdered_int64_F, pcal_B, pcalp_B, pcala_B, pcond_B, pgk_B, JN_B, LP_B]
  (refine bni ?_; repeat (refine bnk ?_; (try simp (disch := first | omega | (simp only [LN]; omega)) only [↓EC, EW, seval, ↓reduceIte, ↓EBD, EBE])))
  refine pcm [0] rfl ?_; (refine bni ?_; repeat (refine bnk ?_; (try simp (disch := first | omega | (simp only [LN]; omega)) only [↓EC, EW, seval, ↓reduceIte, ↓EBD, EBE])))
  refine callM_d (c_order2 (a := a) (b := b) (k := k) hn h0 hb (by omega)) ?_
  rintro _ _ ⟨x1, y1, k1, rfl, hx1, hy1, rfl, hk1, hk1'⟩
  (refine bni ?_; repeat (refine bnk ?_; (try simp (disch := first | omega | (simp only [LN]; omega)) only [↓EC, EW, seval, ↓reduceIte, ↓EBD, EBE])))
  refine pcm [0] rfl ?_; (refine bni ?_; repeat (refine bnk ?_; (try simp (disch := first | omega | (simp only [LN]; omega)) only [↓EC, EW, seval, ↓reduceIte, ↓EBD, EBE])))
  refine callM_d (c_order2 (a := y1) (b := d) (k := k1) hn (by omega) hd (by omega)) ?_
  rintro _ _ ⟨x2, y2, k2, rfl, hx2, hy2, rfl, hk2, hk2'⟩
  (refine bni ?_; repeat (refine bnk ?_; (try simp (disch := first | omega | (simp only [LN]; omega)) only [↓EC, EW, seval, ↓reduceIte, ↓EBD, EBE])))
  refine pcm [0] rfl ?_; (refine bni ?_; repeat (refine bnk ?_; (try simp (disch := first | omega | (simp only [LN]; omega)) only [↓EC, EW, seval, ↓reduceIte, ↓EBD, EBE])))
  refine callM_d (c_order2 (a := x1) (b := x2) (k := k2) hn (by omega) (by omega) (by omega)) ?_
  rintro _ _ ⟨x3, y3, k3, rfl, hx3, hy3, rfl, hk3, hk3'⟩
  (refine bni ?_; repeat (refine bnk ?_; (try simp (disch := first | omega | (simp only [LN]; omega)) only [↓EC, EW, seval, ↓reduceIte, ↓EBD, EBE])))
  exact ⟨y3, k3, rfl, by omega, rfl, by omega, by omega⟩
theorem c_choosePivot {l : List Int} {n : Nat} {a b : Int} (hn : l.length = n) (h0 : 0 ≤ a) (hab : a + 13 ≤ b) (hb : b ≤ n) (hl : n ≤ 16) : PSpec Tryz.prog 95 [.sl n (vi .i64 l), .int .i64 a, .int .i64 b] fun v =>
    ∃ x y, v = .tup [.int .i64 x, .int .i64 y] ∧ a ≤ x ∧ x < b ∧ 0 ≤ y ∧ y ≤ 2 := by
  refine slices_choosePivotOrdered_int64_f.f ?_
  dsimp only [slices_choosePivotOrdered_int64_F, pcal_B, pcalp_B, pcala_B, pcond_B, pgk_B, JN_B, LP_B]
  (refine bni ?_; repeat (refine bnk ?_; (try simp (disch := first | omega | (simp only [LN]; omega)) only [↓EC, EW, seval, ↓reduceIte, ↓EBD, EBE])))
  have hd : 3 ≤ (b - a).tdiv 4 ∧ (b - a).tdiv 4 ≤ 4 := by
    have h3 := Int.mul_tdiv_add_tmod (b - a) 4
    have h4 := Int.tmod_nonneg 4 (show 0 ≤ b - a by omega)
    have h5 := Int.tmod_lt_of_pos (b - a) (show (0 : Int) < 4 by omega)
    omega
  have hd4 : 4 * (b - a).tdiv 4 ≤ b - a := by
    have h3 := Int.mul_tdiv_add_tmod (b - a) 4
    have h4 := Int.tmod_nonneg 4 (show 0 ≤ b - a by omega)
    omega
  generalize (b - a).tdiv 4 = d at *
  (refine bni ?_; repeat (refine bnk ?_; (try simp (disch := first | omega | (simp only [LN]; omega)) only [↓EC, EW, seval, ↓reduceIte, ↓EBD, EBE])))
  refine JNx_un ?_
  (refine bni ?_; repeat (refine bnk ?_; (try simp (disch := first | omega | (simp only [LN]; omega)) only [↓EC, EW, seval, ↓reduceIte, ↓EBD, EBE])))
  (refine Split.mkB (fun h => ?_) (fun h => ?_) <;> (try simp only [SD] at h))
  rotate_left
  · omega
  (refine bni ?_; repeat (refine bnk ?_; (try simp (disch := first | omega | (simp only [LN]; omega)) only [↓EC, EW, seval, ↓reduceIte, ↓EBD, EBE])))
  refine JNx_un ?_
  (refine bni ?_; repeat (refine bnk ?_; (try simp (disch := first | omega | (simp only [LN]; omega)) only [↓EC, EW, seval, ↓reduceIte, ↓EBD, EBE])))
  (refine Split.mkB (fun h => ?_) (fun h => ?_) <;> (try simp only [SD] at h))
  · omega
  (refine bni ?_; repeat (refine bnk ?_; (try simp (disch := first | omega | (simp only [LN]; omega)) only [↓EC, EW, seval, ↓reduceIte, ↓EBD, EBE])))
  refine pcm [73] rfl ?_; (refine bni ?_; repeat (refine bnk ?_; (try simp (disch := first | omega | (simp only [LN]; omega)) only [↓EC, EW, seval, ↓reduceIte, ↓EBD, EBE])))
  refine callM_d (c_median (a := a + d * 1) (b := a + d * 2) (d := a + d * 3) (k := 0) hn (by omega) (by omega) (by omega) (by omega)) ?_
  rintro _ _ ⟨x, k, rfl, hx, rfl, hk, hk'⟩
  (refine bni ?_; repeat (refine bnk ?_; (try simp (disch := first | omega | (simp only [LN]; omega)) only [↓EC, EW, seval, ↓reduceIte, ↓EBD, EBE])))
  (refine Split.mkB (fun h => ?_) (fun h => ?_) <;> (try simp only [SD] at h))
  · (refine bni ?_; repeat (refine bnk ?_; (try simp (disch := first | omega | (simp only [LN]; omega)) only [↓EC, EW, seval, ↓reduceIte, ↓EBD, EBE])))
    exact ⟨x, 1, rfl, by omega, by omega, by omega, by omega⟩
  · (refine bni ?_; repeat (refine bnk ?_; (try simp (disch := first | omega | (simp only [LN]; omega)) only [↓EC, EW, seval, ↓reduceIte, ↓EBD, EBE])))
    (refine Split.mkB (fun h => ?_) (fun h => ?_) <;> (try simp only [SD] at h))
    · omega
    · (refine bni ?_; repeat (refine bnk ?_; (try simp (disch := first | omega | (simp only [LN]; omega)) only [↓EC, EW, seval, ↓reduceIte, ↓EBD, EBE])))
      exact ⟨x, 0, rfl, by omega, by omega, by omega, by omega⟩
theorem c_partialInsertion {l : List Int} {n : Nat} {a b : Int} (hn : l.length = n) (h0 : 0 ≤ a) (hab : a + 13 ≤ b) (hb : b ≤ n) (hl : n ≤ 16) : PSpec Tryz.prog 97 [.sl n (vi .i64 l), .int .i64 a, .int .i64 b] fun v => ∃ r, v = .bool r := by
  refine slices_partialInsertionSortOrdered_int64_f.f ?_
  dsimp only [slices_partialInsertionSortOrdered_int64_F, pcal_B, pcalp_B, pcala_B, pcond_B, pgk_B, JN_B, LP_B]
  (refine bni ?_; repeat (refine bnk ?_; (try simp (disch := first | omega | (simp only [LN]; omega)) only [↓EC, EW, seval, ↓reduceIte, ↓EBD, EBE])))
  refine LPx_of (σ := Unit) 100000 [] (fun s => [.int .i64 (a + 1), .int .i64 0]) (fun s => []) (fun s => True) (fun s => 0) () (by simp [frameOk, names, lpz, sclp, scv, scvs, nrfs, nrf, FRB]) trivial ?_ ?_
  · (refine bni ?_; repeat (refine bnk ?_; simp (disch := first | omega | (simp only [LN]; omega)) only [↓EC, EW, seval, ↓reduceIte, ↓EBD, EBE, ColV_def]))
  · intro _ _
    (refine bni ?_; repeat (refine bnk ?_; simp (disch := first | omega | (simp only [LN]; omega)) only [↓EC, EW, seval, ↓reduceIte, ↓EBD, EBE, ColV_def, lheap_def]))
    (refine bni ?_; repeat (refine bnk ?_; (try simp (disch := first | omega | (simp only [LN]; omega)) only [↓EC, EW, seval, ↓reduceIte, ↓EBD, EBE])))
    refine JNx_un ?_
    (refine bni ?_; repeat (refine bnk ?_; (try simp (disch := first | omega | (simp only [LN]; omega)) only [↓EC, EW, seval, ↓reduceIte, ↓EBD, EBE])))
    refine LPx_of (σ := Int) 200000 [] (fun s => [.int .i64 s]) (fun s => []) (fun s => a + 1 ≤ s ∧ s ≤ b) (fun s => (b - s).toNat) (a + 1) (by simp [frameOk, names, lpz, sclp, scv, scvs, nrfs, nrf, FRB]) (by omega) ?_ ?_
    · (refine bni ?_; repeat (refine bnk ?_; simp (disch := first | omega | (simp only [LN]; omega)) only [↓EC, EW, seval, ↓reduceIte, ↓EBD, EBE, ColV_def]))
    · rintro i ⟨h1, h2⟩
      (refine bni ?_; repeat (refine bnk ?_; simp (disch := first | omega | (simp only [LN]; omega)) only [↓EC, EW, seval, ↓reduceIte, ↓EBD, EBE, ColV_def, lheap_def]))
      (refine Split.mkB (fun h => ?_) (fun h => ?_) <;> (try simp only [SD] at h))
      · (refine bni ?_; repeat (refine bnk ?_; (try simp (disch := first | omega | (simp only [LN]; omega)) only [↓EC, EW, seval, ↓reduceIte, ↓EBD, EBE])))
        refine pcd_v c_less ?_
        (refine bni ?_; repeat (refine bnk ?_; (try simp (disch := first | omega | (simp only [LN]; omega)) only [↓EC, EW, seval, ↓reduceIte, ↓EBD, EBE])))
        (refine Split.mkB (fun h => ?_) (fun h => ?_) <;> (try simp only [SD] at h))
        · (refine bni ?_; repeat (refine bnk ?_; (try simp (disch := first | omega | (simp only [LN]; omega)) only [↓EC, EW, seval, ↓reduceIte, ↓EBD, EBE])))
          exact ⟨i + 1, rfl, by omega, by omega⟩
        · (refine bni ?_; repeat (refine bnk ?_; (try simp (disch := first | omega | (simp only [LN]; omega)) only [↓EC, EW, seval, ↓reduceIte, ↓EBD, EBE])))
          (refine Split.mkB (fun h => ?_) (fun h => ?_) <;> (try simp only [SD] at h))
          · (refine bni ?_; repeat (refine bnk ?_; (try simp (disch := first | omega | (simp only [LN]; omega)) only [↓EC, EW, seval, ↓reduceIte, ↓EBD, EBE])))
            exact ⟨_, rfl⟩
          · (refine bni ?_; repeat (refine bnk ?_; (try simp (disch := first | omega | (simp only [LN]; omega)) only [↓EC, EW, seval, ↓reduceIte, ↓EBD, EBE])))
            (refine Split.mkB (fun h => ?_) (fun h => ?_) <;> (try simp only [SD] at h))
            · (refine bni ?_; repeat (refine bnk ?_; (try simp (disch := first | omega | (simp only [LN]; omega)) only [↓EC, EW, seval, ↓reduceIte, ↓EBD, EBE])))
              exact ⟨_, rfl⟩
            · omega
      · (refine bni ?_; repeat (refine bnk ?_; (try simp (disch := first | omega | (simp only [LN]; omega)) only [↓EC, EW, seval, ↓reduceIte, ↓EBD, EBE])))
        (refine Split.mkB (fun h => ?_) (fun h => ?_) <;> (try simp only [SD] at h))
        · (refine bni ?_; repeat (refine bnk ?_; (try simp (disch := first | omega | (simp only [LN]; omega)) only [↓EC, EW, seval, ↓reduceIte, ↓EBD, EBE])))
          exact ⟨_, rfl⟩
        · omega
theorem c_partitionEqual {l : List Int} {n : Nat} {a b p : Int} (hn : l.length = n) (h0 : 0 ≤ a) (hab : a + 1 ≤ b) (hb : b ≤ n) (hp : a ≤ p ∧ p < b) (hl : n ≤ 1000) : PSpecM Tryz.prog 99 [.rf 0 0 n, .int .i64 a, .int .i64 b, .int .i64 p] [(0, 2, 1)] [vi .i64 l] fun v c =>
    ∃ x, v = .int .i64 x ∧ a < x ∧ x ≤ b ∧ kp n c := by
  refine slices_partitionEqualOrdered_int64_f.m rfl rfl ?_
  dsimp only [slices_partitionEqualOrdered_int64_F, pcal_B, pcalp_B, pcala_B, pcond_B, pgk_B, JN_B, LP_B]
  (refine bni ?_; repeat (refine bnk ?_; (try simp (disch := first | omega | (simp only [LN]; omega)) only [↓EC, EW, seval, ↓reduceIte, ↓EBD, EBE])))
  generalize hM : (l.set a.toNat (gi l p.toNat)).set p.toNat (gi l a.toNat) = m
  have h1 : m.length = n := by rw [← hM]; simp [hn]
  refine LPx_of (σ := List Int × Int × Int) 100000 [(0, 2, 1)] (fun s => [.int .i64 s.2.1, .int .i64 s.2.2]) (fun s => [vi .i64 s.1])
    (fun s => s.1.length = n ∧ a + 1 ≤ s.2.1 ∧ s.2.1 ≤ s.2.2 + 2 ∧ s.2.2 ≤ b - 1 ∧ s.2.1 ≤ b ∧ a ≤ s.2.2) (fun s => (s.2.2 + 2 - s.2.1).toNat) (m, a + 1, b - 1) (by simp [frameOk, names, lpz, sclp, scv, scvs, nrfs, nrf, FRB]) ⟨h1, by simp only; omega⟩ ?_ ?_
  · (refine bni ?_; repeat (refine bnk ?_; simp (disch := first | omega | (simp only [LN]; omega)) only [↓EC, EW, seval, ↓reduceIte, ↓EBD, EBE, ColV_def]))
  · rintro ⟨m, i, j⟩ ⟨h1, h2, h3, h4, h9, h10⟩
    simp only at h1 h2 h3 h4 h9 h10
    (refine bni ?_; repeat (refine bnk ?_; simp (disch := first | omega | (simp only [LN]; omega)) only [↓EC, EW, seval, ↓reduceIte, ↓EBD, EBE, ColV_def, lheap_def]))
    (refine bni ?_; repeat (refine bnk ?_; (try simp (disch := first | omega | (simp only [LN]; omega)) only [↓EC, EW, seval, ↓reduceIte, ↓EBD, EBE])))
    refine LPx_of (σ := Int) 200000 [(0, 2, 1)] (fun s => [.int .i64 s]) (fun s => [vi .i64 m]) (fun s => i ≤ s ∧ (s ≤ j + 1 ∨ s = i)) (fun s => (j + 1 - s).toNat) (i) (by simp [frameOk, names, lpz, sclp, scv, scvs, nrfs, nrf, FRB]) (by omega) ?_ ?_
    · (refine bni ?_; repeat (refine bnk ?_; simp (disch := first | omega | (simp only [LN]; omega)) only [↓EC, EW, seval, ↓reduceIte, ↓EBD, EBE, ColV_def]))
    · rintro i' ⟨h5, h6⟩
      (refine bni ?_; repeat (refine bnk ?_; simp (disch := first | omega | (simp only [LN]; omega)) only [↓EC, EW, seval, ↓reduceIte, ↓EBD, EBE, ColV_def, lheap_def]))
      (refine Split.mkB (fun h => ?_) (fun h => ?_) <;> (try simp only [SD] at h))
      · (refine bni ?_; repeat (refine bnk ?_; (try simp (disch := first | omega | (simp only [LN]; omega)) only [↓EC, EW, seval, ↓reduceIte, ↓EBD, EBE])))
        refine pcd_v c_less ?_
        (refine bni ?_; repeat (refine bnk ?_; (try simp (disch := first | omega | (simp only [LN]; omega)) only [↓EC, EW, seval, ↓reduceIte, ↓EBD, EBE])))
        (refine Split.mkB (fun h => ?_) (fun h => ?_) <;> (try simp only [SD] at h))
        · (refine bni ?_; repeat (refine bnk ?_; (try simp (disch := first | omega | (simp only [LN]; omega)) only [↓EC, EW, seval, ↓reduceIte, ↓EBD, EBE])))
          exact ⟨i' + 1, rfl, by omega, by omega⟩
        · (refine bni ?_; repeat (refine bnk ?_; (try simp (disch := first | omega | (simp only [LN]; omega)) only [↓EC, EW, seval, ↓reduceIte, ↓EBD, EBE])))
          refine LPx_of (σ := Int) 300000 [(0, 2, 1)] (fun s => [.int .i64 s]) (fun s => [vi .i64 m]) (fun s => s ≤ j ∧ (i' ≤ s + 1 ∨ s = j)) (fun s => (s + 1 - i').toNat) (j) (by simp [frameOk, names, lpz, sclp, scv, scvs, nrfs, nrf, FRB]) (by omega) ?_ ?_
          · (refine bni ?_; repeat (refine bnk ?_; simp (disch := first | omega | (simp only [LN]; omega)) only [↓EC, EW, seval, ↓reduceIte, ↓EBD, EBE, ColV_def]))
          · rintro j' ⟨h7, h8⟩
            (refine bni ?_; repeat (refine bnk ?_; simp (disch := first | omega | (simp only [LN]; omega)) only [↓EC, EW, seval, ↓reduceIte, ↓EBD, EBE, ColV_def, lheap_def]))
            (refine Split.mkB (fun h => ?_) (fun h => ?_) <;> (try simp only [SD] at h))
            · (refine bni ?_; repeat (refine bnk ?_; (try simp (disch := first | omega | (simp only [LN]; omega)) only [↓EC, EW, seval, ↓reduceIte, ↓EBD, EBE])))
              refine pcd_v c_less ?_
              (refine bni ?_; repeat (refine bnk ?_; (try simp (disch := first | omega | (simp only [LN]; omega)) only [↓EC, EW, seval, ↓reduceIte, ↓EBD, EBE])))
              (refine Split.mkB (fun h => ?_) (fun h => ?_) <;> (try simp only [SD] at h))
              · (refine bni ?_; repeat (refine bnk ?_; (try simp (disch := first | omega | (simp only [LN]; omega)) only [↓EC, EW, seval, ↓reduceIte, ↓EBD, EBE])))
                exact ⟨j' - 1, rfl, by omega, by omega⟩
              · (refine bni ?_; repeat (refine bnk ?_; (try simp (disch := first | omega | (simp only [LN]; omega)) only [↓EC, EW, seval, ↓reduceIte, ↓EBD, EBE])))
                (refine Split.mkB (fun h => ?_) (fun h => ?_) <;> (try simp only [SD] at h))
                · first
                  | omega
                  | ((refine bni ?_; repeat (refine bnk ?_; (try simp (disch := first | omega | (simp only [LN]; omega)) only [↓EC, EW, seval, ↓reduceIte, ↓EBD, EBE]))); exact ⟨_, rfl, by omega, by omega, m, rfl, h1⟩)
                · first
                  | omega
                  | ((refine bni ?_; repeat (refine bnk ?_; (try simp (disch := first | omega | (simp only [LN]; omega)) only [↓EC, EW, seval, ↓reduceIte, ↓EBD, EBE]))); exact ⟨(_, i' + 1, j' - 1), rfl, rfl, ⟨by simp [h1], by simp only; omega⟩, by simp only; omega⟩)
            · (refine bni ?_; repeat (refine bnk ?_; (try simp (disch := first | omega | (simp only [LN]; omega)) only [↓EC, EW, seval, ↓reduceIte, ↓EBD, EBE])))
              (refine Split.mkB (fun h => ?_) (fun h => ?_) <;> (try simp only [SD] at h))
              · first
                | omega
                | ((refine bni ?_; repeat (refine bnk ?_; (try simp (disch := first | omega | (simp only [LN]; omega)) only [↓EC, EW, seval, ↓reduceIte, ↓EBD, EBE]))); exact ⟨_, rfl, by omega, by omega, m, rfl, h1⟩)
              · first
                | omega
                | ((refine bni ?_; repeat (refine bnk ?_; (try simp (disch := first | omega | (simp only [LN]; omega)) only [↓EC, EW, seval, ↓reduceIte, ↓EBD, EBE]))); exact ⟨(_, i' + 1, j' - 1), rfl, rfl, ⟨by simp [h1], by simp only; omega⟩, by simp only; omega⟩)
      · (refine bni ?_; repeat (refine bnk ?_; (try simp (disch := first | omega | (simp only [LN]; omega)) only [↓EC, EW, seval, ↓reduceIte, ↓EBD, EBE])))
        refine LPx_of (σ := Int) 300000 [(0, 2, 1)] (fun s => [.int .i64 s]) (fun s => [vi .i64 m]) (fun s => s ≤ j ∧ (i' ≤ s + 1 ∨ s = j)) (fun s => (s + 1 - i').toNat) (j) (by simp [frameOk, names, lpz, sclp, scv, scvs, nrfs, nrf, FRB]) (by omega) ?_ ?_
        · (refine bni ?_; repeat (refine bnk ?_; simp (disch := first | omega | (simp only [LN]; omega)) only [↓EC, EW, seval, ↓reduceIte, ↓EBD, EBE, ColV_def]))
        · rintro j' ⟨h7, h8⟩
          (refine bni ?_; repeat (refine bnk ?_; simp (disch := first | omega | (simp only [LN]; omega)) only [↓EC, EW, seval, ↓reduceIte, ↓EBD, EBE, ColV_def, lheap_def]))
          (refine Split.mkB (fun h => ?_) (fun h => ?_) <;> (try simp only [SD] at h))
          · (refine bni ?_; repeat (refine bnk ?_; (try simp (disch := first | omega | (simp only [LN]; omega)) only [↓EC, EW, seval, ↓reduceIte, ↓EBD, EBE])))
            refine pcd_v c_less ?_
            (refine bni ?_; repeat (refine bnk ?_; (try simp (disch := first | omega | (simp only [LN]; omega)) only [↓EC, EW, seval, ↓reduceIte, ↓EBD, EBE])))
            (refine Split.mkB (fun h => ?_) (fun h => ?_) <;> (try simp only [SD] at h))
            · (refine bni ?_; repeat (refine bnk ?_; (try simp (disch := first | omega | (simp only [LN]; omega)) only [↓EC, EW, seval, ↓reduceIte, ↓EBD, EBE])))
              exact ⟨j' - 1, rfl, by omega, by omega⟩
            · (refine bni ?_; repeat (refine bnk ?_; (try simp (disch := first | omega | (simp only [LN]; omega)) only [↓EC, EW, seval, ↓reduceIte, ↓EBD, EBE])))
              (refine Split.mkB (fun h => ?_) (fun h => ?_) <;> (try simp only [SD] at h))
              · first
                | omega
                | ((refine bni ?_; repeat (refine bnk ?_; (try simp (disch := first | omega | (simp only [LN]; omega)) only [↓EC, EW, seval, ↓reduceIte, ↓EBD, EBE]))); exact ⟨_, rfl, by omega, by omega, m, rfl, h1⟩)
              · first
                | omega
                | ((refine bni ?_; repeat (refine bnk ?_; (try simp (disch := first | omega | (simp only [LN]; omega)) only [↓EC, EW, seval, ↓reduceIte, ↓EBD, EBE]))); exact ⟨(_, i' + 1, j' - 1), rfl, rfl, ⟨by simp [h1], by simp only; omega⟩, by simp only; omega⟩)
          · (refine bni ?_; repeat (refine bnk ?_; (try simp (disch := first | omega | (simp only [LN]; omega)) only [↓EC, EW, seval, ↓reduceIte, ↓EBD, EBE])))
            (refine Split.mkB (fun h => ?_) (fun h => ?_) <;> (try simp only [SD] at h))
            · first
              | omega
              | ((refine bni ?_; repeat (refine bnk ?_; (try simp (disch := first | omega | (simp only [LN]; omega)) only [↓EC, EW, seval, ↓reduceIte, ↓EBD, EBE]))); exact ⟨_, rfl, by omega, by omega, m, rfl, h1⟩)
            · first
              | omega
              | ((refine bni ?_; repeat (refine bnk ?_; (try simp (disch := first | omega | (simp only [LN]; omega)) only [↓EC, EW, seval, ↓reduceIte, ↓EBD, EBE]))); exact ⟨(_, i' + 1, j' - 1), rfl, rfl, ⟨by simp [h1], by simp only; omega⟩, by simp only; omega⟩)
theorem c_partition {l : List Int} {n : Nat} {a b p : Int} (hn : l.length = n) (h0 : 0 ≤ a) (hab : a + 1 ≤ b) (hb : b ≤ n) (hp : a ≤ p ∧ p < b) (hl : n ≤ 1000) : PSpecM Tryz.prog 100 [.rf 0 0 n, .int .i64 a, .int .i64 b, .int .i64 p] [(0, 2, 1)] [vi .i64 l] fun v c =>
    ∃ x r, v = .tup [.int .i64 x, .bool r] ∧ a ≤ x ∧ x < b ∧ kp n c := by
  refine slices_partitionOrdered_int64_f.m rfl rfl ?_
  dsimp only [slices_partitionOrdered_int64_F, pcal_B, pcalp_B, pcala_B, pcond_B, pgk_B, JN_B, LP_B]
  (refine bni ?_; repeat (refine bnk ?_; (try simp (disch := first | omega | (simp only [LN]; omega)) only [↓EC, EW, seval, ↓reduceIte, ↓EBD, EBE])))
  generalize hM : (l.set a.toNat (gi l p.toNat)).set p.toNat (gi l a.toNat) = m
  have h1 : m.length = n := by rw [← hM]; simp [hn]
  refine LPx_of (σ := Int) 200000 [(0, 2, 1)] (fun s => [.int .i64 s]) (fun s => [vi .i64 m]) (fun s => a + 1 ≤ s ∧ (s ≤ b - 1 + 1 ∨ s = a + 1)) (fun s => (b - 1 + 1 - s).toNat) (a + 1) (by simp [frameOk, names, lpz, sclp, scv, scvs, nrfs, nrf, FRB]) (by omega) ?_ ?_
  · (refine bni ?_; repeat (refine bnk ?_; simp (disch := first | omega | (simp only [LN]; omega)) only [↓EC, EW, seval, ↓reduceIte, ↓EBD, EBE, ColV_def]))
  · rintro i' ⟨h5, h6⟩
    (refine bni ?_; repeat (refine bnk ?_; simp (disch := first | omega | (simp only [LN]; omega)) only [↓EC, EW, seval, ↓reduceIte, ↓EBD, EBE, ColV_def, lheap_def]))
    (refine Split.mkB (fun h => ?_) (fun h => ?_) <;> (try simp only [SD] at h))
    · (refine bni ?_; repeat (refine bnk ?_; (try simp (disch := first | omega | (simp only [LN]; omega)) only [↓EC, EW, seval, ↓reduceIte, ↓EBD, EBE])))
      refine pcd_v c_less ?_
      (refine bni ?_; repeat (refine bnk ?_; (try simp (disch := first | omega | (simp only [LN]; omega)) only [↓EC, EW, seval, ↓reduceIte, ↓EBD, EBE])))
      (refine Split.mkB (fun h => ?_) (fun h => ?_) <;> (try simp only [SD] at h))
      · (refine bni ?_; repeat (refine bnk ?_; (try simp (disch := first | omega | (simp only [LN]; omega)) only [↓EC, EW, seval, ↓reduceIte, ↓EBD, EBE])))
        exact ⟨i' + 1, rfl, by omega, by omega⟩
      · (refine bni ?_; repeat (refine bnk ?_; (try simp (disch := first | omega | (simp only [LN]; omega)) only [↓EC, EW, seval, ↓reduceIte, ↓EBD, EBE])))
        refine LPx_of (σ := Int) 300000 [(0, 2, 1)] (fun s => [.int .i64 s]) (fun s => [vi .i64 m]) (fun s => s ≤ b - 1 ∧ (i' ≤ s + 1 ∨ s = b - 1)) (fun s => (s + 1 - i').toNat) (b - 1) (by simp [frameOk, names, lpz, sclp, scv, scvs, nrfs, nrf, FRB]) (by omega) ?_ ?_
        · (refine bni ?_; repeat (refine bnk ?_; simp (disch := first | omega | (simp only [LN]; omega)) only [↓EC, EW, seval, ↓reduceIte, ↓EBD, EBE, ColV_def]))
        · rintro j' ⟨h7, h8⟩
          (refine bni ?_; repeat (refine bnk ?_; simp (disch := first | omega | (simp only [LN]; omega)) only [↓EC, EW, seval, ↓reduceIte, ↓EBD, EBE, ColV_def, lheap_def]))
          (refine Split.mkB (fun h => ?_) (fun h => ?_) <;> (try simp only [SD] at h))
          · (refine bni ?_; repeat (refine bnk ?_; (try simp (disch := first | omega | (simp only [LN]; omega)) only [↓EC, EW, seval, ↓reduceIte, ↓EBD, EBE])))
            refine pcd_v c_less ?_
            (refine bni ?_; repeat (refine bnk ?_; (try simp (disch := first | omega | (simp only [LN]; omega)) only [↓EC, EW, seval, ↓reduceIte, ↓EBD, EBE])))
            (refine Split.mkB (fun h => ?_) (fun h => ?_) <;> (try simp only [SD] at h))
            · (refine bni ?_; repeat (refine bnk ?_; (try simp (disch := first | omega | (simp only [LN]; omega)) only [↓EC, EW, seval, ↓reduceIte, ↓EBD, EBE])))
              exact ⟨j' - 1, rfl, by omega, by omega⟩
            · (refine bni ?_; repeat (refine bnk ?_; (try simp (disch := first | omega | (simp only [LN]; omega)) only [↓EC, EW, seval, ↓reduceIte, ↓EBD, EBE])))
              (refine Split.mkB (fun h => ?_) (fun h => ?_) <;> (try simp only [SD] at h))
              · first
                | omega
                | ((refine bni ?_; repeat (refine bnk ?_; (try simp (disch := first | omega | (simp only [LN]; omega)) only [↓EC, EW, seval, ↓reduceIte, ↓EBD, EBE]))); exact ⟨_, _, rfl, by omega, by omega, _, rfl, by simp [h1]⟩)
              · first
                | omega
                | (skip
                   (refine bni ?_; repeat (refine bnk ?_; (try simp (disch := first | omega | (simp only [LN]; omega)) only [↓EC, EW, seval, ↓reduceIte, ↓EBD, EBE])))
                   refine LPx_of (σ := List Int × Int × Int) 500000 [(0, 2, 1)] (fun s => [.int .i64 s.2.1, .int .i64 s.2.2]) (fun s => [vi .i64 s.1])
                     (fun s => s.1.length = n ∧ a + 1 ≤ s.2.1 ∧ s.2.1 ≤ s.2.2 + 2 ∧ s.2.2 ≤ b - 1 ∧ s.2.1 ≤ b ∧ a ≤ s.2.2) (fun s => (s.2.2 + 2 - s.2.1).toNat) ((m.set i'.toNat (gi m j'.toNat)).set j'.toNat (gi m i'.toNat), i' + 1, j' - 1) (by simp [frameOk, names, lpz, sclp, scv, scvs, nrfs, nrf, FRB]) ⟨by simp [h1], by simp only; omega⟩ ?_ ?_
                   · (refine bni ?_; repeat (refine bnk ?_; simp (disch := first | omega | (simp only [LN]; omega)) only [↓EC, EW, seval, ↓reduceIte, ↓EBD, EBE, ColV_def]))
                   · rintro ⟨m, i, j⟩ ⟨h1, h2, h3, h4, h9, h10⟩
                     simp only at h1 h2 h3 h4 h9 h10
                     (refine bni ?_; repeat (refine bnk ?_; simp (disch := first | omega | (simp only [LN]; omega)) only [↓EC, EW, seval, ↓reduceIte, ↓EBD, EBE, ColV_def, lheap_def]))
                     (refine bni ?_; repeat (refine bnk ?_; (try simp (disch := first | omega | (simp only [LN]; omega)) only [↓EC, EW, seval, ↓reduceIte, ↓EBD, EBE])))
                     refine LPx_of (σ := Int) 600000 [(0, 2, 1)] (fun s => [.int .i64 s]) (fun s => [vi .i64 m]) (fun s => i ≤ s ∧ (s ≤ j + 1 ∨ s = i)) (fun s => (j + 1 - s).toNat) (i) (by simp [frameOk, names, lpz, sclp, scv, scvs, nrfs, nrf, FRB]) (by omega) ?_ ?_
                     · (refine bni ?_; repeat (refine bnk ?_; simp (disch := first | omega | (simp only [LN]; omega)) only [↓EC, EW, seval, ↓reduceIte, ↓EBD, EBE, ColV_def]))
                     · rintro i' ⟨h5, h6⟩
                       (refine bni ?_; repeat (refine bnk ?_; simp (disch := first | omega | (simp only [LN]; omega)) only [↓EC, EW, seval, ↓reduceIte, ↓EBD, EBE, ColV_def, lheap_def]))
                       (refine Split.mkB (fun h => ?_) (fun h => ?_) <;> (try simp only [SD] at h))
                       · (refine bni ?_; repeat (refine bnk ?_; (try simp (disch := first | omega | (simp only [LN]; omega)) only [↓EC, EW, seval, ↓reduceIte, ↓EBD, EBE])))
                         refine pcd_v c_less ?_
                         (refine bni ?_; repeat (refine bnk ?_; (try simp (disch := first | omega | (simp only [LN]; omega)) only [↓EC, EW, seval, ↓reduceIte, ↓EBD, EBE])))
                         (refine Split.mkB (fun h => ?_) (fun h => ?_) <;> (try simp only [SD] at h))
                         · (refine bni ?_; repeat (refine bnk ?_; (try simp (disch := first | omega | (simp only [LN]; omega)) only [↓EC, EW, seval, ↓reduceIte, ↓EBD, EBE])))
                           exact ⟨i' + 1, rfl, by omega, by omega⟩
                         · (refine bni ?_; repeat (refine bnk ?_; (try simp (disch := first | omega | (simp only [LN]; omega)) only [↓EC, EW, seval, ↓reduceIte, ↓EBD, EBE])))
                           refine LPx_of (σ := Int) 700000 [(0, 2, 1)] (fun s => [.int .i64 s]) (fun s => [vi .i64 m]) (fun s => s ≤ j ∧ (i' ≤ s + 1 ∨ s = j)) (fun s => (s + 1 - i').toNat) (j) (by simp [frameOk, names, lpz, sclp, scv, scvs, nrfs, nrf, FRB]) (by omega) ?_ ?_
                           · (refine bni ?_; repeat (refine bnk ?_; simp (disch := first | omega | (simp only [LN]; omega)) only [↓EC, EW, seval, ↓reduceIte, ↓EBD, EBE, ColV_def]))
                           · rintro j' ⟨h7, h8⟩
                             (refine bni ?_; repeat (refine bnk ?_; simp (disch := first | omega | (simp only [LN]; omega)) only [↓EC, EW, seval, ↓reduceIte, ↓EBD, EBE, ColV_def, lheap_def]))
                             (refine Split.mkB (fun h => ?_) (fun h => ?_) <;> (try simp only [SD] at h))
                             · (refine bni ?_; repeat (refine bnk ?_; (try simp (disch := first | omega | (simp only [LN]; omega)) only [↓EC, EW, seval, ↓reduceIte, ↓EBD, EBE])))
                               refine pcd_v c_less ?_
                               (refine bni ?_; repeat (refine bnk ?_; (try simp (disch := first | omega | (simp only [LN]; omega)) only [↓EC, EW, seval, ↓reduceIte, ↓EBD, EBE])))
                               (refine Split.mkB (fun h => ?_) (fun h => ?_) <;> (try simp only [SD] at h))
                               · (refine bni ?_; repeat (refine bnk ?_; (try simp (disch := first | omega | (simp only [LN]; omega)) only [↓EC, EW, seval, ↓reduceIte, ↓EBD, EBE])))
                                 exact ⟨j' - 1, rfl, by omega, by omega⟩
                               · (refine bni ?_; repeat (refine bnk ?_; (try simp (disch := first | omega | (simp only [LN]; omega)) only [↓EC, EW, seval, ↓reduceIte, ↓EBD, EBE])))
                                 (refine Split.mkB (fun h => ?_) (fun h => ?_) <;> (try simp only [SD] at h))
                                 · first
                                   | omega
                                   | ((refine bni ?_; repeat (refine bnk ?_; (try simp (disch := first | omega | (simp only [LN]; omega)) only [↓EC, EW, seval, ↓reduceIte, ↓EBD, EBE]))); exact ⟨_, _, rfl, by omega, by omega, _, rfl, by simp [h1]⟩)
                                 · first
                                   | omega
                                   | ((refine bni ?_; repeat (refine bnk ?_; (try simp (disch := first | omega | (simp only [LN]; omega)) only [↓EC, EW, seval, ↓reduceIte, ↓EBD, EBE]))); exact ⟨(_, i' + 1, j' - 1), rfl, rfl, ⟨by simp [h1], by simp only; omega⟩, by simp only; omega⟩)
                             · (refine bni ?_; repeat (refine bnk ?_; (try simp (disch := first | omega | (simp only [LN]; omega)) only [↓EC, EW, seval, ↓reduceIte, ↓EBD, EBE])))
                               (refine Split.mkB (fun h => ?_) (fun h => ?_) <;> (try simp only [SD] at h))
                               · first
                                 | omega
                                 | ((refine bni ?_; repeat (refine bnk ?_; (try simp (disch := first | omega | (simp only [LN]; omega)) only [↓EC, EW, seval, ↓reduceIte, ↓EBD, EBE]))); exact ⟨_, _, rfl, by omega, by omega, _, rfl, by simp [h1]⟩)
                               · first
                                 | omega
                                 | ((refine bni ?_; repeat (refine bnk ?_; (try simp (disch := first | omega | (simp only [LN]; omega)) only [↓EC, EW, seval, ↓reduceIte, ↓EBD, EBE]))); exact ⟨(_, i' + 1, j' - 1), rfl, rfl, ⟨by simp [h1], by simp only; omega⟩, by simp only; omega⟩)
                       · (refine bni ?_; repeat (refine bnk ?_; (try simp (disch := first | omega | (simp only [LN]; omega)) only [↓EC, EW, seval, ↓reduceIte, ↓EBD, EBE])))
                         refine LPx_of (σ := Int) 700000 [(0, 2, 1)] (fun s => [.int .i64 s]) (fun s => [vi .i64 m]) (fun s => s ≤ j ∧ (i' ≤ s + 1 ∨ s = j)) (fun s => (s + 1 - i').toNat) (j) (by simp [frameOk, names, lpz, sclp, scv, scvs, nrfs, nrf, FRB]) (by omega) ?_ ?_
                         · (refine bni ?_; repeat (refine bnk ?_; simp (disch := first | omega | (simp only [LN]; omega)) only [↓EC, EW, seval, ↓reduceIte, ↓EBD, EBE, ColV_def]))
                         · rintro j' ⟨h7, h8⟩
                           (refine bni ?_; repeat (refine bnk ?_; simp (disch := first | omega | (simp only [LN]; omega)) only [↓EC, EW, seval, ↓reduceIte, ↓EBD, EBE, ColV_def, lheap_def]))
                           (refine Split.mkB (fun h => ?_) (fun h => ?_) <;> (try simp only [SD] at h))
                           · (refine bni ?_; repeat (refine bnk ?_; (try simp (disch := first | omega | (simp only [LN]; omega)) only [↓EC, EW, seval, ↓reduceIte, ↓EBD, EBE])))
                             refine pcd_v c_less ?_
                             (refine bni ?_; repeat (refine bnk ?_; (try simp (disch := first | omega | (simp only [LN]; omega)) only [↓EC, EW, seval, ↓reduceIte, ↓EBD, EBE])))
                             (refine Split.mkB (fun h => ?_) (fun h => ?_) <;> (try simp only [SD] at h))
                             · (refine bni ?_; repeat (refine bnk ?_; (try simp (disch := first | omega | (simp only [LN]; omega)) only [↓EC, EW, seval, ↓reduceIte, ↓EBD, EBE])))
                               exact ⟨j' - 1, rfl, by omega, by omega⟩
                             · (refine bni ?_; repeat (refine bnk ?_; (try simp (disch := first | omega | (simp only [LN]; omega)) only [↓EC, EW, seval, ↓reduceIte, ↓EBD, EBE])))
                               (refine Split.mkB (fun h => ?_) (fun h => ?_) <;> (try simp only [SD] at h))
                               · first
                                 | omega
                                 | ((refine bni ?_; repeat (refine bnk ?_; (try simp (disch := first | omega | (simp only [LN]; omega)) only [↓EC, EW, seval, ↓reduceIte, ↓EBD, EBE]))); exact ⟨_, _, rfl, by omega, by omega, _, rfl, by simp [h1]⟩)
                               · first
                                 | omega
                                 | ((refine bni ?_; repeat (refine bnk ?_; (try simp (disch := first | omega | (simp only [LN]; omega)) only [↓EC, EW, seval, ↓reduceIte, ↓EBD, EBE]))); exact ⟨(_, i' + 1, j' - 1), rfl, rfl, ⟨by simp [h1], by simp only; omega⟩, by simp only; omega⟩)
                           · (refine bni ?_; repeat (refine bnk ?_; (try simp (disch := first | omega | (simp only [LN]; omega)) only [↓EC, EW, seval, ↓reduceIte, ↓EBD, EBE])))
                             (refine Split.mkB (fun h => ?_) (fun h => ?_) <;> (try simp only [SD] at h))
                             · first
                               | omega
                               | ((refine bni ?_; repeat (refine bnk ?_; (try simp (disch := first | omega | (simp only [LN]; omega)) only [↓EC, EW, seval, ↓reduceIte, ↓EBD, EBE]))); exact ⟨_, _, rfl, by omega, by omega, _, rfl, by simp [h1]⟩)
                             · first
                               | omega
                               | ((refine bni ?_; repeat (refine bnk ?_; (try simp (disch := first | omega | (simp only [LN]; omega)) only [↓EC, EW, seval, ↓reduceIte, ↓EBD, EBE]))); exact ⟨(_, i' + 1, j' - 1), rfl, rfl, ⟨by simp [h1], by simp only; omega⟩, by simp only; omega⟩))
          · (refine bni ?_; repeat (refine bnk ?_; (try simp (disch := first | omega | (simp only [LN]; omega)) only [↓EC, EW, seval, ↓reduceIte, ↓EBD, EBE])))
            (refine Split.mkB (fun h => ?_) (fun h => ?_) <;> (try simp only [SD] at h))
            · first
              | omega
              | ((refine bni ?_; repeat (refine bnk ?_; (try simp (disch := first | omega | (simp only [LN]; omega)) only [↓EC, EW, seval, ↓reduceIte, ↓EBD, EBE]))); exact ⟨_, _, rfl, by omega, by omega, _, rfl, by simp [h1]⟩)
            · first
              | omega
              | (skip
                 (refine bni ?_; repeat (refine bnk ?_; (try simp (disch := first | omega | (simp only [LN]; omega)) only [↓EC, EW, seval, ↓reduceIte, ↓EBD, EBE])))
                 refine LPx_of (σ := List Int × Int × Int) 500000 [(0, 2, 1)] (fun s => [.int .i64 s.2.1, .int .i64 s.2.2]) (fun s => [vi .i64 s.1])
                   (fun s => s.1.length = n ∧ a + 1 ≤ s.2.1 ∧ s.2.1 ≤ s.2.2 + 2 ∧ s.2.2 ≤ b - 1 ∧ s.2.1 ≤ b ∧ a ≤ s.2.2) (fun s => (s.2.2 + 2 - s.2.1).toNat) ((m.set i'.toNat (gi m j'.toNat)).set j'.toNat (gi m i'.toNat), i' + 1, j' - 1) (by simp [frameOk, names, lpz, sclp, scv, scvs, nrfs, nrf, FRB]) ⟨by simp [h1], by simp only; omega⟩ ?_ ?_
                 · (refine bni ?_; repeat (refine bnk ?_; simp (disch := first | omega | (simp only [LN]; omega)) only [↓EC, EW, seval, ↓reduceIte, ↓EBD, EBE, ColV_def]))
                 · rintro ⟨m, i, j⟩ ⟨h1, h2, h3, h4, h9, h10⟩
                   simp only at h1 h2 h3 h4 h9 h10
                   (refine bni ?_; repeat (refine bnk ?_; simp (disch := first | omega | (simp only [LN]; omega)) only [↓EC, EW, seval, ↓reduceIte, ↓EBD, EBE, ColV_def, lheap_def]))
                   (refine bni ?_; repeat (refine bnk ?_; (try simp (disch := first | omega | (simp only [LN]; omega)) only [↓EC, EW, seval, ↓reduceIte, ↓EBD, EBE])))
                   refine LPx_of (σ := Int) 600000 [(0, 2, 1)] (fun s => [.int .i64 s]) (fun s => [vi .i64 m]) (fun s => i ≤ s ∧ (s ≤ j + 1 ∨ s = i)) (fun s => (j + 1 - s).toNat) (i) (by simp [frameOk, names, lpz, sclp, scv, scvs, nrfs, nrf, FRB]) (by omega) ?_ ?_
                   · (refine bni ?_; repeat (refine bnk ?_; simp (disch := first | omega | (simp only [LN]; omega)) only [↓EC, EW, seval, ↓reduceIte, ↓EBD, EBE, ColV_def]))
                   · rintro i' ⟨h5, h6⟩
                     (refine bni ?_; repeat (refine bnk ?_; simp (disch := first | omega | (simp only [LN]; omega)) only [↓EC, EW, seval, ↓reduceIte, ↓EBD, EBE, ColV_def, lheap_def]))
                     (refine Split.mkB (fun h => ?_) (fun h => ?_) <;> (try simp only [SD] at h))
                     · (refine bni ?_; repeat (refine bnk ?_; (try simp (disch := first | omega | (simp only [LN]; omega)) only [↓EC, EW, seval, ↓reduceIte, ↓EBD, EBE])))
                       refine pcd_v c_less ?_
                       (refine bni ?_; repeat (refine bnk ?_; (try simp (disch := first | omega | (simp only [LN]; omega)) only [↓EC, EW, seval, ↓reduceIte, ↓EBD, EBE])))
                       (refine Split.mkB (fun h => ?_) (fun h => ?_) <;> (try simp only [SD] at h))
                       · (refine bni ?_; repeat (refine bnk ?_; (try simp (disch := first | omega | (simp only [LN]; omega)) only [↓EC, EW, seval, ↓reduceIte, ↓EBD, EBE])))
                         exact ⟨i' + 1, rfl, by omega, by omega⟩
                       · (refine bni ?_; repeat (refine bnk ?_; (try simp (disch := first | omega | (simp only [LN]; omega)) only [↓EC, EW, seval, ↓reduceIte, ↓EBD, EBE])))
                         refine LPx_of (σ := Int) 700000 [(0, 2, 1)] (fun s => [.int .i64 s]) (fun s => [vi .i64 m]) (fun s => s ≤ j ∧ (i' ≤ s + 1 ∨ s = j)) (fun s => (s + 1 - i').toNat) (j) (by simp [frameOk, names, lpz, sclp, scv, scvs, nrfs, nrf, FRB]) (by omega) ?_ ?_
                         · (refine bni ?_; repeat (refine bnk ?_; simp (disch := first | omega | (simp only [LN]; omega)) only [↓EC, EW, seval, ↓reduceIte, ↓EBD, EBE, ColV_def]))
                         · rintro j' ⟨h7, h8⟩
                           (refine bni ?_; repeat (refine bnk ?_; simp (disch := first | omega | (simp only [LN]; omega)) only [↓EC, EW, seval, ↓reduceIte, ↓EBD, EBE, ColV_def, lheap_def]))
                           (refine Split.mkB (fun h => ?_) (fun h => ?_) <;> (try simp only [SD] at h))
                           · (refine bni ?_; repeat (refine bnk ?_; (try simp (disch := first | omega | (simp only [LN]; omega)) only [↓EC, EW, seval, ↓reduceIte, ↓EBD, EBE])))
                             refine pcd_v c_less ?_
                             (refine bni ?_; repeat (refine bnk ?_; (try simp (disch := first | omega | (simp only [LN]; omega)) only [↓EC, EW, seval, ↓reduceIte, ↓EBD, EBE])))
                             (refine Split.mkB (fun h => ?_) (fun h => ?_) <;> (try simp only [SD] at h))
                             · (refine bni ?_; repeat (refine bnk ?_; (try simp (disch := first | omega | (simp only [LN]; omega)) only [↓EC, EW, seval, ↓reduceIte, ↓EBD, EBE])))
                               exact ⟨j' - 1, rfl, by omega, by omega⟩
                             · (refine bni ?_; repeat (refine bnk ?_; (try simp (disch := first | omega | (simp only [LN]; omega)) only [↓EC, EW, seval, ↓reduceIte, ↓EBD, EBE])))
                               (refine Split.mkB (fun h => ?_) (fun h => ?_) <;> (try simp only [SD] at h))
                               · first
                                 | omega
                                 | ((refine bni ?_; repeat (refine bnk ?_; (try simp (disch := first | omega | (simp only [LN]; omega)) only [↓EC, EW, seval, ↓reduceIte, ↓EBD, EBE]))); exact ⟨_, _, rfl, by omega, by omega, _, rfl, by simp [h1]⟩)
                               · first
                                 | omega
                                 | ((refine bni ?_; repeat (refine bnk ?_; (try simp (disch := first | omega | (simp only [LN]; omega)) only [↓EC, EW, seval, ↓reduceIte, ↓EBD, EBE]))); exact ⟨(_, i' + 1, j' - 1), rfl, rfl, ⟨by simp [h1], by simp only; omega⟩, by simp only; omega⟩)
                           · (refine bni ?_; repeat (refine bnk ?_; (try simp (disch := first | omega | (simp only [LN]; omega)) only [↓EC, EW, seval, ↓reduceIte, ↓EBD, EBE])))
                             (refine Split.mkB (fun h => ?_) (fun h => ?_) <;> (try simp only [SD] at h))
                             · first
                               | omega
                               | ((refine bni ?_; repeat (refine bnk ?_; (try simp (disch := first | omega | (simp only [LN]; omega)) only [↓EC, EW, seval, ↓reduceIte, ↓EBD, EBE]))); exact ⟨_, _, rfl, by omega, by omega, _, rfl, by simp [h1]⟩)
                             · first
                               | omega
                               | ((refine bni ?_; repeat (refine bnk ?_; (try simp (disch := first | omega | (simp only [LN]; omega)) only [↓EC, EW, seval, ↓reduceIte, ↓EBD, EBE]))); exact ⟨(_, i' + 1, j' - 1), rfl, rfl, ⟨by simp [h1], by simp only; omega⟩, by simp only; omega⟩)
                     · (refine bni ?_; repeat (refine bnk ?_; (try simp (disch := first | omega | (simp only [LN]; omega)) only [↓EC, EW, seval, ↓reduceIte, ↓EBD, EBE])))
                       refine LPx_of (σ := Int) 700000 [(0, 2, 1)] (fun s => [.int .i64 s]) (fun s => [vi .i64 m]) (fun s => s ≤ j ∧ (i' ≤ s + 1 ∨ s = j)) (fun s => (s + 1 - i').toNat) (j) (by simp [frameOk, names, lpz, sclp, scv, scvs, nrfs, nrf, FRB]) (by omega) ?_ ?_
                       · (refine bni ?_; repeat (refine bnk ?_; simp (disch := first | omega | (simp only [LN]; omega)) only [↓EC, EW, seval, ↓reduceIte, ↓EBD, EBE, ColV_def]))
                       · rintro j' ⟨h7, h8⟩
                         (refine bni ?_; repeat (refine bnk ?_; simp (disch := first | omega | (simp only [LN]; omega)) only [↓EC, EW, seval, ↓reduceIte, ↓EBD, EBE, ColV_def, lheap_def]))
                         (refine Split.mkB (fun h => ?_) (fun h => ?_) <;> (try simp only [SD] at h))
                         · (refine bni ?_; repeat (refine bnk ?_; (try simp (disch := first | omega | (simp only [LN]; omega)) only [↓EC, EW, seval, ↓reduceIte, ↓EBD, EBE])))
                           refine pcd_v c_less ?_
                           (refine bni ?_; repeat (refine bnk ?_; (try simp (disch := first | omega | (simp only [LN]; omega)) only [↓EC, EW, seval, ↓reduceIte, ↓EBD, EBE])))
                           (refine Split.mkB (fun h => ?_) (fun h => ?_) <;> (try simp only [SD] at h))
                           · (refine bni ?_; repeat (refine bnk ?_; (try simp (disch := first | omega | (simp only [LN]; omega)) only [↓EC, EW, seval, ↓reduceIte, ↓EBD, EBE])))
                             exact ⟨j' - 1, rfl, by omega, by omega⟩
                           · (refine bni ?_; repeat (refine bnk ?_; (try simp (disch := first | omega | (simp only [LN]; omega)) only [↓EC, EW, seval, ↓reduceIte, ↓EBD, EBE])))
                             (refine Split.mkB (fun h => ?_) (fun h => ?_) <;> (try simp only [SD] at h))
                             · first
                               | omega
                               | ((refine bni ?_; repeat (refine bnk ?_; (try simp (disch := first | omega | (simp only [LN]; omega)) only [↓EC, EW, seval, ↓reduceIte, ↓EBD, EBE]))); exact ⟨_, _, rfl, by omega, by omega, _, rfl, by simp [h1]⟩)
                             · first
                               | omega
                               | ((refine bni ?_; repeat (refine bnk ?_; (try simp (disch := first | omega | (simp only [LN]; omega)) only [↓EC, EW, seval, ↓reduceIte, ↓EBD, EBE]))); exact ⟨(_, i' + 1, j' - 1), rfl, rfl, ⟨by simp [h1], by simp only; omega⟩, by simp only; omega⟩)
                         · (refine bni ?_; repeat (refine bnk ?_; (try simp (disch := first | omega | (simp only [LN]; omega)) only [↓EC, EW, seval, ↓reduceIte, ↓EBD, EBE])))
                           (refine Split.mkB (fun h => ?_) (fun h => ?_) <;> (try simp only [SD] at h))
                           · first
                             | omega
                             | ((refine bni ?_; repeat (refine bnk ?_; (try simp (disch := first | omega | (simp only [LN]; omega)) only [↓EC, EW, seval, ↓reduceIte, ↓EBD, EBE]))); exact ⟨_, _, rfl, by omega, by omega, _, rfl, by simp [h1]⟩)
                           · first
                             | omega
                             | ((refine bni ?_; repeat (refine bnk ?_; (try simp (disch := first | omega | (simp only [LN]; omega)) only [↓EC, EW, seval, ↓reduceIte, ↓EBD, EBE]))); exact ⟨(_, i' + 1, j' - 1), rfl, rfl, ⟨by simp [h1], by simp only; omega⟩, by simp only; omega⟩))
    · (refine bni ?_; repeat (refine bnk ?_; (try simp (disch := first | omega | (simp only [LN]; omega)) only [↓EC, EW, seval, ↓reduceIte, ↓EBD, EBE])))
      refine LPx_of (σ := Int) 300000 [(0, 2, 1)] (fun s => [.int .i64 s]) (fun s => [vi .i64 m]) (fun s => s ≤ b - 1 ∧ (i' ≤ s + 1 ∨ s = b - 1)) (fun s => (s + 1 - i').toNat) (b - 1) (by simp [frameOk, names, lpz, sclp, scv, scvs, nrfs, nrf, FRB]) (by omega) ?_ ?_
      · (refine bni ?_; repeat (refine bnk ?_; simp (disch := first | omega | (simp only [LN]; omega)) only [↓EC, EW, seval, ↓reduceIte, ↓EBD, EBE, ColV_def]))
      · rintro j' ⟨h7, h8⟩
        (refine bni ?_; repeat (refine bnk ?_; simp (disch := first | omega | (simp only [LN]; omega)) only [↓EC, EW, seval, ↓reduceIte, ↓EBD, EBE, ColV_def, lheap_def]))
        (refine Split.mkB (fun h => ?_) (fun h => ?_) <;> (try simp only [SD] at h))
        · (refine bni ?_; repeat (refine bnk ?_; (try simp (disch := first | omega | (simp only [LN]; omega)) only [↓EC, EW, seval, ↓reduceIte, ↓EBD, EBE])))
          refine pcd_v c_less ?_
          (refine bni ?_; repeat (refine bnk ?_; (try simp (disch := first | omega | (simp only [LN]; omega)) only [↓EC, EW, seval, ↓reduceIte, ↓EBD, EBE])))
          (refine Split.mkB (fun h => ?_) (fun h => ?_) <;> (try simp only [SD] at h))
          · (refine bni ?_; repeat (refine bnk ?_; (try simp (disch := first | omega | (simp only [LN]; omega)) only [↓EC, EW, seval, ↓reduceIte, ↓EBD, EBE])))
            exact ⟨j' - 1, rfl, by omega, by omega⟩
          · (refine bni ?_; repeat (refine bnk ?_; (try simp (disch := first | omega | (simp only [LN]; omega)) only [↓EC, EW, seval, ↓reduceIte, ↓EBD, EBE])))
            (refine Split.mkB (fun h => ?_) (fun h => ?_) <;> (try simp only [SD] at h))
            · first
              | omega
              | ((refine bni ?_; repeat (refine bnk ?_; (try simp (disch := first | omega | (simp only [LN]; omega)) only [↓EC, EW, seval, ↓reduceIte, ↓EBD, EBE]))); exact ⟨_, _, rfl, by omega, by omega, _, rfl, by simp [h1]⟩)
            · first
              | omega
              | (skip
                 (refine bni ?_; repeat (refine bnk ?_; (try simp (disch := first | omega | (simp only [LN]; omega)) only [↓EC, EW, seval, ↓reduceIte, ↓EBD, EBE])))
                 refine LPx_of (σ := List Int × Int × Int) 500000 [(0, 2, 1)] (fun s => [.int .i64 s.2.1, .int .i64 s.2.2]) (fun s => [vi .i64 s.1])
                   (fun s => s.1.length = n ∧ a + 1 ≤ s.2.1 ∧ s.2.1 ≤ s.2.2 + 2 ∧ s.2.2 ≤ b - 1 ∧ s.2.1 ≤ b ∧ a ≤ s.2.2) (fun s => (s.2.2 + 2 - s.2.1).toNat) ((m.set i'.toNat (gi m j'.toNat)).set j'.toNat (gi m i'.toNat), i' + 1, j' - 1) (by simp [frameOk, names, lpz, sclp, scv, scvs, nrfs, nrf, FRB]) ⟨by simp [h1], by simp only; omega⟩ ?_ ?_
                 · (refine bni ?_; repeat (refine bnk ?_; simp (disch := first | omega | (simp only [LN]; omega)) only [↓EC, EW, seval, ↓reduceIte, ↓EBD, EBE, ColV_def]))
                 · rintro ⟨m, i, j⟩ ⟨h1, h2, h3, h4, h9, h10⟩
                   simp only at h1 h2 h3 h4 h9 h10
                   (refine bni ?_; repeat (refine bnk ?_; simp (disch := first | omega | (simp only [LN]; omega)) only [↓EC, EW, seval, ↓reduceIte, ↓EBD, EBE, ColV_def, lheap_def]))
                   (refine bni ?_; repeat (refine bnk ?_; (try simp (disch := first | omega | (simp only [LN]; omega)) only [↓EC, EW, seval, ↓reduceIte, ↓EBD, EBE])))
                   refine LPx_of (σ := Int) 600000 [(0, 2, 1)] (fun s => [.int .i64 s]) (fun s => [vi .i64 m]) (fun s => i ≤ s ∧ (s ≤ j + 1 ∨ s = i)) (fun s => (j + 1 - s).toNat) (i) (by simp [frameOk, names, lpz, sclp, scv, scvs, nrfs, nrf, FRB]) (by omega) ?_ ?_
                   · (refine bni ?_; repeat (refine bnk ?_; simp (disch := first | omega | (simp only [LN]; omega)) only [↓EC, EW, seval, ↓reduceIte, ↓EBD, EBE, ColV_def]))
                   · rintro i' ⟨h5, h6⟩
                     (refine bni ?_; repeat (refine bnk ?_; simp (disch := first | omega | (simp only [LN]; omega)) only [↓EC, EW, seval, ↓reduceIte, ↓EBD, EBE, ColV_def, lheap_def]))
                     (refine Split.mkB (fun h => ?_) (fun h => ?_) <;> (try simp only [SD] at h))
                     · (refine bni ?_; repeat (refine bnk ?_; (try simp (disch := first | omega | (simp only [LN]; omega)) only [↓EC, EW, seval, ↓reduceIte, ↓EBD, EBE])))
                       refine pcd_v c_less ?_
                       (refine bni ?_; repeat (refine bnk ?_; (try simp (disch := first | omega | (simp only [LN]; omega)) only [↓EC, EW, seval, ↓reduceIte, ↓EBD, EBE])))
                       (refine Split.mkB (fun h => ?_) (fun h => ?_) <;> (try simp only [SD] at h))
                       · (refine bni ?_; repeat (refine bnk ?_; (try simp (disch := first | omega | (simp only [LN]; omega)) only [↓EC, EW, seval, ↓reduceIte, ↓EBD, EBE])))
                         exact ⟨i' + 1, rfl, by omega, by omega⟩
                       · (refine bni ?_; repeat (refine bnk ?_; (try simp (disch := first | omega | (simp only [LN]; omega)) only [↓EC, EW, seval, ↓reduceIte, ↓EBD, EBE])))
                         refine LPx_of (σ := Int) 700000 [(0, 2, 1)] (fun s => [.int .i64 s]) (fun s => [vi .i64 m]) (fun s => s ≤ j ∧ (i' ≤ s + 1 ∨ s = j)) (fun s => (s + 1 - i').toNat) (j) (by simp [frameOk, names, lpz, sclp, scv, scvs, nrfs, nrf, FRB]) (by omega) ?_ ?_
                         · (refine bni ?_; repeat (refine bnk ?_; simp (disch := first | omega | (simp only [LN]; omega)) only [↓EC, EW, seval, ↓reduceIte, ↓EBD, EBE, ColV_def]))
                         · rintro j' ⟨h7, h8⟩
                           (refine bni ?_; repeat (refine bnk ?_; simp (disch := first | omega | (simp only [LN]; omega)) only [↓EC, EW, seval, ↓reduceIte, ↓EBD, EBE, ColV_def, lheap_def]))
                           (refine Split.mkB (fun h => ?_) (fun h => ?_) <;> (try simp only [SD] at h))
                           · (refine bni ?_; repeat (refine bnk ?_; (try simp (disch := first | omega | (simp only [LN]; omega)) only [↓EC, EW, seval, ↓reduceIte, ↓EBD, EBE])))
                             refine pcd_v c_less ?_
                             (refine bni ?_; repeat (refine bnk ?_; (try simp (disch := first | omega | (simp only [LN]; omega)) only [↓EC, EW, seval, ↓reduceIte, ↓EBD, EBE])))
                             (refine Split.mkB (fun h => ?_) (fun h => ?_) <;> (try simp only [SD] at h))
                             · (refine bni ?_; repeat (refine bnk ?_; (try simp (disch := first | omega | (simp only [LN]; omega)) only [↓EC, EW, seval, ↓reduceIte, ↓EBD, EBE])))
                               exact ⟨j' - 1, rfl, by omega, by omega⟩
                             · (refine bni ?_; repeat (refine bnk ?_; (try simp (disch := first | omega | (simp only [LN]; omega)) only [↓EC, EW, seval, ↓reduceIte, ↓EBD, EBE])))
                               (refine Split.mkB (fun h => ?_) (fun h => ?_) <;> (try simp only [SD] at h))
                               · first
                                 | omega
                                 | ((refine bni ?_; repeat (refine bnk ?_; (try simp (disch := first | omega | (simp only [LN]; omega)) only [↓EC, EW, seval, ↓reduceIte, ↓EBD, EBE]))); exact ⟨_, _, rfl, by omega, by omega, _, rfl, by simp [h1]⟩)
                               · first
                                 | omega
                                 | ((refine bni ?_; repeat (refine bnk ?_; (try simp (disch := first | omega | (simp only [LN]; omega)) only [↓EC, EW, seval, ↓reduceIte, ↓EBD, EBE]))); exact ⟨(_, i' + 1, j' - 1), rfl, rfl, ⟨by simp [h1], by simp only; omega⟩, by simp only; omega⟩)
                           · (refine bni ?_; repeat (refine bnk ?_; (try simp (disch := first | omega | (simp only [LN]; omega)) only [↓EC, EW, seval, ↓reduceIte, ↓EBD, EBE])))
                             (refine Split.mkB (fun h => ?_) (fun h => ?_) <;> (try simp only [SD] at h))
                             · first
                               | omega
                               | ((refine bni ?_; repeat (refine bnk ?_; (try simp (disch := first | omega | (simp only [LN]; omega)) only [↓EC, EW, seval, ↓reduceIte, ↓EBD, EBE]))); exact ⟨_, _, rfl, by omega, by omega, _, rfl, by simp [h1]⟩)
                             · first
                               | omega
                               | ((refine bni ?_; repeat (refine bnk ?_; (try simp (disch := first | omega | (simp only [LN]; omega)) only [↓EC, EW, seval, ↓reduceIte, ↓EBD, EBE]))); exact ⟨(_, i' + 1, j' - 1), rfl, rfl, ⟨by simp [h1], by simp only; omega⟩, by simp only; omega⟩)
                     · (refine bni ?_; repeat (refine bnk ?_; (try simp (disch := first | omega | (simp only [LN]; omega)) only [↓EC, EW, seval, ↓reduceIte, ↓EBD, EBE])))
                       refine LPx_of (σ := Int) 700000 [(0, 2, 1)] (fun s => [.int .i64 s]) (fun s => [vi .i64 m]) (fun s => s ≤ j ∧ (i' ≤ s + 1 ∨ s = j)) (fun s => (s + 1 - i').toNat) (j) (by simp [frameOk, names, lpz, sclp, scv, scvs, nrfs, nrf, FRB]) (by omega) ?_ ?_
                       · (refine bni ?_; repeat (refine bnk ?_; simp (disch := first | omega | (simp only [LN]; omega)) only [↓EC, EW, seval, ↓reduceIte, ↓EBD, EBE, ColV_def]))
                       · rintro j' ⟨h7, h8⟩
                         (refine bni ?_; repeat (refine bnk ?_; simp (disch := first | omega | (simp only [LN]; omega)) only [↓EC, EW, seval, ↓reduceIte, ↓EBD, EBE, ColV_def, lheap_def]))
                         (refine Split.mkB (fun h => ?_) (fun h => ?_) <;> (try simp only [SD] at h))
                         · (refine bni ?_; repeat (refine bnk ?_; (try simp (disch := first | omega | (simp only [LN]; omega)) only [↓EC, EW, seval, ↓reduceIte, ↓EBD, EBE])))
                           refine pcd_v c_less ?_
                           (refine bni ?_; repeat (refine bnk ?_; (try simp (disch := first | omega | (simp only [LN]; omega)) only [↓EC, EW, seval, ↓reduceIte, ↓EBD, EBE])))
                           (refine Split.mkB (fun h => ?_) (fun h => ?_) <;> (try simp only [SD] at h))
                           · (refine bni ?_; repeat (refine bnk ?_; (try simp (disch := first | omega | (simp only [LN]; omega)) only [↓EC, EW, seval, ↓reduceIte, ↓EBD, EBE])))
                             exact ⟨j' - 1, rfl, by omega, by omega⟩
                           · (refine bni ?_; repeat (refine bnk ?_; (try simp (disch := first | omega | (simp only [LN]; omega)) only [↓EC, EW, seval, ↓reduceIte, ↓EBD, EBE])))
                             (refine Split.mkB (fun h => ?_) (fun h => ?_) <;> (try simp only [SD] at h))
                             · first
                               | omega
                               | ((refine bni ?_; repeat (refine bnk ?_; (try simp (disch := first | omega | (simp only [LN]; omega)) only [↓EC, EW, seval, ↓reduceIte, ↓EBD, EBE]))); exact ⟨_, _, rfl, by omega, by omega, _, rfl, by simp [h1]⟩)
                             · first
                               | omega
                               | ((refine bni ?_; repeat (refine bnk ?_; (try simp (disch := first | omega | (simp only [LN]; omega)) only [↓EC, EW, seval, ↓reduceIte, ↓EBD, EBE]))); exact ⟨(_, i' + 1, j' - 1), rfl, rfl, ⟨by simp [h1], by simp only; omega⟩, by simp only; omega⟩)
                         · (refine bni ?_; repeat (refine bnk ?_; (try simp (disch := first | omega | (simp only [LN]; omega)) only [↓EC, EW, seval, ↓reduceIte, ↓EBD, EBE])))
                           (refine Split.mkB (fun h => ?_) (fun h => ?_) <;> (try simp only [SD] at h))
                           · first
                             | omega
                             | ((refine bni ?_; repeat (refine bnk ?_; (try simp (disch := first | omega | (simp only [LN]; omega)) only [↓EC, EW, seval, ↓reduceIte, ↓EBD, EBE]))); exact ⟨_, _, rfl, by omega, by omega, _, rfl, by simp [h1]⟩)
                           · first
                             | omega
                             | ((refine bni ?_; repeat (refine bnk ?_; (try simp (disch := first | omega | (simp only [LN]; omega)) only [↓EC, EW, seval, ↓reduceIte, ↓EBD, EBE]))); exact ⟨(_, i' + 1, j' - 1), rfl, rfl, ⟨by simp [h1], by simp only; omega⟩, by simp only; omega⟩))
        · (refine bni ?_; repeat (refine bnk ?_; (try simp (disch := first | omega | (simp only [LN]; omega)) only [↓EC, EW, seval, ↓reduceIte, ↓EBD, EBE])))
          (refine Split.mkB (fun h => ?_) (fun h => ?_) <;> (try simp only [SD] at h))
          · first
            | omega
            | ((refine bni ?_; repeat (refine bnk ?_; (try simp (disch := first | omega | (simp only [LN]; omega)) only [↓EC, EW, seval, ↓reduceIte, ↓EBD, EBE]))); exact ⟨_, _, rfl, by omega, by omega, _, rfl, by simp [h1]⟩)
          · first
            | omega
            | (skip
               (refine bni ?_; repeat (refine bnk ?_; (try simp (disch := first | omega | (simp only [LN]; omega)) only [↓EC, EW, seval, ↓reduceIte, ↓EBD, EBE])))
               refine LPx_of (σ := List Int × Int × Int) 500000 [(0, 2, 1)] (fun s => [.int .i64 s.2.1, .int .i64 s.2.2]) (fun s => [vi .i64 s.1])
                 (fun s => s.1.length = n ∧ a + 1 ≤ s.2.1 ∧ s.2.1 ≤ s.2.2 + 2 ∧ s.2.2 ≤ b - 1 ∧ s.2.1 ≤ b ∧ a ≤ s.2.2) (fun s => (s.2.2 + 2 - s.2.1).toNat) ((m.set i'.toNat (gi m j'.toNat)).set j'.toNat (gi m i'.toNat), i' + 1, j' - 1) (by simp [frameOk, names, lpz, sclp, scv, scvs, nrfs, nrf, FRB]) ⟨by simp [h1], by simp only; omega⟩ ?_ ?_
               · (refine bni ?_; repeat (refine bnk ?_; simp (disch := first | omega | (simp only [LN]; omega)) only [↓EC, EW, seval, ↓reduceIte, ↓EBD, EBE, ColV_def]))
               · rintro ⟨m, i, j⟩ ⟨h1, h2, h3, h4, h9, h10⟩
                 simp only at h1 h2 h3 h4 h9 h10
                 (refine bni ?_; repeat (refine bnk ?_; simp (disch := first | omega | (simp only [LN]; omega)) only [↓EC, EW, seval, ↓reduceIte, ↓EBD, EBE, ColV_def, lheap_def]))
                 (refine bni ?_; repeat (refine bnk ?_; (try simp (disch := first | omega | (simp only [LN]; omega)) only [↓EC, EW, seval, ↓reduceIte, ↓EBD, EBE])))
                 refine LPx_of (σ := Int) 600000 [(0, 2, 1)] (fun s => [.int .i64 s]) (fun s => [vi .i64 m]) (fun s => i ≤ s ∧ (s ≤ j + 1 ∨ s = i)) (fun s => (j + 1 - s).toNat) (i) (by simp [frameOk, names, lpz, sclp, scv, scvs, nrfs, nrf, FRB]) (by omega) ?_ ?_
                 · (refine bni ?_; repeat (refine bnk ?_; simp (disch := first | omega | (simp only [LN]; omega)) only [↓EC, EW, seval, ↓reduceIte, ↓EBD, EBE, ColV_def]))
                 · rintro i' ⟨h5, h6⟩
                   (refine bni ?_; repeat (refine bnk ?_; simp (disch := first | omega | (simp only [LN]; omega)) only [↓EC, EW, seval, ↓reduceIte, ↓EBD, EBE, ColV_def, lheap_def]))
                   (refine Split.mkB (fun h => ?_) (fun h => ?_) <;> (try simp only [SD] at h))
                   · (refine bni ?_; repeat (refine bnk ?_; (try simp (disch := first | omega | (simp only [LN]; omega)) only [↓EC, EW, seval, ↓reduceIte, ↓EBD, EBE])))
                     refine pcd_v c_less ?_
                     (refine bni ?_; repeat (refine bnk ?_; (try simp (disch := first | omega | (simp only [LN]; omega)) only [↓EC, EW, seval, ↓reduceIte, ↓EBD, EBE])))
                     (refine Split.mkB (fun h => ?_) (fun h => ?_) <;> (try simp only [SD] at h))
                     · (refine bni ?_; repeat (refine bnk ?_; (try simp (disch := first | omega | (simp only [LN]; omega)) only [↓EC, EW, seval, ↓reduceIte, ↓EBD, EBE])))
                       exact ⟨i' + 1, rfl, by omega, by omega⟩
                     · (refine bni ?_; repeat (refine bnk ?_; (try simp (disch := first | omega | (simp only [LN]; omega)) only [↓EC, EW, seval, ↓reduceIte, ↓EBD, EBE])))
                       refine LPx_of (σ := Int) 700000 [(0, 2, 1)] (fun s => [.int .i64 s]) (fun s => [vi .i64 m]) (fun s => s ≤ j ∧ (i' ≤ s + 1 ∨ s = j)) (fun s => (s + 1 - i').toNat) (j) (by simp [frameOk, names, lpz, sclp, scv, scvs, nrfs, nrf, FRB]) (by omega) ?_ ?_
                       · (refine bni ?_; repeat (refine bnk ?_; simp (disch := first | omega | (simp only [LN]; omega)) only [↓EC, EW, seval, ↓reduceIte, ↓EBD, EBE, ColV_def]))
                       · rintro j' ⟨h7, h8⟩
                         (refine bni ?_; repeat (refine bnk ?_; simp (disch := first | omega | (simp only [LN]; omega)) only [↓EC, EW, seval, ↓reduceIte, ↓EBD, EBE, ColV_def, lheap_def]))
                         (refine Split.mkB (fun h => ?_) (fun h => ?_) <;> (try simp only [SD] at h))
                         · (refine bni ?_; repeat (refine bnk ?_; (try simp (disch := first | omega | (simp only [LN]; omega)) only [↓EC, EW, seval, ↓reduceIte, ↓EBD, EBE])))
                           refine pcd_v c_less ?_
                           (refine bni ?_; repeat (refine bnk ?_; (try simp (disch := first | omega | (simp only [LN]; omega)) only [↓EC, EW, seval, ↓reduceIte, ↓EBD, EBE])))
                           (refine Split.mkB (fun h => ?_) (fun h => ?_) <;> (try simp only [SD] at h))
                           · (refine bni ?_; repeat (refine bnk ?_; (try simp (disch := first | omega | (simp only [LN]; omega)) only [↓EC, EW, seval, ↓reduceIte, ↓EBD, EBE])))
                             exact ⟨j' - 1, rfl, by omega, by omega⟩
                           · (refine bni ?_; repeat (refine bnk ?_; (try simp (disch := first | omega | (simp only [LN]; omega)) only [↓EC, EW, seval, ↓reduceIte, ↓EBD, EBE])))
                             (refine Split.mkB (fun h => ?_) (fun h => ?_) <;> (try simp only [SD] at h))
                             · first
                               | omega
                               | ((refine bni ?_; repeat (refine bnk ?_; (try simp (disch := first | omega | (simp only [LN]; omega)) only [↓EC, EW, seval, ↓reduceIte, ↓EBD, EBE]))); exact ⟨_, _, rfl, by omega, by omega, _, rfl, by simp [h1]⟩)
                             · first
                               | omega
                               | ((refine bni ?_; repeat (refine bnk ?_; (try simp (disch := first | omega | (simp only [LN]; omega)) only [↓EC, EW, seval, ↓reduceIte, ↓EBD, EBE]))); exact ⟨(_, i' + 1, j' - 1), rfl, rfl, ⟨by simp [h1], by simp only; omega⟩, by simp only; omega⟩)
                         · (refine bni ?_; repeat (refine bnk ?_; (try simp (disch := first | omega | (simp only [LN]; omega)) only [↓EC, EW, seval, ↓reduceIte, ↓EBD, EBE])))
                           (refine Split.mkB (fun h => ?_) (fun h => ?_) <;> (try simp only [SD] at h))
                           · first
                             | omega
                             | ((refine bni ?_; repeat (refine bnk ?_; (try simp (disch := first | omega | (simp only [LN]; omega)) only [↓EC, EW, seval, ↓reduceIte, ↓EBD, EBE]))); exact ⟨_, _, rfl, by omega, by omega, _, rfl, by simp [h1]⟩)
                           · first
                             | omega
                             | ((refine bni ?_; repeat (refine bnk ?_; (try simp (disch := first | omega | (simp only [LN]; omega)) only [↓EC, EW, seval, ↓reduceIte, ↓EBD, EBE]))); exact ⟨(_, i' + 1, j' - 1), rfl, rfl, ⟨by simp [h1], by simp only; omega⟩, by simp only; omega⟩)
                   · (refine bni ?_; repeat (refine bnk ?_; (try simp (disch := first | omega | (simp only [LN]; omega)) only [↓EC, EW, seval, ↓reduceIte, ↓EBD, EBE])))
                     refine LPx_of (σ := Int) 700000 [(0, 2, 1)] (fun s => [.int .i64 s]) (fun s => [vi .i64 m]) (fun s => s ≤ j ∧ (i' ≤ s + 1 ∨ s = j)) (fun s => (s + 1 - i').toNat) (j) (by simp [frameOk, names, lpz, sclp, scv, scvs, nrfs, nrf, FRB]) (by omega) ?_ ?_
                     · (refine bni ?_; repeat (refine bnk ?_; simp (disch := first | omega | (simp only [LN]; omega)) only [↓EC, EW, seval, ↓reduceIte, ↓EBD, EBE, ColV_def]))
                     · rintro j' ⟨h7, h8⟩
                       (refine bni ?_; repeat (refine bnk ?_; simp (disch := first | omega | (simp only [LN]; omega)) only [↓EC, EW, seval, ↓reduceIte, ↓EBD, EBE, ColV_def, lheap_def]))
                       (refine Split.mkB (fun h => ?_) (fun h => ?_) <;> (try simp only [SD] at h))
                       · (refine bni ?_; repeat (refine bnk ?_; (try simp (disch := first | omega | (simp only [LN]; omega)) only [↓EC, EW, seval, ↓reduceIte, ↓EBD, EBE])))
                         refine pcd_v c_less ?_
                         (refine bni ?_; repeat (refine bnk ?_; (try simp (disch := first | omega | (simp only [LN]; omega)) only [↓EC, EW, seval, ↓reduceIte, ↓EBD, EBE])))
                         (refine Split.mkB (fun h => ?_) (fun h => ?_) <;> (try simp only [SD] at h))
                         · (refine bni ?_; repeat (refine bnk ?_; (try simp (disch := first | omega | (simp only [LN]; omega)) only [↓EC, EW, seval, ↓reduceIte, ↓EBD, EBE])))
                           exact ⟨j' - 1, rfl, by omega, by omega⟩
                         · (refine bni ?_; repeat (refine bnk ?_; (try simp (disch := first | omega | (simp only [LN]; omega)) only [↓EC, EW, seval, ↓reduceIte, ↓EBD, EBE])))
                           (refine Split.mkB (fun h => ?_) (fun h => ?_) <;> (try simp only [SD] at h))
                           · first
                             | omega
                             | ((refine bni ?_; repeat (refine bnk ?_; (try simp (disch := first | omega | (simp only [LN]; omega)) only [↓EC, EW, seval, ↓reduceIte, ↓EBD, EBE]))); exact ⟨_, _, rfl, by omega, by omega, _, rfl, by simp [h1]⟩)
                           · first
                             | omega
                             | ((refine bni ?_; repeat (refine bnk ?_; (try simp (disch := first | omega | (simp only [LN]; omega)) only [↓EC, EW, seval, ↓reduceIte, ↓EBD, EBE]))); exact ⟨(_, i' + 1, j' - 1), rfl, rfl, ⟨by simp [h1], by simp only; omega⟩, by simp only; omega⟩)
                       · (refine bni ?_; repeat (refine bnk ?_; (try simp (disch := first | omega | (simp only [LN]; omega)) only [↓EC, EW, seval, ↓reduceIte, ↓EBD, EBE])))
                         (refine Split.mkB (fun h => ?_) (fun h => ?_) <;> (try simp only [SD] at h))
                         · first
                           | omega
                           | ((refine bni ?_; repeat (refine bnk ?_; (try simp (disch := first | omega | (simp only [LN]; omega)) only [↓EC, EW, seval, ↓reduceIte, ↓EBD, EBE]))); exact ⟨_, _, rfl, by omega, by omega, _, rfl, by simp [h1]⟩)
                         · first
                           | omega
                           | ((refine bni ?_; repeat (refine bnk ?_; (try simp (disch := first | omega | (simp only [LN]; omega)) only [↓EC, EW, seval, ↓reduceIte, ↓EBD, EBE]))); exact ⟨(_, i' + 1, j' - 1), rfl, rfl, ⟨by simp [h1], by simp only; omega⟩, by simp only; omega⟩))
end
section
set_option maxHeartbeats 8000000
theorem and15 (A : BitVec IntKind.u64.bits) : ∃ q : Nat, q ≤ 15 ∧ IntKind.i64.wrap (IntKind.u64.wrap ((A &&& BitVec.ofInt IntKind.u64.bits 15).toNat : Int)) = (q : Int) := by
  refine ⟨(A &&& BitVec.ofInt IntKind.u64.bits 15).toNat, ?_, ?_⟩
  · rw [BitVec.toNat_and]
    exact Nat.le_trans Nat.and_le_right (by decide)
  · have h : (A &&& BitVec.ofInt IntKind.u64.bits 15).toNat ≤ 15 := by
      rw [BitVec.toNat_and]
      exact Nat.le_trans Nat.and_le_right (by decide)
    generalize (A &&& BitVec.ofInt IntKind.u64.bits 15).toNat = q at *
    simp [IntKind.wrap, IntKind.signed, IntKind.bits]
    omega
theorem and31 (A : BitVec IntKind.u64.bits) : ∃ q : Nat, q ≤ 31 ∧ IntKind.i64.wrap (IntKind.u64.wrap ((A &&& BitVec.ofInt IntKind.u64.bits 31).toNat : Int)) = (q : Int) := by
  refine ⟨(A &&& BitVec.ofInt IntKind.u64.bits 31).toNat, ?_, ?_⟩
  · rw [BitVec.toNat_and]
    exact Nat.le_trans Nat.and_le_right (by decide)
  · have h : (A &&& BitVec.ofInt IntKind.u64.bits 31).toNat ≤ 31 := by
      rw [BitVec.toNat_and]
      exact Nat.le_trans Nat.and_le_right (by decide)
    generalize (A &&& BitVec.ofInt IntKind.u64.bits 31).toNat = q at *
    simp [IntKind.wrap, IntKind.signed, IntKind.bits]
    omega
theorem c_Next {h : Int} : PSpecM Tryz.prog 105 [.ptr 0 0] [(0, 117, 1)] [[.int .u64 h]] fun v c => ∃ r h', v = .int .u64 r ∧ c = [[.int .u64 h']] := by
  refine slices_xorshift_Next_f.m rfl rfl ?_
  simp (disch := first | omega | (simp only [LN]; omega)) only [↓EC, EW, seval, ↓reduceIte, slices_xorshift_Next_F]
  exact ⟨_, _, rfl, rfl⟩
theorem c_Len64N {k : Nat} (hk : k ≤ 16) : PSpec Tryz.prog 102 [.int .u64 k] fun v => ∃ r, v = .int .i64 r ∧ 0 ≤ r ∧ r ≤ 5 ∧ (8 ≤ k → (k < 16 ∧ r = 4 ∨ k = 16 ∧ r = 5)) := by
  refine math_bits_Len64_f.f ?_
  rcases (by omega : k = 0 ∨ k = 1 ∨ k = 2 ∨ k = 3 ∨ k = 4 ∨ k = 5 ∨ k = 6 ∨ k = 7 ∨ k = 8 ∨ k = 9 ∨ k = 10 ∨ k = 11 ∨ k = 12 ∨ k = 13 ∨ k = 14 ∨ k = 15 ∨ k = 16) with
    rfl | rfl | rfl | rfl | rfl | rfl | rfl | rfl | rfl | rfl | rfl | rfl | rfl | rfl | rfl | rfl | rfl
  all_goals
    simp (config := { maxSteps := 10000000 }) (disch := first | omega | (simp only [LN]; omega)) only [↓EC, EW, seval, ↓reduceIte, math_bits_Len64_F]
    first
    | (refine ⟨_, rfl, ?_, ?_, ?_⟩ <;> simp)
    | exact ⟨_, rfl, by decide, by decide⟩
theorem c_LenN {k : Nat} (hk : k ≤ 16) : PSpec Tryz.prog 91 [.int .u64 k] fun v => ∃ r, v = .int .i64 r ∧ 0 ≤ r ∧ r ≤ 5 ∧ (8 ≤ k → (k < 16 ∧ r = 4 ∨ k = 16 ∧ r = 5)) := by
  refine math_bits_Len_f.f ?_
  simp (disch := first | omega | (simp only [LN]; omega)) only [↓EC, EW, seval, ↓reduceIte, math_bits_Len_F]
  refine pcd_r (c_Len64N hk) ?_
  rintro _ ⟨r, rfl, h⟩
  (try simp (disch := first | omega | (simp only [LN]; omega)) only [↓EC, EW, seval, ↓reduceIte])
  exact ⟨r, rfl, h⟩
theorem c_nextPow {k : Nat} (h8 : 8 ≤ k) (hk : k ≤ 16) : PSpec Tryz.prog 104 [.int .i64 k] fun v => k < 16 ∧ v = .int .u64 16 ∨ k = 16 ∧ v = .int .u64 32 := by
  refine slices_nextPowerOfTwo_f.f ?_
  simp (disch := first | omega | (simp only [LN]; omega)) only [↓EC, EW, seval, ↓reduceIte, slices_nextPowerOfTwo_F]
  refine pcd_r (c_LenN hk) ?_
  rintro _ ⟨r, rfl, h1, h2, h3⟩
  rcases h3 h8 with ⟨h4, rfl⟩ | ⟨h4, rfl⟩
  · (try simp (disch := first | omega | (simp only [LN]; omega)) only [↓EC, EW, seval, ↓reduceIte])
    exact .inl ⟨h4, rfl⟩
  · (try simp (disch := first | omega | (simp only [LN]; omega)) only [↓EC, EW, seval, ↓reduceIte])
    exact .inr ⟨h4, rfl⟩
theorem c_breakPatterns {l : List Int} {n : Nat} {a b : Int} (hn : l.length = n) (h0 : 0 ≤ a) (hab : a + 13 ≤ b) (hb : b ≤ n) (hl : n ≤ 16) : PSpecM Tryz.prog 94 [.rf 0 0 n, .int .i64 a, .int .i64 b] [(0, 2, 1)] [vi .i64 l] fun v c => v = .tup [] ∧ kp n c := by
  refine slices_breakPatternsOrdered_int64_f.m rfl rfl ?_
  dsimp only [slices_breakPatternsOrdered_int64_F, pcal_B, pcalp_B, pcala_B, pcond_B, pgk_B, JN_B, LP_B]
  (refine bni ?_; repeat (refine bnk ?_; (try simp (disch := first | omega | (simp only [LN]; omega)) only [↓EC, EW, seval, ↓reduceIte, ↓EBD, EBE])))
  have hd : (b - a).tdiv 4 * 2 = 6 ∨ (b - a).tdiv 4 * 2 = 8 := by
    have h3 := Int.mul_tdiv_add_tmod (b - a) 4
    have h4 := Int.tmod_nonneg 4 (show 0 ≤ b - a by omega)
    have h5 := Int.tmod_lt_of_pos (b - a) (show (0 : Int) < 4 by omega)
    omega
  have hd' : 3 ≤ (b - a).tdiv 4 ∧ (b - a).tdiv 4 ≤ 4 := by omega
  obtain ⟨d, hdd⟩ : ∃ d, (b - a).tdiv 4 = d := ⟨_, rfl⟩
  rw [hdd] at hd hd'
  (refine Split.mkB (fun h => ?_) (fun h => ?_) <;> (try simp only [SD] at h))
  rotate_left
  · omega
  (refine bni ?_; repeat (refine bnk ?_; (try simp (disch := first | omega | (simp only [LN]; omega)) only [↓EC, EW, seval, ↓reduceIte, ↓EBD, EBE])))
  obtain ⟨k, hk⟩ : ∃ k : Nat, b - a = (k : Int) := ⟨(b - a).toNat, by omega⟩
  have hk2 : 13 ≤ k ∧ k ≤ 16 := by omega
  have hdk : (k : Int).tdiv 4 = d := by rw [← hk, hdd]
  rw [hk]
  refine pcd_r (c_nextPow (k := k) (by omega) (by omega)) ?_
  rintro _ (⟨hk1, rfl⟩ | ⟨hk1, rfl⟩)
  · (refine bni ?_; repeat (refine bnk ?_; (try simp (disch := first | omega | (simp only [LN]; omega)) only [↓EC, EW, seval, ↓reduceIte, ↓EBD, EBE, hdk])))
    refine LPx_of (σ := (List Int × Int) × Int) 100000 [(0, 2, 1), (71, 117, 1)] (fun s => [.int .i64 s.2]) (fun s => [vi .i64 s.1.1, [.int .u64 s.1.2]])
      (fun s => s.1.1.length = n ∧ a ≤ s.2) (fun s => (a + d * 2 + 2 - s.2).toNat) ((l, k), a + d * 2 - 1) (by simp [frameOk, names, lpz, sclp, scv, scvs, nrfs, nrf, FRB]) ⟨hn, by simp only; omega⟩ ?_ ?_
    · (refine bni ?_; repeat (refine bnk ?_; simp (disch := first | omega | (simp only [LN]; omega)) only [↓EC, EW, seval, ↓reduceIte, ↓EBD, EBE, ColV_def]))
    · rintro ⟨⟨m, h⟩, i⟩ ⟨h1, h2⟩
      simp only at h1 h2
      (refine bni ?_; repeat (refine bnk ?_; simp (disch := first | omega | (simp only [LN]; omega)) only [↓EC, EW, seval, ↓reduceIte, ↓EBD, EBE, ColV_def, lheap_def, hdk]))
      (refine Split.mkB (fun h => ?_) (fun h => ?_) <;> (try simp only [SD] at h))
      · (refine bni ?_; repeat (refine bnk ?_; (try simp (disch := first | omega | (simp only [LN]; omega)) only [↓EC, EW, seval, ↓reduceIte, ↓EBD, EBE])))
        refine pcm [71] rfl ?_
        (refine bni ?_; repeat (refine bnk ?_; (try simp (disch := first | omega | (simp only [LN]; omega)) only [↓EC, EW, seval, ↓reduceIte, ↓EBD, EBE])))
        refine callM_d c_Next ?_
        rintro _ _ ⟨r, h', rfl, rfl⟩
        (refine bni ?_; repeat (refine bnk ?_; (try simp (disch := first | omega | (simp only [LN]; omega)) only [↓EC, EW, seval, ↓reduceIte, ↓EBD, EBE])))
        obtain ⟨q, hq, e⟩ := and15 (BitVec.ofInt IntKind.u64.bits r)
        rw [e]
        refine JNx_un ?_
        (refine bni ?_; repeat (refine bnk ?_; (try simp (disch := first | omega | (simp only [LN]; omega)) only [↓EC, EW, seval, ↓reduceIte, ↓EBD, EBE])))
        (refine Split.mkB (fun h => ?_) (fun h => ?_) <;> (try simp only [SD] at h))
        · (refine bni ?_; repeat (refine bnk ?_; (try simp (disch := first | omega | (simp only [LN]; omega)) only [↓EC, EW, seval, ↓reduceIte, ↓EBD, EBE])))
          exact ⟨((_, h'), i + 1), rfl, rfl, ⟨by simp [h1], by simp only; omega⟩, by simp only; omega⟩
        · (refine bni ?_; repeat (refine bnk ?_; (try simp (disch := first | omega | (simp only [LN]; omega)) only [↓EC, EW, seval, ↓reduceIte, ↓EBD, EBE])))
          exact ⟨((_, h'), i + 1), rfl, rfl, ⟨by simp [h1], by simp only; omega⟩, by simp only; omega⟩
      · (refine bni ?_; repeat (refine bnk ?_; (try simp (disch := first | omega | (simp only [LN]; omega)) only [↓EC, EW, seval, ↓reduceIte, ↓EBD, EBE])))
        exact ⟨m, rfl, h1⟩
  · (refine bni ?_; repeat (refine bnk ?_; (try simp (disch := first | omega | (simp only [LN]; omega)) only [↓EC, EW, seval, ↓reduceIte, ↓EBD, EBE, hdk])))
    refine LPx_of (σ := (List Int × Int) × Int) 100000 [(0, 2, 1), (71, 117, 1)] (fun s => [.int .i64 s.2]) (fun s => [vi .i64 s.1.1, [.int .u64 s.1.2]])
      (fun s => s.1.1.length = n ∧ a ≤ s.2) (fun s => (a + d * 2 + 2 - s.2).toNat) ((l, k), a + d * 2 - 1) (by simp [frameOk, names, lpz, sclp, scv, scvs, nrfs, nrf, FRB]) ⟨hn, by simp only; omega⟩ ?_ ?_
    · (refine bni ?_; repeat (refine bnk ?_; simp (disch := first | omega | (simp only [LN]; omega)) only [↓EC, EW, seval, ↓reduceIte, ↓EBD, EBE, ColV_def]))
    · rintro ⟨⟨m, h⟩, i⟩ ⟨h1, h2⟩
      simp only at h1 h2
      (refine bni ?_; repeat (refine bnk ?_; simp (disch := first | omega | (simp only [LN]; omega)) only [↓EC, EW, seval, ↓reduceIte, ↓EBD, EBE, ColV_def, lheap_def, hdk]))
      (refine Split.mkB (fun h => ?_) (fun h => ?_) <;> (try simp only [SD] at h))
      · (refine bni ?_; repeat (refine bnk ?_; (try simp (disch := first | omega | (simp only [LN]; omega)) only [↓EC, EW, seval, ↓reduceIte, ↓EBD, EBE])))
        refine pcm [71] rfl ?_
        (refine bni ?_; repeat (refine bnk ?_; (try simp (disch := first | omega | (simp only [LN]; omega)) only [↓EC, EW, seval, ↓reduceIte, ↓EBD, EBE])))
        refine callM_d c_Next ?_
        rintro _ _ ⟨r, h', rfl, rfl⟩
        (refine bni ?_; repeat (refine bnk ?_; (try simp (disch := first | omega | (simp only [LN]; omega)) only [↓EC, EW, seval, ↓reduceIte, ↓EBD, EBE])))
        obtain ⟨q, hq, e⟩ := and31 (BitVec.ofInt IntKind.u64.bits r)
        rw [e]
        refine JNx_un ?_
        (refine bni ?_; repeat (refine bnk ?_; (try simp (disch := first | omega | (simp only [LN]; omega)) only [↓EC, EW, seval, ↓reduceIte, ↓EBD, EBE])))
        (refine Split.mkB (fun h => ?_) (fun h => ?_) <;> (try simp only [SD] at h))
        · (refine bni ?_; repeat (refine bnk ?_; (try simp (disch := first | omega | (simp only [LN]; omega)) only [↓EC, EW, seval, ↓reduceIte, ↓EBD, EBE])))
          exact ⟨((_, h'), i + 1), rfl, rfl, ⟨by simp [h1], by simp only; omega⟩, by simp only; omega⟩
        · (refine bni ?_; repeat (refine bnk ?_; (try simp (disch := first | omega | (simp only [LN]; omega)) only [↓EC, EW, seval, ↓reduceIte, ↓EBD, EBE])))
          exact ⟨((_, h'), i + 1), rfl, rfl, ⟨by simp [h1], by simp only; omega⟩, by simp only; omega⟩
      · (refine bni ?_; repeat (refine bnk ?_; (try simp (disch := first | omega | (simp only [LN]; omega)) only [↓EC, EW, seval, ↓reduceIte, ↓EBD, EBE])))
        exact ⟨m, rfl, h1⟩
theorem JNx_of {F : (List V → Hp → Prop) → Prop} {G : List V → Hp → Prop} {u : Hide F} {v : Hide G} (I : List V → Hp → Prop) (hF : ∀ K : List V → Hp → Prop, (∀ o h, I o h → K o h) → F K) (hG : ∀ o h, I o h → G o h) : JNx F G u v := hF G hG
theorem c_pdqsortN {n : Nat} (hl : n ≤ 16) : ∀ (c : Nat) {l : List Int} {a b k : Int}, (b - a).toNat = c → l.length = n → 0 ≤ a → a ≤ b → b ≤ n → 0 ≤ k ∧ k ≤ 5 →
    PSpecM Tryz.prog 90 [.rf 0 0 n, .int .i64 a, .int .i64 b, .int .i64 k] [(0, 2, 1)] [vi .i64 l] fun v c => v = .tup [] ∧ kp n c := by
  intro c
  induction c using Nat.strongRecOn with
  | ind c ih =>
  intro l a0 b0 k0 hc hn h0 hab hb hk
  refine slices_pdqsortOrdered_int64_f.m rfl rfl ?_
  dsimp only [slices_pdqsortOrdered_int64_F, pcal_B, pcalp_B, pcala_B, pcond_B, pgk_B, JN_B, LP_B]
  (refine bni ?_; repeat (refine bnk ?_; (try simp (disch := first | omega | (simp only [LN]; omega)) only [↓EC, EW, seval, ↓reduceIte, ↓EBD, EBE])))
  refine LPx_of (σ := List Int × (Int × Int × Int) × Bool × Bool) 100000 [(0, 2, 1)] (fun s => [.int .i64 s.2.1.1, .int .i64 s.2.1.2.1, .int .i64 s.2.1.2.2, .bool s.2.2.1, .bool s.2.2.2]) (fun s => [vi .i64 s.1])
    (fun s => s.1.length = n ∧ 0 ≤ s.2.1.1 ∧ s.2.1.1 ≤ s.2.1.2.1 ∧ s.2.1.2.1 ≤ n ∧ (s.2.1.2.1 - s.2.1.1).toNat ≤ c ∧ 0 ≤ s.2.1.2.2 ∧ s.2.1.2.2 ≤ 5) (fun s => (s.2.1.2.1 - s.2.1.1).toNat) (l, (a0, b0, k0), true, true) (by simp [frameOk, names, lpz, sclp, scv, scvs, nrfs, nrf, FRB]) ⟨hn, h0, hab, hb, by simp only; omega, hk⟩ ?_ ?_
  · (refine bni ?_; repeat (refine bnk ?_; simp (disch := first | omega | (simp only [LN]; omega)) only [↓EC, EW, seval, ↓reduceIte, ↓EBD, EBE, ColV_def]))
  · rintro ⟨m, ⟨a, b, k⟩, w, p⟩ ⟨h1, h2, h3, h4, h5, h6, h7⟩
    simp only at h1 h2 h3 h4 h5 h6 h7
    (refine bni ?_; repeat (refine bnk ?_; simp (disch := first | omega | (simp only [LN]; omega)) only [↓EC, EW, seval, ↓reduceIte, ↓EBD, EBE, ColV_def, lheap_def]))
    (refine Split.mkB (fun h => ?_) (fun h => ?_) <;> (try simp only [SD] at h))
    · (refine bni ?_; repeat (refine bnk ?_; (try simp (disch := first | omega | (simp only [LN]; omega)) only [↓EC, EW, seval, ↓reduceIte, ↓EBD, EBE])))
      refine pcm [0] rfl ?_; (refine bni ?_; repeat (refine bnk ?_; (try simp (disch := first | omega | (simp only [LN]; omega)) only [↓EC, EW, seval, ↓reduceIte, ↓EBD, EBE])))
      refine callM_d (c_insertionSortN (a := a) (b := b) h1 (by omega) (by omega) (by omega)) ?_
      rintro _ _ ⟨rfl, m', rfl, hm'⟩
      (refine bni ?_; repeat (refine bnk ?_; (try simp (disch := first | omega | (simp only [LN]; omega)) only [↓EC, EW, seval, ↓reduceIte, ↓EBD, EBE])))
      exact ⟨m', rfl, hm'⟩
    · (refine bni ?_; repeat (refine bnk ?_; (try simp (disch := first | omega | (simp only [LN]; omega)) only [↓EC, EW, seval, ↓reduceIte, ↓EBD, EBE])))
      (refine Split.mkB (fun h => ?_) (fun h => ?_) <;> (try simp only [SD] at h))
      · (refine bni ?_; repeat (refine bnk ?_; (try simp (disch := first | omega | (simp only [LN]; omega)) only [↓EC, EW, seval, ↓reduceIte, ↓EBD, EBE])))
        refine pcm [0] rfl ?_; (refine bni ?_; repeat (refine bnk ?_; (try simp (disch := first | omega | (simp only [LN]; omega)) only [↓EC, EW, seval, ↓reduceIte, ↓EBD, EBE])))
        refine callM_d (c_heapSort (a := a) (b := b) h1 (by omega) (by omega) (by omega) (by omega)) ?_
        rintro _ _ ⟨rfl, m', rfl, hm'⟩
        (refine bni ?_; repeat (refine bnk ?_; (try simp (disch := first | omega | (simp only [LN]; omega)) only [↓EC, EW, seval, ↓reduceIte, ↓EBD, EBE])))
        exact ⟨m', rfl, hm'⟩
      · (refine bni ?_; repeat (refine bnk ?_; (try simp (disch := first | omega | (simp only [LN]; omega)) only [↓EC, EW, seval, ↓reduceIte, ↓EBD, EBE])))
        refine JNx_of (fun o h => ∃ (m : List Int) (k : Int) (h' : Hp), o = [.rf 0 0 n, .int .i64 a, .int .i64 b, .int .i64 k, .bool w, .bool p, .int .i64 (b - a)] ∧ h = hput h' 0 (.row 2 1 (vi .i64 m)) ∧ m.length = n ∧ 0 ≤ k ∧ k ≤ 5) ?_ ?_
        · intro K hK
          (refine bni ?_; repeat (refine bnk ?_; (try simp (disch := first | omega | (simp only [LN]; omega)) only [↓EC, EW, seval, ↓reduceIte, ↓EBD, EBE])))
          (refine Split.mkB (fun h => ?_) (fun h => ?_) <;> (try simp only [SD] at h))
          · (refine bni ?_; repeat (refine bnk ?_; (try simp (disch := first | omega | (simp only [LN]; omega)) only [↓EC, EW, seval, ↓reduceIte, ↓EBD, EBE])))
            refine pcm [0] rfl ?_; (refine bni ?_; repeat (refine bnk ?_; (try simp (disch := first | omega | (simp only [LN]; omega)) only [↓EC, EW, seval, ↓reduceIte, ↓EBD, EBE])))
            refine callM_d (c_breakPatterns (a := a) (b := b) h1 (by omega) (by omega) (by omega) (by omega)) ?_
            rintro _ _ ⟨rfl, m', rfl, hm'⟩
            (refine bni ?_; repeat (refine bnk ?_; (try simp (disch := first | omega | (simp only [LN]; omega)) only [↓EC, EW, seval, ↓reduceIte, ↓EBD, EBE])))
            exact hK _ _ ⟨m', k - 1, _, rfl, rfl, hm', by omega, by omega⟩
          · (refine bni ?_; repeat (refine bnk ?_; (try simp (disch := first | omega | (simp only [LN]; omega)) only [↓EC, EW, seval, ↓reduceIte, ↓EBD, EBE])))
            exact hK _ _ ⟨m, k, _, rfl, rfl, h1, by omega, by omega⟩
        · rintro _ _ ⟨m, k, h', rfl, rfl, h1, h6, h7⟩
          (refine bni ?_; repeat (refine bnk ?_; (try simp (disch := first | omega | (simp only [LN]; omega)) only [↓EC, EW, seval, ↓reduceIte, ↓EBD, EBE])))
          refine pcd_r (c_choosePivot (a := a) (b := b) h1 (by omega) (by omega) (by omega) (by omega)) ?_
          rintro _ ⟨x, y, rfl, hx, hx', hy, hy'⟩
          (refine bni ?_; repeat (refine bnk ?_; (try simp (disch := first | omega | (simp only [LN]; omega)) only [↓EC, EW, seval, ↓reduceIte, ↓EBD, EBE])))
          refine JNx_of (fun o h => ∃ (m : List Int) (w p : Bool) (x y : Int) (h' : Hp), o = [.rf 0 0 n, .int .i64 a, .int .i64 b, .int .i64 k, .bool w, .bool p, .int .i64 (b - a), .int .i64 x, .int .i64 y] ∧ h = hput h' 0 (.row 2 1 (vi .i64 m)) ∧ m.length = n ∧ a ≤ x ∧ x < b) ?_ ?_
          · intro K hK
            (refine bni ?_; repeat (refine bnk ?_; (try simp (disch := first | omega | (simp only [LN]; omega)) only [↓EC, EW, seval, ↓reduceIte, ↓EBD, EBE])))
            (refine Split.mkB (fun h => ?_) (fun h => ?_) <;> (try simp only [SD] at h))
            · (refine bni ?_; repeat (refine bnk ?_; (try simp (disch := first | omega | (simp only [LN]; omega)) only [↓EC, EW, seval, ↓reduceIte, ↓EBD, EBE])))
              refine pcm [0] rfl ?_; (refine bni ?_; repeat (refine bnk ?_; (try simp (disch := first | omega | (simp only [LN]; omega)) only [↓EC, EW, seval, ↓reduceIte, ↓EBD, EBE])))
              refine callM_d (c_reverseRange (a := a) (b := b) h1 (by omega) (by omega) (by omega)) ?_
              rintro _ _ ⟨rfl, m', rfl, hm'⟩
              (refine bni ?_; repeat (refine bnk ?_; (try simp (disch := first | omega | (simp only [LN]; omega)) only [↓EC, EW, seval, ↓reduceIte, ↓EBD, EBE])))
              exact hK _ _ ⟨m', w, p, _, _, _, rfl, rfl, hm', by omega, by omega⟩
            · (refine bni ?_; repeat (refine bnk ?_; (try simp (disch := first | omega | (simp only [LN]; omega)) only [↓EC, EW, seval, ↓reduceIte, ↓EBD, EBE])))
              exact hK _ _ ⟨m, w, p, _, _, _, rfl, rfl, h1, by omega, by omega⟩
          · rintro _ _ ⟨m, w, p, x, y, h', rfl, rfl, h1, hx, hx'⟩
            (refine bni ?_; repeat (refine bnk ?_; (try simp (disch := first | omega | (simp only [LN]; omega)) only [↓EC, EW, seval, ↓reduceIte, ↓EBD, EBE])))
            refine JNx_of (fun o h => ∃ (m : List Int) (h' : Hp), o = [.rf 0 0 n, .int .i64 a, .int .i64 b, .int .i64 k, .bool w, .bool p, .int .i64 (b - a), .int .i64 x] ∧ h = hput h' 0 (.row 2 1 (vi .i64 m)) ∧ m.length = n) ?_ ?_
            · intro K hK
              cases w
              · (refine bni ?_; repeat (refine bnk ?_; (try simp (disch := first | omega | (simp only [LN]; omega)) only [↓EC, EW, seval, ↓reduceIte, ↓EBD, EBE])))
                exact hK _ _ ⟨m, _, rfl, rfl, h1⟩
              · cases p
                · (refine bni ?_; repeat (refine bnk ?_; (try simp (disch := first | omega | (simp only [LN]; omega)) only [↓EC, EW, seval, ↓reduceIte, ↓EBD, EBE])))
                  exact hK _ _ ⟨m, _, rfl, rfl, h1⟩
                · (refine bni ?_; repeat (refine bnk ?_; (try simp (disch := first | omega | (simp only [LN]; omega)) only [↓EC, EW, seval, ↓reduceIte, ↓EBD, EBE])))
                  (refine Split.mkB (fun h => ?_) (fun h => ?_) <;> (try simp only [SD] at h))
                  · (refine bni ?_; repeat (refine bnk ?_; (try simp (disch := first | omega | (simp only [LN]; omega)) only [↓EC, EW, seval, ↓reduceIte, ↓EBD, EBE])))
                    refine pcd_r (c_partialInsertion (a := a) (b := b) h1 (by omega) (by omega) (by omega) (by omega)) ?_
                    rintro _ ⟨r, rfl⟩
                    cases r
                    · (refine bni ?_; repeat (refine bnk ?_; (try simp (disch := first | omega | (simp only [LN]; omega)) only [↓EC, EW, seval, ↓reduceIte, ↓EBD, EBE])))
                      exact hK _ _ ⟨m, _, rfl, rfl, h1⟩
                    · (refine bni ?_; repeat (refine bnk ?_; (try simp (disch := first | omega | (simp only [LN]; omega)) only [↓EC, EW, seval, ↓reduceIte, ↓EBD, EBE])))
                      exact ⟨m, rfl, h1⟩
                  · (refine bni ?_; repeat (refine bnk ?_; (try simp (disch := first | omega | (simp only [LN]; omega)) only [↓EC, EW, seval, ↓reduceIte, ↓EBD, EBE])))
                    exact hK _ _ ⟨m, _, rfl, rfl, h1⟩
            · rintro _ _ ⟨m, h', rfl, rfl, h1⟩
              (refine bni ?_; repeat (refine bnk ?_; (try simp (disch := first | omega | (simp only [LN]; omega)) only [↓EC, EW, seval, ↓reduceIte, ↓EBD, EBE])))
              (refine Split.mkB (fun h => ?_) (fun h => ?_) <;> (try simp only [SD] at h))
              · (refine bni ?_; repeat (refine bnk ?_; (try simp (disch := first | omega | (simp only [LN]; omega)) only [↓EC, EW, seval, ↓reduceIte, ↓EBD, EBE])))
                refine pcd_v c_less ?_
                (refine bni ?_; repeat (refine bnk ?_; (try simp (disch := first | omega | (simp only [LN]; omega)) only [↓EC, EW, seval, ↓reduceIte, ↓EBD, EBE])))
                (refine Split.mkB (fun h => ?_) (fun h => ?_) <;> (try simp only [SD] at h))
                · (refine bni ?_; repeat (refine bnk ?_; (try simp (disch := first | omega | (simp only [LN]; omega)) only [↓EC, EW, seval, ↓reduceIte, ↓EBD, EBE])))
                  refine pcm [0] rfl ?_; (refine bni ?_; repeat (refine bnk ?_; (try simp (disch := first | omega | (simp only [LN]; omega)) only [↓EC, EW, seval, ↓reduceIte, ↓EBD, EBE])))
                  refine callM_d (c_partitionEqual (a := a) (b := b) (p := x) h1 (by omega) (by omega) (by omega) (by omega) (by omega)) ?_
                  rintro _ _ ⟨x', rfl, hy1, hy2, m', rfl, hm'⟩
                  (refine bni ?_; repeat (refine bnk ?_; (try simp (disch := first | omega | (simp only [LN]; omega)) only [↓EC, EW, seval, ↓reduceIte, ↓EBD, EBE])))
                  exact ⟨(m', (x', b, k), w, p), rfl, rfl, ⟨hm', by simp only; omega⟩, by simp only; omega⟩
                · (refine bni ?_; repeat (refine bnk ?_; (try simp (disch := first | omega | (simp only [LN]; omega)) only [↓EC, EW, seval, ↓reduceIte, ↓EBD, EBE])))
                  refine pcm [0] rfl ?_; (refine bni ?_; repeat (refine bnk ?_; (try simp (disch := first | omega | (simp only [LN]; omega)) only [↓EC, EW, seval, ↓reduceIte, ↓EBD, EBE])))
                  refine callM_d (c_partition (a := a) (b := b) (p := x) h1 (by omega) (by omega) (by omega) (by omega) (by omega)) ?_
                  rintro _ _ ⟨x', r, rfl, hy1, hy2, m', rfl, hm'⟩
                  (refine bni ?_; repeat (refine bnk ?_; (try simp (disch := first | omega | (simp only [LN]; omega)) only [↓EC, EW, seval, ↓reduceIte, ↓EBD, EBE])))
                  (refine Split.mkB (fun h => ?_) (fun h => ?_) <;> (try simp only [SD] at h))
                  · (refine bni ?_; repeat (refine bnk ?_; (try simp (disch := first | omega | (simp only [LN]; omega)) only [↓EC, EW, seval, ↓reduceIte, ↓EBD, EBE])))
                    refine pcm [0] rfl ?_; (refine bni ?_; repeat (refine bnk ?_; (try simp (disch := first | omega | (simp only [LN]; omega)) only [↓EC, EW, seval, ↓reduceIte, ↓EBD, EBE])))
                    refine callM_d (ih (x' - a).toNat (by omega) (l := m') (a := a) (b := x') (k := k) rfl hm' (by omega) (by omega) (by omega) (by omega)) ?_
                    rintro _ _ ⟨rfl, m'', rfl, hm''⟩
                    (refine bni ?_; repeat (refine bnk ?_; (try simp (disch := first | omega | (simp only [LN]; omega)) only [↓EC, EW, seval, ↓reduceIte, ↓EBD, EBE])))
                    exact ⟨(m'', (x' + 1, b, k), _, r), rfl, rfl, ⟨hm'', by simp only; omega⟩, by simp only; omega⟩
                  · (refine bni ?_; repeat (refine bnk ?_; (try simp (disch := first | omega | (simp only [LN]; omega)) only [↓EC, EW, seval, ↓reduceIte, ↓EBD, EBE])))
                    refine pcm [0] rfl ?_; (refine bni ?_; repeat (refine bnk ?_; (try simp (disch := first | omega | (simp only [LN]; omega)) only [↓EC, EW, seval, ↓reduceIte, ↓EBD, EBE])))
                    refine callM_d (ih (b - (x' + 1)).toNat (by omega) (l := m') (a := x' + 1) (b := b) (k := k) rfl hm' (by omega) (by omega) (by omega) (by omega)) ?_
                    rintro _ _ ⟨rfl, m'', rfl, hm''⟩
                    (refine bni ?_; repeat (refine bnk ?_; (try simp (disch := first | omega | (simp only [LN]; omega)) only [↓EC, EW, seval, ↓reduceIte, ↓EBD, EBE])))
                    exact ⟨(m'', (a, x', k), _, r), rfl, rfl, ⟨hm'', by simp only; omega⟩, by simp only; omega⟩
              · (refine bni ?_; repeat (refine bnk ?_; (try simp (disch := first | omega | (simp only [LN]; omega)) only [↓EC, EW, seval, ↓reduceIte, ↓EBD, EBE])))
                refine pcm [0] rfl ?_; (refine bni ?_; repeat (refine bnk ?_; (try simp (disch := first | omega | (simp only [LN]; omega)) only [↓EC, EW, seval, ↓reduceIte, ↓EBD, EBE])))
                refine callM_d (c_partition (a := a) (b := b) (p := x) h1 (by omega) (by omega) (by omega) (by omega) (by omega)) ?_
                rintro _ _ ⟨x', r, rfl, hy1, hy2, m', rfl, hm'⟩
                (refine bni ?_; repeat (refine bnk ?_; (try simp (disch := first | omega | (simp only [LN]; omega)) only [↓EC, EW, seval, ↓reduceIte, ↓EBD, EBE])))
                (refine Split.mkB (fun h => ?_) (fun h => ?_) <;> (try simp only [SD] at h))
                · (refine bni ?_; repeat (refine bnk ?_; (try simp (disch := first | omega | (simp only [LN]; omega)) only [↓EC, EW, seval, ↓reduceIte, ↓EBD, EBE])))
                  refine pcm [0] rfl ?_; (refine bni ?_; repeat (refine bnk ?_; (try simp (disch := first | omega | (simp only [LN]; omega)) only [↓EC, EW, seval, ↓reduceIte, ↓EBD, EBE])))
                  refine callM_d (ih (x' - a).toNat (by omega) (l := m') (a := a) (b := x') (k := k) rfl hm' (by omega) (by omega) (by omega) (by omega)) ?_
                  rintro _ _ ⟨rfl, m'', rfl, hm''⟩
                  (refine bni ?_; repeat (refine bnk ?_; (try simp (disch := first | omega | (simp only [LN]; omega)) only [↓EC, EW, seval, ↓reduceIte, ↓EBD, EBE])))
                  exact ⟨(m'', (x' + 1, b, k), _, r), rfl, rfl, ⟨hm'', by simp only; omega⟩, by simp only; omega⟩
                · (refine bni ?_; repeat (refine bnk ?_; (try simp (disch := first | omega | (simp only [LN]; omega)) only [↓EC, EW, seval, ↓reduceIte, ↓EBD, EBE])))
                  refine pcm [0] rfl ?_; (refine bni ?_; repeat (refine bnk ?_; (try simp (disch := first | omega | (simp only [LN]; omega)) only [↓EC, EW, seval, ↓reduceIte, ↓EBD, EBE])))
                  refine callM_d (ih (b - (x' + 1)).toNat (by omega) (l := m') (a := x' + 1) (b := b) (k := k) rfl hm' (by omega) (by omega) (by omega) (by omega)) ?_
                  rintro _ _ ⟨rfl, m'', rfl, hm''⟩
                  (refine bni ?_; repeat (refine bnk ?_; (try simp (disch := first | omega | (simp only [LN]; omega)) only [↓EC, EW, seval, ↓reduceIte, ↓EBD, EBE])))
                  exact ⟨(m'', (a, x', k), _, r), rfl, rfl, ⟨hm'', by simp only; omega⟩, by simp only; omega⟩
end
section
set_option maxHeartbeats 4000000
theorem callMR_qs {P : Program} {f : FuncId} {h : Hp} {K : V → Hp → Prop} {bs : List Nat} {bx : List (Nat × TypeId × Nat)} {cells : List (List V)} {ws : List V} {Φ : Nat → Nat → Nat → List (List V) → Prop}
    (hs : PSpecMR P f ws bx cells Φ) (hK : ∀ j o n cs, Φ j o n cs → ∀ b, bs[j]? = some b → K (.rf b o n) (hputs2 h bs bx cs)) : CallMR P f h K bs bx cells ws := ⟨Φ, hs, hK⟩
theorem pcd_rq {P : Program} {f : FuncId} {d : Nat} {h : Hp} {K : V → Hp → Prop} {ws o : List V} {m : Bool} {Φ : V → Prop} (hs : PSpec P f ws Φ) (hK : ∀ v, Φ v → Rq (allFree h (mat v d).2.1) (K (mat v d).1 (hputs h (mat v d).2.1))) : pcd P f d h K ws m o :=
  .inl (.inl ⟨_, hs, .inr hK⟩)
theorem c_SortN {l : List Int} {n : Nat} (hn : l.length = n) (hl : n ≤ 16) : PSpecM Tryz.prog 88 [.rf 0 0 n] [(0, 2, 1)] [vi .i64 l] fun v c => v = .tup [] ∧ kp n c := by
  refine slices_Sort_int64_int64_i_f.m rfl rfl ?_
  dsimp only [slices_Sort_int64_int64_i_F, pcal_B, pcalp_B, pcala_B, pcond_B, pgk_B, JN_B, LP_B]
  (refine bni ?_; repeat (refine bnk ?_; (try simp (disch := first | omega | (simp only [LN]; omega)) only [↓EC, EW, seval, ↓reduceIte, ↓EBD, EBE])))
  refine pcd_r (c_LenN (k := n) (by omega)) ?_
  rintro _ ⟨r, rfl, h1, h2, _⟩
  (refine bni ?_; repeat (refine bnk ?_; (try simp (disch := first | omega | (simp only [LN]; omega)) only [↓EC, EW, seval, ↓reduceIte, ↓EBD, EBE])))
  refine pcm [0] rfl ?_; (refine bni ?_; repeat (refine bnk ?_; (try simp (disch := first | omega | (simp only [LN]; omega)) only [↓EC, EW, seval, ↓reduceIte, ↓EBD, EBE])))
  refine callM_d (c_pdqsortN hl _ (a := 0) (b := n) (k := r) rfl hn (by omega) (by omega) (by omega) ⟨h1, h2⟩) ?_
  rintro _ _ ⟨rfl, m, rfl, hm⟩
  (refine bni ?_; repeat (refine bnk ?_; (try simp (disch := first | omega | (simp only [LN]; omega)) only [↓EC, EW, seval, ↓reduceIte, ↓EBD, EBE])))
  exact ⟨m, rfl, hm⟩
theorem c_ReverseN {l : List Int} {n : Nat} (hn : l.length = n) (hl : n ≤ 1000) : PSpecM Tryz.prog 89 [.rf 0 0 n] [(0, 2, 1)] [vi .i64 l] fun v c => v = .tup [] ∧ kp n c := by
  refine slices_Reverse_int64_int64_i_f.m rfl rfl ?_
  dsimp only [slices_Reverse_int64_int64_i_F, pcal_B, pcalp_B, pcala_B, pcond_B, pgk_B, JN_B, LP_B]
  (refine bni ?_; repeat (refine bnk ?_; (try simp (disch := first | omega | (simp only [LN]; omega)) only [↓EC, EW, seval, ↓reduceIte, ↓EBD, EBE])))
  refine LPx_of (σ := List Int × Int × Int) 100000 [(0, 2, 1)] (fun s => [.int .i64 s.2.1, .int .i64 s.2.2]) (fun s => [vi .i64 s.1])
    (fun s => s.1.length = n ∧ 0 ≤ s.2.1 ∧ s.2.2 ≤ (n : Int) - 1 ∧ -1 ≤ s.2.2 ∧ s.2.1 ≤ 1001) (fun s => (s.2.2 + 1).toNat) (l, 0, (n : Int) - 1) (by simp [frameOk, names, lpz, sclp, scv, scvs, nrfs, nrf, FRB]) ⟨hn, by simp only; omega⟩ ?_ ?_
  · (refine bni ?_; repeat (refine bnk ?_; simp (disch := first | omega | (simp only [LN]; omega)) only [↓EC, EW, seval, ↓reduceIte, ↓EBD, EBE, ColV_def]))
  · rintro ⟨m, i, j⟩ ⟨h1, h2, h3, h4, h5⟩
    simp only at h1 h2 h3 h4 h5
    (refine bni ?_; repeat (refine bnk ?_; simp (disch := first | omega | (simp only [LN]; omega)) only [↓EC, EW, seval, ↓reduceIte, ↓EBD, EBE, ColV_def, lheap_def]))
    (refine Split.mkB (fun h => ?_) (fun h => ?_) <;> (try simp only [SD] at h))
    · (refine bni ?_; repeat (refine bnk ?_; (try simp (disch := first | omega | (simp only [LN]; omega)) only [↓EC, EW, seval, ↓reduceIte, ↓EBD, EBE])))
      exact ⟨(_, i + 1, j - 1), rfl, rfl, ⟨by simp [h1], by simp only; omega⟩, by simp only; omega⟩
    · (refine bni ?_; repeat (refine bnk ?_; (try simp (disch := first | omega | (simp only [LN]; omega)) only [↓EC, EW, seval, ↓reduceIte, ↓EBD, EBE])))
      exact ⟨m, rfl, h1⟩
theorem c_descendingN {l : List Int} {n : Nat} (hn : l.length = n) (hl : n ≤ 16) : PSpecMR Tryz.prog 87 [.rf 0 0 n] [(0, 2, 1)] [vi .i64 l] fun j o k c => j = 0 ∧ o = 0 ∧ k = n ∧ kp n c := by
  refine impl_descending_f.mr rfl rfl ?_
  dsimp only [impl_descending_F, pcal_B, pcalp_B, pcala_B, pcond_B, pgk_B, JN_B, LP_B]
  (refine bni ?_; repeat (refine bnk ?_; (try simp (disch := first | omega | (simp only [LN]; omega)) only [↓EC, EW, seval, ↓reduceIte, ↓EBD, EBE])))
  refine pcm [0] rfl ?_; (refine bni ?_; repeat (refine bnk ?_; (try simp (disch := first | omega | (simp only [LN]; omega)) only [↓EC, EW, seval, ↓reduceIte, ↓EBD, EBE])))
  refine callM_d (c_SortN hn hl) ?_
  rintro _ _ ⟨rfl, m, rfl, hm⟩
  (refine bni ?_; repeat (refine bnk ?_; (try simp (disch := first | omega | (simp only [LN]; omega)) only [↓EC, EW, seval, ↓reduceIte, ↓EBD, EBE])))
  refine pcm [0] rfl ?_; (refine bni ?_; repeat (refine bnk ?_; (try simp (disch := first | omega | (simp only [LN]; omega)) only [↓EC, EW, seval, ↓reduceIte, ↓EBD, EBE])))
  refine callM_d (c_ReverseN hm (by omega)) ?_
  rintro _ _ ⟨rfl, m', rfl, hm'⟩
  (refine bni ?_; repeat (refine bnk ?_; (try simp (disch := first | omega | (simp only [LN]; omega)) only [↓EC, EW, seval, ↓reduceIte, ↓EBD, EBE])))
  exact ⟨rfl, m', rfl, hm'⟩
def lnT (A : List (List Int)) : Nat → List Int
  | 0 => []
  | s + 1 => lnT A s ++ [((gl A s).length : Int)]
theorem lnT_len {A : List (List Int)} : ∀ s, (lnT A s).length = s
  | 0 => rfl
  | s + 1 => by simp [lnT, lnT_len s]
theorem c_impl_typeOf {p : List Int} {n : Int} (hp : lo16 p) (hn : 1 ≤ n ∧ n ≤ 16) : PSpec Tryz.prog 85 [.agg (vi .u8 p), .int .i64 n] fun v => ∃ l : List Int, v = .own 2 1 l.length (vi .i64 l) ∧ l.length = (cyc p n).length := by
  have hpl := hp.1
  have hcl : (cyc p n).length ≤ 16 := by have := (cycO_len (p := p) n.toNat).2; unfold cyc; omega
  refine impl_typeOf_f.f ?_
  dsimp only [impl_typeOf_F, pcal_B, pcalp_B, pcala_B, pcond_B, pgk_B, JN_B, LP_B]
  (refine bni ?_; repeat (refine bnk ?_; (try simp (disch := first | omega | (simp only [LN]; omega)) only [↓EC, EW, seval, ↓reduceIte, ↓EBD, EBE])))
  refine pcd_v (c_impl_cycles hp hn) ?_
  (refine bni ?_; repeat (refine bnk ?_; (try simp (disch := first | omega | (simp only [LN]; omega)) only [↓EC, EW, seval, ↓reduceIte, ↓EBD, EBE])))
  generalize cyc p n = A at *
  refine LPx_ofE (σ := Nat) [1, 1] 100000 [] (fun s => [.own 2 1 s (vi .i64 (lnT A s)), .int .i64 s]) (fun s => []) (fun s => s ≤ A.length) (fun s => A.length - s) 0 (by simp [frameOk, names, lpz, sclp, scv, scvs, nrfs, nrf, FRB]) (Nat.zero_le _) ?_ ?_
  · (refine bni ?_; repeat (refine bnk ?_; simp (disch := first | omega | (simp only [LN]; omega)) only [↓EC, EW, seval, ↓reduceIte, ↓EBD, EBE, ColV_def]))
    exact ⟨fun _ => trivial, rfl⟩
  · intro s hs
    have hls := lnT_len (A := A) s
    (refine bni ?_; repeat (refine bnk ?_; simp (disch := first | omega | (simp only [LN]; omega)) only [↓EC, EW, seval, ↓reduceIte, ↓EBD, EBE, ColV_def, lheap_def]))
    (refine Split.mkB (fun h => ?_) (fun h => ?_) <;> (try simp only [SD] at h))
    · (refine bni ?_; repeat (refine bnk ?_; (try simp (disch := first | omega | (simp only [LN]; omega)) only [↓EC, EW, seval, ↓reduceIte, ↓EBD, EBE])))
      exact ⟨s + 1, rfl, by omega, by omega⟩
    · obtain rfl : s = A.length := by omega
      (refine bni ?_; repeat (refine bnk ?_; (try simp (disch := first | omega | (simp only [LN]; omega)) only [↓EC, EW, seval, ↓reduceIte, ↓EBD, EBE])))
      refine pcmr [100000] rfl ?_
      (refine bni ?_; repeat (refine bnk ?_; (try simp (disch := first | omega | (simp only [LN]; omega)) only [↓EC, EW, seval, ↓reduceIte, ↓EBD, EBE])))
      refine callMR_qs (c_descendingN hls (by omega)) ?_
      rintro j o k c ⟨rfl, rfl, rfl, m, rfl, hm⟩ b hb
      simp at hb
      subst hb
      (refine bni ?_; repeat (refine bnk ?_; (try simp (disch := first | omega | (simp only [LN]; omega)) only [↓EC, EW, seval, ↓reduceIte, ↓EBD, EBE])))
      exact ⟨m, by rw [hm], hm⟩
theorem c_impl_eulerOfN {a b c : List Int} {n : Int} (ha : a.length ≤ 1000) (hb : b.length ≤ 1000) (hc : c.length ≤ 1000) (hn : 0 ≤ n ∧ n ≤ 1000) : PSpec Tryz.prog 73 [.sl 3 (vl [a, b, c]), .int .i64 n] fun v => v = .int .i64 (a.length + b.length + c.length - n) := by
  have ga : gl [a, b, c] 0 = a := rfl
  have gb : gl [a, b, c] 1 = b := rfl
  have gc : gl [a, b, c] 2 = c := rfl
  refine impl_eulerOf_f.f ?_
  simp (disch := first | omega | (simp only [LN]; omega)) only [↓EC, EW, seval, ↓reduceIte, impl_eulerOf_F, ga, gb, gc]
theorem c_impl_passport {n : Int} {b w : List Int} (hb : lo16 b) (hw : lo16 w) (hn : 1 ≤ n ∧ n ≤ 16) : PSpec Tryz.prog 74 [vD n b w] fun v => ∃ x y z : List Int, v = .own 32 1 3 (vo 2 [x, y, z]) ∧ x.length = (cyc b n).length ∧ y.length = (cyc w n).length ∧ z.length = (cyc (faceP b w n) n).length := by
  have hbl := hb.1
  have hwl := hw.1
  have hfl : lo16 (faceP b w n) := backP_lo hn
  have hfl2 := hfl.1
  refine impl_passport_f.f ?_
  unfold vD
  dsimp only [impl_passport_F, pcal_B, pcalp_B, pcala_B, pcond_B, pgk_B, JN_B, LP_B]
  (refine bni ?_; repeat (refine bnk ?_; (try simp (disch := first | omega | (simp only [LN]; omega)) only [↓EC, EW, seval, ↓reduceIte, ↓EBD, EBE])))
  refine pcd_rq (c_impl_typeOf (p := b) hb hn) ?_
  rintro _ ⟨x, rfl, hx⟩
  (refine bni ?_; repeat (refine bnk ?_; (try simp (disch := first | omega | (simp only [LN]; omega)) only [↓EC, EW, seval, ↓reduceIte, ↓EBD, EBE])))
  refine pcd_rq (c_impl_typeOf (p := w) hw hn) ?_
  rintro _ ⟨y, rfl, hy⟩
  (refine bni ?_; repeat (refine bnk ?_; (try simp (disch := first | omega | (simp only [LN]; omega)) only [↓EC, EW, seval, ↓reduceIte, ↓EBD, EBE])))
  refine pcd_v (c_impl_face hb hw hn) ?_
  (refine bni ?_; repeat (refine bnk ?_; (try simp (disch := first | omega | (simp only [LN]; omega)) only [↓EC, EW, seval, ↓reduceIte, ↓EBD, EBE])))
  refine pcd_rq (c_impl_typeOf hfl hn) ?_
  rintro _ ⟨z, rfl, hz⟩
  (refine bni ?_; repeat (refine bnk ?_; (try simp (disch := first | omega | (simp only [LN]; omega)) only [↓EC, EW, seval, ↓reduceIte, ↓EBD, EBE])))
  exact ⟨x, y, z, rfl, hx, hy, hz⟩
def eulN (n : Int) (b w : List Int) : Int := (cyc b n).length + (cyc w n).length + (cyc (faceP b w n) n).length - n
theorem c_impl_genus {n : Int} {b w : List Int} (hb : lo16 b) (hw : lo16 w) (hn : 1 ≤ n ∧ n ≤ 16) : PSpec Tryz.prog 43 [vD n b w] fun v => v = .int .i64 (1 - (eulN n b w).tdiv 2) := by
  have hbl := hb.1
  have hwl := hw.1
  have c1 : (cyc b n).length ≤ 16 := by have := (cycO_len (p := b) n.toNat).2; unfold cyc; omega
  have c2 : (cyc w n).length ≤ 16 := by have := (cycO_len (p := w) n.toNat).2; unfold cyc; omega
  have c3 : (cyc (faceP b w n) n).length ≤ 16 := by have := (cycO_len (p := faceP b w n) n.toNat).2; unfold cyc; omega
  refine impl_genus_f.f ?_
  unfold vD
  dsimp only [impl_genus_F, pcal_B, pcalp_B, pcala_B, pcond_B, pgk_B, JN_B, LP_B]
  (refine bni ?_; repeat (refine bnk ?_; (try simp (disch := first | omega | (simp only [LN]; omega)) only [↓EC, EW, seval, ↓reduceIte, ↓EBD, EBE])))
  refine pcd_r (c_impl_passport (n := n) hb hw hn) ?_
  rintro _ ⟨x, y, z, rfl, hx, hy, hz⟩
  (refine bni ?_; repeat (refine bnk ?_; (try simp (disch := first | omega | (simp only [LN]; omega)) only [↓EC, EW, seval, ↓reduceIte, ↓EBD, EBE])))
  refine pcd_v (c_impl_eulerOfN (a := x) (b := y) (c := z) (n := n) (by omega) (by omega) (by omega) (by omega)) ?_
  have e : (x.length : Int) + y.length + z.length - n = eulN n b w := by rw [hx, hy, hz]; rfl
  have ht : -16 ≤ eulN n b w ∧ eulN n b w ≤ 48 := by unfold eulN; omega
  have ht2 : -32 ≤ (eulN n b w).tdiv 2 ∧ (eulN n b w).tdiv 2 ≤ 32 := by
    have h3 := Int.mul_tdiv_add_tmod (eulN n b w) 2
    have h4 := Int.tmod_lt_of_pos (eulN n b w) (show (0 : Int) < 2 by omega)
    have h5 := Int.lt_tmod_of_pos (eulN n b w) (show (0 : Int) < 2 by omega)
    omega
  rw [e]
  (refine bni ?_; repeat (refine bnk ?_; (try simp (disch := first | omega | (simp only [LN]; omega)) only [↓EC, EW, seval, ↓reduceIte, ↓EBD, EBE])))
theorem c_impl_GenusOf {n : Int} {b w : List Int} (hb : okP b) (hw : okP w) (hd : isDB n b w = true) : PSpec Tryz.prog 16 [vD n b w] fun v => v = .tup [.int .i64 (1 - (eulN n b w).tdiv 2), .int .i64 0] := by
  have hbl := hb.1
  have hwl := hw.1
  have h1 := isDB_iff.1 hd
  have lb := h1.pb.lo hb
  have lw := h1.pw.lo hw
  have hn := h1.pb.1
  refine impl_GenusOf_f.f ?_
  unfold vD
  dsimp only [impl_GenusOf_F, pcal_B, pcalp_B, pcala_B, pcond_B, pgk_B, JN_B, LP_B]
  (refine bni ?_; repeat (refine bnk ?_; (try simp (disch := first | omega | (simp only [LN]; omega)) only [↓EC, EW, seval, ↓reduceIte, ↓EBD, EBE])))
  refine pcd_v (c_impl_IsDessin (n := n) hb hw) ?_
  (refine bni ?_; repeat (refine bnk ?_; (try simp (disch := first | omega | (simp only [LN]; omega)) only [↓EC, EW, seval, ↓reduceIte, ↓EBD, EBE, hd])))
  refine pcd_v (c_impl_genus (n := n) lb lw hn) ?_
  (refine bni ?_; repeat (refine bnk ?_; (try simp (disch := first | omega | (simp only [LN]; omega)) only [↓EC, EW, seval, ↓reduceIte, ↓EBD, EBE])))
end
section
set_option maxHeartbeats 8000000
theorem c_laws_likeInts {l m : List Int} (hl : l.length ≤ 1048576) : PSpec Tryz.prog 15 [.sl l.length (vi .i64 l), .sl m.length (vi .i64 m)] fun v => v = .bool (decide (l = m)) := by
  refine laws_likeInts_f.f ?_
  simp (disch := first | omega | (simp only [LN]; omega)) only [↓EC, EW, seval, ↓reduceIte, laws_likeInts_F]
  (refine Split.mk (fun h => ?_) (fun h => ?_) <;> (try simp only [SD] at h))
  · (try simp (disch := first | omega | (simp only [LN]; omega)) only [↓EC, EW, seval, ↓reduceIte])
    rw [eq_comm, V.bool.injEq, decide_eq_false_iff_not]
    intro e; subst e; omega
  · refine LP_of (σ := Nat) 100000 [] (fun s => [.int .i64 s]) (fun s => [])
      (fun s => s ≤ l.length ∧ ∀ j, j < s → gi l j = gi m j) (fun s => l.length - s) 0 (by simp [frameOk, names, lpz, sclp, scv, scvs, nrfs, nrf, FRB]) ⟨Nat.zero_le _, fun j hj => absurd hj (Nat.not_lt_zero j)⟩ ?_ ?_
    · simp (disch := first | omega | (simp only [LN]; omega)) only [↓EC, EW, seval, ↓reduceIte, ColV_def]
    · rintro i ⟨h1, h2⟩
      simp (disch := first | omega | (simp only [LN]; omega)) only [↓EC, EW, seval, ↓reduceIte, ColV_def, lheap_def]
      (refine Split.mk (fun h => ?_) (fun h => ?_) <;> (try simp only [SD] at h))
      · (try simp (disch := first | omega | (simp only [LN]; omega)) only [↓EC, EW, seval, ↓reduceIte])
        (refine Split.mk (fun h => ?_) (fun h => ?_) <;> (try simp only [SD] at h))
        · (try simp (disch := first | omega | (simp only [LN]; omega)) only [↓EC, EW, seval, ↓reduceIte])
          rw [eq_comm, V.bool.injEq, decide_eq_false_iff_not]
          intro e; subst e; exact h rfl
        · (try simp (disch := first | omega | (simp only [LN]; omega)) only [↓EC, EW, seval, ↓reduceIte])
          refine ⟨i + 1, rfl, ⟨by omega, fun j hj => ?_⟩, by omega⟩
          by_cases e : j = i
          · subst e; exact h
          · exact h2 j (by omega)
      · (try simp (disch := first | omega | (simp only [LN]; omega)) only [↓EC, EW, seval, ↓reduceIte])
        rw [eq_comm, V.bool.injEq, decide_eq_true_eq]
        exact gi_ext (by omega) fun j hj => h2 j (by omega)
theorem c_laws_likeInts_nil : PSpec Tryz.prog 15 [.nils, .nils] fun v => v = .bool true := by
  refine laws_likeInts_f.f ?_
  simp (disch := first | omega | (simp only [LN]; omega)) only [↓EC, EW, seval, ↓reduceIte, laws_likeInts_F]
  refine LP_of (σ := Unit) 100000 [] (fun s => [.int .i64 0]) (fun s => []) (fun s => True) (fun s => 0) () (by simp [frameOk, names, lpz, sclp, scv, scvs, nrfs, nrf, FRB]) trivial ?_ ?_
  · simp (disch := first | omega | (simp only [LN]; omega)) only [↓EC, EW, seval, ↓reduceIte, ColV_def]
  · rintro _ _
    simp (disch := first | omega | (simp only [LN]; omega)) only [↓EC, EW, seval, ↓reduceIte, ColV_def, lheap_def]
theorem c_laws_rows5 {ls ms : List (List Int)} (hl : ls.length ≤ 1048576) (hls : ∀ l ∈ ls, l.length ≤ 1048576) : PSpec Tryz.prog 14 [.sl ls.length (vl ls), .sl ms.length (vl ms)] fun v => v = .bool (decide (ls = ms)) := by
  refine laws_rows5_f.f ?_
  simp (disch := first | omega | (simp only [LN]; omega)) only [↓EC, EW, seval, ↓reduceIte, laws_rows5_F]
  (refine Split.mk (fun h => ?_) (fun h => ?_) <;> (try simp only [SD] at h))
  · (try simp (disch := first | omega | (simp only [LN]; omega)) only [↓EC, EW, seval, ↓reduceIte])
    rw [eq_comm, V.bool.injEq, decide_eq_false_iff_not]
    intro e; subst e; omega
  · refine LP_of (σ := Nat) 100000 [] (fun s => [.int .i64 s]) (fun s => [])
      (fun s => s ≤ ls.length ∧ ∀ j, j < s → gl ls j = gl ms j) (fun s => ls.length - s) 0 (by simp [frameOk, names, lpz, sclp, scv, scvs, nrfs, nrf, FRB]) ⟨Nat.zero_le _, fun j hj => absurd hj (Nat.not_lt_zero j)⟩ ?_ ?_
    · simp (disch := first | omega | (simp only [LN]; omega)) only [↓EC, EW, seval, ↓reduceIte, ColV_def]
    · rintro i ⟨h1, h2⟩
      simp (disch := first | omega | (simp only [LN]; omega)) only [↓EC, EW, seval, ↓reduceIte, ColV_def, lheap_def]
      (refine Split.mk (fun h => ?_) (fun h => ?_) <;> (try simp only [SD] at h))
      · (try simp (disch := first | omega | (simp only [LN]; omega)) only [↓EC, EW, seval, ↓reduceIte])
        refine pcd_v (c_laws_likeInts (hls _ (gl_mem (by omega)))) ?_
        (try simp (disch := first | omega | (simp only [LN]; omega)) only [↓EC, EW, seval, ↓reduceIte])
        (refine Split.mk (fun h => ?_) (fun h => ?_) <;> (try simp only [SD] at h))
        · (try simp (disch := first | omega | (simp only [LN]; omega)) only [↓EC, EW, seval, ↓reduceIte])
          rw [eq_comm, V.bool.injEq, decide_eq_false_iff_not]
          intro e; subst e; exact h rfl
        · (try simp (disch := first | omega | (simp only [LN]; omega)) only [↓EC, EW, seval, ↓reduceIte])
          refine ⟨i + 1, rfl, ⟨by omega, fun j hj => ?_⟩, by omega⟩
          by_cases e : j = i
          · subst e; exact h
          · exact h2 j (by omega)
      · (try simp (disch := first | omega | (simp only [LN]; omega)) only [↓EC, EW, seval, ↓reduceIte])
        rw [eq_comm, V.bool.injEq, decide_eq_true_eq]
        exact gl_ext (by omega) fun j hj => h2 j (by omega)
theorem c_laws_rows5_nil : PSpec Tryz.prog 14 [.nils, .nils] fun v => v = .bool true := by
  refine laws_rows5_f.f ?_
  simp (disch := first | omega | (simp only [LN]; omega)) only [↓EC, EW, seval, ↓reduceIte, laws_rows5_F]
  refine LP_of (σ := Unit) 100000 [] (fun s => [.int .i64 0]) (fun s => []) (fun s => True) (fun s => 0) () (by simp [frameOk, names, lpz, sclp, scv, scvs, nrfs, nrf, FRB]) trivial ?_ ?_
  · simp (disch := first | omega | (simp only [LN]; omega)) only [↓EC, EW, seval, ↓reduceIte, ColV_def]
  · rintro _ _
    simp (disch := first | omega | (simp only [LN]; omega)) only [↓EC, EW, seval, ↓reduceIte, ColV_def, lheap_def]
theorem c_laws_bigH {x : Value} {l : List Int} : PSpec Tryz.prog 4 [.fz x l] fun v => v = .bool (decide (4096 < (l.length : Int))) := by
  refine laws_big_f.f ?_
  simp (disch := first | omega | (simp only [LN]; omega)) only [↓EC, EW, seval, ↓reduceIte, laws_big_F]
section
variable {b w x y : List Int} {n : Int}
theorem meet_lim (hn : 1 ≤ n ∧ n ≤ 16) (hb : ltP b n) (hw : ltP w n) (hx : lmM x) (hy : lmM y) : -20000000000000000 ≤ meetV b w n x y ∧ meetV b w n x y ≤ 20000000000000000 := by
  have hl := (allV_len (b := b) (w := w) hn).2
  have h := mtV_lim (A := allV b w n) hx hy (fun l hl => (allV_at hb hw hn l hl).2) (allV b w n).length (Nat.le_refl _)
  unfold meetV
  exact tdiv2_lim (by omega)
theorem chn_lm {l : List Int} (h : chnB n l = true) : lmM l := fun k => by
  obtain ⟨h1, h2⟩ := chnB_at h
  by_cases hk : k < l.length
  · have := h2 k; omega
  · rw [gi_over (by omega)]; omega
theorem iof_0 (h : (iofR n b w x y).2 = 0) : isDB n b w = true ∧ chnB n x = true ∧ chnB n y = true ∧ cycB x (allV b w n) = true ∧ cycB y (allV b w n) = true ∧ (iofR n b w x y).1 = meetV b w n x y := by
  unfold iofR at h ⊢
  by_cases h1 : isDB n b w = true
  · rw [if_pos h1] at h ⊢
    by_cases h2 : chnB n x = true
    · rw [if_pos h2] at h ⊢
      by_cases h3 : chnB n y = true
      · rw [if_pos h3] at h ⊢
        by_cases h4 : cycB x (allV b w n) = true
        · rw [if_pos h4] at h ⊢
          by_cases h5 : cycB y (allV b w n) = true
          · rw [if_pos h5] at h ⊢
            exact ⟨h1, h2, h3, h4, h5, rfl⟩
          · rw [if_neg h5] at h; cases h
        · rw [if_neg h4] at h; cases h
      · rw [if_neg h3] at h; cases h
    · rw [if_neg h2] at h; cases h
  · rw [if_neg h1] at h; cases h
theorem iof_swap (hb : okP b) (hw : okP w) (h : (iofR n b w x y).2 = 0) : iofR n b w y x = (-(iofR n b w x y).1, 0) ∧ -20000000000000000 ≤ (iofR n b w x y).1 ∧ (iofR n b w x y).1 ≤ 20000000000000000 := by
  obtain ⟨h1, h2, h3, h4, h5, h6⟩ := iof_0 h
  have D := isDB_iff.1 h1
  rw [h6]
  refine ⟨?_, meet_lim D.pb.1 (D.pb.ltP hb) (D.pw.ltP hw) (chn_lm h2) (chn_lm h3)⟩
  unfold iofR
  rw [if_pos h1, if_pos h3, if_pos h2, if_pos h5, if_pos h4, meet_neg]
theorem ceO_0 {x : Int} {r : List Int} (h : ceO n b w x = (some r, 0)) : isDB n b w = true ∧ (0 ≤ x ∧ x < n) ∧ gb (treeM b w n) x.toNat = false ∧ r = cyL b w n x.toNat := by
  unfold ceO at h
  split at h
  · rename_i h1
    split at h
    · rename_i h2
      split at h
      · cases h
      · rename_i h3
        refine ⟨h1, h2, by simpa using h3, ?_⟩
        simp only [Prod.mk.injEq, Option.some.injEq] at h
        exact h.1.symm
    · cases h
  · cases h
theorem ceO_n {x c : Int} (h : ceO n b w x = (none, c)) : c ≠ 0 := by
  unfold ceO at h
  repeat' split at h
  all_goals simp_all
  all_goals omega
theorem bnd_lims (h : Dz n b w) (k : Nat) : ∀ i : Nat, -32 ≤ gi (gl (bndL b w n) k) i ∧ gi (gl (bndL b w n) k) i ≤ 32 := fun i => by
  by_cases hk : k < (bndL b w n).length
  · rw [bnd_len] at hk
    rw [bnd_gl hk]
    have hcl : (gl (cyc (faceP b w n) n) k).length ≤ 16 := (cyc_at h.F.lt h.F.hn _ (gl_mem hk)).2
    have := chT_lim (b := b) (n := n) (c := gl (cyc (faceP b w n) n) k) (gl (cyc (faceP b w n) n) k).length i
    omega
  · have : gl (bndL b w n) k = [] := by simp [gl, List.getD]; rw [List.getElem?_eq_none (by omega)]; rfl
    rw [this]; simp [gi]
def totF (b w : List Int) (n : Int) (k : Nat) (i : Nat) : Int := smE k fun t => gi (gl (bndL b w n) t) i
theorem totF_lim (h : Dz n b w) {k i : Nat} : -(32 * (k : Int)) ≤ totF b w n k i ∧ totF b w n k i ≤ 32 * k := smE_lim (fun t => bnd_lims h t i) k
def mixF (b w : List Int) (n : Int) (k s : Nat) (i : Nat) : Int := if i < s then totF b w n (k + 1) i else totF b w n k i
theorem tab_len {g : Nat → Int} : (tab n g).length = n.toNat := by simp [tab]
theorem tab_ext {g g' : Nat → Int} (h : ∀ i, i < n.toNat → g i = g' i) : tab n g = tab n g' := by
  unfold tab
  exact List.map_congr_left fun i hi => h i (List.mem_range.1 hi)
theorem mix_set {k s : Nat} (hs : s < n.toNat) : (tab n (mixF b w n k s)).set s (totF b w n k s + gi (gl (bndL b w n) k) s) = tab n (mixF b w n k (s + 1)) := by
  refine gi_ext (by simp [tab_len]) fun i hi => ?_
  rw [List.length_set, tab_len] at hi
  rw [gi_set, tab_len, tab_at hi, tab_at hi]
  unfold mixF
  by_cases e : s = i
  · subst e
    rw [if_pos ⟨rfl, hs⟩, if_pos (by omega)]; rfl
  · rw [if_neg fun q => e q.1]
    by_cases q : i < s
    · rw [if_pos q, if_pos (by omega)]
    · rw [if_neg q, if_neg (by omega)]
theorem tb_at {i j : Nat} (hi : i < (basL b w n).length) (hj : j < (basL b w n).length) : gi (gl (tbL b w n) i) j = meetV b w n (gl (basL b w n) i) (gl (basL b w n) j) := by
  have h1 : i < (tbL b w n).length := by unfold tbL; simpa using hi
  rw [gl_of h1]
  have e : (tbL b w n)[i] = rwF b w n (basL b w n) (gl (basL b w n) i) := by rw [gl_of hi]; simp [tbL]
  have h2 : j < (rwF b w n (basL b w n) (gl (basL b w n) i)).length := by unfold rwF; simpa using hj
  rw [e, gi_of h2, gl_of hj]; simp [rwF]
theorem tb_len : (tbL b w n).length = (basL b w n).length := by unfold tbL; simp
theorem tb_row {i : Nat} (hi : i < (basL b w n).length) : (gl (tbL b w n) i).length = (basL b w n).length := by
  have h1 : i < (tbL b w n).length := by unfold tbL; simpa using hi
  rw [gl_of h1]; simp [tbL, rwF]
theorem bas_lm (h : Dz n b w) (hb : okP b) (hw : okP w) {i : Nat} (hi : i < (basL b w n).length) : lmM (gl (basL b w n) i) := fun k => by
  obtain ⟨e, h1, h2, h3⟩ := basL_mem (gl_mem hi)
  rw [h3]
  have := cyL_one1 h hb hw h1 h2 k
  omega
theorem tb_anti (h : Dz n b w) (hb : okP b) (hw : okP w) {i j : Nat} (hi : i < (basL b w n).length) (hj : j < (basL b w n).length) :
    gi (gl (tbL b w n) i) j = - gi (gl (tbL b w n) j) i ∧ -20000000000000000 ≤ gi (gl (tbL b w n) j) i ∧ gi (gl (tbL b w n) j) i ≤ 20000000000000000 := by
  rw [tb_at hi hj, tb_at hj hi, meet_neg]
  exact ⟨rfl, meet_lim h.B.hn h.B.lt h.W.lt (bas_lm h hb hw hj) (bas_lm h hb hw hi)⟩
end
theorem c_FnHomology {x : Value} {l : List Int} (hl : ∀ a ∈ l, 0 ≤ a ∧ a ≤ 255) : PSpec Tryz.prog 3 [.fz x l] fun v => v = .bool true := by
  refine laws_FnHomology_f.f ?_
  dsimp only [laws_FnHomology_F, pcal_B, pcalp_B, pcala_B, pcond_B, pgk_B, JN_B, LP_B]
  (refine bni ?_; repeat (refine bnk ?_; (try simp (disch := first | omega | (simp only [LN]; omega)) only [↓EC, EW, seval, ↓reduceIte, ↓EBD, EBE])))
  refine pcd_v c_laws_bigH ?_
  (refine bni ?_; repeat (refine bnk ?_; (try simp (disch := first | omega | (simp only [LN]; omega)) only [↓EC, EW, seval, ↓reduceIte, ↓EBD, EBE])))
  (refine Split.mkB (fun h => ?_) (fun h => ?_) <;> (try simp only [SD] at h))
  · (refine bni ?_; repeat (refine bnk ?_; (try simp (disch := first | omega | (simp only [LN]; omega)) only [↓EC, EW, seval, ↓reduceIte, ↓EBD, EBE])))
  have hll : l.length ≤ 4096 := by omega
  have hB : okB l := ⟨by omega, hl⟩
  (refine bni ?_; repeat (refine bnk ?_; (try simp (disch := first | omega | (simp only [LN]; omega)) only [↓EC, EW, seval, ↓reduceIte, ↓EBD, EBE])))
  refine pcd_r (c_spec_DrawIntersectionTable hB) ?_
  rintro _ ⟨n, b, w, rfl, hb, hw⟩
  have hbl := hb.1
  have hwl := hw.1
  (refine bni ?_; repeat (refine bnk ?_; (try simp (disch := first | omega | (simp only [LN]; omega)) only [↓EC, EW, seval, ↓reduceIte, ↓EBD, EBE, vD])))
  cases hd : isDB n b w with
  | false =>
    refine pcd_v (c_impl_IntersectionTable_no (n := n) hb hw hd) ?_; (refine bni ?_; repeat (refine bnk ?_; (try simp (disch := first | omega | (simp only [LN]; omega)) only [↓EC, EW, seval, ↓reduceIte, ↓EBD, EBE])))
    refine pcd_v (c_spec_IntersectionTable_no (n := n) hb hw hd) ?_; (refine bni ?_; repeat (refine bnk ?_; (try simp (disch := first | omega | (simp only [LN]; omega)) only [↓EC, EW, seval, ↓reduceIte, ↓EBD, EBE])))
    refine pcd_v (c_impl_HomologyBasis_no (n := n) hb hw hd) ?_; (refine bni ?_; repeat (refine bnk ?_; (try simp (disch := first | omega | (simp only [LN]; omega)) only [↓EC, EW, seval, ↓reduceIte, ↓EBD, EBE])))
    refine pcd_v (c_spec_HomologyBasis_no (n := n) hb hw hd) ?_; (refine bni ?_; repeat (refine bnk ?_; (try simp (disch := first | omega | (simp only [LN]; omega)) only [↓EC, EW, seval, ↓reduceIte, ↓EBD, EBE])))
    refine pcd_v (c_impl_BoundariesOf_no (n := n) hb hw hd) ?_; (refine bni ?_; repeat (refine bnk ?_; (try simp (disch := first | omega | (simp only [LN]; omega)) only [↓EC, EW, seval, ↓reduceIte, ↓EBD, EBE])))
    refine pcd_v (c_spec_BoundariesOf_no (n := n) hb hw hd) ?_; (refine bni ?_; repeat (refine bnk ?_; (try simp (disch := first | omega | (simp only [LN]; omega)) only [↓EC, EW, seval, ↓reduceIte, ↓EBD, EBE])))
    refine pcd_v (c_impl_TreeEdges_no (n := n) hb hw hd) ?_; (refine bni ?_; repeat (refine bnk ?_; (try simp (disch := first | omega | (simp only [LN]; omega)) only [↓EC, EW, seval, ↓reduceIte, ↓EBD, EBE])))
    refine pcd_v (c_spec_TreeEdges_no (n := n) hb hw hd) ?_; (refine bni ?_; repeat (refine bnk ?_; (try simp (disch := first | omega | (simp only [LN]; omega)) only [↓EC, EW, seval, ↓reduceIte, ↓EBD, EBE])))
    refine pcd_v c_laws_rows5_nil ?_; (refine bni ?_; repeat (refine bnk ?_; (try simp (disch := first | omega | (simp only [LN]; omega)) only [↓EC, EW, seval, ↓reduceIte, ↓EBD, EBE])))
    refine pcd_v c_laws_rows5_nil ?_; (refine bni ?_; repeat (refine bnk ?_; (try simp (disch := first | omega | (simp only [LN]; omega)) only [↓EC, EW, seval, ↓reduceIte, ↓EBD, EBE])))
    refine pcd_v c_laws_rows5_nil ?_; (refine bni ?_; repeat (refine bnk ?_; (try simp (disch := first | omega | (simp only [LN]; omega)) only [↓EC, EW, seval, ↓reduceIte, ↓EBD, EBE])))
    refine pcd_v c_laws_likeInts_nil ?_; (refine bni ?_; repeat (refine bnk ?_; (try simp (disch := first | omega | (simp only [LN]; omega)) only [↓EC, EW, seval, ↓reduceIte, ↓EBD, EBE])))
    refine JNx_un ?_; (refine bni ?_; repeat (refine bnk ?_; (try simp (disch := first | omega | (simp only [LN]; omega)) only [↓EC, EW, seval, ↓reduceIte, ↓EBD, EBE])))
    refine pcd_r (c_spec_DrawIntersectionOf hB) ?_
    rintro _ ⟨n2, b2, w2, u, v, rfl, hb2, hw2, hu, hv⟩
    have hb2l := hb2.1
    have hw2l := hw2.1
    (refine bni ?_; repeat (refine bnk ?_; (try simp (disch := first | omega | (simp only [LN]; omega)) only [↓EC, EW, seval, ↓reduceIte, ↓EBD, EBE, vD])))
    refine pcd_v (c_impl_IntersectionOf (n := n2) (x := u) (y := v) hb2 hw2 (by omega) (by omega)) ?_; (refine bni ?_; repeat (refine bnk ?_; (try simp (disch := first | omega | (simp only [LN]; omega)) only [↓EC, EW, seval, ↓reduceIte, ↓EBD, EBE])))
    refine pcd_v (c_spec_IntersectionOf (n := n2) (x := u) (y := v) hb2 hw2 (by omega) (by omega)) ?_; (refine bni ?_; repeat (refine bnk ?_; (try simp (disch := first | omega | (simp only [LN]; omega)) only [↓EC, EW, seval, ↓reduceIte, ↓EBD, EBE])))
    refine JNx_un ?_
    by_cases hio : (iofR n2 b2 w2 u v).2 = 0
    · have hsw := iof_swap hb2 hw2 hio
      have i3 := c_impl_IntersectionOf (n := n2) (x := v) (y := u) hb2 hw2 (by omega) (by omega)
      rw [hsw.1] at i3
      (refine bni ?_; repeat (refine bnk ?_; (try simp (disch := first | omega | (simp only [LN]; omega)) only [↓EC, EW, seval, ↓reduceIte, ↓EBD, EBE, hio])))
      refine pcd_v i3 ?_; (refine bni ?_; repeat (refine bnk ?_; (try simp (disch := first | omega | (simp only [LN]; omega)) only [↓EC, EW, seval, ↓reduceIte, ↓EBD, EBE])))
      refine pcd_r (c_spec_DrawIsBounding hB) ?_
      rintro _ ⟨n3, b3, w3, c3, rfl, hb3, hw3, hc3⟩
      have hb3l := hb3.1
      have hw3l := hw3.1
      (refine bni ?_; repeat (refine bnk ?_; (try simp (disch := first | omega | (simp only [LN]; omega)) only [↓EC, EW, seval, ↓reduceIte, ↓EBD, EBE, vD])))
      refine pcd_v (c_impl_IsBounding (n := n3) (l := c3) hb3 hw3 (by omega)) ?_; (refine bni ?_; repeat (refine bnk ?_; (try simp (disch := first | omega | (simp only [LN]; omega)) only [↓EC, EW, seval, ↓reduceIte, ↓EBD, EBE])))
      refine pcd_v (c_spec_IsBounding (n := n3) (l := c3) hb3 hw3 (by omega)) ?_; (refine bni ?_; repeat (refine bnk ?_; (try simp (disch := first | omega | (simp only [LN]; omega)) only [↓EC, EW, seval, ↓reduceIte, ↓EBD, EBE])))
      refine pcd_r (c_spec_DrawIsCycle hB) ?_
      rintro _ ⟨n4, b4, w4, c4, rfl, hb4, hw4, hc4⟩
      have hb4l := hb4.1
      have hw4l := hw4.1
      (refine bni ?_; repeat (refine bnk ?_; (try simp (disch := first | omega | (simp only [LN]; omega)) only [↓EC, EW, seval, ↓reduceIte, ↓EBD, EBE, vD])))
      refine pcd_v (c_impl_IsCycle (n := n4) (l := c4) hb4 hw4 (by omega)) ?_; (refine bni ?_; repeat (refine bnk ?_; (try simp (disch := first | omega | (simp only [LN]; omega)) only [↓EC, EW, seval, ↓reduceIte, ↓EBD, EBE])))
      refine pcd_v (c_spec_IsCycle (n := n4) (l := c4) hb4 hw4 (by omega)) ?_; (refine bni ?_; repeat (refine bnk ?_; (try simp (disch := first | omega | (simp only [LN]; omega)) only [↓EC, EW, seval, ↓reduceIte, ↓EBD, EBE])))
      refine pcd_r (c_spec_DrawCycleOfEdge hB) ?_
      rintro _ ⟨n5, b5, w5, y5, rfl, hb5, hw5, hy5, hy5'⟩
      have hb5l := hb5.1
      have hw5l := hw5.1
      (refine bni ?_; repeat (refine bnk ?_; (try simp (disch := first | omega | (simp only [LN]; omega)) only [↓EC, EW, seval, ↓reduceIte, ↓EBD, EBE, vD])))
      have i5 := c_impl_CycleOfEdge (n := n5) (x := y5) hb5 hw5
      have j5 := c_spec_CycleOfEdge (n := n5) (x := y5) (by omega) hb5 hw5
      rcases ceO_cases n5 b5 w5 y5 with ⟨r, hr, hrl⟩ | ⟨c5, hc5⟩
      · rw [hr] at i5 j5
        simp only [ceV] at i5 j5
        obtain ⟨g1, g2, g3, g4⟩ := ceO_0 hr
        have Z5 := (isDB_iff.1 g1).dz hb5 hw5
        have C5 := ce_of Z5 hb5 hw5 (x := y5.toNat) (by omega) g3
        have ic5 := Z5.ic C5.ch C5.cy
        have hr1 := C5.one
        rw [← g4] at ic5 hr1
        have hrn : r.length = n5.toNat := by rw [g4, cyL_len]
        have i6 := c_impl_IsCycle (n := n5) (l := r) hb5 hw5 (by omega)
        rw [ic5] at i6
        refine pcd_v i5 ?_; (refine bni ?_; repeat (refine bnk ?_; (try simp (disch := first | omega | (simp only [LN]; omega)) only [↓EC, EW, seval, ↓reduceIte, ↓EBD, EBE])))
        refine pcd_v j5 ?_; (refine bni ?_; repeat (refine bnk ?_; (try simp (disch := first | omega | (simp only [LN]; omega)) only [↓EC, EW, seval, ↓reduceIte, ↓EBD, EBE])))
        refine pcd_v (c_laws_likeInts (l := r) (m := r) (by omega)) ?_; (refine bni ?_; repeat (refine bnk ?_; (try simp (disch := first | omega | (simp only [LN]; omega)) only [↓EC, EW, seval, ↓reduceIte, ↓EBD, EBE, decide_true])))
        refine JNx_un ?_; (refine bni ?_; repeat (refine bnk ?_; (try simp (disch := first | omega | (simp only [LN]; omega)) only [↓EC, EW, seval, ↓reduceIte, ↓EBD, EBE])))
        refine pcd_v i6 ?_; (refine bni ?_; repeat (refine bnk ?_; (try simp (disch := first | omega | (simp only [LN]; omega)) only [↓EC, EW, seval, ↓reduceIte, ↓EBD, EBE, hr1])))
      · rw [hc5] at i5 j5
        simp only [ceV] at i5 j5
        have hc6 : (c5 == 0) = false := by simpa using ceO_n hc5
        refine pcd_v i5 ?_; (refine bni ?_; repeat (refine bnk ?_; (try simp (disch := first | omega | (simp only [LN]; omega)) only [↓EC, EW, seval, ↓reduceIte, ↓EBD, EBE])))
        refine pcd_v j5 ?_; (refine bni ?_; repeat (refine bnk ?_; (try simp (disch := first | omega | (simp only [LN]; omega)) only [↓EC, EW, seval, ↓reduceIte, ↓EBD, EBE])))
        refine pcd_v c_laws_likeInts_nil ?_; (refine bni ?_; repeat (refine bnk ?_; (try simp (disch := first | omega | (simp only [LN]; omega)) only [↓EC, EW, seval, ↓reduceIte, ↓EBD, EBE, decide_true])))
        refine JNx_un ?_; (refine bni ?_; repeat (refine bnk ?_; (try simp (disch := first | omega | (simp only [LN]; omega)) only [↓EC, EW, seval, ↓reduceIte, ↓EBD, EBE, hc6])))
    · have hio1 : ((iofR n2 b2 w2 u v).2 == 0) = false := by simpa using hio
      (refine bni ?_; repeat (refine bnk ?_; (try simp (disch := first | omega | (simp only [LN]; omega)) only [↓EC, EW, seval, ↓reduceIte, ↓EBD, EBE, hio1])))
      refine pcd_r (c_spec_DrawIsBounding hB) ?_
      rintro _ ⟨n3, b3, w3, c3, rfl, hb3, hw3, hc3⟩
      have hb3l := hb3.1
      have hw3l := hw3.1
      (refine bni ?_; repeat (refine bnk ?_; (try simp (disch := first | omega | (simp only [LN]; omega)) only [↓EC, EW, seval, ↓reduceIte, ↓EBD, EBE, vD])))
      refine pcd_v (c_impl_IsBounding (n := n3) (l := c3) hb3 hw3 (by omega)) ?_; (refine bni ?_; repeat (refine bnk ?_; (try simp (disch := first | omega | (simp only [LN]; omega)) only [↓EC, EW, seval, ↓reduceIte, ↓EBD, EBE])))
      refine pcd_v (c_spec_IsBounding (n := n3) (l := c3) hb3 hw3 (by omega)) ?_; (refine bni ?_; repeat (refine bnk ?_; (try simp (disch := first | omega | (simp only [LN]; omega)) only [↓EC, EW, seval, ↓reduceIte, ↓EBD, EBE])))
      refine pcd_r (c_spec_DrawIsCycle hB) ?_
      rintro _ ⟨n4, b4, w4, c4, rfl, hb4, hw4, hc4⟩
      have hb4l := hb4.1
      have hw4l := hw4.1
      (refine bni ?_; repeat (refine bnk ?_; (try simp (disch := first | omega | (simp only [LN]; omega)) only [↓EC, EW, seval, ↓reduceIte, ↓EBD, EBE, vD])))
      refine pcd_v (c_impl_IsCycle (n := n4) (l := c4) hb4 hw4 (by omega)) ?_; (refine bni ?_; repeat (refine bnk ?_; (try simp (disch := first | omega | (simp only [LN]; omega)) only [↓EC, EW, seval, ↓reduceIte, ↓EBD, EBE])))
      refine pcd_v (c_spec_IsCycle (n := n4) (l := c4) hb4 hw4 (by omega)) ?_; (refine bni ?_; repeat (refine bnk ?_; (try simp (disch := first | omega | (simp only [LN]; omega)) only [↓EC, EW, seval, ↓reduceIte, ↓EBD, EBE])))
      refine pcd_r (c_spec_DrawCycleOfEdge hB) ?_
      rintro _ ⟨n5, b5, w5, y5, rfl, hb5, hw5, hy5, hy5'⟩
      have hb5l := hb5.1
      have hw5l := hw5.1
      (refine bni ?_; repeat (refine bnk ?_; (try simp (disch := first | omega | (simp only [LN]; omega)) only [↓EC, EW, seval, ↓reduceIte, ↓EBD, EBE, vD])))
      have i5 := c_impl_CycleOfEdge (n := n5) (x := y5) hb5 hw5
      have j5 := c_spec_CycleOfEdge (n := n5) (x := y5) (by omega) hb5 hw5
      rcases ceO_cases n5 b5 w5 y5 with ⟨r, hr, hrl⟩ | ⟨c5, hc5⟩
      · rw [hr] at i5 j5
        simp only [ceV] at i5 j5
        obtain ⟨g1, g2, g3, g4⟩ := ceO_0 hr
        have Z5 := (isDB_iff.1 g1).dz hb5 hw5
        have C5 := ce_of Z5 hb5 hw5 (x := y5.toNat) (by omega) g3
        have ic5 := Z5.ic C5.ch C5.cy
        have hr1 := C5.one
        rw [← g4] at ic5 hr1
        have hrn : r.length = n5.toNat := by rw [g4, cyL_len]
        have i6 := c_impl_IsCycle (n := n5) (l := r) hb5 hw5 (by omega)
        rw [ic5] at i6
        refine pcd_v i5 ?_; (refine bni ?_; repeat (refine bnk ?_; (try simp (disch := first | omega | (simp only [LN]; omega)) only [↓EC, EW, seval, ↓reduceIte, ↓EBD, EBE])))
        refine pcd_v j5 ?_; (refine bni ?_; repeat (refine bnk ?_; (try simp (disch := first | omega | (simp only [LN]; omega)) only [↓EC, EW, seval, ↓reduceIte, ↓EBD, EBE])))
        refine pcd_v (c_laws_likeInts (l := r) (m := r) (by omega)) ?_; (refine bni ?_; repeat (refine bnk ?_; (try simp (disch := first | omega | (simp only [LN]; omega)) only [↓EC, EW, seval, ↓reduceIte, ↓EBD, EBE, decide_true])))
        refine JNx_un ?_; (refine bni ?_; repeat (refine bnk ?_; (try simp (disch := first | omega | (simp only [LN]; omega)) only [↓EC, EW, seval, ↓reduceIte, ↓EBD, EBE])))
        refine pcd_v i6 ?_; (refine bni ?_; repeat (refine bnk ?_; (try simp (disch := first | omega | (simp only [LN]; omega)) only [↓EC, EW, seval, ↓reduceIte, ↓EBD, EBE, hr1])))
      · rw [hc5] at i5 j5
        simp only [ceV] at i5 j5
        have hc6 : (c5 == 0) = false := by simpa using ceO_n hc5
        refine pcd_v i5 ?_; (refine bni ?_; repeat (refine bnk ?_; (try simp (disch := first | omega | (simp only [LN]; omega)) only [↓EC, EW, seval, ↓reduceIte, ↓EBD, EBE])))
        refine pcd_v j5 ?_; (refine bni ?_; repeat (refine bnk ?_; (try simp (disch := first | omega | (simp only [LN]; omega)) only [↓EC, EW, seval, ↓reduceIte, ↓EBD, EBE])))
        refine pcd_v c_laws_likeInts_nil ?_; (refine bni ?_; repeat (refine bnk ?_; (try simp (disch := first | omega | (simp only [LN]; omega)) only [↓EC, EW, seval, ↓reduceIte, ↓EBD, EBE, decide_true])))
        refine JNx_un ?_; (refine bni ?_; repeat (refine bnk ?_; (try simp (disch := first | omega | (simp only [LN]; omega)) only [↓EC, EW, seval, ↓reduceIte, ↓EBD, EBE, hc6])))
  | true =>
    have D := isDB_iff.1 hd
    have Z := D.dz hb hw
    have hn := D.pb.1
    have l1 := basL_lim (b := b) (w := w) hn
    have l2 := tbL_lim (b := b) (w := w) hn
    have l3 := bndL_lim (b := b) (w := w) (n := n) hn
    have l4 := treeL_le (b := b) (w := w) hn
    refine pcd_v (c_impl_IntersectionTable (n := n) hb hw hd) ?_; (refine bni ?_; repeat (refine bnk ?_; (try simp (disch := first | omega | (simp only [LN]; omega)) only [↓EC, EW, seval, ↓reduceIte, ↓EBD, EBE])))
    refine pcd_v (c_spec_IntersectionTable (n := n) hb hw hd) ?_; (refine bni ?_; repeat (refine bnk ?_; (try simp (disch := first | omega | (simp only [LN]; omega)) only [↓EC, EW, seval, ↓reduceIte, ↓EBD, EBE])))
    refine pcd_v (c_impl_HomologyBasis (n := n) hb hw hd) ?_; (refine bni ?_; repeat (refine bnk ?_; (try simp (disch := first | omega | (simp only [LN]; omega)) only [↓EC, EW, seval, ↓reduceIte, ↓EBD, EBE])))
    refine pcd_v (c_spec_HomologyBasis (n := n) hb hw hd) ?_; (refine bni ?_; repeat (refine bnk ?_; (try simp (disch := first | omega | (simp only [LN]; omega)) only [↓EC, EW, seval, ↓reduceIte, ↓EBD, EBE])))
    refine pcd_v (c_impl_BoundariesOf (n := n) hb hw hd) ?_; (refine bni ?_; repeat (refine bnk ?_; (try simp (disch := first | omega | (simp only [LN]; omega)) only [↓EC, EW, seval, ↓reduceIte, ↓EBD, EBE])))
    refine pcd_v (c_spec_BoundariesOf (n := n) hb hw hd) ?_; (refine bni ?_; repeat (refine bnk ?_; (try simp (disch := first | omega | (simp only [LN]; omega)) only [↓EC, EW, seval, ↓reduceIte, ↓EBD, EBE])))
    refine pcd_v (c_impl_TreeEdges (n := n) hb hw hd) ?_; (refine bni ?_; repeat (refine bnk ?_; (try simp (disch := first | omega | (simp only [LN]; omega)) only [↓EC, EW, seval, ↓reduceIte, ↓EBD, EBE])))
    refine pcd_v (c_spec_TreeEdges (n := n) hb hw hd) ?_; (refine bni ?_; repeat (refine bnk ?_; (try simp (disch := first | omega | (simp only [LN]; omega)) only [↓EC, EW, seval, ↓reduceIte, ↓EBD, EBE])))
    refine pcd_v (c_laws_rows5 (ls := tbL b w n) (ms := tbL b w n) (by omega) (fun l hl => by have := l2.2 l hl; omega)) ?_; (refine bni ?_; repeat (refine bnk ?_; (try simp (disch := first | omega | (simp only [LN]; omega)) only [↓EC, EW, seval, ↓reduceIte, ↓EBD, EBE, decide_true])))
    refine pcd_v (c_laws_rows5 (ls := basL b w n) (ms := basL b w n) (by omega) (fun l hl => by have := l1.2 l hl; omega)) ?_; (refine bni ?_; repeat (refine bnk ?_; (try simp (disch := first | omega | (simp only [LN]; omega)) only [↓EC, EW, seval, ↓reduceIte, ↓EBD, EBE, decide_true])))
    refine pcd_v (c_laws_rows5 (ls := bndL b w n) (ms := bndL b w n) (by omega) (fun l hl => by have := l3.2 l hl; omega)) ?_; (refine bni ?_; repeat (refine bnk ?_; (try simp (disch := first | omega | (simp only [LN]; omega)) only [↓EC, EW, seval, ↓reduceIte, ↓EBD, EBE, decide_true])))
    refine pcd_v (c_laws_likeInts (l := treeL b w n) (m := treeL b w n) (by omega)) ?_; (refine bni ?_; repeat (refine bnk ?_; (try simp (disch := first | omega | (simp only [LN]; omega)) only [↓EC, EW, seval, ↓reduceIte, ↓EBD, EBE, decide_true])))
    refine JNx_un ?_; (refine bni ?_; repeat (refine bnk ?_; (try simp (disch := first | omega | (simp only [LN]; omega)) only [↓EC, EW, seval, ↓reduceIte, ↓EBD, EBE])))
    have hev := Z.even
    have hbs := Z.bas_len hb hw
    obtain ⟨g, hg⟩ : ∃ g, eulN n b w = 2 * g := ⟨eulN n b w / 2, by unfold eulN; omega⟩
    have hgd : (eulN n b w).tdiv 2 = g := by rw [hg]; exact Int.mul_tdiv_cancel_left _ (by decide)
    have hG : ((basL b w n).length : Int) = 2 * (1 - g) := by unfold eulN at hg; omega
    have htb : (tbL b w n).length = (basL b w n).length := tb_len
    have iG := c_impl_GenusOf (n := n) hb hw hd
    rw [hgd] at iG
    refine pcd_v iG ?_; (refine bni ?_; repeat (refine bnk ?_; (try simp (disch := first | omega | (simp only [LN]; omega)) only [↓EC, EW, seval, ↓reduceIte, ↓EBD, EBE])))
    (refine Split.mkB (fun h => ?_) (fun h => ?_) <;> (try simp only [SD] at h))
    · omega
    (refine bni ?_; repeat (refine bnk ?_; (try simp (disch := first | omega | (simp only [LN]; omega)) only [↓EC, EW, seval, ↓reduceIte, ↓EBD, EBE])))
    (refine Split.mkB (fun h => ?_) (fun h => ?_) <;> (try simp only [SD] at h))
    · omega
    have ht0 : List.replicate n.toNat 0 = tab n (totF b w n 0) := by
      refine gi_ext (by simp [tab_len]) fun i hi => ?_
      rw [tab_at (by simpa using hi), gi_rep]; unfold totF; simp only [smE]; split <;> rfl
    (refine bni ?_; repeat (refine bnk ?_; (try simp (disch := first | omega | (simp only [LN]; omega)) only [↓EC, EW, seval, ↓reduceIte, ↓EBD, EBE])))
    have htl : ∀ f : Nat → Int, (tab n f).length = n.toNat := fun f => tab_len
    refine LPx_of (σ := Nat) 100000 [(67, 27, 1), (236, 2, 1)] (fun k => [.int .i64 k]) (fun k => [.int .i64 n :: vi .u8 (b ++ w), vi .i64 (tab n (totF b w n k))]) (fun k => k ≤ (bndL b w n).length) (fun k => (bndL b w n).length - k) 0 (by simp [frameOk, names, lpz, sclp, scv, scvs, nrfs, nrf, FRB]) (Nat.zero_le _) ?_ ?_
    · (refine bni ?_; repeat (refine bnk ?_; simp (disch := first | omega | (simp only [LN]; omega)) only [↓EC, EW, seval, ↓reduceIte, ↓EBD, EBE, ColV_def]))
      rw [ht0]
    · intro k hk
      (refine bni ?_; repeat (refine bnk ?_; simp (disch := first | omega | (simp only [LN]; omega)) only [↓EC, EW, seval, ↓reduceIte, ↓EBD, EBE, ColV_def, lheap_def]))
      (refine Split.mkB (fun h => ?_) (fun h => ?_) <;> (try simp only [SD] at h))
      · have hk1 : k < (bndL b w n).length := by omega
        have hrl : (gl (bndL b w n) k).length = n.toNat := by rw [bnd_gl (by rw [← bnd_len]; exact hk1), chT_len]
        have iB := c_impl_IsBounding (n := n) (l := gl (bndL b w n) k) hb hw (by omega)
        rw [Z.bnd_yes hb hw hk1] at iB
        (refine bni ?_; repeat (refine bnk ?_; (try simp (disch := first | omega | (simp only [LN]; omega)) only [↓EC, EW, seval, ↓reduceIte, ↓EBD, EBE])))
        refine pcd_v iB ?_; (refine bni ?_; repeat (refine bnk ?_; (try simp (disch := first | omega | (simp only [LN]; omega)) only [↓EC, EW, seval, ↓reduceIte, ↓EBD, EBE])))
        refine LPx_of (σ := Nat) 200000 [(67, 27, 1), (236, 2, 1)] (fun s => [.int .i64 s]) (fun s => [.int .i64 n :: vi .u8 (b ++ w), vi .i64 (tab n (mixF b w n k s))]) (fun s => s ≤ n.toNat) (fun s => n.toNat - s) 0 (by simp [frameOk, names, lpz, sclp, scv, scvs, nrfs, nrf, FRB]) (Nat.zero_le _) ?_ ?_
        · (refine bni ?_; repeat (refine bnk ?_; simp (disch := first | omega | (simp only [LN]; omega)) only [↓EC, EW, seval, ↓reduceIte, ↓EBD, EBE, ColV_def]))
          rw [tab_ext (g := mixF b w n k 0) (g' := totF b w n k) fun i hi => by simp [mixF]]
        · intro s hs
          (refine bni ?_; repeat (refine bnk ?_; simp (disch := first | omega | (simp only [LN]; omega)) only [↓EC, EW, seval, ↓reduceIte, ↓EBD, EBE, ColV_def, lheap_def]))
          (refine Split.mkB (fun h => ?_) (fun h => ?_) <;> (try simp only [SD] at h))
          · have hs1 : s < n.toNat := by omega
            have e1 : gi (tab n (mixF b w n k s)) s = totF b w n k s := by rw [tab_at hs1]; unfold mixF; rw [if_neg (by omega)]
            have q1 := htl (mixF b w n k s)
            have m1 := totF_lim Z (k := k) (i := s)
            have m2 := bnd_lims Z k s
            (refine bni ?_; repeat (refine bnk ?_; (try simp (disch := first | omega | (simp only [LN]; omega)) only [↓EC, EW, seval, ↓reduceIte, ↓EBD, EBE, htl, e1])))
            exact ⟨s + 1, by simp, by rw [mix_set hs1], by omega, by omega⟩
          · (refine bni ?_; repeat (refine bnk ?_; (try simp (disch := first | omega | (simp only [LN]; omega)) only [↓EC, EW, seval, ↓reduceIte, ↓EBD, EBE])))
            refine ⟨k + 1, by simp, ?_, by omega, by omega⟩
            rw [tab_ext (g := mixF b w n k s) (g' := totF b w n (k + 1)) fun i hi => by unfold mixF; rw [if_pos (by omega)]]
      · obtain rfl : k = (bndL b w n).length := by omega
        (refine bni ?_; repeat (refine bnk ?_; (try simp (disch := first | omega | (simp only [LN]; omega)) only [↓EC, EW, seval, ↓reduceIte, ↓EBD, EBE])))
        refine LPx_of (σ := Nat) 200000 [(67, 27, 1), (236, 2, 1)] (fun s => [.int .i64 s]) (fun s => [.int .i64 n :: vi .u8 (b ++ w), vi .i64 (tab n (totF b w n (bndL b w n).length))]) (fun s => s ≤ n.toNat) (fun s => n.toNat - s) 0 (by simp [frameOk, names, lpz, sclp, scv, scvs, nrfs, nrf, FRB]) (Nat.zero_le _) ?_ ?_
        · (refine bni ?_; repeat (refine bnk ?_; simp (disch := first | omega | (simp only [LN]; omega)) only [↓EC, EW, seval, ↓reduceIte, ↓EBD, EBE, ColV_def]))
        · intro s hs
          (refine bni ?_; repeat (refine bnk ?_; simp (disch := first | omega | (simp only [LN]; omega)) only [↓EC, EW, seval, ↓reduceIte, ↓EBD, EBE, ColV_def, lheap_def]))
          (refine Split.mkB (fun h => ?_) (fun h => ?_) <;> (try simp only [SD] at h))
          · have hs1 : s < n.toNat := by omega
            have q1 := htl (totF b w n (bndL b w n).length)
            have e1 : gi (tab n (totF b w n (bndL b w n).length)) s = 0 := by rw [tab_at hs1]; exact Z.bnd_sum hs1
            (refine bni ?_; repeat (refine bnk ?_; (try simp (disch := first | omega | (simp only [LN]; omega)) only [↓EC, EW, seval, ↓reduceIte, ↓EBD, EBE, htl, e1])))
            exact ⟨s + 1, by simp, by omega, by omega⟩
          · (refine bni ?_; repeat (refine bnk ?_; (try simp (disch := first | omega | (simp only [LN]; omega)) only [↓EC, EW, seval, ↓reduceIte, ↓EBD, EBE])))
            refine LPx_of (σ := Nat) 300000 [(67, 27, 1)] (fun i => [.int .i64 i]) (fun i => [.int .i64 n :: vi .u8 (b ++ w)]) (fun i => i ≤ (basL b w n).length) (fun i => (basL b w n).length - i) 0 (by simp [frameOk, names, lpz, sclp, scv, scvs, nrfs, nrf, FRB]) (Nat.zero_le _) ?_ ?_
            · (refine bni ?_; repeat (refine bnk ?_; simp (disch := first | omega | (simp only [LN]; omega)) only [↓EC, EW, seval, ↓reduceIte, ↓EBD, EBE, ColV_def]))
            · intro i hi
              (refine bni ?_; repeat (refine bnk ?_; simp (disch := first | omega | (simp only [LN]; omega)) only [↓EC, EW, seval, ↓reduceIte, ↓EBD, EBE, ColV_def, lheap_def]))
              (refine Split.mkB (fun h => ?_) (fun h => ?_) <;> (try simp only [SD] at h))
              · have hi1 : i < (basL b w n).length := by omega
                have iN := c_impl_IsBounding (n := n) (l := gl (basL b w n) i) hb hw (by have := l1.2 _ (gl_mem hi1); omega)
                rw [Z.bas_no hb hw (gl_mem hi1)] at iN
                (refine bni ?_; repeat (refine bnk ?_; (try simp (disch := first | omega | (simp only [LN]; omega)) only [↓EC, EW, seval, ↓reduceIte, ↓EBD, EBE])))
                refine LPx_of (σ := Nat) 400000 [(67, 27, 1)] (fun j => [.int .i64 j]) (fun j => [.int .i64 n :: vi .u8 (b ++ w)]) (fun j => j ≤ (basL b w n).length) (fun j => (basL b w n).length - j) 0 (by simp [frameOk, names, lpz, sclp, scv, scvs, nrfs, nrf, FRB]) (Nat.zero_le _) ?_ ?_
                · (refine bni ?_; repeat (refine bnk ?_; simp (disch := first | omega | (simp only [LN]; omega)) only [↓EC, EW, seval, ↓reduceIte, ↓EBD, EBE, ColV_def]))
                · intro j hj
                  (refine bni ?_; repeat (refine bnk ?_; simp (disch := first | omega | (simp only [LN]; omega)) only [↓EC, EW, seval, ↓reduceIte, ↓EBD, EBE, ColV_def, lheap_def]))
                  (refine Split.mkB (fun h => ?_) (fun h => ?_) <;> (try simp only [SD] at h))
                  · have hj1 : j < (basL b w n).length := by omega
                    obtain ⟨a1, a2, a3⟩ := tb_anti Z hb hw hi1 hj1
                    have r1 := tb_row (b := b) (w := w) (n := n) hi1
                    have r2 := tb_row (b := b) (w := w) (n := n) hj1
                    (refine bni ?_; repeat (refine bnk ?_; (try simp (disch := first | omega | (simp only [LN]; omega)) only [↓EC, EW, seval, ↓reduceIte, ↓EBD, EBE, a1])))
                    exact ⟨j + 1, by simp, by omega, by omega⟩
                  · (refine bni ?_; repeat (refine bnk ?_; (try simp (disch := first | omega | (simp only [LN]; omega)) only [↓EC, EW, seval, ↓reduceIte, ↓EBD, EBE])))
                    refine pcd_v iN ?_; (refine bni ?_; repeat (refine bnk ?_; (try simp (disch := first | omega | (simp only [LN]; omega)) only [↓EC, EW, seval, ↓reduceIte, ↓EBD, EBE])))
                    exact ⟨i + 1, by simp, by omega, by omega⟩
              · (refine bni ?_; repeat (refine bnk ?_; (try simp (disch := first | omega | (simp only [LN]; omega)) only [↓EC, EW, seval, ↓reduceIte, ↓EBD, EBE])))
                refine pcd_r (c_spec_DrawIntersectionOf hB) ?_
                rintro _ ⟨n2, b2, w2, u, v, rfl, hb2, hw2, hu, hv⟩
                have hb2l := hb2.1
                have hw2l := hw2.1
                (refine bni ?_; repeat (refine bnk ?_; (try simp (disch := first | omega | (simp only [LN]; omega)) only [↓EC, EW, seval, ↓reduceIte, ↓EBD, EBE, vD])))
                refine pcd_v (c_impl_IntersectionOf (n := n2) (x := u) (y := v) hb2 hw2 (by omega) (by omega)) ?_; (refine bni ?_; repeat (refine bnk ?_; (try simp (disch := first | omega | (simp only [LN]; omega)) only [↓EC, EW, seval, ↓reduceIte, ↓EBD, EBE])))
                refine pcd_v (c_spec_IntersectionOf (n := n2) (x := u) (y := v) hb2 hw2 (by omega) (by omega)) ?_; (refine bni ?_; repeat (refine bnk ?_; (try simp (disch := first | omega | (simp only [LN]; omega)) only [↓EC, EW, seval, ↓reduceIte, ↓EBD, EBE])))
                refine JNx_un ?_
                by_cases hio : (iofR n2 b2 w2 u v).2 = 0
                · have hsw := iof_swap hb2 hw2 hio
                  have i3 := c_impl_IntersectionOf (n := n2) (x := v) (y := u) hb2 hw2 (by omega) (by omega)
                  rw [hsw.1] at i3
                  (refine bni ?_; repeat (refine bnk ?_; (try simp (disch := first | omega | (simp only [LN]; omega)) only [↓EC, EW, seval, ↓reduceIte, ↓EBD, EBE, hio])))
                  refine pcd_v i3 ?_; (refine bni ?_; repeat (refine bnk ?_; (try simp (disch := first | omega | (simp only [LN]; omega)) only [↓EC, EW, seval, ↓reduceIte, ↓EBD, EBE])))
                  refine pcd_r (c_spec_DrawIsBounding hB) ?_
                  rintro _ ⟨n3, b3, w3, c3, rfl, hb3, hw3, hc3⟩
                  have hb3l := hb3.1
                  have hw3l := hw3.1
                  (refine bni ?_; repeat (refine bnk ?_; (try simp (disch := first | omega | (simp only [LN]; omega)) only [↓EC, EW, seval, ↓reduceIte, ↓EBD, EBE, vD])))
                  refine pcd_v (c_impl_IsBounding (n := n3) (l := c3) hb3 hw3 (by omega)) ?_; (refine bni ?_; repeat (refine bnk ?_; (try simp (disch := first | omega | (simp only [LN]; omega)) only [↓EC, EW, seval, ↓reduceIte, ↓EBD, EBE])))
                  refine pcd_v (c_spec_IsBounding (n := n3) (l := c3) hb3 hw3 (by omega)) ?_; (refine bni ?_; repeat (refine bnk ?_; (try simp (disch := first | omega | (simp only [LN]; omega)) only [↓EC, EW, seval, ↓reduceIte, ↓EBD, EBE])))
                  refine pcd_r (c_spec_DrawIsCycle hB) ?_
                  rintro _ ⟨n4, b4, w4, c4, rfl, hb4, hw4, hc4⟩
                  have hb4l := hb4.1
                  have hw4l := hw4.1
                  (refine bni ?_; repeat (refine bnk ?_; (try simp (disch := first | omega | (simp only [LN]; omega)) only [↓EC, EW, seval, ↓reduceIte, ↓EBD, EBE, vD])))
                  refine pcd_v (c_impl_IsCycle (n := n4) (l := c4) hb4 hw4 (by omega)) ?_; (refine bni ?_; repeat (refine bnk ?_; (try simp (disch := first | omega | (simp only [LN]; omega)) only [↓EC, EW, seval, ↓reduceIte, ↓EBD, EBE])))
                  refine pcd_v (c_spec_IsCycle (n := n4) (l := c4) hb4 hw4 (by omega)) ?_; (refine bni ?_; repeat (refine bnk ?_; (try simp (disch := first | omega | (simp only [LN]; omega)) only [↓EC, EW, seval, ↓reduceIte, ↓EBD, EBE])))
                  refine pcd_r (c_spec_DrawCycleOfEdge hB) ?_
                  rintro _ ⟨n5, b5, w5, y5, rfl, hb5, hw5, hy5, hy5'⟩
                  have hb5l := hb5.1
                  have hw5l := hw5.1
                  (refine bni ?_; repeat (refine bnk ?_; (try simp (disch := first | omega | (simp only [LN]; omega)) only [↓EC, EW, seval, ↓reduceIte, ↓EBD, EBE, vD])))
                  have i5 := c_impl_CycleOfEdge (n := n5) (x := y5) hb5 hw5
                  have j5 := c_spec_CycleOfEdge (n := n5) (x := y5) (by omega) hb5 hw5
                  rcases ceO_cases n5 b5 w5 y5 with ⟨r, hr, hrl⟩ | ⟨c5, hc5⟩
                  · rw [hr] at i5 j5
                    simp only [ceV] at i5 j5
                    obtain ⟨g1, g2, g3, g4⟩ := ceO_0 hr
                    have Z5 := (isDB_iff.1 g1).dz hb5 hw5
                    have C5 := ce_of Z5 hb5 hw5 (x := y5.toNat) (by omega) g3
                    have ic5 := Z5.ic C5.ch C5.cy
                    have hr1 := C5.one
                    rw [← g4] at ic5 hr1
                    have hrn : r.length = n5.toNat := by rw [g4, cyL_len]
                    have i6 := c_impl_IsCycle (n := n5) (l := r) hb5 hw5 (by omega)
                    rw [ic5] at i6
                    refine pcd_v i5 ?_; (refine bni ?_; repeat (refine bnk ?_; (try simp (disch := first | omega | (simp only [LN]; omega)) only [↓EC, EW, seval, ↓reduceIte, ↓EBD, EBE])))
                    refine pcd_v j5 ?_; (refine bni ?_; repeat (refine bnk ?_; (try simp (disch := first | omega | (simp only [LN]; omega)) only [↓EC, EW, seval, ↓reduceIte, ↓EBD, EBE])))
                    refine pcd_v (c_laws_likeInts (l := r) (m := r) (by omega)) ?_; (refine bni ?_; repeat (refine bnk ?_; (try simp (disch := first | omega | (simp only [LN]; omega)) only [↓EC, EW, seval, ↓reduceIte, ↓EBD, EBE, decide_true])))
                    refine JNx_un ?_; (refine bni ?_; repeat (refine bnk ?_; (try simp (disch := first | omega | (simp only [LN]; omega)) only [↓EC, EW, seval, ↓reduceIte, ↓EBD, EBE])))
                    refine pcd_v i6 ?_; (refine bni ?_; repeat (refine bnk ?_; (try simp (disch := first | omega | (simp only [LN]; omega)) only [↓EC, EW, seval, ↓reduceIte, ↓EBD, EBE, hr1])))
                  · rw [hc5] at i5 j5
                    simp only [ceV] at i5 j5
                    have hc6 : (c5 == 0) = false := by simpa using ceO_n hc5
                    refine pcd_v i5 ?_; (refine bni ?_; repeat (refine bnk ?_; (try simp (disch := first | omega | (simp only [LN]; omega)) only [↓EC, EW, seval, ↓reduceIte, ↓EBD, EBE])))
                    refine pcd_v j5 ?_; (refine bni ?_; repeat (refine bnk ?_; (try simp (disch := first | omega | (simp only [LN]; omega)) only [↓EC, EW, seval, ↓reduceIte, ↓EBD, EBE])))
                    refine pcd_v c_laws_likeInts_nil ?_; (refine bni ?_; repeat (refine bnk ?_; (try simp (disch := first | omega | (simp only [LN]; omega)) only [↓EC, EW, seval, ↓reduceIte, ↓EBD, EBE, decide_true])))
                    refine JNx_un ?_; (refine bni ?_; repeat (refine bnk ?_; (try simp (disch := first | omega | (simp only [LN]; omega)) only [↓EC, EW, seval, ↓reduceIte, ↓EBD, EBE, hc6])))
                · have hio1 : ((iofR n2 b2 w2 u v).2 == 0) = false := by simpa using hio
                  (refine bni ?_; repeat (refine bnk ?_; (try simp (disch := first | omega | (simp only [LN]; omega)) only [↓EC, EW, seval, ↓reduceIte, ↓EBD, EBE, hio1])))
                  refine pcd_r (c_spec_DrawIsBounding hB) ?_
                  rintro _ ⟨n3, b3, w3, c3, rfl, hb3, hw3, hc3⟩
                  have hb3l := hb3.1
                  have hw3l := hw3.1
                  (refine bni ?_; repeat (refine bnk ?_; (try simp (disch := first | omega | (simp only [LN]; omega)) only [↓EC, EW, seval, ↓reduceIte, ↓EBD, EBE, vD])))
                  refine pcd_v (c_impl_IsBounding (n := n3) (l := c3) hb3 hw3 (by omega)) ?_; (refine bni ?_; repeat (refine bnk ?_; (try simp (disch := first | omega | (simp only [LN]; omega)) only [↓EC, EW, seval, ↓reduceIte, ↓EBD, EBE])))
                  refine pcd_v (c_spec_IsBounding (n := n3) (l := c3) hb3 hw3 (by omega)) ?_; (refine bni ?_; repeat (refine bnk ?_; (try simp (disch := first | omega | (simp only [LN]; omega)) only [↓EC, EW, seval, ↓reduceIte, ↓EBD, EBE])))
                  refine pcd_r (c_spec_DrawIsCycle hB) ?_
                  rintro _ ⟨n4, b4, w4, c4, rfl, hb4, hw4, hc4⟩
                  have hb4l := hb4.1
                  have hw4l := hw4.1
                  (refine bni ?_; repeat (refine bnk ?_; (try simp (disch := first | omega | (simp only [LN]; omega)) only [↓EC, EW, seval, ↓reduceIte, ↓EBD, EBE, vD])))
                  refine pcd_v (c_impl_IsCycle (n := n4) (l := c4) hb4 hw4 (by omega)) ?_; (refine bni ?_; repeat (refine bnk ?_; (try simp (disch := first | omega | (simp only [LN]; omega)) only [↓EC, EW, seval, ↓reduceIte, ↓EBD, EBE])))
                  refine pcd_v (c_spec_IsCycle (n := n4) (l := c4) hb4 hw4 (by omega)) ?_; (refine bni ?_; repeat (refine bnk ?_; (try simp (disch := first | omega | (simp only [LN]; omega)) only [↓EC, EW, seval, ↓reduceIte, ↓EBD, EBE])))
                  refine pcd_r (c_spec_DrawCycleOfEdge hB) ?_
                  rintro _ ⟨n5, b5, w5, y5, rfl, hb5, hw5, hy5, hy5'⟩
                  have hb5l := hb5.1
                  have hw5l := hw5.1
                  (refine bni ?_; repeat (refine bnk ?_; (try simp (disch := first | omega | (simp only [LN]; omega)) only [↓EC, EW, seval, ↓reduceIte, ↓EBD, EBE, vD])))
                  have i5 := c_impl_CycleOfEdge (n := n5) (x := y5) hb5 hw5
                  have j5 := c_spec_CycleOfEdge (n := n5) (x := y5) (by omega) hb5 hw5
                  rcases ceO_cases n5 b5 w5 y5 with ⟨r, hr, hrl⟩ | ⟨c5, hc5⟩
                  · rw [hr] at i5 j5
                    simp only [ceV] at i5 j5
                    obtain ⟨g1, g2, g3, g4⟩ := ceO_0 hr
                    have Z5 := (isDB_iff.1 g1).dz hb5 hw5
                    have C5 := ce_of Z5 hb5 hw5 (x := y5.toNat) (by omega) g3
                    have ic5 := Z5.ic C5.ch C5.cy
                    have hr1 := C5.one
                    rw [← g4] at ic5 hr1
                    have hrn : r.length = n5.toNat := by rw [g4, cyL_len]
                    have i6 := c_impl_IsCycle (n := n5) (l := r) hb5 hw5 (by omega)
                    rw [ic5] at i6
                    refine pcd_v i5 ?_; (refine bni ?_; repeat (refine bnk ?_; (try simp (disch := first | omega | (simp only [LN]; omega)) only [↓EC, EW, seval, ↓reduceIte, ↓EBD, EBE])))
                    refine pcd_v j5 ?_; (refine bni ?_; repeat (refine bnk ?_; (try simp (disch := first | omega | (simp only [LN]; omega)) only [↓EC, EW, seval, ↓reduceIte, ↓EBD, EBE])))
                    refine pcd_v (c_laws_likeInts (l := r) (m := r) (by omega)) ?_; (refine bni ?_; repeat (refine bnk ?_; (try simp (disch := first | omega | (simp only [LN]; omega)) only [↓EC, EW, seval, ↓reduceIte, ↓EBD, EBE, decide_true])))
                    refine JNx_un ?_; (refine bni ?_; repeat (refine bnk ?_; (try simp (disch := first | omega | (simp only [LN]; omega)) only [↓EC, EW, seval, ↓reduceIte, ↓EBD, EBE])))
                    refine pcd_v i6 ?_; (refine bni ?_; repeat (refine bnk ?_; (try simp (disch := first | omega | (simp only [LN]; omega)) only [↓EC, EW, seval, ↓reduceIte, ↓EBD, EBE, hr1])))
                  · rw [hc5] at i5 j5
                    simp only [ceV] at i5 j5
                    have hc6 : (c5 == 0) = false := by simpa using ceO_n hc5
                    refine pcd_v i5 ?_; (refine bni ?_; repeat (refine bnk ?_; (try simp (disch := first | omega | (simp only [LN]; omega)) only [↓EC, EW, seval, ↓reduceIte, ↓EBD, EBE])))
                    refine pcd_v j5 ?_; (refine bni ?_; repeat (refine bnk ?_; (try simp (disch := first | omega | (simp only [LN]; omega)) only [↓EC, EW, seval, ↓reduceIte, ↓EBD, EBE])))
                    refine pcd_v c_laws_likeInts_nil ?_; (refine bni ?_; repeat (refine bnk ?_; (try simp (disch := first | omega | (simp only [LN]; omega)) only [↓EC, EW, seval, ↓reduceIte, ↓EBD, EBE, decide_true])))
                    refine JNx_un ?_; (refine bni ?_; repeat (refine bnk ?_; (try simp (disch := first | omega | (simp only [LN]; omega)) only [↓EC, EW, seval, ↓reduceIte, ↓EBD, EBE, hc6])))
theorem t_FnHomology : ∀ xs, Ty.oks [.sl (.int .u8)] xs → PSpec Tryz.prog 3 xs fun r => r = .bool true := by
  rintro xs ⟨v, r, rfl, hv, rfl⟩
  obtain ⟨l, rfl, h1, h2⟩ := ok_ints hv
  exact pspec_fz fun x => c_FnHomology fun a ha => h2 a ha
end
end Go.Proofs.YtpeglkcbhffaaaaGreat.Sep

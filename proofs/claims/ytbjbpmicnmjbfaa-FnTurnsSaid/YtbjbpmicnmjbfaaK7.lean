/- Texts put together: C121. -/
import Derived.Test.YtbjbpmicnmjbfaaK6
namespace Go.Proofs.Ytbjbpmicnmjbfaa.Sep
open Go.RowKit
set_option linter.unusedVariables false
set_option linter.unusedSimpArgs false
set_option maxRecDepth 20000
section
set_option maxHeartbeats 8000000
theorem c_laws_likeIntsT {l m : List Int} (hl : l.length ≤ 1048576) : PSpec Try.prog 42 [.sl l.length (vi .i64 l), .sl m.length (vi .i64 m)] fun v => v = .bool (decide (l = m)) := by
  refine laws_likeInts_f.f ?_
  simp (disch := first | omega | (simp only [LN]; omega)) only [↓EC, EW, seval, ↓reduceIte, laws_likeInts_F]
  (refine Split.mk (fun h => ?_) (fun h => ?_) <;> (try simp only [SD] at h))
  · (try simp (disch := first | omega | (simp only [LN]; omega)) only [↓EC, EW, seval, ↓reduceIte])
    rw [eq_comm, V.bool.injEq, decide_eq_false_iff_not]
    intro e; subst e; omega
  · refine LP_of (σ := Nat) 100000 [] (fun s => [.int .i64 s]) (fun s => [])
      (fun s => s ≤ l.length ∧ ∀ j, j < s → gi l j = gi m j) (fun s => l.length - s) 0 (by simp [frameOk, names, lpz, sclp, scv, scvs, nrfs, nrf, FRB]) ⟨Nat.zero_le _, fun j hj => absurd hj (Nat.not_lt_zero j)⟩ ?_ ?_
    · simp (disch := first | omega | (simp only [LN]; omega)) only [↓EC, EW, seval, ↓reduceIte, ColV_def]
    · rintro i ⟨h1, h2⟩
      simp (disch := first | omega | (simp only [LN]; omega)) only [↓EC, EW, seval, ↓reduceIte, ColV_def, lheap_def]
      (refine Split.mk (fun h => ?_) (fun h => ?_) <;> (try simp only [SD] at h))
      · (try simp (disch := first | omega | (simp only [LN]; omega)) only [↓EC, EW, seval, ↓reduceIte])
        (refine Split.mk (fun h => ?_) (fun h => ?_) <;> (try simp only [SD] at h))
        · (try simp (disch := first | omega | (simp only [LN]; omega)) only [↓EC, EW, seval, ↓reduceIte])
          rw [eq_comm, V.bool.injEq, decide_eq_false_iff_not]
          intro e; subst e; exact h rfl
        · (try simp (disch := first | omega | (simp only [LN]; omega)) only [↓EC, EW, seval, ↓reduceIte])
          refine ⟨i + 1, rfl, ⟨by omega, fun j hj => ?_⟩, by omega⟩
          by_cases e : j = i
          · subst e; exact h
          · exact h2 j (by omega)
      · (try simp (disch := first | omega | (simp only [LN]; omega)) only [↓EC, EW, seval, ↓reduceIte])
        rw [eq_comm, V.bool.injEq, decide_eq_true_eq]
        exact gi_ext (by omega) fun j hj => h2 j (by omega)
theorem c_laws_rows5T {ls ms : List (List Int)} (hl : ls.length ≤ 1048576) (hls : ∀ l ∈ ls, l.length ≤ 1048576) : PSpec Try.prog 19 [.sl ls.length (vl ls), .sl ms.length (vl ms)] fun v => v = .bool (decide (ls = ms)) := by
  refine laws_rows5_f.f ?_
  simp (disch := first | omega | (simp only [LN]; omega)) only [↓EC, EW, seval, ↓reduceIte, laws_rows5_F]
  (refine Split.mk (fun h => ?_) (fun h => ?_) <;> (try simp only [SD] at h))
  · (try simp (disch := first | omega | (simp only [LN]; omega)) only [↓EC, EW, seval, ↓reduceIte])
    rw [eq_comm, V.bool.injEq, decide_eq_false_iff_not]
    intro e; subst e; omega
  · refine LP_of (σ := Nat) 100000 [] (fun s => [.int .i64 s]) (fun s => [])
      (fun s => s ≤ ls.length ∧ ∀ j, j < s → gl ls j = gl ms j) (fun s => ls.length - s) 0 (by simp [frameOk, names, lpz, sclp, scv, scvs, nrfs, nrf, FRB]) ⟨Nat.zero_le _, fun j hj => absurd hj (Nat.not_lt_zero j)⟩ ?_ ?_
    · simp (disch := first | omega | (simp only [LN]; omega)) only [↓EC, EW, seval, ↓reduceIte, ColV_def]
    · rintro i ⟨h1, h2⟩
      simp (disch := first | omega | (simp only [LN]; omega)) only [↓EC, EW, seval, ↓reduceIte, ColV_def, lheap_def]
      (refine Split.mk (fun h => ?_) (fun h => ?_) <;> (try simp only [SD] at h))
      · (try simp (disch := first | omega | (simp only [LN]; omega)) only [↓EC, EW, seval, ↓reduceIte])
        refine pcd_v (c_laws_likeIntsT (hls _ (gl_mem (by omega)))) ?_
        (try simp (disch := first | omega | (simp only [LN]; omega)) only [↓EC, EW, seval, ↓reduceIte])
        (refine Split.mk (fun h => ?_) (fun h => ?_) <;> (try simp only [SD] at h))
        · (try simp (disch := first | omega | (simp only [LN]; omega)) only [↓EC, EW, seval, ↓reduceIte])
          rw [eq_comm, V.bool.injEq, decide_eq_false_iff_not]
          intro e; subst e; exact h rfl
        · (try simp (disch := first | omega | (simp only [LN]; omega)) only [↓EC, EW, seval, ↓reduceIte])
          refine ⟨i + 1, rfl, ⟨by omega, fun j hj => ?_⟩, by omega⟩
          by_cases e : j = i
          · subst e; exact h
          · exact h2 j (by omega)
      · (try simp (disch := first | omega | (simp only [LN]; omega)) only [↓EC, EW, seval, ↓reduceIte])
        rw [eq_comm, V.bool.injEq, decide_eq_true_eq]
        exact gl_ext (by omega) fun j hj => h2 j (by omega)
theorem c_laws_bigT {x : Value} {l : List Int} : PSpec Try.prog 4 [.fz x l] fun v => v = .bool (decide (4096 < (l.length : Int))) := by
  refine laws_big_f.f ?_
  simp (disch := first | omega | (simp only [LN]; omega)) only [↓EC, EW, seval, ↓reduceIte, laws_big_F]
theorem vleq32r {l : List Int} (hl : l.length = 32) : vleq [.i .u8, .i .u8, .i .u8, .i .u8, .i .u8, .i .u8, .i .u8, .i .u8, .i .u8, .i .u8, .i .u8, .i .u8, .i .u8, .i .u8, .i .u8, .i .u8, .i .u8, .i .u8, .i .u8, .i .u8, .i .u8, .i .u8, .i .u8, .i .u8, .i .u8, .i .u8, .i .u8, .i .u8, .i .u8, .i .u8, .i .u8, .i .u8] (vi .u8 l) (vi .u8 l) = some true := by
  rw [vleq32 hl hl]; simp
def Fre (k : Nat) (h : Hp) : Prop := ∀ d, k ≤ d → h d = .free
theorem Fre.put {k b : Nat} {h : Hp} {s : Slot} (hf : Fre k h) (hb : b < k) : Fre k (hput h b s) := fun d hd => by
  have : ¬ d = b := by omega
  simp only [hput, if_neg this]; exact hf d hd
theorem Fre.nil {k : Nat} : Fre k hnil := fun d hd => rfl
theorem Fre.up {k k' : Nat} {h : Hp} (hf : Fre k h) (hk : k ≤ k') : Fre k' h := fun d hd => hf d (by omega)
section
variable {n k : Int} {b w : List Int}
theorem exR_len (hb : okP b) (hw : okP w) : (exR n b w k).1.2.1.length = 16 ∧ (exR n b w k).1.2.2.length = 16 := by
  unfold exR
  split
  · rename_i hd
    have D := (isDB_iff.1 hd).dz hb hw
    split
    · rename_i hk
      have E := (D.ex hk).1
      exact ⟨E.B.lo.1, E.W.lo.1⟩
    · simp [z16]
  · simp [z16]
theorem suR_len (hb : okP b) (hw : okP w) : (suR n b w).1.2.1.length = 16 ∧ (suR n b w).1.2.2.length = 16 := by
  unfold suR
  split
  · split
    · exact ⟨sbB_len _, sbW_len _⟩
    · simp [z16]
  · simp [z16]
theorem exR_0 (h : (exR n b w k).2 = 0) : isDB n b w = true ∧ (0 ≤ k ∧ k ≤ 5) ∧ exR n b w k = ((n, ex1 b w n k, ex2 b w n k), 0) := by
  unfold exR at h ⊢
  split at h
  · rename_i hd
    split at h
    · rename_i hk
      exact ⟨hd, hk, by rw [if_pos hd, if_pos hk]⟩
    · cases h
  · cases h
theorem suR_0 (h : (suR n b w).2 = 0) : isDB n b w = true ∧ 2 * n ≤ 16 ∧ suR n b w = ((2 * n, suB b w n, suW n), 0) := by
  unfold suR at h ⊢
  split at h
  · rename_i hd
    split at h
    · rename_i hk
      exact ⟨hd, hk, by rw [if_pos hd, if_pos hk]⟩
    · cases h
  · cases h
theorem Dz.isB (h : Dz n b w) : isDB n b w = true := isDB_iff.2 h.D
theorem eul_lim (hn : 1 ≤ n ∧ n ≤ 16) : -32 ≤ (eulN n b w).tdiv 2 ∧ (eulN n b w).tdiv 2 ≤ 32 := by
  have c1 : (cyc b n).length ≤ 16 := by have := (cycO_len (p := b) n.toNat).2; unfold cyc; omega
  have c2 : (cyc w n).length ≤ 16 := by have := (cycO_len (p := w) n.toNat).2; unfold cyc; omega
  have c3 : (cyc (faceP b w n) n).length ≤ 16 := by have := (cycO_len (p := faceP b w n) n.toNat).2; unfold cyc; omega
  have ht : -16 ≤ eulN n b w ∧ eulN n b w ≤ 48 := by unfold eulN; omega
  have h3 := Int.mul_tdiv_add_tmod (eulN n b w) 2
  have h4 := Int.tmod_lt_of_pos (eulN n b w) (show (0 : Int) < 2 by omega)
  have h5 := Int.lt_tmod_of_pos (eulN n b w) (show (0 : Int) < 2 by omega)
  omega
end
theorem akR_0 {n m : Int} {b w c x : List Int} (h1 : (akR n m b w c x).2 = 0) (h2 : (akR n m b w c x).1 = true) : isDB n b w = true ∧ isDB m c x = true ∧ n = m ∧ Alk n b w c x := by
  unfold akR at h1 h2
  split at h1
  · rename_i hd
    rw [if_pos hd] at h2
    simp only [akB, decide_eq_true_eq] at h2
    exact ⟨hd.1, hd.2, h2.1, h2.2⟩
  · cases h1
theorem c_FnTurns {x : Value} {l : List Int} (hl : ∀ a ∈ l, 0 ≤ a ∧ a ≤ 255) : PSpec Try.prog 3 [.fz x l] fun v => v = .bool true := by
  refine laws_FnTurns_f.f ?_
  dsimp only [laws_FnTurns_F, pcal_B, pcalp_B, pcala_B, pcond_B, pgk_B, JN_B, LP_B]
  (refine bni ?_; repeat (refine bnk ?_; (try simp (disch := first | omega | (simp only [LN]; omega)) only [↓EC, EW, seval, ↓reduceIte, ↓EBD, EBE])))
  refine pcd_v c_laws_bigT ?_
  (refine bni ?_; repeat (refine bnk ?_; (try simp (disch := first | omega | (simp only [LN]; omega)) only [↓EC, EW, seval, ↓reduceIte, ↓EBD, EBE])))
  (refine Split.mkB (fun h => ?_) (fun h => ?_) <;> (try simp only [SD] at h))
  · (refine bni ?_; repeat (refine bnk ?_; (try simp (disch := first | omega | (simp only [LN]; omega)) only [↓EC, EW, seval, ↓reduceIte, ↓EBD, EBE])))
  have hll : l.length ≤ 4096 := by omega
  have hB : okB l := ⟨by omega, hl⟩
  (refine bni ?_; repeat (refine bnk ?_; (try simp (disch := first | omega | (simp only [LN]; omega)) only [↓EC, EW, seval, ↓reduceIte, ↓EBD, EBE])))
  refine pcd_r (c_spec_DrawExchangeOf hB) ?_
  rintro _ ⟨n, b, w, k, rfl, hb, hw, hn1, hn2⟩
  have hbl := hb.1
  have hwl := hw.1
  have i1 := c_impl_ExchangeOf (n := n) (k := k) hb hw
  have s1 := c_spec_ExchangeOf (n := n) (k := k) hb hw
  obtain ⟨x1, x2⟩ := exR_len (n := n) (k := k) hb hw
  have ex0 := fun h => exR_0 (n := n) (b := b) (w := w) (k := k) h
  simp only [vDC, vD] at i1 s1
  generalize exR n b w k = r at *
  have v1 := vleq32r (l := r.1.2.1 ++ r.1.2.2) (by simp [x1, x2])
  (refine bni ?_; repeat (refine bnk ?_; (try simp (disch := first | omega | (simp only [LN]; omega)) only [↓EC, EW, seval, ↓reduceIte, ↓EBD, EBE, vD])))
  refine pcd_v i1 ?_
  (refine bni ?_; repeat (refine bnk ?_; (try simp (disch := first | omega | (simp only [LN]; omega)) only [↓EC, EW, seval, ↓reduceIte, ↓EBD, EBE])))
  refine pcd_v s1 ?_
  (refine bni ?_; repeat (refine bnk ?_; (try simp (disch := first | omega | (simp only [LN]; omega)) only [↓EC, EW, seval, ↓reduceIte, ↓EBD, EBE, v1])))
  refine JNx_of (fun o h => o = [.fz x l] ∧ Fre 87 h) ?_ ?_
  · intro K hK
    (refine bni ?_; repeat (refine bnk ?_; (try simp (disch := first | omega | (simp only [LN]; omega)) only [↓EC, EW, seval, ↓reduceIte, ↓EBD, EBE])))
    (refine Split.mkB (fun h => ?_) (fun h => ?_) <;> (try simp only [SD] at h))
    · obtain ⟨hd, hk, rfl⟩ := ex0 h
      simp only at x1 x2
      have D := (isDB_iff.1 hd).dz hb hw
      have hn := D.B.hn
      obtain ⟨E, eE⟩ := D.ex hk
      have M := D.mir
      have g1 := c_impl_GenusOf hb hw hd
      have g2 := c_impl_GenusOf E.B.lo.ok E.W.lo.ok E.isB
      have g3 := c_impl_MirrorOf hb hw hd
      have g4 := c_impl_MirrorOf M.B.lo.ok M.W.lo.ok M.isB
      have g5 := c_impl_GenusOf M.B.lo.ok M.W.lo.ok M.isB
      have g6 := c_impl_IsChiral (n := n) hb hw
      have g7 := c_impl_AreAlike (n := n) (m := n) hb hw M.B.lo.ok M.W.lo.ok
      rw [back_back hn D.D.pb hb, back_back hn D.D.pw hw] at g4
      rw [eE] at g2
      rw [D.mir_eul] at g5
      have hlim := eul_lim (b := b) (w := w) hn
      simp only [chR, akR, hd, M.isB, if_true, and_self] at g6 g7
      have m1 := M.B.lo.1
      have m2 := M.W.lo.1
      have v2 := vleq32r (l := b ++ w) (by simp [hbl, hwl])
      simp only [vD] at g1 g2 g3 g4 g5 g6 g7
      (refine bni ?_; repeat (refine bnk ?_; (try simp (disch := first | omega | (simp only [LN]; omega)) only [↓EC, EW, seval, ↓reduceIte, ↓EBD, EBE])))
      refine pcd_v g1 ?_
      (refine bni ?_; repeat (refine bnk ?_; (try simp (disch := first | omega | (simp only [LN]; omega)) only [↓EC, EW, seval, ↓reduceIte, ↓EBD, EBE])))
      refine pcd_v g2 ?_
      (refine bni ?_; repeat (refine bnk ?_; (try simp (disch := first | omega | (simp only [LN]; omega)) only [↓EC, EW, seval, ↓reduceIte, ↓EBD, EBE])))
      refine pcd_v g3 ?_
      (refine bni ?_; repeat (refine bnk ?_; (try simp (disch := first | omega | (simp only [LN]; omega)) only [↓EC, EW, seval, ↓reduceIte, ↓EBD, EBE])))
      refine pcd_v g4 ?_
      (refine bni ?_; repeat (refine bnk ?_; (try simp (disch := first | omega | (simp only [LN]; omega)) only [↓EC, EW, seval, ↓reduceIte, ↓EBD, EBE])))
      refine pcd_v g5 ?_
      (refine bni ?_; repeat (refine bnk ?_; (try simp (disch := first | omega | (simp only [LN]; omega)) only [↓EC, EW, seval, ↓reduceIte, ↓EBD, EBE, v2])))
      refine pcd_v g6 ?_
      (refine bni ?_; repeat (refine bnk ?_; (try simp (disch := first | omega | (simp only [LN]; omega)) only [↓EC, EW, seval, ↓reduceIte, ↓EBD, EBE])))
      refine pcd_v g7 ?_
      have nb : ((!akB n n b w (backP b n) (backP w n)) == akB n n b w (backP b n) (backP w n)) = false := by cases akB n n b w (backP b n) (backP w n) <;> rfl
      (refine bni ?_; repeat (refine bnk ?_; (try simp (disch := first | omega | (simp only [LN]; omega)) only [↓EC, EW, seval, ↓reduceIte, ↓EBD, EBE, nb])))
      exact hK _ _ ⟨rfl, by repeat' (first | exact Fre.nil | refine Fre.put ?_ (by decide))⟩
    · (refine bni ?_; repeat (refine bnk ?_; (try simp (disch := first | omega | (simp only [LN]; omega)) only [↓EC, EW, seval, ↓reduceIte, ↓EBD, EBE])))
      exact hK _ _ ⟨rfl, by repeat' (first | exact Fre.nil | refine Fre.put ?_ (by decide))⟩
  · rintro o h0 ⟨rfl, hf⟩
    clear ex0 x1 x2 v1 i1 s1 hb hw hbl hwl hn1 hn2 r
    clear n b w k
    have f87 := hf 87 (by decide)
    have f88 := hf 88 (by decide)
    have f90 := hf 90 (by decide)
    (refine bni ?_; repeat (refine bnk ?_; (try simp (disch := first | omega | (simp only [LN]; omega)) only [↓EC, EW, seval, ↓reduceIte, ↓EBD, EBE])))
    refine pcd_r (c_spec_DrawSubdividedOf hB) ?_
    rintro _ ⟨n, b, w, rfl, hb, hw, hn1, hn2⟩
    have hbl := hb.1
    have hwl := hw.1
    have i1 := c_impl_SubdividedOf (n := n) hb hw ⟨hn1, hn2⟩
    have s1 := c_spec_SubdividedOf (n := n) hb hw ⟨hn1, hn2⟩
    obtain ⟨x1, x2⟩ := suR_len (n := n) hb hw
    have ex0 := fun h => suR_0 (n := n) (b := b) (w := w) h
    simp only [vDC, vD] at i1 s1
    generalize suR n b w = r at *
    have v1 := vleq32r (l := r.1.2.1 ++ r.1.2.2) (by simp [x1, x2])
    (refine bni ?_; repeat (refine bnk ?_; (try simp (disch := first | omega | (simp only [LN]; omega)) only [↓EC, EW, seval, ↓reduceIte, ↓EBD, EBE, vD, f87])))
    refine pcd_v i1 ?_
    (refine bni ?_; repeat (refine bnk ?_; (try simp (disch := first | omega | (simp only [LN]; omega)) only [↓EC, EW, seval, ↓reduceIte, ↓EBD, EBE, f88])))
    refine pcd_v s1 ?_
    (refine bni ?_; repeat (refine bnk ?_; (try simp (disch := first | omega | (simp only [LN]; omega)) only [↓EC, EW, seval, ↓reduceIte, ↓EBD, EBE, v1, f90])))
    refine JNx_of (fun o h => o = [.fz x l] ∧ Fre 98 h) ?_ ?_
    · intro K hK
      (refine bni ?_; repeat (refine bnk ?_; (try simp (disch := first | omega | (simp only [LN]; omega)) only [↓EC, EW, seval, ↓reduceIte, ↓EBD, EBE])))
      (refine Split.mkB (fun h => ?_) (fun h => ?_) <;> (try simp only [SD] at h))
      · obtain ⟨hd, h8, rfl⟩ := ex0 h
        simp only at x1 x2
        have D := (isDB_iff.1 hd).dz hb hw
        have S : Su n b w := ⟨D, by omega⟩
        have g1 := c_impl_IsClean S.B.1.lo.ok S.W.1.lo.ok (n := 2 * n)
        have g2 := c_impl_GenusOf hb hw hd
        have g3 := c_impl_GenusOf S.B.1.lo.ok S.W.1.lo.ok S.dz.isB
        rw [S.eul] at g3
        have hlim := eul_lim (b := b) (w := w) D.B.hn
        have cl : clB (2 * n) (suW n) = true := S.W.1.clB.2 S.pairs
        simp only [clR, S.dz.isB, if_true, cl] at g1
        simp only [vD] at g1 g2 g3
        (refine bni ?_; repeat (refine bnk ?_; (try simp (disch := first | omega | (simp only [LN]; omega)) only [↓EC, EW, seval, ↓reduceIte, ↓EBD, EBE])))
        refine pcd_v g1 ?_
        (refine bni ?_; repeat (refine bnk ?_; (try simp (disch := first | omega | (simp only [LN]; omega)) only [↓EC, EW, seval, ↓reduceIte, ↓EBD, EBE])))
        refine pcd_v g2 ?_
        (refine bni ?_; repeat (refine bnk ?_; (try simp (disch := first | omega | (simp only [LN]; omega)) only [↓EC, EW, seval, ↓reduceIte, ↓EBD, EBE])))
        refine pcd_v g3 ?_
        (refine bni ?_; repeat (refine bnk ?_; (try simp (disch := first | omega | (simp only [LN]; omega)) only [↓EC, EW, seval, ↓reduceIte, ↓EBD, EBE])))
        exact hK _ _ ⟨rfl, by repeat' (first | exact hf.up (by decide) | refine Fre.put ?_ (by decide))⟩
      · (refine bni ?_; repeat (refine bnk ?_; (try simp (disch := first | omega | (simp only [LN]; omega)) only [↓EC, EW, seval, ↓reduceIte, ↓EBD, EBE])))
        exact hK _ _ ⟨rfl, by repeat' (first | exact hf.up (by decide) | refine Fre.put ?_ (by decide))⟩
    · rintro o h1 ⟨rfl, hg⟩
      clear ex0 x1 x2 v1 i1 s1 hb hw hbl hwl hn1 hn2 r f87 f88 f90 hf
      clear n b w
      have f98 := hg 98 (by decide)
      have f99 := hg 99 (by decide)
      (refine bni ?_; repeat (refine bnk ?_; (try simp (disch := first | omega | (simp only [LN]; omega)) only [↓EC, EW, seval, ↓reduceIte, ↓EBD, EBE])))
      refine pcd_r (c_spec_DrawAreAlike hB) ?_
      rintro _ ⟨n, b, w, m, c, y, rfl, hb, hw, hn, hc, hy, hm⟩
      have hbl := hb.1
      have hwl := hw.1
      have hcl := hc.1
      have hyl := hy.1
      have i1 := c_impl_AreAlike (n := n) (m := m) hb hw hc hy
      have s1 := c_spec_AreAlike (n := n) (m := m) hb hw hc hy
      simp only [vD] at i1 s1
      (refine bni ?_; repeat (refine bnk ?_; (try simp (disch := first | omega | (simp only [LN]; omega)) only [↓EC, EW, seval, ↓reduceIte, ↓EBD, EBE, vD, f98, f99])))
      refine pcd_v i1 ?_
      (refine bni ?_; repeat (refine bnk ?_; (try simp (disch := first | omega | (simp only [LN]; omega)) only [↓EC, EW, seval, ↓reduceIte, ↓EBD, EBE])))
      refine pcd_v s1 ?_
      (refine bni ?_; repeat (refine bnk ?_; (try simp (disch := first | omega | (simp only [LN]; omega)) only [↓EC, EW, seval, ↓reduceIte, ↓EBD, EBE])))
      refine JNx_of (fun o h => o = [.fz x l] ∧ Fre 108 h) ?_ ?_
      · intro K hK
        (refine bni ?_; repeat (refine bnk ?_; (try simp (disch := first | omega | (simp only [LN]; omega)) only [↓EC, EW, seval, ↓reduceIte, ↓EBD, EBE])))
        (refine Split.mkB (fun h => ?_) (fun h => ?_) <;> (try simp only [SD] at h))
        · (refine bni ?_; repeat (refine bnk ?_; (try simp (disch := first | omega | (simp only [LN]; omega)) only [↓EC, EW, seval, ↓reduceIte, ↓EBD, EBE])))
          cases hak : (akR n m b w c y).1 with
          | false =>
            (refine bni ?_; repeat (refine bnk ?_; (try simp (disch := first | omega | (simp only [LN]; omega)) only [↓EC, EW, seval, ↓reduceIte, ↓EBD, EBE])))
            exact hK _ _ ⟨rfl, by repeat' (first | exact hg.up (by decide) | refine Fre.put ?_ (by decide))⟩
          | true =>
            obtain ⟨hd, he, rfl, al⟩ := akR_0 h hak
            have D := (isDB_iff.1 hd).dz hb hw
            have E := (isDB_iff.1 he).dz hc hy
            have g1 := c_impl_PassportOf hb hw hd
            have g2 := c_impl_PassportOf hc hy he
            obtain ⟨t1, t2, t3⟩ := alk_typ D E al
            have ep : ppL n c y = ppL n b w := by unfold ppL; rw [t1, t2, t3]
            have lt : ∀ p : List Int, (typ p n).length ≤ 16 := fun p => by
              rw [typ_len]
              have := (cycO_len (p := p) n.toNat).2
              have := D.B.hn
              unfold cyc; omega
            have g3 := c_laws_rows5T (ls := ppL n b w) (ms := ppL n b w) (by show 3 ≤ 1048576; decide) (fun l hl => by
              unfold ppL at hl
              simp only [List.mem_cons, List.not_mem_nil, or_false] at hl
              rcases hl with rfl | rfl | rfl
              · have := lt b; omega
              · have := lt w; omega
              · have := lt (faceP b w n); omega)
            have e3 : (ppL n b w).length = 3 := rfl
            rw [e3] at g3
            simp only [decide_true] at g3
            rw [ep] at g2
            simp only [vD] at g1 g2
            (refine bni ?_; repeat (refine bnk ?_; (try simp (disch := first | omega | (simp only [LN]; omega)) only [↓EC, EW, seval, ↓reduceIte, ↓EBD, EBE, hak])))
            refine pcd_v g1 ?_
            (refine bni ?_; repeat (refine bnk ?_; (try simp (disch := first | omega | (simp only [LN]; omega)) only [↓EC, EW, seval, ↓reduceIte, ↓EBD, EBE])))
            refine pcd_v g2 ?_
            (refine bni ?_; repeat (refine bnk ?_; (try simp (disch := first | omega | (simp only [LN]; omega)) only [↓EC, EW, seval, ↓reduceIte, ↓EBD, EBE])))
            refine pcd_v g3 ?_
            (refine bni ?_; repeat (refine bnk ?_; (try simp (disch := first | omega | (simp only [LN]; omega)) only [↓EC, EW, seval, ↓reduceIte, ↓EBD, EBE])))
            exact hK _ _ ⟨rfl, by repeat' (first | exact hg.up (by decide) | refine Fre.put ?_ (by decide))⟩
        · (refine bni ?_; repeat (refine bnk ?_; (try simp (disch := first | omega | (simp only [LN]; omega)) only [↓EC, EW, seval, ↓reduceIte, ↓EBD, EBE])))
          exact hK _ _ ⟨rfl, by repeat' (first | exact hg.up (by decide) | refine Fre.put ?_ (by decide))⟩
      · rintro o h2 ⟨rfl, hf⟩
        clear i1 s1 hb hw hbl hwl hcl hyl hc hy hn hm hg f98 f99
        clear n m b w c y
        have f108 := hf 108 (by decide)
        have f113 := hf 113 (by decide)
        (refine bni ?_; repeat (refine bnk ?_; (try simp (disch := first | omega | (simp only [LN]; omega)) only [↓EC, EW, seval, ↓reduceIte, ↓EBD, EBE])))
        refine pcd_r (c_spec_DrawIsChiral hB) ?_
        rintro _ ⟨n, b, w, rfl, hb, hw, hn1, hn2⟩
        have hbl := hb.1
        have hwl := hw.1
        have i1 := c_impl_IsChiral (n := n) hb hw
        have s1 := c_spec_IsChiral (n := n) hb hw
        simp only [vD] at i1 s1
        (refine bni ?_; repeat (refine bnk ?_; (try simp (disch := first | omega | (simp only [LN]; omega)) only [↓EC, EW, seval, ↓reduceIte, ↓EBD, EBE, vD, f108])))
        refine pcd_v i1 ?_
        (refine bni ?_; repeat (refine bnk ?_; (try simp (disch := first | omega | (simp only [LN]; omega)) only [↓EC, EW, seval, ↓reduceIte, ↓EBD, EBE])))
        refine pcd_v s1 ?_
        (refine bni ?_; repeat (refine bnk ?_; (try simp (disch := first | omega | (simp only [LN]; omega)) only [↓EC, EW, seval, ↓reduceIte, ↓EBD, EBE])))
        refine pcd_r (c_spec_DrawIsClean hB) ?_
        rintro _ ⟨m, c, y, rfl, hc, hy, hm1, hm2⟩
        have hcl := hc.1
        have hyl := hy.1
        have i2 := c_impl_IsClean (n := m) hc hy
        have s2 := c_spec_IsClean (n := m) hc hy
        simp only [vD] at i2 s2
        (refine bni ?_; repeat (refine bnk ?_; (try simp (disch := first | omega | (simp only [LN]; omega)) only [↓EC, EW, seval, ↓reduceIte, ↓EBD, EBE, vD, f113])))
        refine pcd_v i2 ?_
        (refine bni ?_; repeat (refine bnk ?_; (try simp (disch := first | omega | (simp only [LN]; omega)) only [↓EC, EW, seval, ↓reduceIte, ↓EBD, EBE])))
        refine pcd_v s2 ?_
        (refine bni ?_; repeat (refine bnk ?_; (try simp (disch := first | omega | (simp only [LN]; omega)) only [↓EC, EW, seval, ↓reduceIte, ↓EBD, EBE])))
theorem t_FnTurns : ∀ xs, Ty.oks [.sl (.int .u8)] xs → PSpec Try.prog 3 xs fun r => r = .bool true := by
  rintro xs ⟨v, r, rfl, hv, rfl⟩
  obtain ⟨l, rfl, h1, h2⟩ := ok_ints hv
  exact pspec_fz fun x => c_FnTurns fun a ha => h2 a ha
end
end Go.Proofs.Ytbjbpmicnmjbfaa.Sep

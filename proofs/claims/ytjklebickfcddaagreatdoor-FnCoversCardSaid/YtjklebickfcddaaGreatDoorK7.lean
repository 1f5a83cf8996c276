/- Texts put together: C100. -/
import Derived.Test.YtjklebickfcddaaGreatDoorK6
section
/- The law on covers. -/
namespace Go.Proofs.YtjklebickfcddaaGreatDoor.Sep
open Go.RowKit
set_option linter.unusedVariables false
set_option linter.unusedSimpArgs false
set_option maxRecDepth 20000
set_option maxHeartbeats 8000000

theorem c_laws_likeInts {l m : List Int} (hl : l.length ≤ 1048576) : PSpec Tryz.prog 21 [.sl l.length (vi .i64 l), .sl m.length (vi .i64 m)] fun v => v = .bool (decide (l = m)) := by
  refine laws_likeInts_f.f ?_
  simp (disch := first | omega | (simp only [LN]; omega)) only [↓EC, EW, seval, ↓reduceIte, laws_likeInts_F]
  (refine Split.mk (fun h => ?_) (fun h => ?_) <;> (try simp only [SD] at h))
  · (try simp (disch := first | omega | (simp only [LN]; omega)) only [↓EC, EW, seval, ↓reduceIte])
    rw [eq_comm, V.bool.injEq, decide_eq_false_iff_not]
    intro e; subst e; omega
  · refine LP_of (σ := Nat) 100000 [] (fun s => [.int .i64 s]) (fun s => [])
      (fun s => s ≤ l.length ∧ ∀ j, j < s → gi l j = gi m j) (fun s => l.length - s) 0 (by simp [frameOk, names, lpz, sclp, scv, scvs, nrfs, nrf, FRB]) ⟨Nat.zero_le _, fun j hj => absurd hj (Nat.not_lt_zero j)⟩ ?_ ?_
    · simp (disch := first | omega | (simp only [LN]; omega)) only [↓EC, EW, seval, ↓reduceIte, ColV_def]
    · rintro i ⟨h1, h2⟩
      simp (disch := first | omega | (simp only [LN]; omega)) only [↓EC, EW, seval, ↓reduceIte, ColV_def, lheap_def]
      (refine Split.mk (fun h => ?_) (fun h => ?_) <;> (try simp only [SD] at h))
      · (try simp (disch := first | omega | (simp only [LN]; omega)) only [↓EC, EW, seval, ↓reduceIte])
        (refine Split.mk (fun h => ?_) (fun h => ?_) <;> (try simp only [SD] at h))
        · (try simp (disch := first | omega | (simp only [LN]; omega)) only [↓EC, EW, seval, ↓reduceIte])
          rw [eq_comm, V.bool.injEq, decide_eq_false_iff_not]
          intro e; subst e; exact h rfl
        · (try simp (disch := first | omega | (simp only [LN]; omega)) only [↓EC, EW, seval, ↓reduceIte])
          refine ⟨i + 1, rfl, ⟨by omega, fun j hj => ?_⟩, by omega⟩
          by_cases e : j = i
          · subst e; exact h
          · exact h2 j (by omega)
      · (try simp (disch := first | omega | (simp only [LN]; omega)) only [↓EC, EW, seval, ↓reduceIte])
        rw [eq_comm, V.bool.injEq, decide_eq_true_eq]
        exact gi_ext (by omega) fun j hj => h2 j (by omega)

theorem c_laws_likeInts_nil : PSpec Tryz.prog 21 [.nils, .nils] fun v => v = .bool true := by
  refine laws_likeInts_f.f ?_
  simp (disch := first | omega | (simp only [LN]; omega)) only [↓EC, EW, seval, ↓reduceIte, laws_likeInts_F]
  refine LP_of (σ := Unit) 100000 [] (fun s => [.int .i64 0]) (fun s => []) (fun s => True) (fun s => 0) () (by simp [frameOk, names, lpz, sclp, scv, scvs, nrfs, nrf, FRB]) trivial ?_ ?_
  · simp (disch := first | omega | (simp only [LN]; omega)) only [↓EC, EW, seval, ↓reduceIte, ColV_def]
  · rintro _ _
    simp (disch := first | omega | (simp only [LN]; omega)) only [↓EC, EW, seval, ↓reduceIte, ColV_def, lheap_def]
theorem c_laws_rows5 {ls ms : List (List Int)} (hl : ls.length ≤ 1048576) (hls : ∀ l ∈ ls, l.length ≤ 1048576) : PSpec Tryz.prog 12 [.sl ls.length (vl ls), .sl ms.length (vl ms)] fun v => v = .bool (decide (ls = ms)) := by
  refine laws_rows5_f.f ?_
  simp (disch := first | omega | (simp only [LN]; omega)) only [↓EC, EW, seval, ↓reduceIte, laws_rows5_F]
  (refine Split.mk (fun h => ?_) (fun h => ?_) <;> (try simp only [SD] at h))
  · (try simp (disch := first | omega | (simp only [LN]; omega)) only [↓EC, EW, seval, ↓reduceIte])
    rw [eq_comm, V.bool.injEq, decide_eq_false_iff_not]
    intro e; subst e; omega
  · refine LP_of (σ := Nat) 100000 [] (fun s => [.int .i64 s]) (fun s => [])
      (fun s => s ≤ ls.length ∧ ∀ j, j < s → gl ls j = gl ms j) (fun s => ls.length - s) 0 (by simp [frameOk, names, lpz, sclp, scv, scvs, nrfs, nrf, FRB]) ⟨Nat.zero_le _, fun j hj => absurd hj (Nat.not_lt_zero j)⟩ ?_ ?_
    · simp (disch := first | omega | (simp only [LN]; omega)) only [↓EC, EW, seval, ↓reduceIte, ColV_def]
    · rintro i ⟨h1, h2⟩
      simp (disch := first | omega | (simp only [LN]; omega)) only [↓EC, EW, seval, ↓reduceIte, ColV_def, lheap_def]
      (refine Split.mk (fun h => ?_) (fun h => ?_) <;> (try simp only [SD] at h))
      · (try simp (disch := first | omega | (simp only [LN]; omega)) only [↓EC, EW, seval, ↓reduceIte])
        refine pcd_v (c_laws_likeInts (hls _ (gl_mem (by omega)))) ?_
        (try simp (disch := first | omega | (simp only [LN]; omega)) only [↓EC, EW, seval, ↓reduceIte])
        (refine Split.mk (fun h => ?_) (fun h => ?_) <;> (try simp only [SD] at h))
        · (try simp (disch := first | omega | (simp only [LN]; omega)) only [↓EC, EW, seval, ↓reduceIte])
          rw [eq_comm, V.bool.injEq, decide_eq_false_iff_not]
          intro e; subst e; exact h rfl
        · (try simp (disch := first | omega | (simp only [LN]; omega)) only [↓EC, EW, seval, ↓reduceIte])
          refine ⟨i + 1, rfl, ⟨by omega, fun j hj => ?_⟩, by omega⟩
          by_cases e : j = i
          · subst e; exact h
          · exact h2 j (by omega)
      · (try simp (disch := first | omega | (simp only [LN]; omega)) only [↓EC, EW, seval, ↓reduceIte])
        rw [eq_comm, V.bool.injEq, decide_eq_true_eq]
        exact gl_ext (by omega) fun j hj => h2 j (by omega)
theorem c_laws_rows5_nil : PSpec Tryz.prog 12 [.nils, .nils] fun v => v = .bool true := by
  refine laws_rows5_f.f ?_
  simp (disch := first | omega | (simp only [LN]; omega)) only [↓EC, EW, seval, ↓reduceIte, laws_rows5_F]
  refine LP_of (σ := Unit) 100000 [] (fun s => [.int .i64 0]) (fun s => []) (fun s => True) (fun s => 0) () (by simp [frameOk, names, lpz, sclp, scv, scvs, nrfs, nrf, FRB]) trivial ?_ ?_
  · simp (disch := first | omega | (simp only [LN]; omega)) only [↓EC, EW, seval, ↓reduceIte, ColV_def]
  · rintro _ _
    simp (disch := first | omega | (simp only [LN]; omega)) only [↓EC, EW, seval, ↓reduceIte, ColV_def, lheap_def]
theorem c_laws_bigC {x : Value} {l : List Int} : PSpec Tryz.prog 4 [.fz x l] fun v => v = .bool (decide (4096 < (l.length : Int))) := by
  refine laws_big_f.f ?_
  simp (disch := first | omega | (simp only [LN]; omega)) only [↓EC, EW, seval, ↓reduceIte, laws_big_F]
theorem vleqW {k : IntKind} : ∀ {l m : List Int}, l.length = m.length → vleq (List.replicate l.length (.i k)) (vi k l) (vi k m) = some (decide (l = m))
  | [], [], _ => rfl
  | a :: l, [], h => by simp at h
  | [], c :: m, h => by simp at h
  | a :: l, c :: m, h => by
    have ih := vleqW (k := k) (l := l) (m := m) (by simpa using h)
    simp only [List.length_cons, List.replicate_succ, vi, List.map_cons, vleq_cons, vveq_i, Option.bind_some] at ih ⊢
    rw [ih]
    by_cases e : a = c
    · subst e; simp
    · simp [e]
theorem vleq33 {n : Int} {p : List Int} (hp : p.length = 32) : vleq [.i .i64, .i .u8, .i .u8, .i .u8, .i .u8, .i .u8, .i .u8, .i .u8, .i .u8, .i .u8, .i .u8, .i .u8, .i .u8, .i .u8, .i .u8, .i .u8, .i .u8, .i .u8, .i .u8, .i .u8, .i .u8, .i .u8, .i .u8, .i .u8, .i .u8, .i .u8, .i .u8, .i .u8, .i .u8, .i .u8, .i .u8, .i .u8, .i .u8] (.int .i64 n :: vi .u8 p) (.int .i64 n :: vi .u8 p) = some true := by
  have := vleqW (k := .u8) (l := p) (m := p) rfl
  rw [hp] at this
  rw [vleq_cons, vveq_i, Option.bind_some]
  rw [if_pos (beq_self_eq_true n)]
  exact this.trans (by simp)
theorem CvF.walkI {n : Int} {m : Nat} {b w a c t : List Int} (h : CvF n m b w a c) {x y : Int} (h0 : StOk n m (x, y)) {k : Nat} (hk : ∀ i, i < k → sprt (gi t i)) :
    gi (vlT (n * m) (cvO m b a n.toNat) (cvO m w c n.toNat) t k) ((m : Int) * x + y).toNat = m * (wkT n m b w a c (x, y) t k).1 + (wkT n m b w a c (x, y) t k).2 ∧ (0 ≤ (m : Int) * x + y ∧ (m : Int) * x + y < 16) ∧ 0 ≤ (m : Int) * (wkT n m b w a c (x, y) t k).1 ∧ (m : Int) * (wkT n m b w a c (x, y) t k).1 ≤ 256 ∧ 0 ≤ (wkT n m b w a c (x, y) t k).2 ∧ (wkT n m b w a c (x, y) t k).2 < 16 ∧ 0 ≤ (m : Int) * x ∧ (m : Int) * x ≤ 256 := by
  have ok := h.ok
  have h1 := wkT_ok ok (t := t) h0 k
  have hw := h.walk (t := t) h0 k hk
  have hlt := enc_lt h0
  have hlt1 := enc_lt h1
  have hnm := h.nm
  have hlo := lo_nn (vlT_lo (b := cvO m b a n.toNat) (w := cvO m w c n.toNat) (t := t) ((isDB_iff.1 h.E).pb.lo h.oB) ((isDB_iff.1 h.E).pw.lo h.oW) h.hN k)
  generalize wkT n m b w a c (x, y) t k = S at *
  obtain ⟨u, v⟩ := S
  obtain ⟨⟨x1, x2⟩, y1, y2⟩ := h0
  obtain ⟨⟨u1, u2⟩, v1, v2⟩ := h1
  simp only at x1 x2 y1 y2 u1 u2 v1 v2 ⊢
  obtain ⟨x, rfl⟩ : ∃ k : Nat, x = k := ⟨x.toNat, by omega⟩
  obtain ⟨y, rfl⟩ : ∃ k : Nat, y = k := ⟨y.toNat, by omega⟩
  obtain ⟨u, rfl⟩ : ∃ k : Nat, u = k := ⟨u.toNat, by omega⟩
  obtain ⟨v, rfl⟩ : ∃ k : Nat, v = k := ⟨v.toNat, by omega⟩
  unfold enc fp at hw
  unfold enc at hlt hlt1
  simp only [Int.toNat_natCast] at hw hlt hlt1
  have e1 : ((m : Int) * x + y) = ((m * x + y : Nat) : Int) := by rw [Int.natCast_add, Int.natCast_mul]
  have e2 : ((m : Int) * u + v) = ((m * u + v : Nat) : Int) := by rw [Int.natCast_add, Int.natCast_mul]
  have e3 : ((m : Int) * x) = ((m * x : Nat) : Int) := by rw [Int.natCast_mul]
  have e4 : ((m : Int) * u) = ((m * u : Nat) : Int) := by rw [Int.natCast_mul]
  have := hlo (m * x + y)
  have hm := h.m1
  rw [e1, e2, e3, e4, Int.toNat_natCast]
  refine ⟨?_, ?_, ?_, ?_, ?_, ?_, ?_, ?_⟩ <;> omega
theorem eulN_lim {n : Int} {b w : List Int} (hn : 1 ≤ n ∧ n ≤ 16) : -16 ≤ eulN n b w ∧ eulN n b w ≤ 48 := by
  have c1 : (cyc b n).length ≤ 16 := by have := (cycO_len (p := b) n.toNat).2; unfold cyc; omega
  have c2 : (cyc w n).length ≤ 16 := by have := (cycO_len (p := w) n.toNat).2; unfold cyc; omega
  have c3 : (cyc (faceP b w n) n).length ≤ 16 := by have := (cycO_len (p := faceP b w n) n.toNat).2; unfold cyc; omega
  unfold eulN; omega
theorem mulE_lim {m : Nat} {e : Int} (hm : 1 ≤ m ∧ m ≤ 16) (he : -16 ≤ e ∧ e ≤ 48) : -256 ≤ (m : Int) * e ∧ (m : Int) * e ≤ 768 := by
  have : m = 1 ∨ m = 2 ∨ m = 3 ∨ m = 4 ∨ m = 5 ∨ m = 6 ∨ m = 7 ∨ m = 8 ∨ m = 9 ∨ m = 10 ∨ m = 11 ∨ m = 12 ∨ m = 13 ∨ m = 14 ∨ m = 15 ∨ m = 16 := by omega
  rcases this with rfl | rfl | rfl | rfl | rfl | rfl | rfl | rfl | rfl | rfl | rfl | rfl | rfl | rfl | rfl | rfl <;> omega
theorem rgI_one {k : Nat} : rgI (k + 1) = rgI k ++ [(k : Int)] := by simp [rgI, List.range_succ]
theorem c_FnCovers {x : Value} {l : List Int} (hl : ∀ a ∈ l, 0 ≤ a ∧ a ≤ 255) : PSpec Tryz.prog 3 [.fz x l] fun v => v = .bool true := by
  refine laws_FnCovers_f.f ?_
  dsimp only [laws_FnCovers_F, pcal_B, pcalp_B, pcala_B, pcond_B, pgk_B, JN_B, LP_B]
  (refine blkP.ini ?_; repeat (refine blkP.mk ?_; (try simp (disch := first | omega | (simp only [LN]; omega)) only [↓EC, EW, seval, ↓reduceIte, ↓EBD, EBE])))
  refine pcd_v c_laws_bigC ?_
  (refine blkP.ini ?_; repeat (refine blkP.mk ?_; (try simp (disch := first | omega | (simp only [LN]; omega)) only [↓EC, EW, seval, ↓reduceIte, ↓EBD, EBE])))
  (refine Split.mkB (fun h => ?_) (fun h => ?_) <;> (try simp only [SD] at h))
  · (refine blkP.ini ?_; repeat (refine blkP.mk ?_; (try simp (disch := first | omega | (simp only [LN]; omega)) only [↓EC, EW, seval, ↓reduceIte, ↓EBD, EBE])))
  have hll : l.length ≤ 4096 := by omega
  have hB : okB l := ⟨by omega, hl⟩
  (refine blkP.ini ?_; repeat (refine blkP.mk ?_; (try simp (disch := first | omega | (simp only [LN]; omega)) only [↓EC, EW, seval, ↓reduceIte, ↓EBD, EBE])))
  refine pcd_r (c_spec_DrawCoverOf hB) ?_
  rintro _ ⟨n, b, w, m, a, c, rfl, hb, hw, hn, hm, ha, hc⟩
  have hbl := hb.1
  have hwl := hw.1
  (refine blkP.ini ?_; repeat (refine blkP.mk ?_; (try simp (disch := first | omega | (simp only [LN]; omega)) only [↓EC, EW, seval, ↓reduceIte, ↓EBD, EBE, vD])))
  have i1 := c_impl_CoverOf (n := n) (m := m) hb hw (show a.length ≤ 1048576 by omega) (show c.length ≤ 1048576 by omega)
  have j1 := c_spec_CoverOf (n := n) (m := m) hb hw (show a.length ≤ 1048576 by omega) (show c.length ≤ 1048576 by omega)
  have i2 := c_impl_IsUnbranched (n := n) (m := m) hb hw (show a.length ≤ 1048576 by omega) (show c.length ≤ 1048576 by omega)
  have j2 := c_spec_IsUnbranched (n := n) (m := m) hb hw (show a.length ≤ 1048576 by omega) (show c.length ≤ 1048576 by omega)
  by_cases hR : (covR n b w m a c).2 = 0
  · obtain ⟨h0, cv, hM, hcR⟩ := covR_0 hb hw hR
    obtain ⟨M, rfl⟩ : ∃ M : Nat, m = M := ⟨m.toNat, hM.symm⟩
    rw [Int.toNat_natCast] at cv
    rw [hcR] at i1 j1
    have hm1 := cv.m1
    have hN := cv.hN
    have oB := cv.oB
    have oW := cv.oW
    have hE := cv.E
    have hBl := oB.1
    have hWl := oW.1
    have hD := isDB_iff.2 cv.D
    have fb := cv.cb.fib
    have fw := cv.cw.fib
    have heul := cv.eul rfl rfl
    have hwalk := fun x y h0 t k hk => CvF.walkI cv (t := t) (x := x) (y := y) h0 (k := k) hk
    have lB := (isDB_iff.1 hE).pb.lo oB
    have lW := (isDB_iff.1 hE).pw.lo oW
    generalize cvO M b a n.toNat = B at *
    generalize cvO M w c n.toNat = W at *
    have hBW : (B ++ W).length = 32 := by simp; omega
    have hbw : (b ++ w).length = 32 := by simp; omega
    have hn := cv.D.pb.1
    have hiu : iuR n b w M a c = (zeroB (svL n b w M a c), 0) := by unfold iuR; rw [if_pos h0]
    rw [hiu] at i2 j2
    refine pcd_v i1 ?_; (refine blkP.ini ?_; repeat (refine blkP.mk ?_; (try simp (disch := first | omega | (simp only [LN]; omega)) only [↓EC, EW, seval, ↓reduceIte, ↓EBD, EBE, vDC, vD])))
    refine pcd_v j1 ?_; (refine blkP.ini ?_; repeat (refine blkP.mk ?_; (try simp (disch := first | omega | (simp only [LN]; omega)) only [↓EC, EW, seval, ↓reduceIte, ↓EBD, EBE, vDC, vD])))
    refine pcd_v i2 ?_; (refine blkP.ini ?_; repeat (refine blkP.mk ?_; (try simp (disch := first | omega | (simp only [LN]; omega)) only [↓EC, EW, seval, ↓reduceIte, ↓EBD, EBE])))
    refine pcd_v j2 ?_; (refine blkP.ini ?_; repeat (refine blkP.mk ?_; (try simp (disch := first | omega | (simp only [LN]; omega)) only [↓EC, EW, seval, ↓reduceIte, ↓EBD, EBE])))
    refine pcd_v (c_impl_SumsOfVoltages (n := n) (m := M) hb hw (show a.length ≤ 1048576 by omega) (show c.length ≤ 1048576 by omega) h0) ?_; (refine blkP.ini ?_; repeat (refine blkP.mk ?_; (try simp (disch := first | omega | (simp only [LN]; omega)) only [↓EC, EW, seval, ↓reduceIte, ↓EBD, EBE])))
    refine pcd_v (c_spec_SumsOfVoltages (n := n) (m := M) hb hw (show a.length ≤ 1048576 by omega) (show c.length ≤ 1048576 by omega) h0) ?_; (refine blkP.ini ?_; repeat (refine blkP.mk ?_; (try simp (disch := first | omega | (simp only [LN]; omega)) only [↓EC, EW, seval, ↓reduceIte, ↓EBD, EBE, vleq33 hBW])))
    have hsv := svL_len (n := n) (m := M) (b := b) (w := w) (x := a) (y := c) (covC_0 h0).1.pb.1
    refine pcd_v (c_laws_rows5 (ls := svL n b w M a c) (ms := svL n b w M a c) (by simp [svL]) (fun l hl => by have := hsv l hl; omega)) ?_; (refine blkP.ini ?_; repeat (refine blkP.mk ?_; (try simp (disch := first | omega | (simp only [LN]; omega)) only [↓EC, EW, seval, ↓reduceIte, ↓EBD, EBE, decide_true])))
    have l1 := eulN_lim (b := b) (w := w) hn
    have l2 := eulN_lim (b := B) (w := W) hN
    have l3 := mulE_lim hm1 l1
    refine JNx_un ?_
    (refine blkP.ini ?_; repeat (refine blkP.mk ?_; (try simp (disch := first | omega | (simp only [LN]; omega)) only [↓EC, EW, seval, ↓reduceIte, ↓EBD, EBE])))
    refine pcd_v (c_impl_EulerOf (n := n) hb hw hD) ?_; (refine blkP.ini ?_; repeat (refine blkP.mk ?_; (try simp (disch := first | omega | (simp only [LN]; omega)) only [↓EC, EW, seval, ↓reduceIte, ↓EBD, EBE])))
    refine pcd_v (c_impl_EulerOf (n := n * M) oB oW hE) ?_; (refine blkP.ini ?_; repeat (refine blkP.mk ?_; (try simp (disch := first | omega | (simp only [LN]; omega)) only [↓EC, EW, seval, ↓reduceIte, ↓EBD, EBE])))
    cases hz : zeroB (svL n b w M a c) with
    | true =>
      have hE2 := heul.1 hz
      (refine blkP.ini ?_; repeat (refine blkP.mk ?_; (try simp (disch := first | omega | (simp only [LN]; omega)) only [↓EC, EW, seval, ↓reduceIte, ↓EBD, EBE, hz, hE2])))
      refine LPx_ofE (σ := Nat) [1, 1] 100000 [(67, 27, 1), (71, 27, 1)] (fun k => [.own 2 1 k (vi .i64 (rgI k)), .int .i64 k]) (fun _ => [.int .i64 n :: vi .u8 (b ++ w), .int .i64 (n * M) :: vi .u8 (B ++ W)]) (fun k => k ≤ M) (fun k => M - k) 0 (by simp [frameOk, names, lpz, sclp, scv, scvs, nrfs, nrf, FRB]) (Nat.zero_le _) ?_ ?_
      · (refine blkP.ini ?_; repeat (refine blkP.mk ?_; simp (disch := first | omega | (simp only [LN]; omega)) only [↓EC, EW, seval, ↓reduceIte, ↓EBD, EBE, ColV_def]))
        exact ⟨fun _ => trivial, rfl⟩
      · intro k hk
        have hrl := rgI_len (m := k)
        (refine blkP.ini ?_; repeat (refine blkP.mk ?_; simp (disch := first | omega | (simp only [LN]; omega)) only [↓EC, EW, seval, ↓reduceIte, ↓EBD, EBE, ColV_def, lheap_def]))
        (refine Split.mkB (fun h => ?_) (fun h => ?_) <;> (try simp only [SD] at h))
        · (refine blkP.ini ?_; repeat (refine blkP.mk ?_; (try simp (disch := first | omega | (simp only [LN]; omega)) only [↓EC, EW, seval, ↓reduceIte, ↓EBD, EBE])))
          exact ⟨k + 1, by rw [rgI_one]; rfl, by omega, by omega⟩
        · obtain rfl : M = k := by omega
          (refine blkP.ini ?_; repeat (refine blkP.mk ?_; (try simp (disch := first | omega | (simp only [LN]; omega)) only [↓EC, EW, seval, ↓reduceIte, ↓EBD, EBE])))
          refine pcd_v (c_impl_QuotientByBlock cv.D hb hw hm1.1 cv.nm oB oW hE fb fw) ?_; (refine blkP.ini ?_; repeat (refine blkP.mk ?_; (try simp (disch := first | omega | (simp only [LN]; omega)) only [↓EC, EW, seval, ↓reduceIte, ↓EBD, EBE, vD, vleq33 hbw])))
          refine pcn_q (c_laws_roll hB) rfl ?_; rintro _ _ ⟨rfl, z, rfl⟩; have hs_ := okS_0 hB; (refine blkP.ini ?_; repeat (refine blkP.mk ?_; (try simp (disch := first | omega | (simp only [LN]; omega)) only [↓EC, EW, seval, ↓reduceIte, ↓EBD, EBE, srcC])))
          (refine pcm [260] rfl ?_; (refine blkP.ini ?_; repeat (refine blkP.mk ?_; (try simp (disch := first | omega | (simp only [LN]; omega)) only [↓EC, EW, seval, ↓reduceIte, ↓EBD, EBE]))); refine callM_d (c_below (by assumption) (by omega)) ?_; rintro _ _ ⟨x1, _, _, rfl, rfl, hs_, hr_⟩; (refine blkP.ini ?_; repeat (refine blkP.mk ?_; (try simp (disch := first | omega | (simp only [LN]; omega)) only [↓EC, EW, seval, ↓reduceIte, ↓EBD, EBE, srcC]))))
          have hx1 : 0 ≤ x1 ∧ x1 < n := by omega
          (refine pcm [260] rfl ?_; (refine blkP.ini ?_; repeat (refine blkP.mk ?_; (try simp (disch := first | omega | (simp only [LN]; omega)) only [↓EC, EW, seval, ↓reduceIte, ↓EBD, EBE]))); refine callM_d (c_below (by assumption) (by omega)) ?_; rintro _ _ ⟨x2, _, _, rfl, rfl, hs_, hr_⟩; (refine blkP.ini ?_; repeat (refine blkP.mk ?_; (try simp (disch := first | omega | (simp only [LN]; omega)) only [↓EC, EW, seval, ↓reduceIte, ↓EBD, EBE, srcC]))))
          have hx2 : 0 ≤ x2 ∧ x2 < M := by omega
          (refine pcm [260] rfl ?_; (refine blkP.ini ?_; repeat (refine blkP.mk ?_; (try simp (disch := first | omega | (simp only [LN]; omega)) only [↓EC, EW, seval, ↓reduceIte, ↓EBD, EBE]))); refine callM_d (c_below (by assumption) (by omega)) ?_; rintro _ _ ⟨x3, _, _, rfl, rfl, hs_, hr_⟩; (refine blkP.ini ?_; repeat (refine blkP.mk ?_; (try simp (disch := first | omega | (simp only [LN]; omega)) only [↓EC, EW, seval, ↓reduceIte, ↓EBD, EBE, srcC]))))
          have hx3 : 0 ≤ x3 ∧ x3 < 8 := by omega
          rename_i a3 z3
          refine LPx_of (σ := List UInt8 × Int × Int × Int) 200000 [(67, 27, 1), (71, 27, 1), (260, 67, 1)] (fun s => [.str s.1, .int .i64 s.2.1]) (fun s => [.int .i64 n :: vi .u8 (b ++ w), .int .i64 (n * M) :: vi .u8 (B ++ W), srcC x l s.2.2.1 s.2.2.2])
            (fun s => okS l s.2.2.1 ∧ (s.1.length + s.2.1 ≤ 7 ∧ 0 ≤ s.2.1) ∧ ∀ c ∈ s.1, c ∈ bwf) (fun s => s.2.1.toNat) ([], x3, a3, z3) (by simp [frameOk, names, lpz, sclp, scv, scvs, nrfs, nrf, FRB]) ⟨by assumption, by simp only [List.length_nil]; omega, by simp⟩ ?_ ?_
          · (refine blkP.ini ?_; repeat (refine blkP.mk ?_; simp (disch := first | omega | (simp only [LN]; omega)) only [↓EC, EW, seval, ↓reduceIte, ↓EBD, EBE, ColV_def, srcC]))
          · rintro ⟨s, k, a4, z4⟩ ⟨g1, g2, g3⟩
            simp only at g1 g2 g3
            (refine blkP.ini ?_; repeat (refine blkP.mk ?_; simp (disch := first | omega | (simp only [LN]; omega)) only [↓EC, EW, seval, ↓reduceIte, ↓EBD, EBE, ColV_def, lheap_def, srcC]))
            (refine Split.mkB (fun h => ?_) (fun h => ?_) <;> (try simp only [SD] at h))
            · (refine blkP.ini ?_; repeat (refine blkP.mk ?_; (try simp (disch := first | omega | (simp only [LN]; omega)) only [↓EC, EW, seval, ↓reduceIte, ↓EBD, EBE])))
              (refine pcm [260] rfl ?_; (refine blkP.ini ?_; repeat (refine blkP.mk ?_; (try simp (disch := first | omega | (simp only [LN]; omega)) only [↓EC, EW, seval, ↓reduceIte, ↓EBD, EBE]))); refine callM_d (c_below (by assumption) (by omega)) ?_; rintro _ _ ⟨r4, _, _, rfl, rfl, hs_, hr_⟩; (refine blkP.ini ?_; repeat (refine blkP.mk ?_; (try simp (disch := first | omega | (simp only [LN]; omega)) only [↓EC, EW, seval, ↓reduceIte, ↓EBD, EBE, srcC]))))
              rename_i a5 z5
              have e5 : ∀ c : UInt8, c ∈ bwf → ∃ s' : List UInt8 × Int × Int × Int, [V.str (s ++ [c]), V.int .i64 (k - 1)] = [V.str s'.1, V.int .i64 s'.2.1] ∧ [V.int .i64 n :: vi .u8 (b ++ w), .int .i64 (n * M) :: vi .u8 (B ++ W), [V.fz x l, V.int .i64 a5, V.int .u64 z5]] = [V.int .i64 n :: vi .u8 (b ++ w), .int .i64 (n * M) :: vi .u8 (B ++ W), [V.fz x l, V.int .i64 s'.2.2.1, V.int .u64 s'.2.2.2]] ∧
                  (okS l s'.2.2.1 ∧ ((s'.1.length : Int) + s'.2.1 ≤ 7 ∧ 0 ≤ s'.2.1) ∧ ∀ c ∈ s'.1, c ∈ bwf) ∧ s'.2.1.toNat < k.toNat := fun c hc =>
                ⟨(s ++ [c], k - 1, a5, z5), rfl, rfl, ⟨hs_, by simp only [List.length_append, List.length_cons, List.length_nil]; omega, fun y hy => by
                  rcases List.mem_append.1 hy with hy | hy
                  · exact g3 y hy
                  · rw [List.mem_singleton.1 hy]; exact hc⟩, by simp only; omega⟩
              rcases (by omega : r4 = 0 ∨ r4 = 1 ∨ r4 = 2 ∨ r4 = 3 ∨ r4 = 4 ∨ r4 = 5) with rfl | rfl | rfl | rfl | rfl | rfl
              all_goals
                (refine blkP.ini ?_; repeat (refine blkP.mk ?_; (try simp (disch := first | omega | (simp only [LN]; omega)) only [↓EC, EW, seval, ↓reduceIte, ↓EBD, EBE])))
                exact e5 _ (by decide)
            · have hst : StOk n M (x1, x2) := ⟨hx1, hx2⟩
              have hsp : isSp s = true := by unfold isSp; rw [decide_eq_true_eq]; exact ⟨by omega, g3⟩
              obtain ⟨w1, w2, w3, w4, w5, w6, w7, w8⟩ := hwalk x1 x2 hst (ub s) s.length (sprt_iff.1 g3)
              have hvl := (vlT_lo (t := ub s) lB lW hN s.length).1
              (refine blkP.ini ?_; repeat (refine blkP.mk ?_; (try simp (disch := first | omega | (simp only [LN]; omega)) only [↓EC, EW, seval, ↓reduceIte, ↓EBD, EBE])))
              refine pcd_v (c_impl_WalkOf (n := n) (m := M) (x := x1) (y := x2) (s := s) hb hw (show a.length ≤ 1048576 by omega) (show c.length ≤ 1048576 by omega) (by omega) h0 hst hsp) ?_; (refine blkP.ini ?_; repeat (refine blkP.mk ?_; (try simp (disch := first | omega | (simp only [LN]; omega)) only [↓EC, EW, seval, ↓reduceIte, ↓EBD, EBE])))
              refine pcd_v (c_impl_ValueOfWord (n := n * M) oB oW hE hsp) ?_; (refine blkP.ini ?_; repeat (refine blkP.mk ?_; (try simp (disch := first | omega | (simp only [LN]; omega)) only [↓EC, EW, seval, ↓reduceIte, ↓EBD, EBE, hvl, w1])))
              refine pcd_r (c_spec_DrawWalkOf hB hll) ?_
              rintro _ ⟨f, p, q, k, u, v, g, i, s, rfl, hp, hq, hf, hk, hu, hv, hs⟩
              have hpl := hp.1
              have hql := hq.1
              (refine blkP.ini ?_; repeat (refine blkP.mk ?_; (try simp (disch := first | omega | (simp only [LN]; omega)) only [↓EC, EW, seval, ↓reduceIte, ↓EBD, EBE, vD])))
              by_cases hwk : wkC f k p q u v g i s = 0
              · obtain ⟨hc0, hst, hsp⟩ := wkC_0 hwk
                refine pcd_v (c_impl_WalkOf (n := f) (m := k) (x := g) (y := i) (s := s) hp hq (show u.length ≤ 1048576 by omega) (show v.length ≤ 1048576 by omega) (by omega) hc0 hst hsp) ?_; (refine blkP.ini ?_; repeat (refine blkP.mk ?_; (try simp (disch := first | omega | (simp only [LN]; omega)) only [↓EC, EW, seval, ↓reduceIte, ↓EBD, EBE])))
                refine pcd_v (c_spec_WalkOf (n := f) (m := k) (x := g) (y := i) (s := s) hp hq (show u.length ≤ 1048576 by omega) (show v.length ≤ 1048576 by omega) (by omega) hc0 hst hsp) ?_; (refine blkP.ini ?_; repeat (refine blkP.mk ?_; (try simp (disch := first | omega | (simp only [LN]; omega)) only [↓EC, EW, seval, ↓reduceIte, ↓EBD, EBE])))
                refine pcd_v (c_laws_likeInts (l := [(wkT f k p q u v (g, i) (ub s) s.length).1, (wkT f k p q u v (g, i) (ub s) s.length).2]) (m := [(wkT f k p q u v (g, i) (ub s) s.length).1, (wkT f k p q u v (g, i) (ub s) s.length).2]) (by simp)) ?_; (refine blkP.ini ?_; repeat (refine blkP.mk ?_; (try simp (disch := first | omega | (simp only [LN]; omega)) only [↓EC, EW, seval, ↓reduceIte, ↓EBD, EBE, decide_true])))
              · refine pcd_v (c_impl_WalkOf_no (n := f) (m := k) (x := g) (y := i) (s := s) hp hq (show u.length ≤ 1048576 by omega) (show v.length ≤ 1048576 by omega) (by omega) hwk) ?_; (refine blkP.ini ?_; repeat (refine blkP.mk ?_; (try simp (disch := first | omega | (simp only [LN]; omega)) only [↓EC, EW, seval, ↓reduceIte, ↓EBD, EBE])))
                refine pcd_v (c_spec_WalkOf_no (n := f) (m := k) (x := g) (y := i) (s := s) hp hq (show u.length ≤ 1048576 by omega) (show v.length ≤ 1048576 by omega) (by omega) hwk) ?_; (refine blkP.ini ?_; repeat (refine blkP.mk ?_; (try simp (disch := first | omega | (simp only [LN]; omega)) only [↓EC, EW, seval, ↓reduceIte, ↓EBD, EBE])))
                refine pcd_v c_laws_likeInts_nil ?_; (refine blkP.ini ?_; repeat (refine blkP.mk ?_; (try simp (disch := first | omega | (simp only [LN]; omega)) only [↓EC, EW, seval, ↓reduceIte, ↓EBD, EBE, decide_true])))
    | false =>
      have hE2 := heul.2 (by rw [hz]; decide)
      (refine blkP.ini ?_; repeat (refine blkP.mk ?_; (try simp (disch := first | omega | (simp only [LN]; omega)) only [↓EC, EW, seval, ↓reduceIte, ↓EBD, EBE, hz])))
      (refine Split.mkB (fun h => ?_) (fun h => ?_) <;> (try simp only [SD] at h))
      · omega
      (refine blkP.ini ?_; repeat (refine blkP.mk ?_; (try simp (disch := first | omega | (simp only [LN]; omega)) only [↓EC, EW, seval, ↓reduceIte, ↓EBD, EBE])))
      refine LPx_ofE (σ := Nat) [1, 1] 100000 [(67, 27, 1), (71, 27, 1)] (fun k => [.own 2 1 k (vi .i64 (rgI k)), .int .i64 k]) (fun _ => [.int .i64 n :: vi .u8 (b ++ w), .int .i64 (n * M) :: vi .u8 (B ++ W)]) (fun k => k ≤ M) (fun k => M - k) 0 (by simp [frameOk, names, lpz, sclp, scv, scvs, nrfs, nrf, FRB]) (Nat.zero_le _) ?_ ?_
      · (refine blkP.ini ?_; repeat (refine blkP.mk ?_; simp (disch := first | omega | (simp only [LN]; omega)) only [↓EC, EW, seval, ↓reduceIte, ↓EBD, EBE, ColV_def]))
        exact ⟨fun _ => trivial, rfl⟩
      · intro k hk
        have hrl := rgI_len (m := k)
        (refine blkP.ini ?_; repeat (refine blkP.mk ?_; simp (disch := first | omega | (simp only [LN]; omega)) only [↓EC, EW, seval, ↓reduceIte, ↓EBD, EBE, ColV_def, lheap_def]))
        (refine Split.mkB (fun h => ?_) (fun h => ?_) <;> (try simp only [SD] at h))
        · (refine blkP.ini ?_; repeat (refine blkP.mk ?_; (try simp (disch := first | omega | (simp only [LN]; omega)) only [↓EC, EW, seval, ↓reduceIte, ↓EBD, EBE])))
          exact ⟨k + 1, by rw [rgI_one]; rfl, by omega, by omega⟩
        · obtain rfl : M = k := by omega
          (refine blkP.ini ?_; repeat (refine blkP.mk ?_; (try simp (disch := first | omega | (simp only [LN]; omega)) only [↓EC, EW, seval, ↓reduceIte, ↓EBD, EBE])))
          refine pcd_v (c_impl_QuotientByBlock cv.D hb hw hm1.1 cv.nm oB oW hE fb fw) ?_; (refine blkP.ini ?_; repeat (refine blkP.mk ?_; (try simp (disch := first | omega | (simp only [LN]; omega)) only [↓EC, EW, seval, ↓reduceIte, ↓EBD, EBE, vD, vleq33 hbw])))
          refine pcn_q (c_laws_roll hB) rfl ?_; rintro _ _ ⟨rfl, z, rfl⟩; have hs_ := okS_0 hB; (refine blkP.ini ?_; repeat (refine blkP.mk ?_; (try simp (disch := first | omega | (simp only [LN]; omega)) only [↓EC, EW, seval, ↓reduceIte, ↓EBD, EBE, srcC])))
          (refine pcm [260] rfl ?_; (refine blkP.ini ?_; repeat (refine blkP.mk ?_; (try simp (disch := first | omega | (simp only [LN]; omega)) only [↓EC, EW, seval, ↓reduceIte, ↓EBD, EBE]))); refine callM_d (c_below (by assumption) (by omega)) ?_; rintro _ _ ⟨x1, _, _, rfl, rfl, hs_, hr_⟩; (refine blkP.ini ?_; repeat (refine blkP.mk ?_; (try simp (disch := first | omega | (simp only [LN]; omega)) only [↓EC, EW, seval, ↓reduceIte, ↓EBD, EBE, srcC]))))
          have hx1 : 0 ≤ x1 ∧ x1 < n := by omega
          (refine pcm [260] rfl ?_; (refine blkP.ini ?_; repeat (refine blkP.mk ?_; (try simp (disch := first | omega | (simp only [LN]; omega)) only [↓EC, EW, seval, ↓reduceIte, ↓EBD, EBE]))); refine callM_d (c_below (by assumption) (by omega)) ?_; rintro _ _ ⟨x2, _, _, rfl, rfl, hs_, hr_⟩; (refine blkP.ini ?_; repeat (refine blkP.mk ?_; (try simp (disch := first | omega | (simp only [LN]; omega)) only [↓EC, EW, seval, ↓reduceIte, ↓EBD, EBE, srcC]))))
          have hx2 : 0 ≤ x2 ∧ x2 < M := by omega
          (refine pcm [260] rfl ?_; (refine blkP.ini ?_; repeat (refine blkP.mk ?_; (try simp (disch := first | omega | (simp only [LN]; omega)) only [↓EC, EW, seval, ↓reduceIte, ↓EBD, EBE]))); refine callM_d (c_below (by assumption) (by omega)) ?_; rintro _ _ ⟨x3, _, _, rfl, rfl, hs_, hr_⟩; (refine blkP.ini ?_; repeat (refine blkP.mk ?_; (try simp (disch := first | omega | (simp only [LN]; omega)) only [↓EC, EW, seval, ↓reduceIte, ↓EBD, EBE, srcC]))))
          have hx3 : 0 ≤ x3 ∧ x3 < 8 := by omega
          rename_i a3 z3
          refine LPx_of (σ := List UInt8 × Int × Int × Int) 200000 [(67, 27, 1), (71, 27, 1), (260, 67, 1)] (fun s => [.str s.1, .int .i64 s.2.1]) (fun s => [.int .i64 n :: vi .u8 (b ++ w), .int .i64 (n * M) :: vi .u8 (B ++ W), srcC x l s.2.2.1 s.2.2.2])
            (fun s => okS l s.2.2.1 ∧ (s.1.length + s.2.1 ≤ 7 ∧ 0 ≤ s.2.1) ∧ ∀ c ∈ s.1, c ∈ bwf) (fun s => s.2.1.toNat) ([], x3, a3, z3) (by simp [frameOk, names, lpz, sclp, scv, scvs, nrfs, nrf, FRB]) ⟨by assumption, by simp only [List.length_nil]; omega, by simp⟩ ?_ ?_
          · (refine blkP.ini ?_; repeat (refine blkP.mk ?_; simp (disch := first | omega | (simp only [LN]; omega)) only [↓EC, EW, seval, ↓reduceIte, ↓EBD, EBE, ColV_def, srcC]))
          · rintro ⟨s, k, a4, z4⟩ ⟨g1, g2, g3⟩
            simp only at g1 g2 g3
            (refine blkP.ini ?_; repeat (refine blkP.mk ?_; simp (disch := first | omega | (simp only [LN]; omega)) only [↓EC, EW, seval, ↓reduceIte, ↓EBD, EBE, ColV_def, lheap_def, srcC]))
            (refine Split.mkB (fun h => ?_) (fun h => ?_) <;> (try simp only [SD] at h))
            · (refine blkP.ini ?_; repeat (refine blkP.mk ?_; (try simp (disch := first | omega | (simp only [LN]; omega)) only [↓EC, EW, seval, ↓reduceIte, ↓EBD, EBE])))
              (refine pcm [260] rfl ?_; (refine blkP.ini ?_; repeat (refine blkP.mk ?_; (try simp (disch := first | omega | (simp only [LN]; omega)) only [↓EC, EW, seval, ↓reduceIte, ↓EBD, EBE]))); refine callM_d (c_below (by assumption) (by omega)) ?_; rintro _ _ ⟨r4, _, _, rfl, rfl, hs_, hr_⟩; (refine blkP.ini ?_; repeat (refine blkP.mk ?_; (try simp (disch := first | omega | (simp only [LN]; omega)) only [↓EC, EW, seval, ↓reduceIte, ↓EBD, EBE, srcC]))))
              rename_i a5 z5
              have e5 : ∀ c : UInt8, c ∈ bwf → ∃ s' : List UInt8 × Int × Int × Int, [V.str (s ++ [c]), V.int .i64 (k - 1)] = [V.str s'.1, V.int .i64 s'.2.1] ∧ [V.int .i64 n :: vi .u8 (b ++ w), .int .i64 (n * M) :: vi .u8 (B ++ W), [V.fz x l, V.int .i64 a5, V.int .u64 z5]] = [V.int .i64 n :: vi .u8 (b ++ w), .int .i64 (n * M) :: vi .u8 (B ++ W), [V.fz x l, V.int .i64 s'.2.2.1, V.int .u64 s'.2.2.2]] ∧
                  (okS l s'.2.2.1 ∧ ((s'.1.length : Int) + s'.2.1 ≤ 7 ∧ 0 ≤ s'.2.1) ∧ ∀ c ∈ s'.1, c ∈ bwf) ∧ s'.2.1.toNat < k.toNat := fun c hc =>
                ⟨(s ++ [c], k - 1, a5, z5), rfl, rfl, ⟨hs_, by simp only [List.length_append, List.length_cons, List.length_nil]; omega, fun y hy => by
                  rcases List.mem_append.1 hy with hy | hy
                  · exact g3 y hy
                  · rw [List.mem_singleton.1 hy]; exact hc⟩, by simp only; omega⟩
              rcases (by omega : r4 = 0 ∨ r4 = 1 ∨ r4 = 2 ∨ r4 = 3 ∨ r4 = 4 ∨ r4 = 5) with rfl | rfl | rfl | rfl | rfl | rfl
              all_goals
                (refine blkP.ini ?_; repeat (refine blkP.mk ?_; (try simp (disch := first | omega | (simp only [LN]; omega)) only [↓EC, EW, seval, ↓reduceIte, ↓EBD, EBE])))
                exact e5 _ (by decide)
            · have hst : StOk n M (x1, x2) := ⟨hx1, hx2⟩
              have hsp : isSp s = true := by unfold isSp; rw [decide_eq_true_eq]; exact ⟨by omega, g3⟩
              obtain ⟨w1, w2, w3, w4, w5, w6, w7, w8⟩ := hwalk x1 x2 hst (ub s) s.length (sprt_iff.1 g3)
              have hvl := (vlT_lo (t := ub s) lB lW hN s.length).1
              (refine blkP.ini ?_; repeat (refine blkP.mk ?_; (try simp (disch := first | omega | (simp only [LN]; omega)) only [↓EC, EW, seval, ↓reduceIte, ↓EBD, EBE])))
              refine pcd_v (c_impl_WalkOf (n := n) (m := M) (x := x1) (y := x2) (s := s) hb hw (show a.length ≤ 1048576 by omega) (show c.length ≤ 1048576 by omega) (by omega) h0 hst hsp) ?_; (refine blkP.ini ?_; repeat (refine blkP.mk ?_; (try simp (disch := first | omega | (simp only [LN]; omega)) only [↓EC, EW, seval, ↓reduceIte, ↓EBD, EBE])))
              refine pcd_v (c_impl_ValueOfWord (n := n * M) oB oW hE hsp) ?_; (refine blkP.ini ?_; repeat (refine blkP.mk ?_; (try simp (disch := first | omega | (simp only [LN]; omega)) only [↓EC, EW, seval, ↓reduceIte, ↓EBD, EBE, hvl, w1])))
              refine pcd_r (c_spec_DrawWalkOf hB hll) ?_
              rintro _ ⟨f, p, q, k, u, v, g, i, s, rfl, hp, hq, hf, hk, hu, hv, hs⟩
              have hpl := hp.1
              have hql := hq.1
              (refine blkP.ini ?_; repeat (refine blkP.mk ?_; (try simp (disch := first | omega | (simp only [LN]; omega)) only [↓EC, EW, seval, ↓reduceIte, ↓EBD, EBE, vD])))
              by_cases hwk : wkC f k p q u v g i s = 0
              · obtain ⟨hc0, hst, hsp⟩ := wkC_0 hwk
                refine pcd_v (c_impl_WalkOf (n := f) (m := k) (x := g) (y := i) (s := s) hp hq (show u.length ≤ 1048576 by omega) (show v.length ≤ 1048576 by omega) (by omega) hc0 hst hsp) ?_; (refine blkP.ini ?_; repeat (refine blkP.mk ?_; (try simp (disch := first | omega | (simp only [LN]; omega)) only [↓EC, EW, seval, ↓reduceIte, ↓EBD, EBE])))
                refine pcd_v (c_spec_WalkOf (n := f) (m := k) (x := g) (y := i) (s := s) hp hq (show u.length ≤ 1048576 by omega) (show v.length ≤ 1048576 by omega) (by omega) hc0 hst hsp) ?_; (refine blkP.ini ?_; repeat (refine blkP.mk ?_; (try simp (disch := first | omega | (simp only [LN]; omega)) only [↓EC, EW, seval, ↓reduceIte, ↓EBD, EBE])))
                refine pcd_v (c_laws_likeInts (l := [(wkT f k p q u v (g, i) (ub s) s.length).1, (wkT f k p q u v (g, i) (ub s) s.length).2]) (m := [(wkT f k p q u v (g, i) (ub s) s.length).1, (wkT f k p q u v (g, i) (ub s) s.length).2]) (by simp)) ?_; (refine blkP.ini ?_; repeat (refine blkP.mk ?_; (try simp (disch := first | omega | (simp only [LN]; omega)) only [↓EC, EW, seval, ↓reduceIte, ↓EBD, EBE, decide_true])))
              · refine pcd_v (c_impl_WalkOf_no (n := f) (m := k) (x := g) (y := i) (s := s) hp hq (show u.length ≤ 1048576 by omega) (show v.length ≤ 1048576 by omega) (by omega) hwk) ?_; (refine blkP.ini ?_; repeat (refine blkP.mk ?_; (try simp (disch := first | omega | (simp only [LN]; omega)) only [↓EC, EW, seval, ↓reduceIte, ↓EBD, EBE])))
                refine pcd_v (c_spec_WalkOf_no (n := f) (m := k) (x := g) (y := i) (s := s) hp hq (show u.length ≤ 1048576 by omega) (show v.length ≤ 1048576 by omega) (by omega) hwk) ?_; (refine blkP.ini ?_; repeat (refine blkP.mk ?_; (try simp (disch := first | omega | (simp only [LN]; omega)) only [↓EC, EW, seval, ↓reduceIte, ↓EBD, EBE])))
                refine pcd_v c_laws_likeInts_nil ?_; (refine blkP.ini ?_; repeat (refine blkP.mk ?_; (try simp (disch := first | omega | (simp only [LN]; omega)) only [↓EC, EW, seval, ↓reduceIte, ↓EBD, EBE, decide_true])))
  · have hRl : (covR n b w m a c).1.2.1.length = 16 ∧ (covR n b w m a c).1.2.2.length = 16 := by
      unfold covR at hR ⊢
      split
      · exact ⟨rfl, rfl⟩
      · split
        · exact ⟨rfl, rfl⟩
        · split
          · exact ⟨cvO_lenC _, cvO_lenC _⟩
          · exact ⟨rfl, rfl⟩
    generalize covR n b w m a c = R at *
    obtain ⟨⟨N, B, W⟩, k⟩ := R
    simp only at hR hRl
    obtain ⟨hBl, hWl⟩ := hRl
    have hBW : (B ++ W).length = 32 := by simp; omega
    generalize iuR n b w m a c = U at *
    obtain ⟨u1, u2⟩ := U
    by_cases h0 : covC n b w m a c = 0
    · skip
      refine pcd_v i1 ?_; (refine blkP.ini ?_; repeat (refine blkP.mk ?_; (try simp (disch := first | omega | (simp only [LN]; omega)) only [↓EC, EW, seval, ↓reduceIte, ↓EBD, EBE, vDC, vD])))
      refine pcd_v j1 ?_; (refine blkP.ini ?_; repeat (refine blkP.mk ?_; (try simp (disch := first | omega | (simp only [LN]; omega)) only [↓EC, EW, seval, ↓reduceIte, ↓EBD, EBE, vDC, vD])))
      refine pcd_v i2 ?_; (refine blkP.ini ?_; repeat (refine blkP.mk ?_; (try simp (disch := first | omega | (simp only [LN]; omega)) only [↓EC, EW, seval, ↓reduceIte, ↓EBD, EBE])))
      refine pcd_v j2 ?_; (refine blkP.ini ?_; repeat (refine blkP.mk ?_; (try simp (disch := first | omega | (simp only [LN]; omega)) only [↓EC, EW, seval, ↓reduceIte, ↓EBD, EBE])))
      refine pcd_v (c_impl_SumsOfVoltages (n := n) (m := m) hb hw (show a.length ≤ 1048576 by omega) (show c.length ≤ 1048576 by omega) h0) ?_; (refine blkP.ini ?_; repeat (refine blkP.mk ?_; (try simp (disch := first | omega | (simp only [LN]; omega)) only [↓EC, EW, seval, ↓reduceIte, ↓EBD, EBE])))
      refine pcd_v (c_spec_SumsOfVoltages (n := n) (m := m) hb hw (show a.length ≤ 1048576 by omega) (show c.length ≤ 1048576 by omega) h0) ?_; (refine blkP.ini ?_; repeat (refine blkP.mk ?_; (try simp (disch := first | omega | (simp only [LN]; omega)) only [↓EC, EW, seval, ↓reduceIte, ↓EBD, EBE, vleq33 hBW])))
      have hsv := svL_len (n := n) (m := m) (b := b) (w := w) (x := a) (y := c) (covC_0 h0).1.pb.1
      refine pcd_v (c_laws_rows5 (ls := svL n b w m a c) (ms := svL n b w m a c) (by simp [svL]) (fun l hl => by have := hsv l hl; omega)) ?_; (refine blkP.ini ?_; repeat (refine blkP.mk ?_; (try simp (disch := first | omega | (simp only [LN]; omega)) only [↓EC, EW, seval, ↓reduceIte, ↓EBD, EBE, decide_true])))
      have hR1 : (k == 0) = false := by simpa using hR
      refine JNx_un ?_
      (refine blkP.ini ?_; repeat (refine blkP.mk ?_; (try simp (disch := first | omega | (simp only [LN]; omega)) only [↓EC, EW, seval, ↓reduceIte, ↓EBD, EBE, hR1])))
      refine pcd_r (c_spec_DrawWalkOf hB hll) ?_
      rintro _ ⟨f, p, q, k, u, v, g, i, s, rfl, hp, hq, hf, hk, hu, hv, hs⟩
      have hpl := hp.1
      have hql := hq.1
      (refine blkP.ini ?_; repeat (refine blkP.mk ?_; (try simp (disch := first | omega | (simp only [LN]; omega)) only [↓EC, EW, seval, ↓reduceIte, ↓EBD, EBE, vD])))
      by_cases hwk : wkC f k p q u v g i s = 0
      · obtain ⟨hc0, hst, hsp⟩ := wkC_0 hwk
        refine pcd_v (c_impl_WalkOf (n := f) (m := k) (x := g) (y := i) (s := s) hp hq (show u.length ≤ 1048576 by omega) (show v.length ≤ 1048576 by omega) (by omega) hc0 hst hsp) ?_; (refine blkP.ini ?_; repeat (refine blkP.mk ?_; (try simp (disch := first | omega | (simp only [LN]; omega)) only [↓EC, EW, seval, ↓reduceIte, ↓EBD, EBE])))
        refine pcd_v (c_spec_WalkOf (n := f) (m := k) (x := g) (y := i) (s := s) hp hq (show u.length ≤ 1048576 by omega) (show v.length ≤ 1048576 by omega) (by omega) hc0 hst hsp) ?_; (refine blkP.ini ?_; repeat (refine blkP.mk ?_; (try simp (disch := first | omega | (simp only [LN]; omega)) only [↓EC, EW, seval, ↓reduceIte, ↓EBD, EBE])))
        refine pcd_v (c_laws_likeInts (l := [(wkT f k p q u v (g, i) (ub s) s.length).1, (wkT f k p q u v (g, i) (ub s) s.length).2]) (m := [(wkT f k p q u v (g, i) (ub s) s.length).1, (wkT f k p q u v (g, i) (ub s) s.length).2]) (by simp)) ?_; (refine blkP.ini ?_; repeat (refine blkP.mk ?_; (try simp (disch := first | omega | (simp only [LN]; omega)) only [↓EC, EW, seval, ↓reduceIte, ↓EBD, EBE, decide_true])))
      · refine pcd_v (c_impl_WalkOf_no (n := f) (m := k) (x := g) (y := i) (s := s) hp hq (show u.length ≤ 1048576 by omega) (show v.length ≤ 1048576 by omega) (by omega) hwk) ?_; (refine blkP.ini ?_; repeat (refine blkP.mk ?_; (try simp (disch := first | omega | (simp only [LN]; omega)) only [↓EC, EW, seval, ↓reduceIte, ↓EBD, EBE])))
        refine pcd_v (c_spec_WalkOf_no (n := f) (m := k) (x := g) (y := i) (s := s) hp hq (show u.length ≤ 1048576 by omega) (show v.length ≤ 1048576 by omega) (by omega) hwk) ?_; (refine blkP.ini ?_; repeat (refine blkP.mk ?_; (try simp (disch := first | omega | (simp only [LN]; omega)) only [↓EC, EW, seval, ↓reduceIte, ↓EBD, EBE])))
        refine pcd_v c_laws_likeInts_nil ?_; (refine blkP.ini ?_; repeat (refine blkP.mk ?_; (try simp (disch := first | omega | (simp only [LN]; omega)) only [↓EC, EW, seval, ↓reduceIte, ↓EBD, EBE, decide_true])))
    · skip
      refine pcd_v i1 ?_; (refine blkP.ini ?_; repeat (refine blkP.mk ?_; (try simp (disch := first | omega | (simp only [LN]; omega)) only [↓EC, EW, seval, ↓reduceIte, ↓EBD, EBE, vDC, vD])))
      refine pcd_v j1 ?_; (refine blkP.ini ?_; repeat (refine blkP.mk ?_; (try simp (disch := first | omega | (simp only [LN]; omega)) only [↓EC, EW, seval, ↓reduceIte, ↓EBD, EBE, vDC, vD])))
      refine pcd_v i2 ?_; (refine blkP.ini ?_; repeat (refine blkP.mk ?_; (try simp (disch := first | omega | (simp only [LN]; omega)) only [↓EC, EW, seval, ↓reduceIte, ↓EBD, EBE])))
      refine pcd_v j2 ?_; (refine blkP.ini ?_; repeat (refine blkP.mk ?_; (try simp (disch := first | omega | (simp only [LN]; omega)) only [↓EC, EW, seval, ↓reduceIte, ↓EBD, EBE])))
      refine pcd_v (c_impl_SumsOfVoltages_no (n := n) (m := m) hb hw (show a.length ≤ 1048576 by omega) (show c.length ≤ 1048576 by omega) h0) ?_; (refine blkP.ini ?_; repeat (refine blkP.mk ?_; (try simp (disch := first | omega | (simp only [LN]; omega)) only [↓EC, EW, seval, ↓reduceIte, ↓EBD, EBE])))
      refine pcd_v (c_spec_SumsOfVoltages_no (n := n) (m := m) hb hw (show a.length ≤ 1048576 by omega) (show c.length ≤ 1048576 by omega) h0) ?_; (refine blkP.ini ?_; repeat (refine blkP.mk ?_; (try simp (disch := first | omega | (simp only [LN]; omega)) only [↓EC, EW, seval, ↓reduceIte, ↓EBD, EBE, vleq33 hBW])))
      refine pcd_v c_laws_rows5_nil ?_; (refine blkP.ini ?_; repeat (refine blkP.mk ?_; (try simp (disch := first | omega | (simp only [LN]; omega)) only [↓EC, EW, seval, ↓reduceIte, ↓EBD, EBE, decide_true])))
      have hR1 : (k == 0) = false := by simpa using hR
      refine JNx_un ?_
      (refine blkP.ini ?_; repeat (refine blkP.mk ?_; (try simp (disch := first | omega | (simp only [LN]; omega)) only [↓EC, EW, seval, ↓reduceIte, ↓EBD, EBE, hR1])))
      refine pcd_r (c_spec_DrawWalkOf hB hll) ?_
      rintro _ ⟨f, p, q, k, u, v, g, i, s, rfl, hp, hq, hf, hk, hu, hv, hs⟩
      have hpl := hp.1
      have hql := hq.1
      (refine blkP.ini ?_; repeat (refine blkP.mk ?_; (try simp (disch := first | omega | (simp only [LN]; omega)) only [↓EC, EW, seval, ↓reduceIte, ↓EBD, EBE, vD])))
      by_cases hwk : wkC f k p q u v g i s = 0
      · obtain ⟨hc0, hst, hsp⟩ := wkC_0 hwk
        refine pcd_v (c_impl_WalkOf (n := f) (m := k) (x := g) (y := i) (s := s) hp hq (show u.length ≤ 1048576 by omega) (show v.length ≤ 1048576 by omega) (by omega) hc0 hst hsp) ?_; (refine blkP.ini ?_; repeat (refine blkP.mk ?_; (try simp (disch := first | omega | (simp only [LN]; omega)) only [↓EC, EW, seval, ↓reduceIte, ↓EBD, EBE])))
        refine pcd_v (c_spec_WalkOf (n := f) (m := k) (x := g) (y := i) (s := s) hp hq (show u.length ≤ 1048576 by omega) (show v.length ≤ 1048576 by omega) (by omega) hc0 hst hsp) ?_; (refine blkP.ini ?_; repeat (refine blkP.mk ?_; (try simp (disch := first | omega | (simp only [LN]; omega)) only [↓EC, EW, seval, ↓reduceIte, ↓EBD, EBE])))
        refine pcd_v (c_laws_likeInts (l := [(wkT f k p q u v (g, i) (ub s) s.length).1, (wkT f k p q u v (g, i) (ub s) s.length).2]) (m := [(wkT f k p q u v (g, i) (ub s) s.length).1, (wkT f k p q u v (g, i) (ub s) s.length).2]) (by simp)) ?_; (refine blkP.ini ?_; repeat (refine blkP.mk ?_; (try simp (disch := first | omega | (simp only [LN]; omega)) only [↓EC, EW, seval, ↓reduceIte, ↓EBD, EBE, decide_true])))
      · refine pcd_v (c_impl_WalkOf_no (n := f) (m := k) (x := g) (y := i) (s := s) hp hq (show u.length ≤ 1048576 by omega) (show v.length ≤ 1048576 by omega) (by omega) hwk) ?_; (refine blkP.ini ?_; repeat (refine blkP.mk ?_; (try simp (disch := first | omega | (simp only [LN]; omega)) only [↓EC, EW, seval, ↓reduceIte, ↓EBD, EBE])))
        refine pcd_v (c_spec_WalkOf_no (n := f) (m := k) (x := g) (y := i) (s := s) hp hq (show u.length ≤ 1048576 by omega) (show v.length ≤ 1048576 by omega) (by omega) hwk) ?_; (refine blkP.ini ?_; repeat (refine blkP.mk ?_; (try simp (disch := first | omega | (simp only [LN]; omega)) only [↓EC, EW, seval, ↓reduceIte, ↓EBD, EBE])))
        refine pcd_v c_laws_likeInts_nil ?_; (refine blkP.ini ?_; repeat (refine blkP.mk ?_; (try simp (disch := first | omega | (simp only [LN]; omega)) only [↓EC, EW, seval, ↓reduceIte, ↓EBD, EBE, decide_true])))
theorem t_FnCovers : ∀ xs, Ty.oks [.sl (.int .u8)] xs → PSpec Tryz.prog 3 xs fun r => r = .bool true := by
  rintro xs ⟨v, r, rfl, hv, rfl⟩
  obtain ⟨l, rfl, h1, h2⟩ := ok_ints hv
  exact pspec_fz fun x => c_FnCovers fun a ha => h2 a ha
end Go.Proofs.YtjklebickfcddaaGreatDoor.Sep
end

/- The cycle of an edge: the walk through impl.cycleOf. -/
import Derived.Test.YtcleiehdddjicaaC38
namespace Go.Proofs.Ytcleiehdddjicaa.Sep
open Go.RowKit
set_option linter.unusedVariables false
set_option linter.unusedSimpArgs false
set_option maxRecDepth 20000
set_option maxHeartbeats 4000000

theorem callMR_q {P : Program} {f : FuncId} {h : Hp} {K : V → Hp → Prop} {bs : List Nat} {bx : List (Nat × TypeId × Nat)} {cells : List (List V)} {ws : List V} {Φ : Nat → Nat → Nat → List (List V) → Prop}
    (hs : PSpecMR P f ws bx cells Φ) (hK : ∀ j o n cs, Φ j o n cs → ∀ b, bs[j]? = some b → K (.rf b o n) (hputs2 h bs bx cs)) : CallMR P f h K bs bx cells ws := ⟨Φ, hs, hK⟩
theorem c_slices_Delete1 {zs : List Int} {n i : Nat} (hn : zs.length = n) (hi : i < n) :
    PSpecMR Try.prog 54 [.rf 0 0 n, .int .i64 i, .int .i64 ((i : Int) + 1)] [(0, 2, 1)] [vi .i64 zs]
      fun q o k c => q = 0 ∧ o = 0 ∧ k = n - 1 ∧ c = [vi .i64 (zs.take i ++ zs.drop (i + 1) ++ [0])] := by
  have h := c_slices_Delete (zs := zs) hn hi rfl
  rw [Int.natCast_add] at h
  exact h
theorem take2 {l : List Int} {k : Nat} (h : k + 2 ≤ l.length) : (l.drop k).take 2 = [gi l k, gi l (k + 1)] := by
  refine gi_ext (by simp; omega) fun j hj => ?_
  have hj2 : j < 2 := by simp at hj; omega
  have h1 : gi ((l.drop k).take 2) j = gi l (k + j) := by
    simp [gi, List.getD, List.getElem?_take, List.getElem?_drop, hj2]
  rw [h1]
  have : j = 0 ∨ j = 1 := by omega
  rcases this with rfl | rfl <;> rfl
theorem c_impl_cycleOf {n : Int} {b w : List Int} {x : Nat} {a : Nat → Int} (hb : okP b) (hw : okP w) (h0 : isD n b w) (hx : x < n.toNat) (hxt : (x : Int) ∉ treeL b w n) (hs : SolD b w n x a) :
    PSpec Try.prog 32 [vD n b w, .int .i64 x, .sl (treeL b w n).length (vi .i64 (treeL b w n))] fun v => v = .own 2 1 n.toNat (vi .i64 ((List.range n.toNat).map a)) := by
  have hl := hb.len
  have hk := hw.len
  have hn := h0.pb.1
  have lb := h0.pb.lo hb
  have lw := h0.pw.lo hw
  have pb := h0.pb.ltP hb
  have pw := h0.pw.ltP hw
  obtain ⟨hal, hal2⟩ := allV_len (b := b) (w := w) hn
  have hat := allV_at pb pw hn
  have hel : (endV b w n).length = n.toNat * 2 := eO_len _
  have F := dFo lb lw pb pw hn
  have hends : ∀ e : Nat, e < n.toNat → gi (endV b w n) (e * 2) = E0F b n e ∧ gi (endV b w n) (e * 2 + 1) = E1F b w n e := fun e he => ends_at pb pw lw hn (by omega)
  have hE0 : ∀ e : Nat, e < n.toNat → E0F b n e < (allV b w n).length := fun e he => F.l0 he
  have hE1 : ∀ e : Nat, e < n.toNat → E1F b w n e < (allV b w n).length := fun e he => (F.e1 e he).2
  have hinit := Cy.init lb lw pb pw hn hs hx hxt
  have htl : (treeL b w n).length ≤ 16 := by
    have h1 := collect_len (m := treeM b w n) n.toNat; unfold treeL; omega
  refine impl_cycleOf_f.f ?_
  have hvs := c_impl_vertices hb hw h0
  unfold vD at hvs ⊢
  simp (config := { maxSteps := 10000000 }) (disch := first | omega | (simp only [List.length_append, List.length_cons, List.length_nil, List.length_replicate, List.length_set, List.length_take, List.length_drop, vi_len, vb_len, vo_len, vl_len, vn_len]; omega)) only [↓EC, EV, EL, E2, E3, ER, seval, ↓reduceIte, false_imp_iff, impl_cycleOf_F, hl, hk]
  refine pcd_wv (by simp [nrfs_cons, nrf_agg, nrf_int, vi_nrf, nrfs_nil]) hvs ?_
  obtain ⟨x0, x1⟩ := hends x hx
  have q0 := hE0 x hx
  have q1 := hE1 x hx
  (try simp (disch := first | omega | (simp only [List.length_append, List.length_cons, List.length_nil, List.length_replicate, List.length_set, List.length_take, List.length_drop, vi_len, vb_len, vo_len, vl_len, vn_len]; omega)) only [↓EC, EV, EL, E2, E3, ER, seval, ↓reduceIte, false_imp_iff, hl, hk, hel, x0, x1])
  refine pcd_o (c_slices_Clone0 (treeL_pos lb lw pb pw hn) (by omega)) ?_
  (try simp (disch := first | omega | (simp only [List.length_append, List.length_cons, List.length_nil, List.length_replicate, List.length_set, List.length_take, List.length_drop, vi_len, vb_len, vo_len, vl_len, vn_len]; omega)) only [↓EC, EV, EL, E2, E3, ER, seval, ↓reduceIte, false_imp_iff, hl, hk, hel])
  refine LP_of (σ := List Int × List Int × List Int) 100000 [(67, 30, 1), (92, 2, 1), (98, 2, 1)] (fun s => [.own 2 1 s.1.length (vi .i64 s.1)])
    (fun s => [.int .i64 n :: vi .u8 (b ++ w), vi .i64 s.2.1, vi .i64 s.2.2])
    (fun s => s.1.length ≤ 16 ∧ Cy b w n a s.1 s.2.1 s.2.2) (fun s => s.1.length) (treeL b w n, (List.replicate n.toNat 0).set x 1, ((List.replicate (allV b w n).length 0).set (E0F b n x) 1).set (E1F b w n x) 1) (by simp [frameOk, names, lpz, sclp, scv, scvs, vi_nrf, vb_nrf, vt_nrf, v2_nrf, v3_nrf, nrfs, nrf, sc_vi, sc_vb, sc_vt, sc_v2, sc_v3, sc_vo, sc_vl, vo_nrf, vl_nrf, sc_vn, vn_nrf]) ⟨htl, hinit⟩ ?_ ?_
  · simp (disch := first | omega | (simp only [List.length_append, List.length_cons, List.length_nil, List.length_replicate, List.length_set, List.length_take, List.length_drop, vi_len, vb_len, vo_len, vl_len, vn_len]; omega)) only [↓EC, EV, EL, E2, E3, ER, seval, ↓reduceIte, false_imp_iff, ColV_def]
  · rintro ⟨R, O, L⟩ ⟨hR, hC⟩
    simp only at hR hC
    have ol := hC.ol
    have ll := hC.ll
    simp (disch := first | omega | (simp only [List.length_append, List.length_cons, List.length_nil, List.length_replicate, List.length_set, List.length_take, List.length_drop, vi_len, vb_len, vo_len, vl_len, vn_len]; omega)) only [↓EC, EV, EL, E2, E3, ER, seval, ↓reduceIte, false_imp_iff, ColV_def, lheap_def, hl, hk, ol, ll]
    (refine Split.mk (fun h => ?_) (fun h => ?_) <;> (try simp only [decide_eq_true_eq, decide_eq_false_iff_not, beq_iff_eq, bne_iff_ne, beq_eq_false_iff_ne, bne_eq_false_iff_eq, Bool.not_eq_true', Bool.not_eq_false', Bool.and_eq_true, Bool.or_eq_true, Bool.and_eq_false_iff, Bool.or_eq_false_iff, Int.not_lt, Int.not_le, Bool.false_eq_true, Bool.true_eq_false, false_and, and_false, true_and, and_true, or_false, false_or, or_true, true_or, not_true_eq_false, not_false_eq_true] at h))
    · (try simp (disch := first | omega | (simp only [List.length_append, List.length_cons, List.length_nil, List.length_replicate, List.length_set, List.length_take, List.length_drop, vi_len, vb_len, vo_len, vl_len, vn_len]; omega)) only [↓EC, EV, EL, E2, E3, ER, seval, ↓reduceIte, false_imp_iff, hl, hk, ol, ll])
      refine LP_of (σ := Nat) 200000 [(67, 30, 1), (92, 2, 1), (98, 2, 1), (100000, 2, 1)] (fun i => [.int .i64 i]) (fun i => [.int .i64 n :: vi .u8 (b ++ w), vi .i64 O, vi .i64 L, vi .i64 R])
        (fun i => i ≤ R.length ∧ ∀ q t, q < i → t < (allV b w n).length → incE (E0F b n) (E1F b w n) (gi R q).toNat t → cnt R (gl (allV b w n) t) R.length ≠ 1) (fun i => R.length - i) 0 (by simp [frameOk, names, lpz, sclp, scv, scvs, vi_nrf, vb_nrf, vt_nrf, v2_nrf, v3_nrf, nrfs, nrf, sc_vi, sc_vb, sc_vt, sc_v2, sc_v3, sc_vo, sc_vl, vo_nrf, vl_nrf, sc_vn, vn_nrf]) ⟨Nat.zero_le _, fun q t hq => absurd hq (Nat.not_lt_zero q)⟩ ?_ ?_
      · simp (disch := first | omega | (simp only [List.length_append, List.length_cons, List.length_nil, List.length_replicate, List.length_set, List.length_take, List.length_drop, vi_len, vb_len, vo_len, vl_len, vn_len]; omega)) only [↓EC, EV, EL, E2, E3, ER, seval, ↓reduceIte, false_imp_iff, ColV_def]
      · rintro i ⟨i1, i2⟩
        simp (disch := first | omega | (simp only [List.length_append, List.length_cons, List.length_nil, List.length_replicate, List.length_set, List.length_take, List.length_drop, vi_len, vb_len, vo_len, vl_len, vn_len]; omega)) only [↓EC, EV, EL, E2, E3, ER, seval, ↓reduceIte, false_imp_iff, ColV_def, lheap_def, hl, hk, ol, ll]
        (refine Split.mk (fun h => ?_) (fun h => ?_) <;> (try simp only [decide_eq_true_eq, decide_eq_false_iff_not, beq_iff_eq, bne_iff_ne, beq_eq_false_iff_ne, bne_eq_false_iff_eq, Bool.not_eq_true', Bool.not_eq_false', Bool.and_eq_true, Bool.or_eq_true, Bool.and_eq_false_iff, Bool.or_eq_false_iff, Int.not_lt, Int.not_le, Bool.false_eq_true, Bool.true_eq_false, false_and, and_false, true_and, and_true, or_false, false_or, or_true, true_or, not_true_eq_false, not_false_eq_true] at h))
        · have hi : i < R.length := by omega
          obtain ⟨e, he, hen, het⟩ := hC.mem (gi R i) (by rw [gi_of hi]; exact List.getElem_mem _)
          obtain ⟨ea, eb⟩ := hends e hen
          have htk := take2 (l := endV b w n) (k := e * 2) (by rw [hel]; omega)
          rw [ea, eb] at htk
          have t0 := hE0 e hen
          have t1 := hE1 e hen
          have hCl := hC.llim hs hn
          (try simp (disch := first | omega | (simp only [List.length_append, List.length_cons, List.length_nil, List.length_replicate, List.length_set, List.length_take, List.length_drop, vi_len, vb_len, vo_len, vl_len, vn_len]; omega)) only [↓EC, EV, EL, E2, E3, ER, seval, ↓reduceIte, false_imp_iff, hl, hk, ol, ll, he, hel, htk])
          refine LP_of (σ := Int × Nat) 300000 [(67, 30, 1), (92, 2, 1), (98, 2, 1), (100000, 2, 1)] (fun s => [.int .i64 s.1, .int .i64 s.2]) (fun s => [.int .i64 n :: vi .u8 (b ++ w), vi .i64 O, vi .i64 L, vi .i64 R])
            (fun s => s.2 ≤ 2 ∧ ((s.1 = -1 ∧ (0 < s.2 → cnt R (gl (allV b w n) (E0F b n e)) R.length ≠ 1) ∧ (1 < s.2 → cnt R (gl (allV b w n) (E1F b w n e)) R.length ≠ 1)) ∨
              ∃ t : Nat, s.1 = t ∧ t < (allV b w n).length ∧ incE (E0F b n) (E1F b w n) e t ∧ cnt R (gl (allV b w n) t) R.length = 1)) (fun s => 2 - s.2) (-1, 0) (by simp [frameOk, names, lpz, sclp, scv, scvs, vi_nrf, vb_nrf, vt_nrf, v2_nrf, v3_nrf, nrfs, nrf, sc_vi, sc_vb, sc_vt, sc_v2, sc_v3, sc_vo, sc_vl, vo_nrf, vl_nrf, sc_vn, vn_nrf]) ⟨by simp, .inl ⟨rfl, fun h => absurd h (by simp), fun h => absurd h (by simp)⟩⟩ ?_ ?_
          · simp (disch := first | omega | (simp only [List.length_append, List.length_cons, List.length_nil, List.length_replicate, List.length_set, List.length_take, List.length_drop, vi_len, vb_len, vo_len, vl_len, vn_len]; omega)) only [↓EC, EV, EL, E2, E3, ER, seval, ↓reduceIte, false_imp_iff, ColV_def]
          · rintro ⟨v, k⟩ ⟨k1, k2⟩
            simp only at k1 k2
            have k3 : k = 0 ∨ k = 1 ∨ k = 2 := by omega
            rcases k3 with rfl | rfl | rfl
            · have hin : incE (E0F b n) (E1F b w n) e (E0F b n e) := .inl rfl
              have htA : (E0F b n e) < (allV b w n).length := t0
              simp (disch := first | omega | (simp only [List.length_append, List.length_cons, List.length_nil, List.length_replicate, List.length_set, List.length_take, List.length_drop, vi_len, vb_len, vo_len, vl_len, vn_len]; omega)) only [↓EC, EV, EL, E2, E3, ER, seval, ↓reduceIte, false_imp_iff, ColV_def, lheap_def, hl, hk, ol, ll]
              refine LP_of (σ := Nat) 400000 [(67, 30, 1), (92, 2, 1), (98, 2, 1), (100000, 2, 1)] (fun s => [.int .i64 (cnt R (gl (allV b w n) (E0F b n e)) s), .int .i64 s]) (fun s => [.int .i64 n :: vi .u8 (b ++ w), vi .i64 O, vi .i64 L, vi .i64 R])
                (fun s => s ≤ R.length) (fun s => R.length - s) 0 (by simp [frameOk, names, lpz, sclp, scv, scvs, vi_nrf, vb_nrf, vt_nrf, v2_nrf, v3_nrf, nrfs, nrf, sc_vi, sc_vb, sc_vt, sc_v2, sc_v3, sc_vo, sc_vl, vo_nrf, vl_nrf, sc_vn, vn_nrf]) (Nat.zero_le _) ?_ ?_
              · simp (disch := first | omega | (simp only [List.length_append, List.length_cons, List.length_nil, List.length_replicate, List.length_set, List.length_take, List.length_drop, vi_len, vb_len, vo_len, vl_len, vn_len]; omega)) only [↓EC, EV, EL, E2, E3, ER, seval, ↓reduceIte, false_imp_iff, ColV_def]
                simp [cnt]
              · rintro q g1
                have hcl := cnt_le (r := R) (c := gl (allV b w n) (E0F b n e)) (s := q)
                simp (disch := first | omega | (simp only [List.length_append, List.length_cons, List.length_nil, List.length_replicate, List.length_set, List.length_take, List.length_drop, vi_len, vb_len, vo_len, vl_len, vn_len]; omega)) only [↓EC, EV, EL, E2, E3, ER, seval, ↓reduceIte, false_imp_iff, ColV_def, lheap_def, hl, hk, ol, ll]
                (refine Split.mk (fun h => ?_) (fun h => ?_) <;> (try simp only [decide_eq_true_eq, decide_eq_false_iff_not, beq_iff_eq, bne_iff_ne, beq_eq_false_iff_ne, bne_eq_false_iff_eq, Bool.not_eq_true', Bool.not_eq_false', Bool.and_eq_true, Bool.or_eq_true, Bool.and_eq_false_iff, Bool.or_eq_false_iff, Int.not_lt, Int.not_le, Bool.false_eq_true, Bool.true_eq_false, false_and, and_false, true_and, and_true, or_false, false_or, or_true, true_or, not_true_eq_false, not_false_eq_true] at h))
                · have hq : q < R.length := by omega
                  have hcs := cnt_succ (c := gl (allV b w n) (E0F b n e)) hq
                  (try simp (disch := first | omega | (simp only [List.length_append, List.length_cons, List.length_nil, List.length_replicate, List.length_set, List.length_take, List.length_drop, vi_len, vb_len, vo_len, vl_len, vn_len]; omega)) only [↓EC, EV, EL, E2, E3, ER, seval, ↓reduceIte, false_imp_iff, hl, hk, ol, ll])
                  refine pcd_v (c_Contains0 (l := gl (allV b w n) (E0F b n e)) rfl (by have := (hat _ (gl_mem htA)).2; omega)) ?_
                  (try simp (disch := first | omega | (simp only [List.length_append, List.length_cons, List.length_nil, List.length_replicate, List.length_set, List.length_take, List.length_drop, vi_len, vb_len, vo_len, vl_len, vn_len]; omega)) only [↓EC, EV, EL, E2, E3, ER, seval, ↓reduceIte, false_imp_iff, hl, hk, ol, ll])
                  (refine Split.mk (fun h => ?_) (fun h => ?_) <;> (try simp only [decide_eq_true_eq, decide_eq_false_iff_not, beq_iff_eq, bne_iff_ne, beq_eq_false_iff_ne, bne_eq_false_iff_eq, Bool.not_eq_true', Bool.not_eq_false', Bool.and_eq_true, Bool.or_eq_true, Bool.and_eq_false_iff, Bool.or_eq_false_iff, Int.not_lt, Int.not_le, Bool.false_eq_true, Bool.true_eq_false, false_and, and_false, true_and, and_true, or_false, false_or, or_true, true_or, not_true_eq_false, not_false_eq_true] at h))
                  · (try simp (disch := first | omega | (simp only [List.length_append, List.length_cons, List.length_nil, List.length_replicate, List.length_set, List.length_take, List.length_drop, vi_len, vb_len, vo_len, vl_len, vn_len]; omega)) only [↓EC, EV, EL, E2, E3, ER, seval, ↓reduceIte, false_imp_iff, hl, hk, ol, ll])
                    rw [if_pos h] at hcs
                    exact ⟨q + 1, by rw [hcs]; simp, by omega, by omega⟩
                  · (try simp (disch := first | omega | (simp only [List.length_append, List.length_cons, List.length_nil, List.length_replicate, List.length_set, List.length_take, List.length_drop, vi_len, vb_len, vo_len, vl_len, vn_len]; omega)) only [↓EC, EV, EL, E2, E3, ER, seval, ↓reduceIte, false_imp_iff, hl, hk, ol, ll])
                    rw [if_neg h] at hcs
                    exact ⟨q + 1, by rw [hcs]; simp, by omega, by omega⟩
                · have hq : q = R.length := by omega
                  subst hq
                  (try simp (disch := first | omega | (simp only [List.length_append, List.length_cons, List.length_nil, List.length_replicate, List.length_set, List.length_take, List.length_drop, vi_len, vb_len, vo_len, vl_len, vn_len]; omega)) only [↓EC, EV, EL, E2, E3, ER, seval, ↓reduceIte, false_imp_iff, hl, hk, ol, ll])
                  (refine Split.mk (fun h => ?_) (fun h => ?_) <;> (try simp only [decide_eq_true_eq, decide_eq_false_iff_not, beq_iff_eq, bne_iff_ne, beq_eq_false_iff_ne, bne_eq_false_iff_eq, Bool.not_eq_true', Bool.not_eq_false', Bool.and_eq_true, Bool.or_eq_true, Bool.and_eq_false_iff, Bool.or_eq_false_iff, Int.not_lt, Int.not_le, Bool.false_eq_true, Bool.true_eq_false, false_and, and_false, true_and, and_true, or_false, false_or, or_true, true_or, not_true_eq_false, not_false_eq_true] at h))
                  · (try simp (disch := first | omega | (simp only [List.length_append, List.length_cons, List.length_nil, List.length_replicate, List.length_set, List.length_take, List.length_drop, vi_len, vb_len, vo_len, vl_len, vn_len]; omega)) only [↓EC, EV, EL, E2, E3, ER, seval, ↓reduceIte, false_imp_iff, hl, hk, ol, ll])
                    exact ⟨(((E0F b n e) : Int), 0 + 1), by simp, ⟨by simp, .inr ⟨(E0F b n e), rfl, htA, hin, by omega⟩⟩, by simp⟩
                  · (try simp (disch := first | omega | (simp only [List.length_append, List.length_cons, List.length_nil, List.length_replicate, List.length_set, List.length_take, List.length_drop, vi_len, vb_len, vo_len, vl_len, vn_len]; omega)) only [↓EC, EV, EL, E2, E3, ER, seval, ↓reduceIte, false_imp_iff, hl, hk, ol, ll])
                    refine ⟨(v, 0 + 1), by simp, ⟨by simp, ?_⟩, by simp⟩
                    rcases k2 with ⟨z1, z2, z3⟩ | z1
                    · exact .inl ⟨z1, fun _ => by omega, fun h => absurd h (by simp)⟩
                    · exact .inr z1
            · have hin : incE (E0F b n) (E1F b w n) e (E1F b w n e) := .inr rfl
              have htA : (E1F b w n e) < (allV b w n).length := t1
              simp (disch := first | omega | (simp only [List.length_append, List.length_cons, List.length_nil, List.length_replicate, List.length_set, List.length_take, List.length_drop, vi_len, vb_len, vo_len, vl_len, vn_len]; omega)) only [↓EC, EV, EL, E2, E3, ER, seval, ↓reduceIte, false_imp_iff, ColV_def, lheap_def, hl, hk, ol, ll]
              refine LP_of (σ := Nat) 400000 [(67, 30, 1), (92, 2, 1), (98, 2, 1), (100000, 2, 1)] (fun s => [.int .i64 (cnt R (gl (allV b w n) (E1F b w n e)) s), .int .i64 s]) (fun s => [.int .i64 n :: vi .u8 (b ++ w), vi .i64 O, vi .i64 L, vi .i64 R])
                (fun s => s ≤ R.length) (fun s => R.length - s) 0 (by simp [frameOk, names, lpz, sclp, scv, scvs, vi_nrf, vb_nrf, vt_nrf, v2_nrf, v3_nrf, nrfs, nrf, sc_vi, sc_vb, sc_vt, sc_v2, sc_v3, sc_vo, sc_vl, vo_nrf, vl_nrf, sc_vn, vn_nrf]) (Nat.zero_le _) ?_ ?_
              · simp (disch := first | omega | (simp only [List.length_append, List.length_cons, List.length_nil, List.length_replicate, List.length_set, List.length_take, List.length_drop, vi_len, vb_len, vo_len, vl_len, vn_len]; omega)) only [↓EC, EV, EL, E2, E3, ER, seval, ↓reduceIte, false_imp_iff, ColV_def]
                simp [cnt]
              · rintro q g1
                have hcl := cnt_le (r := R) (c := gl (allV b w n) (E1F b w n e)) (s := q)
                simp (disch := first | omega | (simp only [List.length_append, List.length_cons, List.length_nil, List.length_replicate, List.length_set, List.length_take, List.length_drop, vi_len, vb_len, vo_len, vl_len, vn_len]; omega)) only [↓EC, EV, EL, E2, E3, ER, seval, ↓reduceIte, false_imp_iff, ColV_def, lheap_def, hl, hk, ol, ll]
                (refine Split.mk (fun h => ?_) (fun h => ?_) <;> (try simp only [decide_eq_true_eq, decide_eq_false_iff_not, beq_iff_eq, bne_iff_ne, beq_eq_false_iff_ne, bne_eq_false_iff_eq, Bool.not_eq_true', Bool.not_eq_false', Bool.and_eq_true, Bool.or_eq_true, Bool.and_eq_false_iff, Bool.or_eq_false_iff, Int.not_lt, Int.not_le, Bool.false_eq_true, Bool.true_eq_false, false_and, and_false, true_and, and_true, or_false, false_or, or_true, true_or, not_true_eq_false, not_false_eq_true] at h))
                · have hq : q < R.length := by omega
                  have hcs := cnt_succ (c := gl (allV b w n) (E1F b w n e)) hq
                  (try simp (disch := first | omega | (simp only [List.length_append, List.length_cons, List.length_nil, List.length_replicate, List.length_set, List.length_take, List.length_drop, vi_len, vb_len, vo_len, vl_len, vn_len]; omega)) only [↓EC, EV, EL, E2, E3, ER, seval, ↓reduceIte, false_imp_iff, hl, hk, ol, ll])
                  refine pcd_v (c_Contains0 (l := gl (allV b w n) (E1F b w n e)) rfl (by have := (hat _ (gl_mem htA)).2; omega)) ?_
                  (try simp (disch := first | omega | (simp only [List.length_append, List.length_cons, List.length_nil, List.length_replicate, List.length_set, List.length_take, List.length_drop, vi_len, vb_len, vo_len, vl_len, vn_len]; omega)) only [↓EC, EV, EL, E2, E3, ER, seval, ↓reduceIte, false_imp_iff, hl, hk, ol, ll])
                  (refine Split.mk (fun h => ?_) (fun h => ?_) <;> (try simp only [decide_eq_true_eq, decide_eq_false_iff_not, beq_iff_eq, bne_iff_ne, beq_eq_false_iff_ne, bne_eq_false_iff_eq, Bool.not_eq_true', Bool.not_eq_false', Bool.and_eq_true, Bool.or_eq_true, Bool.and_eq_false_iff, Bool.or_eq_false_iff, Int.not_lt, Int.not_le, Bool.false_eq_true, Bool.true_eq_false, false_and, and_false, true_and, and_true, or_false, false_or, or_true, true_or, not_true_eq_false, not_false_eq_true] at h))
                  · (try simp (disch := first | omega | (simp only [List.length_append, List.length_cons, List.length_nil, List.length_replicate, List.length_set, List.length_take, List.length_drop, vi_len, vb_len, vo_len, vl_len, vn_len]; omega)) only [↓EC, EV, EL, E2, E3, ER, seval, ↓reduceIte, false_imp_iff, hl, hk, ol, ll])
                    rw [if_pos h] at hcs
                    exact ⟨q + 1, by rw [hcs]; simp, by omega, by omega⟩
                  · (try simp (disch := first | omega | (simp only [List.length_append, List.length_cons, List.length_nil, List.length_replicate, List.length_set, List.length_take, List.length_drop, vi_len, vb_len, vo_len, vl_len, vn_len]; omega)) only [↓EC, EV, EL, E2, E3, ER, seval, ↓reduceIte, false_imp_iff, hl, hk, ol, ll])
                    rw [if_neg h] at hcs
                    exact ⟨q + 1, by rw [hcs]; simp, by omega, by omega⟩
                · have hq : q = R.length := by omega
                  subst hq
                  (try simp (disch := first | omega | (simp only [List.length_append, List.length_cons, List.length_nil, List.length_replicate, List.length_set, List.length_take, List.length_drop, vi_len, vb_len, vo_len, vl_len, vn_len]; omega)) only [↓EC, EV, EL, E2, E3, ER, seval, ↓reduceIte, false_imp_iff, hl, hk, ol, ll])
                  (refine Split.mk (fun h => ?_) (fun h => ?_) <;> (try simp only [decide_eq_true_eq, decide_eq_false_iff_not, beq_iff_eq, bne_iff_ne, beq_eq_false_iff_ne, bne_eq_false_iff_eq, Bool.not_eq_true', Bool.not_eq_false', Bool.and_eq_true, Bool.or_eq_true, Bool.and_eq_false_iff, Bool.or_eq_false_iff, Int.not_lt, Int.not_le, Bool.false_eq_true, Bool.true_eq_false, false_and, and_false, true_and, and_true, or_false, false_or, or_true, true_or, not_true_eq_false, not_false_eq_true] at h))
                  · (try simp (disch := first | omega | (simp only [List.length_append, List.length_cons, List.length_nil, List.length_replicate, List.length_set, List.length_take, List.length_drop, vi_len, vb_len, vo_len, vl_len, vn_len]; omega)) only [↓EC, EV, EL, E2, E3, ER, seval, ↓reduceIte, false_imp_iff, hl, hk, ol, ll])
                    exact ⟨(((E1F b w n e) : Int), 1 + 1), by simp, ⟨by simp, .inr ⟨(E1F b w n e), rfl, htA, hin, by omega⟩⟩, by simp⟩
                  · (try simp (disch := first | omega | (simp only [List.length_append, List.length_cons, List.length_nil, List.length_replicate, List.length_set, List.length_take, List.length_drop, vi_len, vb_len, vo_len, vl_len, vn_len]; omega)) only [↓EC, EV, EL, E2, E3, ER, seval, ↓reduceIte, false_imp_iff, hl, hk, ol, ll])
                    refine ⟨(v, 1 + 1), by simp, ⟨by simp, ?_⟩, by simp⟩
                    rcases k2 with ⟨z1, z2, z3⟩ | z1
                    · exact .inl ⟨z1, fun _ => z2 (by omega), fun _ => by omega⟩
                    · exact .inr z1
            · simp (disch := first | omega | (simp only [List.length_append, List.length_cons, List.length_nil, List.length_replicate, List.length_set, List.length_take, List.length_drop, vi_len, vb_len, vo_len, vl_len, vn_len]; omega)) only [↓EC, EV, EL, E2, E3, ER, seval, ↓reduceIte, false_imp_iff, ColV_def, lheap_def, hl, hk, ol, ll]
              rcases k2 with ⟨rfl, z2, z3⟩ | ⟨t, rfl, z2, z3, z4⟩
              · (try simp (disch := first | omega | (simp only [List.length_append, List.length_cons, List.length_nil, List.length_replicate, List.length_set, List.length_take, List.length_drop, vi_len, vb_len, vo_len, vl_len, vn_len]; omega)) only [↓EC, EV, EL, E2, E3, ER, seval, ↓reduceIte, false_imp_iff, hl, hk, ol, ll])
                refine ⟨i + 1, by simp, ⟨by omega, fun q t hq ht hin => ?_⟩, by omega⟩
                by_cases hqi : q = i
                · subst hqi
                  rw [he] at hin
                  rcases hin with rfl | rfl
                  · exact z2 (by omega)
                  · exact z3 (by omega)
                · exact i2 q t (by omega) ht hin
              · have hCs := hC.step lb lw pb pw hn hs hi z2 (by rw [he]; exact z3) z4
                rw [he] at hCs
                simp only [Int.toNat_natCast] at hCs
                have n1 := hCl t
                have n2 := hCl (E0F b n e)
                have n3 := hCl (E1F b w n e)
                have hne : E0F b n e ≠ E1F b w n e := by have := F.e0 e hen; have := F.e1 e hen; omega
                have g01 : gi (L.set (E0F b n e) (gi L (E0F b n e) + -gi L t)) (E1F b w n e) = gi L (E1F b w n e) := by rw [gi_set, if_neg (fun h => hne h.1)]
                (try simp (disch := first | omega | (simp only [List.length_append, List.length_cons, List.length_nil, List.length_replicate, List.length_set, List.length_take, List.length_drop, vi_len, vb_len, vo_len, vl_len, vn_len]; omega)) only [↓EC, EV, EL, E2, E3, ER, seval, ↓reduceIte, false_imp_iff, hl, hk, ol, ll, hel, ea, eb, g01])
                (refine Split.mk (fun h => ?_) (fun h => ?_) <;> (try simp only [decide_eq_true_eq, decide_eq_false_iff_not, beq_iff_eq, bne_iff_ne, beq_eq_false_iff_ne, bne_eq_false_iff_eq, Bool.not_eq_true', Bool.not_eq_false', Bool.and_eq_true, Bool.or_eq_true, Bool.and_eq_false_iff, Bool.or_eq_false_iff, Int.not_lt, Int.not_le, Bool.false_eq_true, Bool.true_eq_false, false_and, and_false, true_and, and_true, or_false, false_or, or_true, true_or, not_true_eq_false, not_false_eq_true] at h))
                · omega
                (try simp (disch := first | omega | (simp only [List.length_append, List.length_cons, List.length_nil, List.length_replicate, List.length_set, List.length_take, List.length_drop, vi_len, vb_len, vo_len, vl_len, vn_len]; omega)) only [↓EC, EV, EL, E2, E3, ER, seval, ↓reduceIte, false_imp_iff, hl, hk, ol, ll, hel, ea, eb, g01])
                refine pcmr [100000] rfl ?_
                (try simp (disch := first | omega | (simp only [List.length_append, List.length_cons, List.length_nil, List.length_replicate, List.length_set, List.length_take, List.length_drop, vi_len, vb_len, vo_len, vl_len, vn_len]; omega)) only [↓EC, EV, EL, E2, E3, ER, seval, ↓reduceIte, false_imp_iff, hl, hk, ol, ll, hel, ea, eb, g01])
                refine callMR_q (c_slices_Delete1 (zs := R) rfl hi) ?_
                rintro j o m c ⟨rfl, rfl, rfl, rfl⟩ bq hb
                simp only [List.getElem?_cons_zero, Option.some.injEq] at hb
                subst hb
                have hlen : (R.take i ++ R.drop (i + 1)).length = R.length - 1 := by simp; omega
                have htk2 : (R.take i ++ R.drop (i + 1) ++ [0]).take (R.length - 1) = R.take i ++ R.drop (i + 1) := List.take_left' hlen
                (try simp (disch := first | omega | (simp only [List.length_append, List.length_cons, List.length_nil, List.length_replicate, List.length_set, List.length_take, List.length_drop, vi_len, vb_len, vo_len, vl_len, vn_len]; omega)) only [↓EC, EV, EL, E2, E3, ER, seval, ↓reduceIte, false_imp_iff, hl, hk, ol, ll, htk2])
                refine ⟨(R.take i ++ R.drop (i + 1), _, _), ?_, rfl, ⟨?_, hCs⟩, ?_⟩
                · simp only [hlen]
                · simp only [hlen]; omega
                · simp only [hlen]; omega
        · obtain ⟨q, t, h1, h2, h3, h4⟩ := hC.leaf lb lw pb pw hn (by omega)
          exact absurd h4 (i2 q t (by omega) h2 h3)
    · (try simp (disch := first | omega | (simp only [List.length_append, List.length_cons, List.length_nil, List.length_replicate, List.length_set, List.length_take, List.length_drop, vi_len, vb_len, vo_len, vl_len, vn_len]; omega)) only [↓EC, EV, EL, E2, E3, ER, seval, ↓reduceIte, false_imp_iff, hl, hk, ol, ll])
      have hO : O = (List.range n.toNat).map a := gi_ext (by simp [ol]) fun j hj => by
        have hR0 : R = [] := List.length_eq_zero_iff.1 (by omega)
        rw [hC.don j (by omega) (by rw [hR0]; simp), gi_of (by simp; omega)]
        simp
      rw [hO]
end Go.Proofs.Ytcleiehdddjicaa.Sep

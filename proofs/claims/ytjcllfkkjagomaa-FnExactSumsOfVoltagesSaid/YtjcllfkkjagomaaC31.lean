/- What the sums of voltages are. -/
import Derived.Test.YtjcllfkkjagomaaC30
namespace Go.Proofs.Ytjcllfkkjagomaa.Sep
open Go.RowKit
set_option linter.unusedVariables false
set_option linter.unusedSimpArgs false
set_option maxRecDepth 20000
set_option maxHeartbeats 2000000

def smL (a : List Int) (m : Int) (A : List (List Int)) : List Int := A.map fun c => (sumT a c c.length).tmod m
def bothT (x y b : List Int) (s : Nat) : List Int := (List.range s).map fun k => gi x k + gi y (gi b k).toNat
theorem bothT_len {x y b : List Int} {s : Nat} : (bothT x y b s).length = s := by simp [bothT]
theorem bothT_at {x y b : List Int} {s k : Nat} (h : k < s) : gi (bothT x y b s) k = gi x k + gi y (gi b k).toNat := by
  rw [gi_of (by rw [bothT_len]; exact h)]; simp [bothT]
theorem bothT_one {x y b : List Int} {s : Nat} : bothT x y b (s + 1) = bothT x y b s ++ [gi x s + gi y (gi b s).toNat] := by simp [bothT, List.range_succ]
def lm1 (a : List Int) : Prop := ∀ k : Nat, -1000 ≤ gi a k ∧ gi a k ≤ 1000
theorem tmod_lim {x m : Int} (hm : 1 ≤ m ∧ m ≤ 16) : -16 ≤ x.tmod m ∧ x.tmod m ≤ 16 := by
  by_cases h : 0 ≤ x
  · have h1 := Int.tmod_nonneg m h
    have h2 := Int.tmod_lt_of_pos x (show 0 < m by omega)
    omega
  · have h1 := Int.tmod_nonneg m (a := -x) (by omega)
    have h2 := Int.tmod_lt_of_pos (-x) (show 0 < m by omega)
    rw [Int.neg_tmod] at h1 h2
    omega
theorem c_impl_sumsAt {a : List Int} {m n : Int} {A : List (List Int)} {f : FuncId} {cap : List V} (hf : isFn Try.prog f = true) (hcap : ∀ h, dvs h cap = cap) (hsc : ∀ ns, scvs ns cap = true) (ha : lm1 a) (hm : 1 ≤ m ∧ m ≤ 16) (hA : A.length ≤ 16) (hat : ∀ l ∈ A, (∀ y ∈ l, 0 ≤ y ∧ y < n) ∧ l.length ≤ 16)
    (hfn : ∀ x : Int, 0 ≤ x → x < n → PSpec Try.prog f (.int .i64 x :: cap) fun v => v = .int .i64 (gi a x.toNat)) :
    PSpec Try.prog 61 [.sl A.length (vl A), .int .i64 m, .fn f cap] fun v => v = .own 2 1 A.length (vi .i64 (smL a m A)) := by
  refine impl_sumsAt_f.f ?_
  simp (disch := first | omega | (simp only [List.length_append, List.length_cons, List.length_nil, List.length_replicate, List.length_set, List.length_take, List.length_drop, vi_len, vb_len, vo_len, vl_len, vn_len]; omega)) only [↓EC, EV, EL, E2, E3, ER, seval, ↓reduceIte, false_imp_iff, impl_sumsAt_F]
  refine LP_ofE (σ := Nat) [1, 1] 100000 [] (fun s => [.own 2 1 s (vi .i64 (smL a m (A.take s))), .int .i64 s]) (fun s => []) (fun s => s ≤ A.length) (fun s => A.length - s) 0 (by simp [frameOk, names, lpz, sclp, scv, scvs, vi_nrf, nrfs, nrf, sc_vi, hsc, vl_nrf, sc_vl]) (Nat.zero_le _) ?_ ?_
  · simp (disch := first | omega | (simp only [List.length_append, List.length_cons, List.length_nil, List.length_replicate, List.length_set, List.length_take, List.length_drop, vi_len, vb_len, vo_len, vl_len, vn_len]; omega)) only [↓EC, EV, EL, E2, E3, ER, seval, ↓reduceIte, false_imp_iff, ColV_def]
    exact ⟨fun _ => trivial, rfl⟩
  · rintro i h1
    have hml : (smL a m (A.take i)).length = i := by simp [smL]; omega
    simp (disch := first | omega | (simp only [List.length_append, List.length_cons, List.length_nil, List.length_replicate, List.length_set, List.length_take, List.length_drop, vi_len, vb_len, vo_len, vl_len, vn_len]; omega)) only [↓EC, EV, EL, E2, E3, ER, seval, ↓reduceIte, false_imp_iff, ColV_def, lheap_def]
    (refine Split.mk (fun h => ?_) (fun h => ?_) <;> (try simp only [decide_eq_true_eq, decide_eq_false_iff_not, beq_iff_eq, bne_iff_ne, beq_eq_false_iff_ne, bne_eq_false_iff_eq, Bool.not_eq_true', Bool.not_eq_false', Bool.and_eq_true, Bool.or_eq_true, Bool.and_eq_false_iff, Bool.or_eq_false_iff, Int.not_lt, Int.not_le, Bool.false_eq_true, Bool.true_eq_false, false_and, and_false, true_and, and_true, or_false, false_or, or_true, true_or, not_true_eq_false, not_false_eq_true] at h))
    · have hi : i < A.length := by omega
      have hai := hat _ (gl_mem hi)
      (try simp (disch := first | omega | (simp only [List.length_append, List.length_cons, List.length_nil, List.length_replicate, List.length_set, List.length_take, List.length_drop, vi_len, vb_len, vo_len, vl_len, vn_len]; omega)) only [↓EC, EV, EL, E2, E3, ER, seval, ↓reduceIte, false_imp_iff])
      refine LP_of (σ := Nat) 200000 [(100000, 2, 1)] (fun s => [.int .i64 (sumT a (gl A i) s), .int .i64 s]) (fun s => [vi .i64 (smL a m (A.take i))]) (fun s => s ≤ (gl A i).length) (fun s => (gl A i).length - s) 0 (by simp [frameOk, names, lpz, sclp, scv, scvs, vi_nrf, nrfs, nrf, sc_vi, hsc, vl_nrf, sc_vl]) (Nat.zero_le _) ?_ ?_
      · simp (disch := first | omega | (simp only [List.length_append, List.length_cons, List.length_nil, List.length_replicate, List.length_set, List.length_take, List.length_drop, vi_len, vb_len, vo_len, vl_len, vn_len]; omega)) only [↓EC, EV, EL, E2, E3, ER, seval, ↓reduceIte, false_imp_iff, ColV_def]
        rfl
      · rintro s g1
        have q1 := sumT_lim (c := gl A i) ha s
        simp (disch := first | omega | (simp only [List.length_append, List.length_cons, List.length_nil, List.length_replicate, List.length_set, List.length_take, List.length_drop, vi_len, vb_len, vo_len, vl_len, vn_len]; omega)) only [↓EC, EV, EL, E2, E3, ER, seval, ↓reduceIte, false_imp_iff, ColV_def, lheap_def]
        (refine Split.mk (fun h => ?_) (fun h => ?_) <;> (try simp only [decide_eq_true_eq, decide_eq_false_iff_not, beq_iff_eq, bne_iff_ne, beq_eq_false_iff_ne, bne_eq_false_iff_eq, Bool.not_eq_true', Bool.not_eq_false', Bool.and_eq_true, Bool.or_eq_true, Bool.and_eq_false_iff, Bool.or_eq_false_iff, Int.not_lt, Int.not_le, Bool.false_eq_true, Bool.true_eq_false, false_and, and_false, true_and, and_true, or_false, false_or, or_true, true_or, not_true_eq_false, not_false_eq_true] at h))
        · have hs : s < (gl A i).length := by omega
          have hx := hai.1 (gi (gl A i) s) (by rw [gi_of hs]; exact List.getElem_mem hs)
          have q2 := ha (gi (gl A i) s).toNat
          (try simp (disch := first | omega | (simp only [List.length_append, List.length_cons, List.length_nil, List.length_replicate, List.length_set, List.length_take, List.length_drop, vi_len, vb_len, vo_len, vl_len, vn_len]; omega)) only [↓EC, EV, EL, E2, E3, ER, seval, ↓reduceIte, false_imp_iff, hf, hcap])
          refine pcd_v (hfn _ hx.1 hx.2) ?_
          (try simp (disch := first | omega | (simp only [List.length_append, List.length_cons, List.length_nil, List.length_replicate, List.length_set, List.length_take, List.length_drop, vi_len, vb_len, vo_len, vl_len, vn_len]; omega)) only [↓EC, EV, EL, E2, E3, ER, seval, ↓reduceIte, false_imp_iff])
          exact ⟨s + 1, rfl, by omega, by omega⟩
        · have : s = (gl A i).length := by omega
          subst this
          have q3 := tmod_lim (x := sumT a (gl A i) (gl A i).length) hm
          (try simp (disch := first | omega | (simp only [List.length_append, List.length_cons, List.length_nil, List.length_replicate, List.length_set, List.length_take, List.length_drop, vi_len, vb_len, vo_len, vl_len, vn_len]; omega)) only [↓EC, EV, EL, E2, E3, ER, seval, ↓reduceIte, false_imp_iff, hml])
          refine ⟨i + 1, ?_, by omega, by omega⟩
          rw [take_gl hi]
          simp [smL]
    · (try simp (disch := first | omega | (simp only [List.length_append, List.length_cons, List.length_nil, List.length_replicate, List.length_set, List.length_take, List.length_drop, vi_len, vb_len, vo_len, vl_len, vn_len]; omega)) only [↓EC, EV, EL, E2, E3, ER, seval, ↓reduceIte, false_imp_iff])
      have : i = A.length := by omega
      subst this
      rfl
theorem c_impl_sv1 {a : List Int} {n x : Int} (h0 : 0 ≤ x) (h1 : x < n) (ha : (a.length : Int) = n) : PSpec Try.prog 63 [.int .i64 x, .pf [.sl a.length (vi .i64 a)] 0] fun v => v = .int .i64 (gi a x.toNat) := by
  refine impl_sumsOfVoltages_1_f.f ?_
  simp (disch := first | omega | (simp only [List.length_append, List.length_cons, List.length_nil, List.length_replicate, List.length_set, List.length_take, List.length_drop, vi_len, vb_len, vo_len, vl_len, vn_len]; omega)) only [↓EC, EV, EL, E2, E3, ER, seval, ↓reduceIte, false_imp_iff, impl_sumsOfVoltages_1_F]
theorem c_impl_sv2 {a : List Int} {n x : Int} (h0 : 0 ≤ x) (h1 : x < n) (ha : (a.length : Int) = n) : PSpec Try.prog 64 [.int .i64 x, .pf [.sl a.length (vi .i64 a)] 0] fun v => v = .int .i64 (gi a x.toNat) := by
  refine impl_sumsOfVoltages_2_f.f ?_
  simp (disch := first | omega | (simp only [List.length_append, List.length_cons, List.length_nil, List.length_replicate, List.length_set, List.length_take, List.length_drop, vi_len, vb_len, vo_len, vl_len, vn_len]; omega)) only [↓EC, EV, EL, E2, E3, ER, seval, ↓reduceIte, false_imp_iff, impl_sumsOfVoltages_2_F]
theorem c_impl_sv3 {a c b w : List Int} {n x : Int} (h0 : 0 ≤ x) (h1 : x < n) (hn : n ≤ 16) (ha : (a.length : Int) = n) (hc : (c.length : Int) = n) (hb : b.length = 16) (hw : w.length = 16) (hbv : ltP b n) (la : lm1 a) (lc : lm1 c) :
    PSpec Try.prog 66 [.int .i64 x, .pf [.sl a.length (vi .i64 a)] 0, .pf [.sl c.length (vi .i64 c)] 0, .pf (.int .i64 n :: vi .u8 (b ++ w)) 0] fun v => v = .int .i64 (gi (bothT a c b n.toNat) x.toNat) := by
  have q1 := hbv x.toNat (by omega)
  have q2 := la x.toNat
  have q3 := lc (gi b x.toNat).toNat
  rw [bothT_at (by omega)]
  refine impl_sumsOfVoltages_3_f.f ?_
  simp (disch := first | omega | (simp only [List.length_append, List.length_cons, List.length_nil, List.length_replicate, List.length_set, List.length_take, List.length_drop, vi_len, vb_len, vo_len, vl_len, vn_len]; omega)) only [↓EC, EV, EL, E2, E3, ER, seval, ↓reduceIte, false_imp_iff, impl_sumsOfVoltages_3_F, hb, hw]

def svL (n : Int) (b w : List Int) (m : Int) (x y : List Int) : List (List Int) := [smL x m (cyc b n), smL y m (cyc w n), smL (bothT x y b n.toNat) m (cyc (faceP b w n) n)]
theorem bothT_lm {x y b : List Int} {s : Nat} (hx : ∀ k : Nat, -400 ≤ gi x k ∧ gi x k ≤ 400) (hy : ∀ k : Nat, -400 ≤ gi y k ∧ gi y k ≤ 400) : lm1 (bothT x y b s) := fun k => by
  by_cases h : k < s
  · rw [bothT_at h]
    have h1 := hx k
    have h2 := hy (gi b k).toNat
    omega
  · rw [gi_over (by rw [bothT_len]; omega)]; omega
theorem c_impl_sumsOfVoltages {n m : Int} {b w x y : List Int} (hb : okP b) (hw : okP w) (h0 : isD n b w) (hm : 1 ≤ m ∧ m ≤ 16) (hxl : (x.length : Int) = n) (hyl : (y.length : Int) = n)
    (hx : ∀ k : Nat, -400 ≤ gi x k ∧ gi x k ≤ 400) (hy : ∀ k : Nat, -400 ≤ gi y k ∧ gi y k ≤ 400) :
    PSpec Try.prog 36 [vD n b w, .int .i64 m, .sl x.length (vi .i64 x), .sl y.length (vi .i64 y)] fun v => v = .own 25 1 3 (vo 2 (svL n b w m x y)) := by
  have hl := hb.len
  have hk := hw.len
  have hn := h0.pb.1
  have lb := h0.pb.lo hb
  have lw := h0.pw.lo hw
  have lx : lm1 x := fun k => by have := hx k; omega
  have ly : lm1 y := fun k => by have := hy k; omega
  have hbl := cyc_lim (p := b) hn
  have hwl := cyc_lim (p := w) hn
  have hfl := cyc_lim (p := faceP b w n) hn
  have e1 : (smL x m (cyc b n)).length = (cyc b n).length := by simp [smL]
  have e2 : (smL y m (cyc w n)).length = (cyc w n).length := by simp [smL]
  have e3 : (smL (bothT x y b n.toNat) m (cyc (faceP b w n) n)).length = (cyc (faceP b w n) n).length := by simp [smL]
  refine impl_sumsOfVoltages_f.f ?_
  have hfc := c_impl_face lb lw hn
  unfold vD at hfc ⊢
  simp (disch := first | omega | (simp only [List.length_append, List.length_cons, List.length_nil, List.length_replicate, List.length_set, List.length_take, List.length_drop, vi_len, vb_len, vo_len, vl_len, vn_len]; omega)) only [↓EC, EV, EL, E2, E3, ER, seval, ↓reduceIte, false_imp_iff, impl_sumsOfVoltages_F, hl, hk]
  refine pcd_v (c_impl_cycles lb hn) ?_
  (try simp (disch := first | omega | (simp only [List.length_append, List.length_cons, List.length_nil, List.length_replicate, List.length_set, List.length_take, List.length_drop, vi_len, vb_len, vo_len, vl_len, vn_len]; omega)) only [↓EC, EV, EL, E2, E3, ER, seval, ↓reduceIte, false_imp_iff, hl, hk])
  refine pcd_o (c_impl_sumsAt (n := n) (cap := [.pf [.sl x.length (vi .i64 x)] 0]) (by kernel_rfl) (fun h => by simp [dvs, dv, vw, vws, vi_vws]) (fun ns => by simp [scvs, scv, nrfs, nrf, vi_nrf]) lx hm hbl (cyc_at (h0.pb.ltP hb) hn) fun z z0 z1 => c_impl_sv1 z0 z1 hxl) ?_
  (try simp (disch := first | omega | (simp only [List.length_append, List.length_cons, List.length_nil, List.length_replicate, List.length_set, List.length_take, List.length_drop, vi_len, vb_len, vo_len, vl_len, vn_len]; omega)) only [↓EC, EV, EL, E2, E3, ER, seval, ↓reduceIte, false_imp_iff, hl, hk])
  refine pcd_v (c_impl_cycles lw hn) ?_
  (try simp (disch := first | omega | (simp only [List.length_append, List.length_cons, List.length_nil, List.length_replicate, List.length_set, List.length_take, List.length_drop, vi_len, vb_len, vo_len, vl_len, vn_len]; omega)) only [↓EC, EV, EL, E2, E3, ER, seval, ↓reduceIte, false_imp_iff, hl, hk])
  refine pcd_o (c_impl_sumsAt (n := n) (cap := [.pf [.sl y.length (vi .i64 y)] 0]) (by kernel_rfl) (fun h => by simp [dvs, dv, vw, vws, vi_vws]) (fun ns => by simp [scvs, scv, nrfs, nrf, vi_nrf]) ly hm hwl (cyc_at (h0.pw.ltP hw) hn) fun z z0 z1 => c_impl_sv2 z0 z1 hyl) ?_
  (try simp (disch := first | omega | (simp only [List.length_append, List.length_cons, List.length_nil, List.length_replicate, List.length_set, List.length_take, List.length_drop, vi_len, vb_len, vo_len, vl_len, vn_len]; omega)) only [↓EC, EV, EL, E2, E3, ER, seval, ↓reduceIte, false_imp_iff, hl, hk])
  refine pcd_v hfc ?_
  (try simp (disch := first | omega | (simp only [List.length_append, List.length_cons, List.length_nil, List.length_replicate, List.length_set, List.length_take, List.length_drop, vi_len, vb_len, vo_len, vl_len, vn_len]; omega)) only [↓EC, EV, EL, E2, E3, ER, seval, ↓reduceIte, false_imp_iff, hl, hk])
  refine pcd_v (c_impl_cycles (backP_lo hn) hn) ?_
  (try simp (disch := first | omega | (simp only [List.length_append, List.length_cons, List.length_nil, List.length_replicate, List.length_set, List.length_take, List.length_drop, vi_len, vb_len, vo_len, vl_len, vn_len]; omega)) only [↓EC, EV, EL, E2, E3, ER, seval, ↓reduceIte, false_imp_iff, hl, hk])
  refine pcd_o (c_impl_sumsAt (n := n) (cap := [.pf [.sl x.length (vi .i64 x)] 0, .pf [.sl y.length (vi .i64 y)] 0, .pf (.int .i64 n :: vi .u8 (b ++ w)) 0]) (by kernel_rfl) (fun h => by simp [dvs, dv, vw, vws, vi_vws]) (fun ns => by simp [scvs, scv, nrfs, nrf, vi_nrf]) (bothT_lm hx hy) hm hfl (cyc_at (backP_lt (p := thenP b w n) hn) hn)
    fun z z0 z1 => c_impl_sv3 z0 z1 hn.2 hxl hyl hl hk (h0.pb.ltP hb) lx ly) ?_
  (try simp (disch := first | omega | (simp only [List.length_append, List.length_cons, List.length_nil, List.length_replicate, List.length_set, List.length_take, List.length_drop, vi_len, vb_len, vo_len, vl_len, vn_len]; omega)) only [↓EC, EV, EL, E2, E3, ER, seval, ↓reduceIte, false_imp_iff, hl, hk])
  simp only [svL, vo, List.map_cons, List.map_nil, e1, e2, e3]
theorem c_spec_l09Sums {n m : Int} {b w x y : List Int} (hb : okP b) (hw : okP w) (h0 : isD n b w) (hm : 1 ≤ m ∧ m ≤ 16) (hxl : (x.length : Int) = n) (hyl : (y.length : Int) = n)
    (hx : ∀ k : Nat, -400 ≤ gi x k ∧ gi x k ≤ 400) (hy : ∀ k : Nat, -400 ≤ gi y k ∧ gi y k ≤ 400) :
    PSpec Try.prog 33 [vD n b w, .int .i64 m, .sl x.length (vi .i64 x), .sl y.length (vi .i64 y)] fun v => v = .own 25 1 3 (vo 2 (svL n b w m x y)) := by
  have hl := hb.len
  have hk := hw.len
  have hn := h0.pb.1
  have lb := h0.pb.lo hb
  have lw := h0.pw.lo hw
  have lf : lo16 (faceP b w n) := backP_lo hn
  have hfl := lf.1
  have lx : lm1 x := fun k => by have := hx k; omega
  have ly : lm1 y := fun k => by have := hy k; omega
  have hbv := h0.pb.ltP hb
  refine spec_l09Sums_f.f ?_
  have hfc := c_spec_l01Face lb lw hn
  unfold vD at hfc ⊢
  simp (disch := first | omega | (simp only [List.length_append, List.length_cons, List.length_nil, List.length_replicate, List.length_set, List.length_take, List.length_drop, vi_len, vb_len, vo_len, vl_len, vn_len]; omega)) only [↓EC, EV, EL, E2, E3, ER, seval, ↓reduceIte, false_imp_iff, spec_l09Sums_F, hl, hk]
  refine LP_ofE (σ := Nat) [1, 1] 100000 [(68, 31, 1)] (fun s => [.own 2 1 s (vi .i64 (bothT x y b s)), .int .i64 s]) (fun s => [.int .i64 n :: vi .u8 (b ++ w)]) (fun s => (s : Int) ≤ n) (fun s => (n - s).toNat) 0 (by simp [frameOk, names, lpz, sclp, scv, scvs, vi_nrf, vb_nrf, vt_nrf, v2_nrf, v3_nrf, nrfs, nrf, sc_vi, sc_vb, sc_vt, sc_v2, sc_v3, sc_vo, sc_vl, vo_nrf, vl_nrf, sc_vn, vn_nrf]) (by simp only [Int.natCast_zero]; omega) ?_ ?_
  · simp (disch := first | omega | (simp only [List.length_append, List.length_cons, List.length_nil, List.length_replicate, List.length_set, List.length_take, List.length_drop, vi_len, vb_len, vo_len, vl_len, vn_len]; omega)) only [↓EC, EV, EL, E2, E3, ER, seval, ↓reduceIte, false_imp_iff, ColV_def]
    exact ⟨fun _ => trivial, rfl⟩
  · rintro s h1
    have hbl := bothT_len (x := x) (y := y) (b := b) (s := s)
    simp (disch := first | omega | (simp only [List.length_append, List.length_cons, List.length_nil, List.length_replicate, List.length_set, List.length_take, List.length_drop, vi_len, vb_len, vo_len, vl_len, vn_len]; omega)) only [↓EC, EV, EL, E2, E3, ER, seval, ↓reduceIte, false_imp_iff, ColV_def, lheap_def]
    (refine Split.mk (fun h => ?_) (fun h => ?_) <;> (try simp only [decide_eq_true_eq, decide_eq_false_iff_not, beq_iff_eq, bne_iff_ne, beq_eq_false_iff_ne, bne_eq_false_iff_eq, Bool.not_eq_true', Bool.not_eq_false', Bool.and_eq_true, Bool.or_eq_true, Bool.and_eq_false_iff, Bool.or_eq_false_iff, Int.not_lt, Int.not_le, Bool.false_eq_true, Bool.true_eq_false, false_and, and_false, true_and, and_true, or_false, false_or, or_true, true_or, not_true_eq_false, not_false_eq_true] at h))
    · have q1 := hbv s (by omega)
      have q2 := hx s
      have q3 := hy (gi b s).toNat
      (try simp (disch := first | omega | (simp only [List.length_append, List.length_cons, List.length_nil, List.length_replicate, List.length_set, List.length_take, List.length_drop, vi_len, vb_len, vo_len, vl_len, vn_len]; omega)) only [↓EC, EV, EL, E2, E3, ER, seval, ↓reduceIte, false_imp_iff, hl, hk, hbl])
      exact ⟨s + 1, by rw [bothT_one]; rfl, by omega, by omega⟩
    · have : s = n.toNat := by omega
      subst this
      (try simp (disch := first | omega | (simp only [List.length_append, List.length_cons, List.length_nil, List.length_replicate, List.length_set, List.length_take, List.length_drop, vi_len, vb_len, vo_len, vl_len, vn_len]; omega)) only [↓EC, EV, EL, E2, E3, ER, seval, ↓reduceIte, false_imp_iff, hl, hk])
      refine pcd_v hfc ?_
      (try simp (disch := first | omega | (simp only [List.length_append, List.length_cons, List.length_nil, List.length_replicate, List.length_set, List.length_take, List.length_drop, vi_len, vb_len, vo_len, vl_len, vn_len]; omega)) only [↓EC, EV, EL, E2, E3, ER, seval, ↓reduceIte, false_imp_iff, hl, hk, hfl])
      have t1 : List.take 16 (b ++ w ++ faceP b w n) = b := by rw [List.append_assoc, List.take_left' hl]
      have t2 : List.take 16 (List.drop 16 (b ++ w ++ faceP b w n)) = w := by rw [List.append_assoc, List.drop_left' hl, List.take_left' hk]
      have hbo : lm1 (bothT x y b n.toNat) := bothT_lm hx hy
      have hsv : ∀ k, k ≤ 3 → ((svL n b w m x y).take k).length = k := fun k hk => by simp [svL]; omega
      refine LP_ofE (σ := Nat) [1] 200000 [(68, 31, 1), (112, 29, 16), (116, 25, 1)] (fun s => [.own 25 1 s (vo 2 ((svL n b w m x y).take s)), .int .i64 s]) (fun s => [.int .i64 n :: vi .u8 (b ++ w), vi .u8 (b ++ w ++ faceP b w n), [.sl x.length (vi .i64 x), .sl y.length (vi .i64 y), .own 2 1 n.toNat (vi .i64 (bothT x y b n.toNat))]])
        (fun s => s ≤ 3) (fun s => 3 - s) 0 (by simp [frameOk, names, lpz, sclp, scv, scvs, vi_nrf, vb_nrf, vt_nrf, v2_nrf, v3_nrf, nrfs, nrf, sc_vi, sc_vb, sc_vt, sc_v2, sc_v3, sc_vo, sc_vl, vo_nrf, vl_nrf, sc_vn, vn_nrf]) (by decide) ?_ ?_
      · simp (disch := first | omega | (simp only [List.length_append, List.length_cons, List.length_nil, List.length_replicate, List.length_set, List.length_take, List.length_drop, vi_len, vb_len, vo_len, vl_len, vn_len]; omega)) only [↓EC, EV, EL, E2, E3, ER, seval, ↓reduceIte, false_imp_iff, ColV_def]
        repeat' (first | (refine And.intro ?_ ?_) | rfl | (intro _; trivial) | trivial)
      · rintro k h1
        simp (disch := first | omega | (simp only [List.length_append, List.length_cons, List.length_nil, List.length_replicate, List.length_set, List.length_take, List.length_drop, vi_len, vb_len, vo_len, vl_len, vn_len]; omega)) only [↓EC, EV, EL, E2, E3, ER, seval, ↓reduceIte, false_imp_iff, ColV_def, lheap_def]
        (refine Split.mk (fun h => ?_) (fun h => ?_) <;> (try simp only [decide_eq_true_eq, decide_eq_false_iff_not, beq_iff_eq, bne_iff_ne, beq_eq_false_iff_ne, bne_eq_false_iff_eq, Bool.not_eq_true', Bool.not_eq_false', Bool.and_eq_true, Bool.or_eq_true, Bool.and_eq_false_iff, Bool.or_eq_false_iff, Int.not_lt, Int.not_le, Bool.false_eq_true, Bool.true_eq_false, false_and, and_false, true_and, and_true, or_false, false_or, or_true, true_or, not_true_eq_false, not_false_eq_true] at h))
        · have hk3 : k = 0 ∨ k = 1 ∨ k = 2 := by omega
          rcases hk3 with rfl | rfl | rfl
          · have hat := cyc_at hbv hn
            have hcl := cyc_lim (p := b) hn
            (try simp (disch := first | omega | (simp only [List.length_append, List.length_cons, List.length_nil, List.length_replicate, List.length_set, List.length_take, List.length_drop, vi_len, vb_len, vo_len, vl_len, vn_len]; omega)) only [↓EC, EV, EL, E2, E3, ER, seval, ↓reduceIte, false_imp_iff, hl, hk, hfl, t1, t2])
            refine pcd_v (c_spec_l01Cycles lb hn) ?_
            (try simp (disch := first | omega | (simp only [List.length_append, List.length_cons, List.length_nil, List.length_replicate, List.length_set, List.length_take, List.length_drop, vi_len, vb_len, vo_len, vl_len, vn_len]; omega)) only [↓EC, EV, EL, E2, E3, ER, seval, ↓reduceIte, false_imp_iff, hl, hk, hfl])
            refine LP_ofE (σ := Nat) [1, 1] 300000 [(68, 31, 1), (112, 29, 16), (116, 25, 1), (200000, 25, 1)] (fun s => [.own 2 1 s (vi .i64 (smL x m ((cyc b n).take s))), .int .i64 s]) (fun s => [.int .i64 n :: vi .u8 (b ++ w), vi .u8 (b ++ w ++ faceP b w n), [.sl x.length (vi .i64 x), .sl y.length (vi .i64 y), .own 2 1 n.toNat (vi .i64 (bothT x y b n.toNat))], vo 2 ((svL n b w m x y).take 0)])
              (fun s => s ≤ (cyc b n).length) (fun s => (cyc b n).length - s) 0 (by simp [frameOk, names, lpz, sclp, scv, scvs, vi_nrf, vb_nrf, vt_nrf, v2_nrf, v3_nrf, nrfs, nrf, sc_vi, sc_vb, sc_vt, sc_v2, sc_v3, sc_vo, sc_vl, vo_nrf, vl_nrf, sc_vn, vn_nrf]) (Nat.zero_le _) ?_ ?_
            · simp (disch := first | omega | (simp only [List.length_append, List.length_cons, List.length_nil, List.length_replicate, List.length_set, List.length_take, List.length_drop, vi_len, vb_len, vo_len, vl_len, vn_len]; omega)) only [↓EC, EV, EL, E2, E3, ER, seval, ↓reduceIte, false_imp_iff, ColV_def, hsv]
              repeat' (first | (refine And.intro ?_ ?_) | rfl | (intro _; trivial) | trivial)
            · rintro i h2
              have hml : (smL x m ((cyc b n).take i)).length = i := by simp [smL]; omega
              simp (disch := first | omega | (simp only [List.length_append, List.length_cons, List.length_nil, List.length_replicate, List.length_set, List.length_take, List.length_drop, vi_len, vb_len, vo_len, vl_len, vn_len]; omega)) only [↓EC, EV, EL, E2, E3, ER, seval, ↓reduceIte, false_imp_iff, ColV_def, lheap_def, hsv]
              (refine Split.mk (fun h => ?_) (fun h => ?_) <;> (try simp only [decide_eq_true_eq, decide_eq_false_iff_not, beq_iff_eq, bne_iff_ne, beq_eq_false_iff_ne, bne_eq_false_iff_eq, Bool.not_eq_true', Bool.not_eq_false', Bool.and_eq_true, Bool.or_eq_true, Bool.and_eq_false_iff, Bool.or_eq_false_iff, Int.not_lt, Int.not_le, Bool.false_eq_true, Bool.true_eq_false, false_and, and_false, true_and, and_true, or_false, false_or, or_true, true_or, not_true_eq_false, not_false_eq_true] at h))
              · have hi : i < (cyc b n).length := by omega
                have hai := hat _ (gl_mem hi)
                (try simp (disch := first | omega | (simp only [List.length_append, List.length_cons, List.length_nil, List.length_replicate, List.length_set, List.length_take, List.length_drop, vi_len, vb_len, vo_len, vl_len, vn_len]; omega)) only [↓EC, EV, EL, E2, E3, ER, seval, ↓reduceIte, false_imp_iff])
                refine LP_of (σ := Nat) 400000 [(68, 31, 1), (112, 29, 16), (116, 25, 1), (200000, 25, 1), (300000, 2, 1)] (fun s => [.int .i64 (sumT x (gl (cyc b n) i) s), .int .i64 s])
                  (fun s => [.int .i64 n :: vi .u8 (b ++ w), vi .u8 (b ++ w ++ faceP b w n), [.sl x.length (vi .i64 x), .sl y.length (vi .i64 y), .own 2 1 n.toNat (vi .i64 (bothT x y b n.toNat))], vo 2 ((svL n b w m x y).take 0), vi .i64 (smL x m ((cyc b n).take i))])
                  (fun s => s ≤ (gl (cyc b n) i).length) (fun s => (gl (cyc b n) i).length - s) 0 (by simp [frameOk, names, lpz, sclp, scv, scvs, vi_nrf, vb_nrf, vt_nrf, v2_nrf, v3_nrf, nrfs, nrf, sc_vi, sc_vb, sc_vt, sc_v2, sc_v3, sc_vo, sc_vl, vo_nrf, vl_nrf, sc_vn, vn_nrf]) (Nat.zero_le _) ?_ ?_
                · simp (disch := first | omega | (simp only [List.length_append, List.length_cons, List.length_nil, List.length_replicate, List.length_set, List.length_take, List.length_drop, vi_len, vb_len, vo_len, vl_len, vn_len]; omega)) only [↓EC, EV, EL, E2, E3, ER, seval, ↓reduceIte, false_imp_iff, ColV_def, hsv]
                  repeat' (first | (refine And.intro ?_ ?_) | rfl | (intro _; trivial) | trivial)
                · rintro s g1
                  have q1 := sumT_lim (c := gl (cyc b n) i) lx s
                  simp (disch := first | omega | (simp only [List.length_append, List.length_cons, List.length_nil, List.length_replicate, List.length_set, List.length_take, List.length_drop, vi_len, vb_len, vo_len, vl_len, vn_len]; omega)) only [↓EC, EV, EL, E2, E3, ER, seval, ↓reduceIte, false_imp_iff, ColV_def, lheap_def, hsv]
                  (refine Split.mk (fun h => ?_) (fun h => ?_) <;> (try simp only [decide_eq_true_eq, decide_eq_false_iff_not, beq_iff_eq, bne_iff_ne, beq_eq_false_iff_ne, bne_eq_false_iff_eq, Bool.not_eq_true', Bool.not_eq_false', Bool.and_eq_true, Bool.or_eq_true, Bool.and_eq_false_iff, Bool.or_eq_false_iff, Int.not_lt, Int.not_le, Bool.false_eq_true, Bool.true_eq_false, false_and, and_false, true_and, and_true, or_false, false_or, or_true, true_or, not_true_eq_false, not_false_eq_true] at h))
                  · have hs : s < (gl (cyc b n) i).length := by omega
                    have hz := hai.1 (gi (gl (cyc b n) i) s) (by rw [gi_of hs]; exact List.getElem_mem hs)
                    have q2 := lx (gi (gl (cyc b n) i) s).toNat
                    (try simp (disch := first | omega | (simp only [List.length_append, List.length_cons, List.length_nil, List.length_replicate, List.length_set, List.length_take, List.length_drop, vi_len, vb_len, vo_len, vl_len, vn_len]; omega)) only [↓EC, EV, EL, E2, E3, ER, seval, ↓reduceIte, false_imp_iff, hl, hk, hfl, hbl, hsv])
                    (refine ⟨s + 1, ?_⟩; repeat' (first | (refine And.intro ?_ ?_) | rfl | omega | trivial))
                  · have : s = (gl (cyc b n) i).length := by omega
                    subst this
                    have q3 := tmod_lim (x := sumT x (gl (cyc b n) i) (gl (cyc b n) i).length) hm
                    (try simp (disch := first | omega | (simp only [List.length_append, List.length_cons, List.length_nil, List.length_replicate, List.length_set, List.length_take, List.length_drop, vi_len, vb_len, vo_len, vl_len, vn_len]; omega)) only [↓EC, EV, EL, E2, E3, ER, seval, ↓reduceIte, false_imp_iff, hml, hsv])
                    refine ⟨i + 1, ?_⟩
                    rw [take_gl hi]
                    repeat' (first | (refine And.intro ?_ ?_) | rfl | omega | trivial | (simp [smL]; done))
              · have : i = (cyc b n).length := by omega
                subst this
                (try simp (disch := first | omega | (simp only [List.length_append, List.length_cons, List.length_nil, List.length_replicate, List.length_set, List.length_take, List.length_drop, vi_len, vb_len, vo_len, vl_len, vn_len]; omega)) only [↓EC, EV, EL, E2, E3, ER, seval, ↓reduceIte, false_imp_iff, hml, hsv])
                refine ⟨1, ?_⟩
                repeat' (first | (refine And.intro ?_ ?_) | rfl | omega | trivial | (simp [svL, vo, smL]; done))
          · have hat := cyc_at (h0.pw.ltP hw) hn
            have hcl := cyc_lim (p := w) hn
            (try simp (disch := first | omega | (simp only [List.length_append, List.length_cons, List.length_nil, List.length_replicate, List.length_set, List.length_take, List.length_drop, vi_len, vb_len, vo_len, vl_len, vn_len]; omega)) only [↓EC, EV, EL, E2, E3, ER, seval, ↓reduceIte, false_imp_iff, hl, hk, hfl, t1, t2])
            refine pcd_v (c_spec_l01Cycles lw hn) ?_
            (try simp (disch := first | omega | (simp only [List.length_append, List.length_cons, List.length_nil, List.length_replicate, List.length_set, List.length_take, List.length_drop, vi_len, vb_len, vo_len, vl_len, vn_len]; omega)) only [↓EC, EV, EL, E2, E3, ER, seval, ↓reduceIte, false_imp_iff, hl, hk, hfl])
            refine LP_ofE (σ := Nat) [1, 1] 300000 [(68, 31, 1), (112, 29, 16), (116, 25, 1), (200000, 25, 1)] (fun s => [.own 2 1 s (vi .i64 (smL y m ((cyc w n).take s))), .int .i64 s]) (fun s => [.int .i64 n :: vi .u8 (b ++ w), vi .u8 (b ++ w ++ faceP b w n), [.sl x.length (vi .i64 x), .sl y.length (vi .i64 y), .own 2 1 n.toNat (vi .i64 (bothT x y b n.toNat))], vo 2 ((svL n b w m x y).take 1)])
              (fun s => s ≤ (cyc w n).length) (fun s => (cyc w n).length - s) 0 (by simp [frameOk, names, lpz, sclp, scv, scvs, vi_nrf, vb_nrf, vt_nrf, v2_nrf, v3_nrf, nrfs, nrf, sc_vi, sc_vb, sc_vt, sc_v2, sc_v3, sc_vo, sc_vl, vo_nrf, vl_nrf, sc_vn, vn_nrf]) (Nat.zero_le _) ?_ ?_
            · simp (disch := first | omega | (simp only [List.length_append, List.length_cons, List.length_nil, List.length_replicate, List.length_set, List.length_take, List.length_drop, vi_len, vb_len, vo_len, vl_len, vn_len]; omega)) only [↓EC, EV, EL, E2, E3, ER, seval, ↓reduceIte, false_imp_iff, ColV_def, hsv]
              repeat' (first | (refine And.intro ?_ ?_) | rfl | (intro _; trivial) | trivial)
            · rintro i h2
              have hml : (smL y m ((cyc w n).take i)).length = i := by simp [smL]; omega
              simp (disch := first | omega | (simp only [List.length_append, List.length_cons, List.length_nil, List.length_replicate, List.length_set, List.length_take, List.length_drop, vi_len, vb_len, vo_len, vl_len, vn_len]; omega)) only [↓EC, EV, EL, E2, E3, ER, seval, ↓reduceIte, false_imp_iff, ColV_def, lheap_def, hsv]
              (refine Split.mk (fun h => ?_) (fun h => ?_) <;> (try simp only [decide_eq_true_eq, decide_eq_false_iff_not, beq_iff_eq, bne_iff_ne, beq_eq_false_iff_ne, bne_eq_false_iff_eq, Bool.not_eq_true', Bool.not_eq_false', Bool.and_eq_true, Bool.or_eq_true, Bool.and_eq_false_iff, Bool.or_eq_false_iff, Int.not_lt, Int.not_le, Bool.false_eq_true, Bool.true_eq_false, false_and, and_false, true_and, and_true, or_false, false_or, or_true, true_or, not_true_eq_false, not_false_eq_true] at h))
              · have hi : i < (cyc w n).length := by omega
                have hai := hat _ (gl_mem hi)
                (try simp (disch := first | omega | (simp only [List.length_append, List.length_cons, List.length_nil, List.length_replicate, List.length_set, List.length_take, List.length_drop, vi_len, vb_len, vo_len, vl_len, vn_len]; omega)) only [↓EC, EV, EL, E2, E3, ER, seval, ↓reduceIte, false_imp_iff])
                refine LP_of (σ := Nat) 400000 [(68, 31, 1), (112, 29, 16), (116, 25, 1), (200000, 25, 1), (300000, 2, 1)] (fun s => [.int .i64 (sumT y (gl (cyc w n) i) s), .int .i64 s])
                  (fun s => [.int .i64 n :: vi .u8 (b ++ w), vi .u8 (b ++ w ++ faceP b w n), [.sl x.length (vi .i64 x), .sl y.length (vi .i64 y), .own 2 1 n.toNat (vi .i64 (bothT x y b n.toNat))], vo 2 ((svL n b w m x y).take 1), vi .i64 (smL y m ((cyc w n).take i))])
                  (fun s => s ≤ (gl (cyc w n) i).length) (fun s => (gl (cyc w n) i).length - s) 0 (by simp [frameOk, names, lpz, sclp, scv, scvs, vi_nrf, vb_nrf, vt_nrf, v2_nrf, v3_nrf, nrfs, nrf, sc_vi, sc_vb, sc_vt, sc_v2, sc_v3, sc_vo, sc_vl, vo_nrf, vl_nrf, sc_vn, vn_nrf]) (Nat.zero_le _) ?_ ?_
                · simp (disch := first | omega | (simp only [List.length_append, List.length_cons, List.length_nil, List.length_replicate, List.length_set, List.length_take, List.length_drop, vi_len, vb_len, vo_len, vl_len, vn_len]; omega)) only [↓EC, EV, EL, E2, E3, ER, seval, ↓reduceIte, false_imp_iff, ColV_def, hsv]
                  repeat' (first | (refine And.intro ?_ ?_) | rfl | (intro _; trivial) | trivial)
                · rintro s g1
                  have q1 := sumT_lim (c := gl (cyc w n) i) ly s
                  simp (disch := first | omega | (simp only [List.length_append, List.length_cons, List.length_nil, List.length_replicate, List.length_set, List.length_take, List.length_drop, vi_len, vb_len, vo_len, vl_len, vn_len]; omega)) only [↓EC, EV, EL, E2, E3, ER, seval, ↓reduceIte, false_imp_iff, ColV_def, lheap_def, hsv]
                  (refine Split.mk (fun h => ?_) (fun h => ?_) <;> (try simp only [decide_eq_true_eq, decide_eq_false_iff_not, beq_iff_eq, bne_iff_ne, beq_eq_false_iff_ne, bne_eq_false_iff_eq, Bool.not_eq_true', Bool.not_eq_false', Bool.and_eq_true, Bool.or_eq_true, Bool.and_eq_false_iff, Bool.or_eq_false_iff, Int.not_lt, Int.not_le, Bool.false_eq_true, Bool.true_eq_false, false_and, and_false, true_and, and_true, or_false, false_or, or_true, true_or, not_true_eq_false, not_false_eq_true] at h))
                  · have hs : s < (gl (cyc w n) i).length := by omega
                    have hz := hai.1 (gi (gl (cyc w n) i) s) (by rw [gi_of hs]; exact List.getElem_mem hs)
                    have q2 := ly (gi (gl (cyc w n) i) s).toNat
                    (try simp (disch := first | omega | (simp only [List.length_append, List.length_cons, List.length_nil, List.length_replicate, List.length_set, List.length_take, List.length_drop, vi_len, vb_len, vo_len, vl_len, vn_len]; omega)) only [↓EC, EV, EL, E2, E3, ER, seval, ↓reduceIte, false_imp_iff, hl, hk, hfl, hbl, hsv])
                    (refine ⟨s + 1, ?_⟩; repeat' (first | (refine And.intro ?_ ?_) | rfl | omega | trivial))
                  · have : s = (gl (cyc w n) i).length := by omega
                    subst this
                    have q3 := tmod_lim (x := sumT y (gl (cyc w n) i) (gl (cyc w n) i).length) hm
                    (try simp (disch := first | omega | (simp only [List.length_append, List.length_cons, List.length_nil, List.length_replicate, List.length_set, List.length_take, List.length_drop, vi_len, vb_len, vo_len, vl_len, vn_len]; omega)) only [↓EC, EV, EL, E2, E3, ER, seval, ↓reduceIte, false_imp_iff, hml, hsv])
                    refine ⟨i + 1, ?_⟩
                    rw [take_gl hi]
                    repeat' (first | (refine And.intro ?_ ?_) | rfl | omega | trivial | (simp [smL]; done))
              · have : i = (cyc w n).length := by omega
                subst this
                (try simp (disch := first | omega | (simp only [List.length_append, List.length_cons, List.length_nil, List.length_replicate, List.length_set, List.length_take, List.length_drop, vi_len, vb_len, vo_len, vl_len, vn_len]; omega)) only [↓EC, EV, EL, E2, E3, ER, seval, ↓reduceIte, false_imp_iff, hml, hsv])
                refine ⟨2, ?_⟩
                repeat' (first | (refine And.intro ?_ ?_) | rfl | omega | trivial | (simp [svL, vo, smL]; done))
          · have hat : ∀ l ∈ cyc (faceP b w n) n, (∀ y ∈ l, 0 ≤ y ∧ y < n) ∧ l.length ≤ 16 := cyc_at (backP_lt (p := thenP b w n) hn) hn
            have hcl := cyc_lim (p := (faceP b w n)) hn
            (try simp (disch := first | omega | (simp only [List.length_append, List.length_cons, List.length_nil, List.length_replicate, List.length_set, List.length_take, List.length_drop, vi_len, vb_len, vo_len, vl_len, vn_len]; omega)) only [↓EC, EV, EL, E2, E3, ER, seval, ↓reduceIte, false_imp_iff, hl, hk, hfl, t1, t2])
            refine pcd_v (c_spec_l01Cycles lf hn) ?_
            (try simp (disch := first | omega | (simp only [List.length_append, List.length_cons, List.length_nil, List.length_replicate, List.length_set, List.length_take, List.length_drop, vi_len, vb_len, vo_len, vl_len, vn_len]; omega)) only [↓EC, EV, EL, E2, E3, ER, seval, ↓reduceIte, false_imp_iff, hl, hk, hfl])
            refine LP_ofE (σ := Nat) [1, 1] 300000 [(68, 31, 1), (112, 29, 16), (116, 25, 1), (200000, 25, 1)] (fun s => [.own 2 1 s (vi .i64 (smL (bothT x y b n.toNat) m ((cyc (faceP b w n) n).take s))), .int .i64 s]) (fun s => [.int .i64 n :: vi .u8 (b ++ w), vi .u8 (b ++ w ++ faceP b w n), [.sl x.length (vi .i64 x), .sl y.length (vi .i64 y), .own 2 1 n.toNat (vi .i64 (bothT x y b n.toNat))], vo 2 ((svL n b w m x y).take 2)])
              (fun s => s ≤ (cyc (faceP b w n) n).length) (fun s => (cyc (faceP b w n) n).length - s) 0 (by simp [frameOk, names, lpz, sclp, scv, scvs, vi_nrf, vb_nrf, vt_nrf, v2_nrf, v3_nrf, nrfs, nrf, sc_vi, sc_vb, sc_vt, sc_v2, sc_v3, sc_vo, sc_vl, vo_nrf, vl_nrf, sc_vn, vn_nrf]) (Nat.zero_le _) ?_ ?_
            · simp (disch := first | omega | (simp only [List.length_append, List.length_cons, List.length_nil, List.length_replicate, List.length_set, List.length_take, List.length_drop, vi_len, vb_len, vo_len, vl_len, vn_len]; omega)) only [↓EC, EV, EL, E2, E3, ER, seval, ↓reduceIte, false_imp_iff, ColV_def, hsv]
              repeat' (first | (refine And.intro ?_ ?_) | rfl | (intro _; trivial) | trivial)
            · rintro i h2
              have hml : (smL (bothT x y b n.toNat) m ((cyc (faceP b w n) n).take i)).length = i := by simp [smL]; omega
              simp (disch := first | omega | (simp only [List.length_append, List.length_cons, List.length_nil, List.length_replicate, List.length_set, List.length_take, List.length_drop, vi_len, vb_len, vo_len, vl_len, vn_len]; omega)) only [↓EC, EV, EL, E2, E3, ER, seval, ↓reduceIte, false_imp_iff, ColV_def, lheap_def, hsv]
              (refine Split.mk (fun h => ?_) (fun h => ?_) <;> (try simp only [decide_eq_true_eq, decide_eq_false_iff_not, beq_iff_eq, bne_iff_ne, beq_eq_false_iff_ne, bne_eq_false_iff_eq, Bool.not_eq_true', Bool.not_eq_false', Bool.and_eq_true, Bool.or_eq_true, Bool.and_eq_false_iff, Bool.or_eq_false_iff, Int.not_lt, Int.not_le, Bool.false_eq_true, Bool.true_eq_false, false_and, and_false, true_and, and_true, or_false, false_or, or_true, true_or, not_true_eq_false, not_false_eq_true] at h))
              · have hi : i < (cyc (faceP b w n) n).length := by omega
                have hai := hat _ (gl_mem hi)
                (try simp (disch := first | omega | (simp only [List.length_append, List.length_cons, List.length_nil, List.length_replicate, List.length_set, List.length_take, List.length_drop, vi_len, vb_len, vo_len, vl_len, vn_len]; omega)) only [↓EC, EV, EL, E2, E3, ER, seval, ↓reduceIte, false_imp_iff])
                refine LP_of (σ := Nat) 400000 [(68, 31, 1), (112, 29, 16), (116, 25, 1), (200000, 25, 1), (300000, 2, 1)] (fun s => [.int .i64 (sumT (bothT x y b n.toNat) (gl (cyc (faceP b w n) n) i) s), .int .i64 s])
                  (fun s => [.int .i64 n :: vi .u8 (b ++ w), vi .u8 (b ++ w ++ faceP b w n), [.sl x.length (vi .i64 x), .sl y.length (vi .i64 y), .own 2 1 n.toNat (vi .i64 (bothT x y b n.toNat))], vo 2 ((svL n b w m x y).take 2), vi .i64 (smL (bothT x y b n.toNat) m ((cyc (faceP b w n) n).take i))])
                  (fun s => s ≤ (gl (cyc (faceP b w n) n) i).length) (fun s => (gl (cyc (faceP b w n) n) i).length - s) 0 (by simp [frameOk, names, lpz, sclp, scv, scvs, vi_nrf, vb_nrf, vt_nrf, v2_nrf, v3_nrf, nrfs, nrf, sc_vi, sc_vb, sc_vt, sc_v2, sc_v3, sc_vo, sc_vl, vo_nrf, vl_nrf, sc_vn, vn_nrf]) (Nat.zero_le _) ?_ ?_
                · simp (disch := first | omega | (simp only [List.length_append, List.length_cons, List.length_nil, List.length_replicate, List.length_set, List.length_take, List.length_drop, vi_len, vb_len, vo_len, vl_len, vn_len]; omega)) only [↓EC, EV, EL, E2, E3, ER, seval, ↓reduceIte, false_imp_iff, ColV_def, hsv]
                  repeat' (first | (refine And.intro ?_ ?_) | rfl | (intro _; trivial) | trivial)
                · rintro s g1
                  have q1 := sumT_lim (c := gl (cyc (faceP b w n) n) i) hbo s
                  simp (disch := first | omega | (simp only [List.length_append, List.length_cons, List.length_nil, List.length_replicate, List.length_set, List.length_take, List.length_drop, vi_len, vb_len, vo_len, vl_len, vn_len]; omega)) only [↓EC, EV, EL, E2, E3, ER, seval, ↓reduceIte, false_imp_iff, ColV_def, lheap_def, hsv]
                  (refine Split.mk (fun h => ?_) (fun h => ?_) <;> (try simp only [decide_eq_true_eq, decide_eq_false_iff_not, beq_iff_eq, bne_iff_ne, beq_eq_false_iff_ne, bne_eq_false_iff_eq, Bool.not_eq_true', Bool.not_eq_false', Bool.and_eq_true, Bool.or_eq_true, Bool.and_eq_false_iff, Bool.or_eq_false_iff, Int.not_lt, Int.not_le, Bool.false_eq_true, Bool.true_eq_false, false_and, and_false, true_and, and_true, or_false, false_or, or_true, true_or, not_true_eq_false, not_false_eq_true] at h))
                  · have hs : s < (gl (cyc (faceP b w n) n) i).length := by omega
                    have hz := hai.1 (gi (gl (cyc (faceP b w n) n) i) s) (by rw [gi_of hs]; exact List.getElem_mem hs)
                    have q2 := hbo (gi (gl (cyc (faceP b w n) n) i) s).toNat
                    (try simp (disch := first | omega | (simp only [List.length_append, List.length_cons, List.length_nil, List.length_replicate, List.length_set, List.length_take, List.length_drop, vi_len, vb_len, vo_len, vl_len, vn_len]; omega)) only [↓EC, EV, EL, E2, E3, ER, seval, ↓reduceIte, false_imp_iff, hl, hk, hfl, hbl, hsv])
                    refine ldc_open 700 (by decide) ?_
                    (try simp (disch := first | omega | (simp only [List.length_append, List.length_cons, List.length_nil, List.length_replicate, List.length_set, List.length_take, List.length_drop, vi_len, vb_len, vo_len, vl_len, vn_len]; omega)) only [↓EC, EV, EL, E2, E3, ER, seval, ↓reduceIte, false_imp_iff, hl, hk, hfl, hbl])
                    (refine ⟨s + 1, ?_⟩; repeat' (first | (refine And.intro ?_ ?_) | rfl | omega | trivial))
                  · have : s = (gl (cyc (faceP b w n) n) i).length := by omega
                    subst this
                    have q3 := tmod_lim (x := sumT (bothT x y b n.toNat) (gl (cyc (faceP b w n) n) i) (gl (cyc (faceP b w n) n) i).length) hm
                    (try simp (disch := first | omega | (simp only [List.length_append, List.length_cons, List.length_nil, List.length_replicate, List.length_set, List.length_take, List.length_drop, vi_len, vb_len, vo_len, vl_len, vn_len]; omega)) only [↓EC, EV, EL, E2, E3, ER, seval, ↓reduceIte, false_imp_iff, hml, hsv])
                    refine ⟨i + 1, ?_⟩
                    rw [take_gl hi]
                    repeat' (first | (refine And.intro ?_ ?_) | rfl | omega | trivial | (simp [smL]; done))
              · have : i = (cyc (faceP b w n) n).length := by omega
                subst this
                (try simp (disch := first | omega | (simp only [List.length_append, List.length_cons, List.length_nil, List.length_replicate, List.length_set, List.length_take, List.length_drop, vi_len, vb_len, vo_len, vl_len, vn_len]; omega)) only [↓EC, EV, EL, E2, E3, ER, seval, ↓reduceIte, false_imp_iff, hml, hsv])
                refine ⟨3, ?_⟩
                repeat' (first | (refine And.intro ?_ ?_) | rfl | omega | trivial | (simp [svL, vo, smL]; done))
        · have : k = 3 := by omega
          subst this
          have hs3 : (svL n b w m x y).length = 3 := rfl
          (try simp (disch := first | omega | (simp only [List.length_append, List.length_cons, List.length_nil, List.length_replicate, List.length_set, List.length_take, List.length_drop, vi_len, vb_len, vo_len, vl_len, vn_len]; omega)) only [↓EC, EV, EL, E2, E3, ER, seval, ↓reduceIte, false_imp_iff, hs3])

/-! ### Unbranched voltages -/
def zeroB (A : List (List Int)) : Bool := A.all fun c => c.all fun a => a == 0
theorem zeroB_no {A : List (List Int)} {v s : Nat} (hv : v < A.length) (hs : s < (gl A v).length) (h : ¬ gi (gl A v) s = 0) : zeroB A = false := by
  cases hc : zeroB A with
  | false => rfl
  | true =>
    have h1 := (all_getD (d := [])).1 hc v hv
    have h2 := (all_getD (d := 0)).1 h1 s hs
    exact absurd (by simpa [gi, gl] using h2) h
theorem zeroB_yes {A : List (List Int)} (h : ∀ v, v < A.length → ∀ s, s < (gl A v).length → gi (gl A v) s = 0) : zeroB A = true :=
  (all_getD (d := [])).2 fun v hv => (all_getD (d := 0)).2 fun s hs => by simpa [gi, gl] using h v hv s hs
noncomputable def iuR (n : Int) (b w : List Int) (m : Int) (x y : List Int) : Bool × Int := if covC n b w m x y = 0 then (zeroB (svL n b w m x y), 0) else (false, covC n b w m x y)
theorem volt_lm {m : Int} {x : List Int} (hm : 1 ≤ m ∧ m ≤ 16) (h : ∀ k, k < x.length → 0 ≤ gi x k ∧ gi x k < m) : ∀ k : Nat, -400 ≤ gi x k ∧ gi x k ≤ 400 := fun k => by
  by_cases hk : k < x.length
  · have := h k hk; omega
  · rw [gi_over (by omega)]; omega
theorem svL_len {n m : Int} {b w x y : List Int} (hn : 1 ≤ n ∧ n ≤ 16) : ∀ l ∈ svL n b w m x y, l.length ≤ 16 := fun l hl => by
  simp only [svL, List.mem_cons, List.not_mem_nil, or_false] at hl
  rcases hl with rfl | rfl | rfl <;> (simp only [smL, List.length_map]; exact cyc_lim hn)
end Go.Proofs.Ytjcllfkkjagomaa.Sep

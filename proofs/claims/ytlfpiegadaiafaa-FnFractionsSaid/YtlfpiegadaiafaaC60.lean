/- The value of a move: impl.move. -/
import Derived.Test.YtlfpiegadaiafaaC19
namespace Go.Proofs.Ytlfpiegadaiafaa.Sep
open Go.RowKit
set_option linter.unusedVariables false
set_option linter.unusedSimpArgs false
set_option maxRecDepth 20000
set_option maxHeartbeats 4000000

theorem callM_q {P : Program} {f : FuncId} {d : Nat} {h : Hp} {K : V → Hp → Prop} {bs : List Nat} {bx : List (Nat × TypeId × Nat)} {cells : List (List V)} {ws : List V} {Φ : V → List (List V) → Prop}
    (hs : PSpecM P f ws bx cells Φ) (hK : ∀ v cs, Φ v cs → K (vw v) (hputs2 h bs bx cs)) : CallM P f d h K bs bx cells ws := ⟨Φ, hs, .inl hK⟩
def alt : Nat → Int → Int → List Int
  | 0, _, _ => []
  | i + 1, a, b => alt i a b ++ [a, b]
theorem alt_len {i : Nat} {a b : Int} : (alt i a b).length = 2 * i := by
  induction i with
  | zero => rfl
  | succ i ih => simp [alt, ih]; omega
theorem alt_mem {i : Nat} {a b x : Int} (h : x ∈ alt i a b) : x = a ∨ x = b := by
  induction i with
  | zero => simp [alt] at h
  | succ i ih =>
    simp only [alt, List.mem_append, List.mem_cons, List.not_mem_nil, or_false] at h
    rcases h with h | h
    · exact ih h
    · exact h
theorem alt_prod {i : Nat} {a b : Int} : lprod (alt i a b) = a ^ i * b ^ i := by
  induction i with
  | zero => simp [alt, lprod]
  | succ i ih => simp only [alt, lprod_append, ih, lprod, Int.pow_succ, Int.mul_one]; ac_rfl
theorem frV_cases (o : Option (Int × Int)) : (∃ a b, o = some (a, b)) ∨ o = none := by
  rcases o with _ | ⟨a, b⟩
  · exact .inr rfl
  · exact .inl ⟨a, b, rfl⟩
theorem lprod_one {a : Int} : lprod [a] = a := by simp [lprod]

theorem mvO_0 {n d : Int} (h : d ≠ 0) : mvO 0 0 0 n d = okPf (rd (d - n) d) := by
  unfold mvO; simp [h]
theorem mvO_1 {n d : Int} (h : d ≠ 0) (hn : n ≠ 0) : mvO 1 0 0 n d = okPf (rd d n) := by
  unfold mvO; simp [h, hn]
theorem mvO_2 {f l n d : Int} (h : d ≠ 0) : mvO 2 f l n d = okPf (rd (vU f.toNat l.toNat n d) (vV f.toNat l.toNat d)) := by
  unfold mvO; simp [h]
theorem c_impl_move {k f l n d : Int} (hm : isMoveB k f l = true) (hx : isFr n d = true) :
    PSpec Try.prog 55 [.agg [.int .i64 k, .int .i64 f, .int .i64 l], .agg [.int .i64 n, .int .i64 d]] fun v => v = frV (mvO k f l n d) := by
  have hm' : k = 2 ∧ 1 ≤ f ∧ f ≤ 20 ∧ 1 ≤ l ∧ l ≤ 20 ∨ (k = 0 ∨ k = 1) ∧ f = 0 ∧ l = 0 := by simpa [isMoveB] using hm
  have hx' := isFr_iff.1 hx
  refine impl_move_f.f ?_
  rcases hm' with ⟨rfl, f1, f2, l1, l2⟩ | ⟨rfl | rfl, rfl, rfl⟩
  · simp (disch := first | omega | (simp only [List.length_append, List.length_cons, List.length_nil, List.length_replicate, List.length_set, List.length_take, List.length_drop, vi_len, vb_len, vo_len, vl_len, vn_len]; omega)) only [↓EC, EV, EL, E2, E3, ER, seval, ↓reduceIte, false_imp_iff, impl_move_F]
    (refine Split.mk (fun h => ?_) (fun h => ?_) <;> (try simp only [decide_eq_true_eq, decide_eq_false_iff_not, beq_iff_eq, bne_iff_ne, beq_eq_false_iff_ne, bne_eq_false_iff_eq, Bool.not_eq_true', Bool.not_eq_false', Bool.and_eq_true, Bool.or_eq_true, Bool.and_eq_false_iff, Bool.or_eq_false_iff, Int.not_lt, Int.not_le, Bool.false_eq_true, Bool.true_eq_false, false_and, and_false, true_and, and_true, or_false, false_or, or_true, true_or, not_true_eq_false, not_false_eq_true] at h))
    · unfold mvO; simp [h]; rfl
    · (try simp (disch := first | omega | (simp only [List.length_append, List.length_cons, List.length_nil, List.length_replicate, List.length_set, List.length_take, List.length_drop, vi_len, vb_len, vo_len, vl_len, vn_len]; omega)) only [↓EC, EV, EL, E2, E3, ER, seval, ↓reduceIte, false_imp_iff])
      obtain ⟨F, rfl⟩ : ∃ F : Nat, f = F := ⟨f.toNat, by omega⟩
      obtain ⟨L, rfl⟩ : ∃ L : Nat, l = L := ⟨l.toNat, by omega⟩
      refine LP_ofE (σ := Nat) [1, 1] 100000 [(66, 36, 1), (67, 27, 1), (68, 27, 1), (70, 27, 1)]
        (fun s => [.own 2 1 (2 * s) (vi .i64 (alt s n (F + L))), .own 2 1 (2 * s) (vi .i64 (alt s d F)), .int .i64 s]) (fun s => [[.int .i64 2, .int .i64 F, .int .i64 L], [.int .i64 n, .int .i64 d], [.int .i64 0, .int .i64 0], [.int .i64 1, .int .i64 0]])
        (fun s => s ≤ F) (fun s => F - s) 0 (by simp [frameOk, names, lpz, sclp, scv, scvs, vi_nrf, vb_nrf, vt_nrf, v2_nrf, v3_nrf, nrfs, nrf, sc_vi, sc_vb, sc_vt, sc_v2, sc_v3, sc_vo, sc_vl, vo_nrf, vl_nrf, sc_vn, vn_nrf]) (Nat.zero_le _) ?_ ?_
      · simp (disch := first | omega | (simp only [List.length_append, List.length_cons, List.length_nil, List.length_replicate, List.length_set, List.length_take, List.length_drop, vi_len, vb_len, vo_len, vl_len, vn_len]; omega)) only [↓EC, EV, EL, E2, E3, ER, seval, ↓reduceIte, false_imp_iff, ColV_def]
        exact ⟨fun _ => trivial, fun _ => trivial, rfl⟩
      · rintro s h1
        have q1 := alt_len (i := s) (a := n) (b := F + L)
        have q2 := alt_len (i := s) (a := d) (b := F)
        simp (disch := first | omega | (simp only [List.length_append, List.length_cons, List.length_nil, List.length_replicate, List.length_set, List.length_take, List.length_drop, vi_len, vb_len, vo_len, vl_len, vn_len]; omega)) only [↓EC, EV, EL, E2, E3, ER, seval, ↓reduceIte, false_imp_iff, ColV_def, lheap_def, q1, q2]
        (refine Split.mk (fun h => ?_) (fun h => ?_) <;> (try simp only [decide_eq_true_eq, decide_eq_false_iff_not, beq_iff_eq, bne_iff_ne, beq_eq_false_iff_ne, bne_eq_false_iff_eq, Bool.not_eq_true', Bool.not_eq_false', Bool.and_eq_true, Bool.or_eq_true, Bool.and_eq_false_iff, Bool.or_eq_false_iff, Int.not_lt, Int.not_le, Bool.false_eq_true, Bool.true_eq_false, false_and, and_false, true_and, and_true, or_false, false_or, or_true, true_or, not_true_eq_false, not_false_eq_true] at h))
        · (try simp (disch := first | omega | (simp only [List.length_append, List.length_cons, List.length_nil, List.length_replicate, List.length_set, List.length_take, List.length_drop, vi_len, vb_len, vo_len, vl_len, vn_len]; omega)) only [↓EC, EV, EL, E2, E3, ER, seval, ↓reduceIte, false_imp_iff, q1, q2])
          exact ⟨s + 1, by simp [alt, vi, Nat.mul_add], by omega, by omega⟩
        · have hs : s = F := by omega
          subst hs
          refine LP_ofE (σ := Nat) [1, 1] 200000 [(66, 36, 1), (67, 27, 1), (68, 27, 1), (70, 27, 1)]
            (fun i => [.own 2 1 (2 * s + 2 * i) (vi .i64 (alt s n (s + L) ++ alt i (d - n) (s + L))), .own 2 1 (2 * s + 2 * i) (vi .i64 (alt s d s ++ alt i d L)), .int .i64 i]) (fun i => [[.int .i64 2, .int .i64 s, .int .i64 L], [.int .i64 n, .int .i64 d], [.int .i64 0, .int .i64 0], [.int .i64 1, .int .i64 0]])
            (fun i => i ≤ L) (fun i => L - i) 0 (by simp [frameOk, names, lpz, sclp, scv, scvs, vi_nrf, vb_nrf, vt_nrf, v2_nrf, v3_nrf, nrfs, nrf, sc_vi, sc_vb, sc_vt, sc_v2, sc_v3, sc_vo, sc_vl, vo_nrf, vl_nrf, sc_vn, vn_nrf]) (Nat.zero_le _) ?_ ?_
          · simp (disch := first | omega | (simp only [List.length_append, List.length_cons, List.length_nil, List.length_replicate, List.length_set, List.length_take, List.length_drop, vi_len, vb_len, vo_len, vl_len, vn_len]; omega)) only [↓EC, EV, EL, E2, E3, ER, seval, ↓reduceIte, false_imp_iff, ColV_def, q1, q2]
            simp [alt]
          · rintro i g1
            have r1 := alt_len (i := i) (a := d - n) (b := s + L)
            have r2 := alt_len (i := i) (a := d) (b := L)
            simp (disch := first | omega | (simp only [List.length_append, List.length_cons, List.length_nil, List.length_replicate, List.length_set, List.length_take, List.length_drop, vi_len, vb_len, vo_len, vl_len, vn_len]; omega)) only [↓EC, EV, EL, E2, E3, ER, seval, ↓reduceIte, false_imp_iff, ColV_def, lheap_def, q1, q2, r1, r2]
            (refine Split.mk (fun h => ?_) (fun h => ?_) <;> (try simp only [decide_eq_true_eq, decide_eq_false_iff_not, beq_iff_eq, bne_iff_ne, beq_eq_false_iff_ne, bne_eq_false_iff_eq, Bool.not_eq_true', Bool.not_eq_false', Bool.and_eq_true, Bool.or_eq_true, Bool.and_eq_false_iff, Bool.or_eq_false_iff, Int.not_lt, Int.not_le, Bool.false_eq_true, Bool.true_eq_false, false_and, and_false, true_and, and_true, or_false, false_or, or_true, true_or, not_true_eq_false, not_false_eq_true] at h))
            · (try simp (disch := first | omega | (simp only [List.length_append, List.length_cons, List.length_nil, List.length_replicate, List.length_set, List.length_take, List.length_drop, vi_len, vb_len, vo_len, vl_len, vn_len]; omega)) only [↓EC, EV, EL, E2, E3, ER, seval, ↓reduceIte, false_imp_iff, q1, q2, r1, r2])
              exact ⟨i + 1, by simp [alt, vi, Nat.mul_add, Nat.add_assoc], by omega, by omega⟩
            · have hi : i = L := by omega
              subst hi
              (try simp (disch := first | omega | (simp only [List.length_append, List.length_cons, List.length_nil, List.length_replicate, List.length_set, List.length_take, List.length_drop, vi_len, vb_len, vo_len, vl_len, vn_len]; omega)) only [↓EC, EV, EL, E2, E3, ER, seval, ↓reduceIte, false_imp_iff, q1, q2, r1, r2])
              refine pcm [200000, 201000] rfl ?_
              (try simp (disch := first | omega | (simp only [List.length_append, List.length_cons, List.length_nil, List.length_replicate, List.length_set, List.length_take, List.length_drop, vi_len, vb_len, vo_len, vl_len, vn_len]; omega)) only [↓EC, EV, EL, E2, E3, ER, seval, ↓reduceIte, false_imp_iff, q1, q2, r1, r2])
              have hl1 : (alt s n (s + i) ++ alt i (d - n) (s + i)).length = 2 * s + 2 * i := by rw [List.length_append, q1, r1]
              have hl2 : (alt s d s ++ alt i d i).length = 2 * s + 2 * i := by rw [List.length_append, q2, r2]
              have hc := c_impl_lowest (xs := alt s n (s + i) ++ alt i (d - n) (s + i)) (bs := alt s d s ++ alt i d i) (by omega) (by omega)
                (fun a ha => by
                  rcases List.mem_append.1 ha with h' | h' <;> rcases alt_mem h' with rfl | rfl <;> omega)
                (fun a ha => by
                  rcases List.mem_append.1 ha with h' | h' <;> rcases alt_mem h' with rfl | rfl <;> omega)
                (fun a ha => by
                  rcases List.mem_append.1 ha with h' | h' <;> rcases alt_mem h' with rfl | rfl <;> omega)
              rw [hl1, hl2] at hc
              refine callM_q hc ?_
              rintro v c ⟨rfl, x, y, rfl⟩
              rw [mvO_2 (by assumption)]
              have e : rd (lprod (alt s n (s + i) ++ alt i (d - n) (s + i))) (lprod (alt s d s ++ alt i d i)) = rd (vU (s : Int).toNat (i : Int).toNat n d) (vV (s : Int).toNat (i : Int).toNat d) := by
                simp only [lprod_append, alt_prod, Int.toNat_natCast, vU, vV, Int.pow_add]
                congr 1 <;> ac_rfl
              rw [e]
              rcases frV_cases (okPf (rd (vU (s : Int).toNat (i : Int).toNat n d) (vV (s : Int).toNat (i : Int).toNat d))) with ⟨a, b, ho⟩ | ho <;> rw [ho] <;> (try simp (disch := first | omega | (simp only [List.length_append, List.length_cons, List.length_nil, List.length_replicate, List.length_set, List.length_take, List.length_drop, vi_len, vb_len, vo_len, vl_len, vn_len]; omega)) only [↓EC, EV, EL, E2, E3, ER, seval, ↓reduceIte, false_imp_iff, frV])
  · simp (disch := first | omega | (simp only [List.length_append, List.length_cons, List.length_nil, List.length_replicate, List.length_set, List.length_take, List.length_drop, vi_len, vb_len, vo_len, vl_len, vn_len]; omega)) only [↓EC, EV, EL, E2, E3, ER, seval, ↓reduceIte, false_imp_iff, impl_move_F]
    (refine Split.mk (fun h => ?_) (fun h => ?_) <;> (try simp only [decide_eq_true_eq, decide_eq_false_iff_not, beq_iff_eq, bne_iff_ne, beq_eq_false_iff_ne, bne_eq_false_iff_eq, Bool.not_eq_true', Bool.not_eq_false', Bool.and_eq_true, Bool.or_eq_true, Bool.and_eq_false_iff, Bool.or_eq_false_iff, Int.not_lt, Int.not_le, Bool.false_eq_true, Bool.true_eq_false, false_and, and_false, true_and, and_true, or_false, false_or, or_true, true_or, not_true_eq_false, not_false_eq_true] at h))
    · unfold mvO; simp [h]; rfl
    · (try simp (disch := first | omega | (simp only [List.length_append, List.length_cons, List.length_nil, List.length_replicate, List.length_set, List.length_take, List.length_drop, vi_len, vb_len, vo_len, vl_len, vn_len]; omega)) only [↓EC, EV, EL, E2, E3, ER, seval, ↓reduceIte, false_imp_iff])
      refine pcm [110, 113] rfl ?_
      (try simp (disch := first | omega | (simp only [List.length_append, List.length_cons, List.length_nil, List.length_replicate, List.length_set, List.length_take, List.length_drop, vi_len, vb_len, vo_len, vl_len, vn_len]; omega)) only [↓EC, EV, EL, E2, E3, ER, seval, ↓reduceIte, false_imp_iff])
      refine callM_q (c_impl_lowest (xs := [d - n]) (bs := [d]) (by simp) (by simp) (by simp [lim4]; omega) (by simp [lim4]; omega) (by simpa using h)) ?_
      rintro v c ⟨rfl, x, y, rfl⟩
      rw [lprod_one, lprod_one, mvO_0 h]
      rcases frV_cases (okPf (rd (d - n) d)) with ⟨a, b, ho⟩ | ho <;> rw [ho] <;> (try simp (disch := first | omega | (simp only [List.length_append, List.length_cons, List.length_nil, List.length_replicate, List.length_set, List.length_take, List.length_drop, vi_len, vb_len, vo_len, vl_len, vn_len]; omega)) only [↓EC, EV, EL, E2, E3, ER, seval, ↓reduceIte, false_imp_iff, frV])
  · simp (disch := first | omega | (simp only [List.length_append, List.length_cons, List.length_nil, List.length_replicate, List.length_set, List.length_take, List.length_drop, vi_len, vb_len, vo_len, vl_len, vn_len]; omega)) only [↓EC, EV, EL, E2, E3, ER, seval, ↓reduceIte, false_imp_iff, impl_move_F]
    (refine Split.mk (fun h => ?_) (fun h => ?_) <;> (try simp only [decide_eq_true_eq, decide_eq_false_iff_not, beq_iff_eq, bne_iff_ne, beq_eq_false_iff_ne, bne_eq_false_iff_eq, Bool.not_eq_true', Bool.not_eq_false', Bool.and_eq_true, Bool.or_eq_true, Bool.and_eq_false_iff, Bool.or_eq_false_iff, Int.not_lt, Int.not_le, Bool.false_eq_true, Bool.true_eq_false, false_and, and_false, true_and, and_true, or_false, false_or, or_true, true_or, not_true_eq_false, not_false_eq_true] at h))
    · unfold mvO; simp [h]; rfl
    · (try simp (disch := first | omega | (simp only [List.length_append, List.length_cons, List.length_nil, List.length_replicate, List.length_set, List.length_take, List.length_drop, vi_len, vb_len, vo_len, vl_len, vn_len]; omega)) only [↓EC, EV, EL, E2, E3, ER, seval, ↓reduceIte, false_imp_iff])
      (refine Split.mk (fun h => ?_) (fun h => ?_) <;> (try simp only [decide_eq_true_eq, decide_eq_false_iff_not, beq_iff_eq, bne_iff_ne, beq_eq_false_iff_ne, bne_eq_false_iff_eq, Bool.not_eq_true', Bool.not_eq_false', Bool.and_eq_true, Bool.or_eq_true, Bool.and_eq_false_iff, Bool.or_eq_false_iff, Int.not_lt, Int.not_le, Bool.false_eq_true, Bool.true_eq_false, false_and, and_false, true_and, and_true, or_false, false_or, or_true, true_or, not_true_eq_false, not_false_eq_true] at h))
      · exact absurd h (by assumption)
      · (try simp (disch := first | omega | (simp only [List.length_append, List.length_cons, List.length_nil, List.length_replicate, List.length_set, List.length_take, List.length_drop, vi_len, vb_len, vo_len, vl_len, vn_len]; omega)) only [↓EC, EV, EL, E2, E3, ER, seval, ↓reduceIte, false_imp_iff])
        (refine Split.mk (fun h => ?_) (fun h => ?_) <;> (try simp only [decide_eq_true_eq, decide_eq_false_iff_not, beq_iff_eq, bne_iff_ne, beq_eq_false_iff_ne, bne_eq_false_iff_eq, Bool.not_eq_true', Bool.not_eq_false', Bool.and_eq_true, Bool.or_eq_true, Bool.and_eq_false_iff, Bool.or_eq_false_iff, Int.not_lt, Int.not_le, Bool.false_eq_true, Bool.true_eq_false, false_and, and_false, true_and, and_true, or_false, false_or, or_true, true_or, not_true_eq_false, not_false_eq_true] at h))
        · unfold mvO; simp [h, *]; rfl
        · (try simp (disch := first | omega | (simp only [List.length_append, List.length_cons, List.length_nil, List.length_replicate, List.length_set, List.length_take, List.length_drop, vi_len, vb_len, vo_len, vl_len, vn_len]; omega)) only [↓EC, EV, EL, E2, E3, ER, seval, ↓reduceIte, false_imp_iff])
          refine pcm [123, 126] rfl ?_
          (try simp (disch := first | omega | (simp only [List.length_append, List.length_cons, List.length_nil, List.length_replicate, List.length_set, List.length_take, List.length_drop, vi_len, vb_len, vo_len, vl_len, vn_len]; omega)) only [↓EC, EV, EL, E2, E3, ER, seval, ↓reduceIte, false_imp_iff])
          refine callM_q (c_impl_lowest (xs := [d]) (bs := [n]) (by simp) (by simp) (by simp [lim4]; omega) (by simp [lim4]; omega) (by simpa using h)) ?_
          rintro v c ⟨rfl, x, y, rfl⟩
          rw [lprod_one, lprod_one, mvO_1 (by assumption) h]
          rcases frV_cases (okPf (rd d n)) with ⟨a, b, ho⟩ | ho <;> rw [ho] <;> (try simp (disch := first | omega | (simp only [List.length_append, List.length_cons, List.length_nil, List.length_replicate, List.length_set, List.length_take, List.length_drop, vi_len, vb_len, vo_len, vl_len, vn_len]; omega)) only [↓EC, EV, EL, E2, E3, ER, seval, ↓reduceIte, false_imp_iff, frV])
end Go.Proofs.Ytlfpiegadaiafaa.Sep

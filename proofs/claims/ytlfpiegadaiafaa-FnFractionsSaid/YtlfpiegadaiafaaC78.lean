/- Fractions: the plain law of there and back. -/
import Derived.Test.YtlfpiegadaiafaaC64
import Derived.Test.YtlfpiegadaiafaaC77
namespace Go.Proofs.Ytlfpiegadaiafaa.Sep
open Go.RowKit
set_option linter.unusedVariables false
set_option linter.unusedSimpArgs false
set_option maxRecDepth 20000
set_option maxHeartbeats 1000000

theorem fr_rel (n d : Int) : ∃ a b c, frOf n d = .tup [.agg [.int .i64 a, .int .i64 b], .int .i64 c] ∧ (c = 0 → isFr a b = true ∧ a * d = n * b ∧ (-1000000000 ≤ a ∧ a ≤ 1000000000) ∧ (-1000000000 ≤ b ∧ b ≤ 1000000000)) := by
  by_cases h : -1000000000 ≤ n ∧ n ≤ 1000000000 ∧ -1000000000 ≤ d ∧ d ≤ 1000000000 ∧ (n ≠ 0 ∨ d ≠ 0)
  · refine ⟨numOf n d, denOf n d, 0, frOf_1 h, fun _ => ?_⟩
    have h1 := isFr_of h.2.2.2.2 ⟨h.1, h.2.1⟩ ⟨h.2.2.1, h.2.2.2.1⟩
    have h2 := isFr_iff.1 h1
    refine ⟨h1, ?_, ⟨h2.1, h2.2.1⟩, by omega, by omega⟩
    have hg := gOf_ne h.2.2.2.2
    have e := gOf_abs (n := n) (d := d)
    have d1 : gOf n d ∣ n := by
      have := Int.gcd_dvd_left (a := n) (b := d)
      rw [← e] at this
      exact Int.natAbs_dvd.1 this
    have d2 : gOf n d ∣ d := by
      have := Int.gcd_dvd_right (a := n) (b := d)
      rw [← e] at this
      exact Int.natAbs_dvd.1 this
    obtain ⟨u, hu⟩ := d1
    obtain ⟨v, hv⟩ := d2
    have e1 : numOf n d = u := by unfold numOf; conv => lhs; arg 1; rw [hu]
                                  exact Int.mul_tdiv_cancel_left _ hg
    have e2 : denOf n d = v := by unfold denOf; conv => lhs; arg 1; rw [hv]
                                  exact Int.mul_tdiv_cancel_left _ hg
    rw [e1, e2]
    calc u * d = u * (gOf n d * v) := by rw [← hv]
      _ = gOf n d * u * v := by ac_rfl
      _ = n * v := by rw [← hu]
  · exact ⟨0, 0, 2, frOf_2 h, fun h => by omega⟩

theorem mv_rel (k f l n d : Int) : ∃ a b c, mfV k f l n d = .tup [.agg [.int .i64 a, .int .i64 b], .int .i64 c] ∧ (c = 0 → isMoveB k f l = true ∧ isFr n d = true ∧ mvO k f l n d = some (a, b)) := by
  unfold mfV
  split
  · rename_i h
    rcases frV_cases (mvO k f l n d) with ⟨a, b, ho⟩ | ho
    · exact ⟨a, b, 0, by rw [ho]; rfl, fun _ => ⟨h.1, h.2, ho⟩⟩
    · exact ⟨0, 0, 3, by rw [ho]; rfl, fun h => by omega⟩
  · exact ⟨0, 0, 1, rfl, fun h => by omega⟩
theorem mfV_some {k f l n d a b : Int} (hm : isMoveB k f l = true) (hx : isFr n d = true) (h : mvO k f l n d = some (a, b)) : mfV k f l n d = .tup [.agg [.int .i64 a, .int .i64 b], .int .i64 0] := by
  unfold mfV; rw [if_pos ⟨hm, hx⟩, h]; rfl
theorem okP_isFr {n d : Int} (h : isFr n d = true) : okPf (n, d) = some (n, d) := by
  rw [isFr_iff] at h
  unfold okPf; rw [if_pos ⟨by simp only; omega, by simp only; omega⟩]
theorem okP_eq {p : Int × Int} {a b : Int} (h : okPf p = some (a, b)) : p = (a, b) := by
  unfold okPf at h; split at h
  · simpa using h
  · cases h
theorem mv_back {k f l n d a b : Int} (hm : isMoveB k f l = true) (hx : isFr n d = true) (hk : k < 2) (h : mvO k f l n d = some (a, b)) : mfV k f l a b = .tup [.agg [.int .i64 n, .int .i64 d], .int .i64 0] := by
  refine mfV_some hm (mvO_fr hx hm h) ?_
  have hm' : k = 2 ∧ 1 ≤ f ∧ f ≤ 20 ∧ 1 ≤ l ∧ l ≤ 20 ∨ (k = 0 ∨ k = 1) ∧ f = 0 ∧ l = 0 := by simpa [isMoveB] using hm
  have hx' := isFr_iff.1 hx
  rcases hm' with ⟨rfl, _⟩ | ⟨rfl | rfl, rfl, rfl⟩
  · omega
  · by_cases hd : d = 0
    · subst hd
      have hn : n = 1 := by omega
      subst hn
      have : (a, b) = (1, 0) := by
        unfold mvO at h; simp at h; simp [h]
      cases this
      rfl
    · have e : rd (d - n) d = (d - n, d) := rd_self (by omega) (cop_sub (u := n) (v := d) hx'.2.2.2.2.1)
      rw [mvO_0 hd, e] at h
      have := okP_eq h
      cases this
      have e2 : rd (d - (d - n)) d = (n, d) := by
        rw [show d - (d - n) = n by omega]
        exact rd_self (by omega) hx'.2.2.2.2.1
      rw [mvO_0 hd, e2, okP_isFr hx]
  · by_cases hd : d = 0
    · subst hd
      have hn : n = 1 := by omega
      subst hn
      have : (a, b) = (0, 1) := by
        unfold mvO at h; simp at h; simp [h]
      cases this
      rfl
    · by_cases hn : n = 0
      · subst hn
        have hd1 : d = 1 := by
          have := hx'.2.2.2.2.1
          simp only [Int.zero_gcd] at this
          omega
        subst hd1
        have : (a, b) = (1, 0) := by
          unfold mvO at h; simp at h; simp [h]
        cases this
        rfl
      · rw [mvO_1 hd hn] at h
        have h1 := rd_spec (U := d) (V := n) hn
        have h2 := okP_eq h
        rw [h2] at h1
        simp only at h1
        have ha : a ≠ 0 := by
          rintro rfl
          have := h1.2.2
          rw [Int.zero_mul] at this
          have := Int.mul_ne_zero hd (show b ≠ 0 by omega)
          omega
        have e : rd b a = (n, d) := rd_eq ha (by omega) hx'.2.2.2.2.1 (by rw [Int.mul_comm n a, h1.2.2, Int.mul_comm])
        rw [mvO_1 (by omega) ha, e, okP_isFr hx]
theorem mv_01 {f l : Int} (hm : isMoveB 2 f l = true) : mfV 2 f l 0 1 = .tup [.agg [.int .i64 0, .int .i64 1], .int .i64 0] ∧ mfV 2 f l 1 1 = .tup [.agg [.int .i64 0, .int .i64 1], .int .i64 0] := by
  have hm' : 1 ≤ f ∧ f ≤ 20 ∧ 1 ≤ l ∧ l ≤ 20 := by simpa [isMoveB] using hm
  have hV := vV_pos (f := f.toNat) (l := l.toNat) (v := 1) (by omega) (by omega) (by omega)
  constructor
  · refine mfV_some hm (by decide) ?_
    have e : vU f.toNat l.toNat 0 1 = 0 := by
      unfold vU; rw [Int.zero_pow (by omega)]; simp
    rw [mvO_2 (by omega), e, rd_zero (by omega)]; rfl
  · refine mfV_some hm (by decide) ?_
    have e : vU f.toNat l.toNat 1 1 = 0 := by
      unfold vU; rw [show (1 : Int) - 1 = 0 by rfl, Int.zero_pow (n := l.toNat) (by omega)]; simp
    rw [mvO_2 (by omega), e, rd_zero (by omega)]; rfl
theorem mv_top {f l : Int} (hm : isMoveB 2 f l = true) : ∃ p q, frOf f (f + l) = .tup [.agg [.int .i64 p, .int .i64 q], .int .i64 0] ∧ mfV 2 f l p q = .tup [.agg [.int .i64 1, .int .i64 1], .int .i64 0] := by
  have hm' : 1 ≤ f ∧ f ≤ 20 ∧ 1 ≤ l ∧ l ≤ 20 := by simpa [isMoveB] using hm
  obtain ⟨p, q, c, h1, h2⟩ := fr_rel f (f + l)
  have hc : c = 0 := by
    rw [frOf_1 (by omega)] at h1
    simp only [V.tup.injEq, List.cons.injEq, V.int.injEq] at h1
    omega
  subst hc
  obtain ⟨h2, h3, h4, h5⟩ := h2 rfl
  refine ⟨p, q, h1, mfV_some hm h2 ?_⟩
  have hF := isFr_iff.1 h2
  have hq : 0 < q := by
    rcases hF.2.2.2.2.2 with h | h
    · exact h
    · subst h
      by_cases hq : 0 < q
      · exact hq
      · have : q = 0 := by omega
        subst this
        simp at h3; omega
  have hV := vV_pos (f := f.toNat) (l := l.toNat) (v := q) (by omega) (by omega) hq
  have hl : (q - p) * (f + l) = l * q := by
    have : (q - p) * (f + l) = q * (f + l) - p * (f + l) := Int.sub_mul _ _ _
    rw [this, h3, Int.mul_add, Int.mul_comm q f, Int.mul_comm q l]; omega
  have e : vU f.toNat l.toNat p q = vV f.toNat l.toNat q := by
    unfold vU vV
    rw [show ((f.toNat : Nat) : Int) = f by omega, show ((l.toNat : Nat) : Int) = l by omega]
    calc p ^ f.toNat * (q - p) ^ l.toNat * (f + l) ^ (f.toNat + l.toNat) = (p * (f + l)) ^ f.toNat * ((q - p) * (f + l)) ^ l.toNat := by
          rw [Int.mul_pow, Int.mul_pow, Int.pow_add]; ac_rfl
      _ = (f * q) ^ f.toNat * (l * q) ^ l.toNat := by rw [h3, hl]
      _ = q ^ (f.toNat + l.toNat) * (f ^ f.toNat * l ^ l.toNat) := by
          rw [Int.mul_pow, Int.mul_pow, Int.pow_add]; ac_rfl
  rw [mvO_2 (by omega), e, rd_eq (n := 1) (d := 1) (by omega) (by omega) (by decide) (by rw [Int.one_mul, Int.mul_one])]; rfl

theorem cmp_rel (n d m e : Int) (h : cmpC n d m e = 0) : cmpC m e n d = 0 ∧ cmpV m e n d = -cmpV n d m e ∧ (cmpV n d m e = 0 ↔ n = m ∧ d = e) ∧ -1 ≤ cmpV n d m e ∧ cmpV n d m e ≤ 1 := by
  unfold cmpC at h ⊢
  split at h
  · rename_i hx
    have h1 := isFr_iff.1 hx.1
    have h2 := isFr_iff.1 hx.2
    unfold cmpV
    rw [if_pos hx, if_pos ⟨hx.2, hx.1⟩, if_pos ⟨hx.2, hx.1⟩]
    refine ⟨rfl, ?_⟩
    unfold cmpFr
    by_cases hz : d = 0 ∨ e = 0
    · grind
    · have key : n * e = m * d → n = m ∧ d = e := fun hh => rd_uniq (by omega) (by omega) h1.2.2.2.2.1 h2.2.2.2.2.1 hh
      have hd : ¬ d = 0 := fun h => hz (.inl h)
      have he : ¬ e = 0 := fun h => hz (.inr h)
      by_cases heq : n = m ∧ d = e
      · obtain ⟨rfl, rfl⟩ := heq
        simp
      · have h3 : ¬ (m = n ∧ e = d) := fun h => heq ⟨h.1.symm, h.2.symm⟩
        rcases Int.lt_trichotomy (n * e) (m * d) with h | h | h
        · simp only [if_neg heq, if_neg hd, if_neg he, if_pos h, if_neg h3, if_neg (show ¬ m * d < n * e by omega)]
          refine ⟨by first | trivial | omega, ⟨fun h => ?_, fun h => absurd h heq⟩, ?_, ?_⟩ <;> first | trivial | omega
        · exact absurd (key h) heq
        · simp only [if_neg heq, if_neg hd, if_neg he, if_pos h, if_neg h3, if_neg (show ¬ n * e < m * d by omega)]
          refine ⟨by first | trivial | omega, ⟨fun h => ?_, fun h => absurd h heq⟩, ?_, ?_⟩ <;> first | trivial | omega
  · omega

/-! ### Passports of moves -/
theorem tyOK_1 {a : Int} (h : 1 ≤ a ∧ a ≤ 16) : tyOK [a] a := by
  refine ⟨fun b hb => ?_, fun i hi => ?_, by simp, h.2⟩
  · simp at hb; omega
  · simp at hi
theorem gi_ones {n i : Nat} : gi (2 :: List.replicate n 1) (i + 1) ≤ 1 := by
  simp only [gi, List.getD, List.getElem?_cons_succ, List.getElem?_replicate]; split <;> simp
theorem pm_euler {k f l : Int} (h : pmC k f l = 0) : ∃ a b c n, pmL k f l = [a, b, c] ∧ tyOK a n ∧ tyOK b n ∧ tyOK c n ∧ 1 ≤ n ∧ (a.length : Int) + b.length + c.length - n = 2 := by
  obtain ⟨hm, hd⟩ := pmC_0 h
  have hm' : k = 2 ∧ 1 ≤ f ∧ f ≤ 20 ∧ 1 ≤ l ∧ l ≤ 20 ∨ (k = 0 ∨ k = 1) ∧ f = 0 ∧ l = 0 := by simpa [isMoveB] using hm
  unfold pmL
  by_cases hk : k = 2
  · rw [if_pos hk]
    subst hk
    have hd' : f + l ≤ 16 := by
      have := hd
      simp [degM] at this
      split at this <;> omega
    refine ⟨_, _, _, f + l, rfl, ⟨fun b hb => ?_, fun i hi => ?_, ?_, hd'⟩, ⟨fun b hb => ?_, fun i hi => ?_, ?_, hd'⟩, tyOK_1 ⟨by omega, hd'⟩, by omega, ?_⟩
    · simp only [List.mem_cons, List.not_mem_nil, or_false] at hb; omega
    · simp only [List.length_cons, List.length_nil] at hi
      have : i = 0 := by omega
      subst this
      show min f l ≤ max f l
      omega
    · simp only [List.sum_cons, List.sum_nil]; omega
    · simp only [List.mem_cons, List.mem_replicate] at hb; omega
    · have h1 := gi_ones (n := (f + l - 2).toNat) (i := i)
      by_cases h0 : i = 0
      · subst h0
        have : gi (2 :: List.replicate (f + l - 2).toNat 1) 0 = 2 := rfl
        omega
      · obtain ⟨j, rfl⟩ : ∃ j, i = j + 1 := ⟨i - 1, by omega⟩
        have h2 : gi (2 :: List.replicate (f + l - 2).toNat 1) (j + 1) = 1 := by
          simp only [List.length_cons, List.length_replicate] at hi
          simp only [gi, List.getD, List.getElem?_cons_succ, List.getElem?_replicate]
          rw [if_pos (by omega)]; rfl
        omega
    · have : ∀ n : Nat, (List.replicate n (1 : Int)).sum = n := fun n => by
        induction n with
        | zero => rfl
        | succ n ih => rw [List.replicate_succ, List.sum_cons, ih]; omega
      rw [List.sum_cons, this]; omega
    · simp only [List.length_cons, List.length_nil, List.length_replicate]; omega
  · rw [if_neg hk]
    exact ⟨[1], [1], [1], 1, rfl, tyOK_1 (by omega), tyOK_1 (by omega), tyOK_1 (by omega), by omega, by simp⟩
end Go.Proofs.Ytlfpiegadaiafaa.Sep

/- Fractions in least terms: the plain law of the moves. -/
import Derived.Test.YtlfpiegadaiafaaC12
namespace Go.Proofs.Ytlfpiegadaiafaa.Sep
open Go.RowKit
set_option linter.unusedVariables false
set_option linter.unusedSimpArgs false
set_option maxRecDepth 20000

/-- A fraction in least terms. -/
def rd (U V : Int) : Int × Int := (V.sign * U / Int.gcd U V, V.natAbs / Int.gcd U V)

theorem dvd_cop {k m n : Int} (hc : Int.gcd m k = 1) (h : k ∣ m * n) : k ∣ n := by
  rw [← Int.natAbs_dvd_natAbs] at h ⊢
  rw [Int.natAbs_mul] at h
  refine Nat.Coprime.dvd_of_dvd_mul_left ?_ h
  rw [Int.gcd_comm] at hc
  exact hc
theorem gcd_natAbs_r {a b : Int} : Int.gcd a (b.natAbs : Int) = Int.gcd a b := by simp [Int.gcd]

theorem rd_uniq {n d N D : Int} (hd : 0 < d) (hD : 0 < D) (hc : Int.gcd n d = 1) (hC : Int.gcd N D = 1) (h : n * D = N * d) : n = N ∧ d = D := by
  have h1 : d ∣ D := dvd_cop hc (by rw [h]; exact Int.dvd_mul_left _ _)
  have h2 : D ∣ d := dvd_cop hC (by rw [← h]; exact Int.dvd_mul_left _ _)
  have h3 : d = D := Int.dvd_antisymm (by omega) (by omega) h1 h2
  subst h3
  exact ⟨Int.eq_of_mul_eq_mul_right (by omega) h, rfl⟩

theorem rd_spec {U V : Int} (hV : V ≠ 0) : 0 < (rd U V).2 ∧ Int.gcd (rd U V).1 (rd U V).2 = 1 ∧ (rd U V).1 * V = U * (rd U V).2 := by
  have hg : Int.gcd U V ≠ 0 := by
    intro h; rw [Int.gcd_eq_zero_iff] at h; exact hV h.2
  have hg' : (0 : Int) < Int.gcd U V := by omega
  obtain ⟨u, hu⟩ := Int.gcd_dvd_left (a := U) (b := V)
  obtain ⟨v, hv⟩ := Int.gcd_dvd_right (a := U) (b := V)
  have hv0 : v ≠ 0 := by rintro rfl; simp at hv; exact hV hv
  have hs : V.sign = v.sign := by
    rw [hv, Int.sign_mul, Int.sign_eq_one_of_pos hg']; simp
  have e1 : (rd U V).1 = v.sign * u := by
    simp only [rd]
    rw [hs]
    conv => lhs; arg 1; rw [hu]
    rw [show v.sign * (↑(Int.gcd U V) * u) = ↑(Int.gcd U V) * (v.sign * u) by ac_rfl]
    exact Int.mul_ediv_cancel_left _ (by omega)
  have e2 : (rd U V).2 = v.natAbs := by
    simp only [rd]
    have : V.natAbs = Int.gcd U V * v.natAbs := by
      conv => lhs; rw [hv]
      rw [Int.natAbs_mul]; rfl
    rw [this]
    push_cast
    exact Int.mul_ediv_cancel_left _ (by omega)
  have hc : Int.gcd u v = 1 := by
    have h := Int.gcd_mul_left (Int.gcd U V : Int) u v
    rw [← hu, ← hv] at h
    simp only [Int.natAbs_natCast] at h
    have h2 : Int.gcd U V * Int.gcd u v = Int.gcd U V * 1 := by omega
    exact Nat.eq_of_mul_eq_mul_left (by omega) h2
  refine ⟨by rw [e2]; omega, ?_, ?_⟩
  · rw [e1, e2, gcd_natAbs_r]
    rcases Int.lt_or_gt_of_ne hv0 with h | h
    · rw [Int.sign_eq_neg_one_of_neg h]; simpa using hc
    · rw [Int.sign_eq_one_of_pos h]; simpa using hc
  · rw [e1, e2]
    have h3 : (v.natAbs : Int) = v.sign * v := by rw [Int.sign_mul_self]; 
    rw [h3]
    conv => lhs; rw [hv]
    conv => rhs; arg 1; rw [hu]
    ac_rfl

theorem rd_eq {U V n d : Int} (hV : V ≠ 0) (hd : 0 < d) (hc : Int.gcd n d = 1) (h : n * V = U * d) : rd U V = (n, d) := by
  obtain ⟨h1, h2, h3⟩ := rd_spec (U := U) hV
  have h4 : (rd U V).1 * d = n * (rd U V).2 := by
    refine Int.eq_of_mul_eq_mul_right hV ?_
    calc (rd U V).1 * d * V = (rd U V).1 * V * d := by ac_rfl
      _ = U * (rd U V).2 * d := by rw [h3]
      _ = U * d * (rd U V).2 := by ac_rfl
      _ = n * V * (rd U V).2 := by rw [h]
      _ = _ := by ac_rfl
  obtain ⟨a, b⟩ := rd_uniq h1 hd h2 hc h4
  exact Prod.ext a b
theorem rd_ratio {U V U' V' : Int} (hV : V ≠ 0) (hV' : V' ≠ 0) (h : U * V' = U' * V) : rd U V = rd U' V' := by
  obtain ⟨h1, h2, h3⟩ := rd_spec (U := U') hV'
  refine rd_eq hV h1 h2 ?_
  refine Int.eq_of_mul_eq_mul_right hV' ?_
  calc (rd U' V').1 * V * V' = (rd U' V').1 * V' * V := by ac_rfl
    _ = U' * (rd U' V').2 * V := by rw [h3]
    _ = U' * V * (rd U' V').2 := by ac_rfl
    _ = U * V' * (rd U' V').2 := by rw [h]
    _ = _ := by ac_rfl
theorem rd_self {n d : Int} (hd : 0 < d) (hc : Int.gcd n d = 1) : rd n d = (n, d) := rd_eq (by omega) hd hc rfl
theorem rd_zero {V : Int} (hV : V ≠ 0) : rd 0 V = (0, 1) := rd_eq hV (by omega) (by simp) (by simp)

/-! ### Numbers without a common divisor -/
def cop (a b : Int) : Prop := Int.gcd a b = 1
theorem cop_iff {a b : Int} : cop a b ↔ Nat.Coprime a.natAbs b.natAbs := Iff.rfl
theorem cop_comm {a b : Int} : cop a b ↔ cop b a := by simp only [cop]; rw [Int.gcd_comm]
theorem cop_mul_l {a b c : Int} (h : cop a c) (h' : cop b c) : cop (a * b) c := by
  rw [cop_iff] at *; rw [Int.natAbs_mul]; exact h.mul_left h'
theorem cop_mul_r {a b c : Int} (h : cop c a) (h' : cop c b) : cop c (a * b) := by
  rw [cop_iff] at *; rw [Int.natAbs_mul]; exact h.mul_right h'
theorem cop_pow_l {a c : Int} {k : Nat} (h : cop a c) : cop (a ^ k) c := by
  rw [cop_iff] at *; rw [Int.natAbs_pow]; exact h.pow_left k
theorem cop_pow_r {a c : Int} {k : Nat} (h : cop c a) : cop c (a ^ k) := by
  rw [cop_iff] at *; rw [Int.natAbs_pow]; exact h.pow_right k
theorem cop_dvd_l {a b c : Int} (h : cop a c) (h' : b ∣ a) : cop b c := by
  rw [cop_iff] at *; exact h.coprime_dvd_left (Int.natAbs_dvd_natAbs.2 h')
theorem cop_dvd_r {a b c : Int} (h : cop c a) (h' : b ∣ a) : cop c b := by
  rw [cop_iff] at *; exact h.coprime_dvd_right (Int.natAbs_dvd_natAbs.2 h')
theorem cop_one_l {c : Int} : cop 1 c := by simp [cop]
theorem cop_one_r {c : Int} : cop c 1 := by simp [cop]
theorem dvd_of_cop {k m n : Int} (hc : cop m k) (h : k ∣ m * n) : k ∣ n := dvd_cop hc h

/-! ### Products of lists -/
def lprod : List Int → Int
  | [] => 1
  | a :: l => a * lprod l
theorem lprod_append {l m : List Int} : lprod (l ++ m) = lprod l * lprod m := by
  induction l with
  | nil => simp [lprod]
  | cons a l ih => simp only [List.cons_append, lprod, ih]; ac_rfl
theorem lprod_set {l : List Int} {i : Nat} {x : Int} (hi : i < l.length) : lprod (l.set i x) * l[i] = lprod l * x := by
  induction l generalizing i with
  | nil => simp at hi
  | cons a l ih =>
    cases i with
    | zero => simp only [List.set_cons_zero, lprod, List.getElem_cons_zero]; ac_rfl
    | succ i =>
      simp only [List.set_cons_succ, lprod, List.getElem_cons_succ]
      have hi' : i < l.length := by simpa using hi
      have := ih hi'
      calc a * lprod (l.set i x) * l[i] = a * (lprod (l.set i x) * l[i]) := by ac_rfl
        _ = a * (lprod l * x) := by rw [this]
        _ = _ := by ac_rfl
theorem lprod_ne {l : List Int} (h : ∀ a ∈ l, a ≠ 0) : lprod l ≠ 0 := by
  induction l with
  | nil => simp [lprod]
  | cons a l ih =>
    simp only [lprod]
    exact Int.mul_ne_zero (h a (by simp)) (ih fun b hb => h b (by simp [hb]))
theorem lprod_zero {l : List Int} (h : 0 ∈ l) : lprod l = 0 := by
  induction l with
  | nil => simp at h
  | cons a l ih =>
    simp only [lprod]
    rcases List.mem_cons.1 h with rfl | h
    · simp
    · rw [ih h]; simp
theorem lprod_pos {l : List Int} (h : ∀ a ∈ l, 0 < a) : 0 < lprod l := by
  induction l with
  | nil => simp [lprod]
  | cons a l ih => exact Int.mul_pos (h a (by simp)) (ih fun b hb => h b (by simp [hb]))
theorem cop_lprod_l {l : List Int} {c : Int} (h : ∀ a ∈ l, cop a c) : cop (lprod l) c := by
  induction l with
  | nil => exact cop_one_l
  | cons a l ih => exact cop_mul_l (h a (by simp)) (ih fun b hb => h b (by simp [hb]))
theorem cop_lprod {l m : List Int} (h : ∀ a ∈ l, ∀ b ∈ m, cop a b) : cop (lprod l) (lprod m) :=
  cop_lprod_l fun a ha => cop_comm.1 (cop_lprod_l fun b hb => cop_comm.1 (h a ha b hb))
theorem lprod_rep {k : Nat} {a : Int} : lprod (List.replicate k a) = a ^ k := by
  induction k with
  | zero => simp [lprod]
  | succ k ih => rw [List.replicate_succ, lprod, ih, Int.pow_succ]; ac_rfl

/-- What the first products of a list are, if none is too great. -/
theorem natAbs_le_mul {a b : Int} (hb : b ≠ 0) : a.natAbs ≤ (a * b).natAbs := by
  rw [Int.natAbs_mul]; exact Nat.le_mul_of_pos_right _ (by omega)

/-! ### Dividing common divisors away -/
structure Low (U V : Int) (xs bs : List Int) (i k : Nat) : Prop where
  rat : lprod xs * V = U * lprod bs
  nz : ∀ b ∈ bs, b ≠ 0
  c1 : ∀ p q, (hp : p < xs.length) → (hq : q < bs.length) → (p < i ∨ p = i ∧ q < k) → cop xs[p] bs[q]
theorem gcd_pos_r {a b : Int} (h : b ≠ 0) : 0 < (Int.gcd a b : Int) := by
  have : Int.gcd a b ≠ 0 := by
    intro h'; rw [Int.gcd_eq_zero_iff] at h'; exact h h'.2
  omega
theorem Low_step {U V : Int} {xs bs : List Int} {i k : Nat} (h : Low U V xs bs i k) (hi : i < xs.length) (hk : k < bs.length) :
    Low U V (xs.set i (xs[i] / (Int.gcd xs[i] bs[k] : Int))) (bs.set k (bs[k] / (Int.gcd xs[i] bs[k] : Int))) i (k + 1) := by
  have hb : bs[k] ≠ 0 := h.nz _ (List.getElem_mem hk)
  have hg := gcd_pos_r (a := xs[i]) hb
  generalize hG : (Int.gcd xs[i] bs[k] : Int) = g at *
  have da : g ∣ xs[i] := by rw [← hG]; exact Int.gcd_dvd_left _ _
  have db : g ∣ bs[k] := by rw [← hG]; exact Int.gcd_dvd_right _ _
  obtain ⟨a', ha'⟩ := da
  obtain ⟨b', hb'⟩ := db
  have e1 : xs[i] / g = a' := by rw [ha']; exact Int.mul_ediv_cancel_left _ (by omega)
  have e2 : bs[k] / g = b' := by rw [hb']; exact Int.mul_ediv_cancel_left _ (by omega)
  have hc : cop a' b' := by
    have h1 := Int.gcd_mul_left g a' b'
    rw [← ha', ← hb'] at h1
    have h2 : (Int.gcd xs[i] bs[k] : Int).natAbs = g.natAbs := by rw [hG]
    rw [Int.natAbs_natCast] at h2
    rw [h2] at h1
    have h3 : g.natAbs * Int.gcd a' b' = g.natAbs * 1 := by omega
    exact Nat.eq_of_mul_eq_mul_left (by omega) h3
  rw [e1, e2]
  have s1 := lprod_set (x := a') hi
  have s2 := lprod_set (x := b') hk
  have q1 : lprod (xs.set i a') * g = lprod xs ∨ a' = 0 := by
    by_cases h0 : a' = 0
    · exact .inr h0
    · refine .inl (Int.eq_of_mul_eq_mul_right h0 ?_)
      rw [← s1, ha']; ac_rfl
  have q2 : lprod (bs.set k b') * g = lprod bs := by
    have h0 : b' ≠ 0 := by rintro rfl; rw [hb'] at hb; simp at hb
    refine Int.eq_of_mul_eq_mul_right h0 ?_
    rw [← s2, hb']; ac_rfl
  refine ⟨?_, ?_, ?_⟩
  · rcases q1 with q1 | q1
    · refine Int.eq_of_mul_eq_mul_right (a := g) (by omega) ?_
      calc lprod (xs.set i a') * V * g = lprod (xs.set i a') * g * V := by ac_rfl
        _ = U * lprod bs := by rw [q1, h.rat]
        _ = U * (lprod (bs.set k b') * g) := by rw [q2]
        _ = _ := by ac_rfl
    · have z1 : lprod (xs.set i a') = 0 := lprod_zero (by rw [q1]; exact List.mem_set hi _)
      have z2 : lprod xs = 0 := lprod_zero (by rw [q1] at ha'; simp at ha'; rw [← ha']; exact List.getElem_mem hi)
      have h3 := h.rat
      rw [z2] at h3
      rw [z1]
      simp only [Int.zero_mul] at h3 ⊢
      have h4 : lprod bs ≠ 0 := lprod_ne h.nz
      rcases Int.mul_eq_zero.1 h3.symm with h5 | h5
      · rw [h5]; simp
      · exact absurd h5 h4
  · intro b hbm
    rcases List.mem_or_eq_of_mem_set hbm with h1 | h1
    · exact h.nz _ h1
    · subst h1; rintro rfl; rw [hb'] at hb; simp at hb
  · intro p q hp hq hpq
    simp only [List.length_set] at hp hq
    have h1 : (xs.set i a')[p]'(by simpa using hp) ∣ xs[p] := by
      rw [List.getElem_set]
      split
      · rename_i h1; subst h1; rw [ha']; exact Int.dvd_mul_left _ _
      · exact Int.dvd_refl _
    have h2 : (bs.set k b')[q]'(by simpa using hq) ∣ bs[q] := by
      rw [List.getElem_set]
      split
      · rename_i h1; subst h1; rw [hb']; exact Int.dvd_mul_left _ _
      · exact Int.dvd_refl _
    by_cases h3 : p < i ∨ p = i ∧ q < k
    · exact cop_dvd_l (cop_dvd_r (h.c1 p q hp hq h3) h2) h1
    · have h4 : p = i ∧ q = k := by omega
      obtain ⟨rfl, rfl⟩ := h4
      simpa using hc
theorem Low_next {U V : Int} {xs bs : List Int} {i : Nat} (h : Low U V xs bs i bs.length) : Low U V xs bs (i + 1) 0 :=
  ⟨h.rat, h.nz, fun p q hp hq hpq => h.c1 p q hp hq (by omega)⟩
theorem Low_end {U V : Int} {xs bs : List Int} (h : Low U V xs bs xs.length 0) : cop (lprod xs) (lprod bs) := by
  refine cop_lprod fun a ha b hb => ?_
  obtain ⟨p, hp, rfl⟩ := List.getElem_of_mem ha
  obtain ⟨q, hq, rfl⟩ := List.getElem_of_mem hb
  exact h.c1 p q hp hq (.inl hp)
theorem Low_rd {U V : Int} {xs bs : List Int} (hV : V ≠ 0) (h : Low U V xs bs xs.length 0) : rd U V = if lprod bs < 0 then (-lprod xs, -lprod bs) else (lprod xs, lprod bs) := by
  have h1 := Low_end h
  have h2 := lprod_ne h.nz
  split
  · refine rd_eq hV (by omega) (by simpa [cop] using h1) ?_
    rw [Int.neg_mul, Int.mul_neg, h.rat]
  · exact rd_eq hV (by omega) h1 h.rat

/-! ### Dividing prime by prime -/
/-- What is found: 'on / od' times 'A / B' is 'N / D'. -/
structure Pri (N D on od A B : Int) : Prop where
  on0 : 0 < on
  od0 : 0 < od
  A0 : 0 < A
  B0 : 0 < B
  rat : N * (od * B) = D * (on * A)
  c : cop on od
  c1 : cop on (A * B)
  c2 : cop od (A * B)
theorem Pri.swap {N D on od A B : Int} (h : Pri N D on od A B) : Pri D N od on B A :=
  ⟨h.od0, h.on0, h.B0, h.A0, h.rat.symm, cop_comm.1 h.c, by rw [Int.mul_comm]; exact h.c2, by rw [Int.mul_comm]; exact h.c1⟩
/-- The numbers that are no multiples of 'p' have no divisor with it. -/
def isP (p : Int) : Prop := 2 ≤ p ∧ ∀ y : Int, ¬ p ∣ y → cop p y
theorem Pri_up {N D on od A B p : Int} {P Q : Nat} (hp : isP p) (h : Pri N D on od (p ^ P * A) (p ^ Q * B)) (hA : cop p A) (hB : cop p B) (hPQ : Q ≤ P) :
    Pri N D (on * p ^ (P - Q)) od A B := by
  have p0 : 0 < p := by have := hp.1; omega
  have pk : ∀ k : Nat, 0 < p ^ k := fun k => Int.pow_pos p0
  have A0 : 0 < A := by
    have := h.A0; exact Int.pos_of_mul_pos_right (a := p ^ P) this (by have := pk P; omega) 
  have B0 : 0 < B := by
    have := h.B0; exact Int.pos_of_mul_pos_right (a := p ^ Q) this (by have := pk Q; omega) 
  have d1 : A * B ∣ (p ^ P * A) * (p ^ Q * B) := ⟨p ^ P * p ^ Q, by ac_rfl⟩
  refine ⟨Int.mul_pos h.on0 (pk _), h.od0, A0, B0, ?_, ?_, ?_, ?_⟩
  · have h1 := h.rat
    have h2 : p ^ P = p ^ Q * p ^ (P - Q) := by rw [← Int.pow_add]; congr 1; omega
    rw [h2] at h1
    refine Int.eq_of_mul_eq_mul_left (a := p ^ Q) (by have := pk Q; omega) ?_
    calc p ^ Q * (N * (od * B)) = N * (od * (p ^ Q * B)) := by ac_rfl
      _ = D * (on * (p ^ Q * p ^ (P - Q) * A)) := h1
      _ = _ := by ac_rfl
  · refine cop_mul_l h.c ?_
    by_cases h0 : P - Q = 0
    · rw [h0, Int.pow_zero]; exact cop_one_l
    · refine cop_pow_l (cop_comm.1 (cop_dvd_r h.c2 ?_))
      obtain ⟨P', rfl⟩ : ∃ k, P = k + 1 := ⟨P - 1, by omega⟩
      exact ⟨p ^ P' * A * (p ^ Q * B), by rw [Int.pow_succ]; ac_rfl⟩
  · exact cop_mul_l (cop_dvd_r h.c1 d1) (cop_pow_l (cop_mul_r hA hB))
  · exact cop_dvd_r h.c2 d1
theorem Pri_dn {N D on od A B p : Int} {P Q : Nat} (hp : isP p) (h : Pri N D on od (p ^ P * A) (p ^ Q * B)) (hA : cop p A) (hB : cop p B) (hPQ : P ≤ Q) :
    Pri N D on (od * p ^ (Q - P)) A B := (Pri_up hp h.swap hB hA hPQ).swap
theorem Pri_le {N D on od A B : Int} (hN : 0 < N) (h : Pri N D on od A B) : on ≤ N := by
  have h1 : on ∣ (od * B) * N := by rw [Int.mul_comm, h.rat]; exact ⟨D * A, by ac_rfl⟩
  have h2 : cop (od * B) on := cop_mul_l (cop_comm.1 h.c) (cop_comm.1 (cop_dvd_r h.c1 (Int.dvd_mul_left _ _)))
  exact Int.le_of_dvd hN (dvd_of_cop h2 h1)
theorem Pri_end {N D on od : Int} (hD : 0 < D) (hc : cop N D) (h : Pri N D on od 1 1) : on = N ∧ od = D := by
  have h1 := h.rat
  simp only [Int.mul_one] at h1
  exact rd_uniq h.od0 hD h.c hc (by rw [Int.mul_comm, ← h1])

/-- The least divisor is a prime. -/
theorem isP_of {p x : Int} (h2 : 2 ≤ p) (hd : p ∣ x) (hl : ∀ d : Int, 2 ≤ d → d < p → ¬ d ∣ x) : isP p := by
  refine ⟨h2, fun y hy => ?_⟩
  have h3 : (Int.gcd p y : Int) ∣ p := Int.gcd_dvd_left _ _
  have h4 : (Int.gcd p y : Int) ≤ p := Int.le_of_dvd (by omega) h3
  have h5 : (Int.gcd p y : Int) ∣ y := Int.gcd_dvd_right _ _
  have h6 : Int.gcd p y ≠ 0 := by
    intro h; rw [Int.gcd_eq_zero_iff] at h; omega
  by_cases h7 : (Int.gcd p y : Int) = p
  · rw [h7] at h5; exact absurd h5 hy
  · by_cases h8 : (Int.gcd p y : Int) = 1
    · show Int.gcd p y = 1
      omega
    · exact absurd (Int.dvd_trans h3 hd) (hl _ (by omega) (by omega))
/-- A number without divisors up to its root is a prime. -/
theorem isP_self {p x : Int} (h2 : 2 ≤ p) (hx : 2 ≤ x) (hl : ∀ d : Int, 2 ≤ d → d < p → ¬ d ∣ x) (hpp : x < p * p) : isP x := by
  refine isP_of hx (Int.dvd_refl _) fun d d2 dx hd => ?_
  by_cases h : d < p
  · exact hl d d2 h hd
  · obtain ⟨e, he⟩ := hd
    have e2 : 2 ≤ e := by
      by_cases h3 : e ≤ 0
      · have : d * e ≤ d * 0 := Int.mul_le_mul_of_nonneg_left h3 (by omega)
        omega
      · by_cases h4 : e = 1
        · subst h4; omega
        · omega
    have e3 : e < p := by
      by_cases h3 : e < p
      · exact h3
      · have : p * p ≤ d * e := Int.mul_le_mul (by omega) (by omega) (by omega) (by omega)
        omega
    exact hl e e2 e3 ⟨d, by rw [he]; ac_rfl⟩

/-! ### The value of a move of Kind 2 -/
def vU (f l : Nat) (u v : Int) : Int := u ^ f * (v - u) ^ l * (f + l : Int) ^ (f + l)
def vV (f l : Nat) (v : Int) : Int := v ^ (f + l) * ((f : Int) ^ f * (l : Int) ^ l)
theorem vV_pos {f l : Nat} {v : Int} (hf : 1 ≤ f) (hl : 1 ≤ l) (hv : 0 < v) : 0 < vV f l v :=
  Int.mul_pos (Int.pow_pos hv) (Int.mul_pos (Int.pow_pos (by omega)) (Int.pow_pos (by omega)))
theorem cop_sub {u v : Int} (h : cop u v) : cop (v - u) v := by
  unfold cop at *
  rw [Int.gcd_sub_left_left_of_dvd u (Int.dvd_refl v)]
  exact h
theorem rd_bounds {f l : Nat} {u v : Int} (hf : 1 ≤ f) (hl : 1 ≤ l) (hv : 0 < v) (hc : cop u v) :
    u.natAbs ^ f * (v - u).natAbs ^ l ≤ (rd (vU f l u v) (vV f l v)).1.natAbs * (f ^ f * l ^ l) ∧
    v.natAbs ^ (f + l) ≤ (rd (vU f l u v) (vV f l v)).2.natAbs * (f + l) ^ (f + l) := by
  obtain ⟨h1, h2, h3⟩ := rd_spec (U := vU f l u v) (V := vV f l v) (by have := vV_pos hf hl hv; omega)
  generalize rd (vU f l u v) (vV f l v) = r at *
  obtain ⟨n, d⟩ := r
  simp only at *
  have hcA : cop (u ^ f * (v - u) ^ l) (v ^ (f + l)) := cop_pow_r (cop_mul_l (cop_pow_l hc) (cop_pow_l (cop_sub hc)))
  unfold vU vV at h3
  generalize hA : u ^ f * (v - u) ^ l = A at *
  generalize hB : v ^ (f + l) = B at *
  generalize hP : (f + l : Int) ^ (f + l) = P at *
  generalize hQ : (f : Int) ^ f * (l : Int) ^ l = Q at *
  have P0 : 0 < P := by rw [← hP]; exact Int.pow_pos (by omega)
  have Q0 : 0 < Q := by rw [← hQ]; exact Int.mul_pos (Int.pow_pos (by omega)) (Int.pow_pos (by omega))
  have B0 : 0 < B := by rw [← hB]; exact Int.pow_pos hv
  -- n (B Q) = (A P) d
  have dd : d ∣ B * Q := by
    refine dvd_of_cop (m := n) h2 ?_
    rw [h3]; exact Int.dvd_mul_left _ _
  obtain ⟨g, hg⟩ := dd
  have hg2 : n * g = A * P := by
    refine Int.eq_of_mul_eq_mul_right (a := d) (by omega) ?_
    rw [← h3, hg]; ac_rfl
  have g0 : 0 < g := by
    have : 0 < d * g := by rw [← hg]; exact Int.mul_pos B0 Q0
    exact Int.pos_of_mul_pos_right (a := d) this (by omega)
  have gd : g ∣ P * Q := by
    have q1 : g ∣ A * (P * Q) := ⟨n * Q, by rw [← Int.mul_assoc, ← hg2]; ac_rfl⟩
    have q2 : g ∣ B * (P * Q) := ⟨d * P, by rw [show B * (P * Q) = (B * Q) * P by ac_rfl, hg]; ac_rfl⟩
    have q3 : (g.natAbs : Int) ∣ A * (P * Q) := by rw [Int.natAbs_of_nonneg (by omega)]; exact q1
    have q4 : (g.natAbs : Int) ∣ B * (P * Q) := by rw [Int.natAbs_of_nonneg (by omega)]; exact q2
    have q5 := Int.dvd_gcd q3 q4
    rw [Int.gcd_mul_right, show Int.gcd A B = 1 from hcA, Nat.one_mul] at q5
    rwa [Int.natAbs_dvd_natAbs] at q5
  have gle : g ≤ P * Q := Int.le_of_dvd (Int.mul_pos P0 Q0) gd
  have e1 : A.natAbs = u.natAbs ^ f * (v - u).natAbs ^ l := by rw [← hA, Int.natAbs_mul, Int.natAbs_pow, Int.natAbs_pow]
  have e2 : B.natAbs = v.natAbs ^ (f + l) := by rw [← hB, Int.natAbs_pow]
  have e3 : Q.natAbs = f ^ f * l ^ l := by rw [← hQ, Int.natAbs_mul, Int.natAbs_pow, Int.natAbs_pow]; simp
  have e4 : P.natAbs = (f + l) ^ (f + l) := by rw [← hP, Int.natAbs_pow]; congr 1
  rw [← e1, ← e2, ← e3, ← e4]
  have gle' : g.natAbs ≤ P.natAbs * Q.natAbs := by rw [← Int.natAbs_mul]; omega
  constructor
  · refine Nat.le_of_mul_le_mul_right (c := P.natAbs) ?_ (by omega)
    rw [← Int.natAbs_mul, ← hg2, Int.natAbs_mul, Nat.mul_assoc, Nat.mul_comm Q.natAbs]
    exact Nat.mul_le_mul_left _ gle'
  · refine Nat.le_of_mul_le_mul_right (c := Q.natAbs) ?_ (by omega)
    rw [← Int.natAbs_mul, hg, Int.natAbs_mul, Nat.mul_assoc]
    exact Nat.mul_le_mul_left _ gle'
theorem pow_ge {K a f : Nat} (h : K * f ≤ a) : K ^ f * f ^ f ≤ a ^ f := by
  rw [← Nat.mul_pow]; exact Nat.pow_le_pow_left h f
/-- Where a part of a factor is too great, a part of the value is. -/
theorem rd_big {f l : Nat} {u v : Int} (hf : 1 ≤ f ∧ f ≤ 20) (hl : 1 ≤ l ∧ l ≤ 20) (hv : 0 < v) (hc : cop u v)
    (h : 25000000 < u.natAbs ∨ 25000000 < (v - u).natAbs ∨ 50000000 < v) :
    1000000000 < (rd (vU f l u v) (vV f l v)).1.natAbs ∨ 1000000000 < (rd (vU f l u v) (vV f l v)).2.natAbs := by
  obtain ⟨h1, h2⟩ := rd_bounds hf.1 hl.1 hv hc
  generalize rd (vU f l u v) (vV f l v) = r at *
  obtain ⟨n, d⟩ := r
  simp only at *
  by_cases hb : 1600000 ≤ v
  · right
    have h3 : 40000 * (f + l) ≤ v.natAbs := by omega
    have h4 := pow_ge h3
    have h5 : 40000 ^ (f + l) ≤ d.natAbs :=
      Nat.le_of_mul_le_mul_right (Nat.le_trans h4 h2) (Nat.pow_pos (by omega))
    have h6 : 40000 ^ 2 ≤ 40000 ^ (f + l) := Nat.pow_le_pow_right (by omega) (by omega)
    omega
  · left
    have h3 : 40000 * f ≤ u.natAbs := by omega
    have h4 : 40000 * l ≤ (v - u).natAbs := by omega
    have h5 := Nat.mul_le_mul (pow_ge h3) (pow_ge h4)
    have h6 : 40000 ^ f * 40000 ^ l ≤ n.natAbs := by
      refine Nat.le_of_mul_le_mul_right (c := f ^ f * l ^ l) ?_ (Nat.mul_pos (Nat.pow_pos (by omega)) (Nat.pow_pos (by omega)))
      refine Nat.le_trans (Nat.le_of_eq ?_) (Nat.le_trans h5 h1)
      ac_rfl
    rw [← Nat.pow_add] at h6
    have h7 : 40000 ^ 2 ≤ 40000 ^ (f + l) := Nat.pow_le_pow_right (by omega) (by omega)
    omega
/-- The parts of a fraction in least terms are no greater. -/
theorem rd_le {U V : Int} (hV : 0 < V) : (rd U V).1.natAbs ≤ U.natAbs ∧ (rd U V).2 ≤ V := by
  have hg := gcd_pos_r (a := U) (b := V) (by omega)
  constructor
  · simp only [rd]
    rw [Int.sign_eq_one_of_pos hV, Int.one_mul]
    exact Int.natAbs_ediv_le_natAbs _ _
  · simp only [rd]
    rw [Int.natAbs_of_nonneg (by omega)]
    exact Int.ediv_le_self _ (by omega)
/-- The value out of powers of two fractions. -/
theorem rd_pows {f l : Nat} {u v an ad bn bd : Int} (hf : 1 ≤ f) (hl : 1 ≤ l) (hv : 0 < v) (ha : 0 < ad) (hb : 0 < bd)
    (h1 : an * (v * f) = u * (f + l) * ad) (h2 : bn * (v * l) = (v - u) * (f + l) * bd) :
    rd (an ^ f * bn ^ l) (ad ^ f * bd ^ l) = rd (vU f l u v) (vV f l v) := by
  have hV := vV_pos hf hl hv
  have hW : 0 < ad ^ f * bd ^ l := Int.mul_pos (Int.pow_pos ha) (Int.pow_pos hb)
  refine rd_ratio (by omega) (by omega) ?_
  have e1 : (an * (v * f)) ^ f = (u * (f + l) * ad) ^ f := by rw [h1]
  have e2 : (bn * (v * l)) ^ l = ((v - u) * (f + l) * bd) ^ l := by rw [h2]
  simp only [Int.mul_pow] at e1 e2
  unfold vU vV
  rw [Int.pow_add, Int.pow_add]
  calc an ^ f * bn ^ l * (v ^ f * v ^ l * ((f : Int) ^ f * (l : Int) ^ l)) = (an ^ f * (v ^ f * (f : Int) ^ f)) * (bn ^ l * (v ^ l * (l : Int) ^ l)) := by ac_rfl
    _ = (u ^ f * (f + l : Int) ^ f * ad ^ f) * ((v - u) ^ l * (f + l : Int) ^ l * bd ^ l) := by rw [e1, e2]
    _ = _ := by ac_rfl

/-! ### What a move answers -/
def okPf (p : Int × Int) : Option (Int × Int) := if p.1.natAbs ≤ 1000000000 ∧ p.2 ≤ 1000000000 then some p else none
def mvO (k f l n d : Int) : Option (Int × Int) :=
  if k = 1 ∧ d = 0 then some (0, 1) else if d = 0 ∨ k = 1 ∧ n = 0 then some (1, 0)
  else if k = 0 then okPf (rd (d - n) d) else if k = 1 then okPf (rd d n)
  else okPf (rd (vU f.toNat l.toNat n d) (vV f.toNat l.toNat d))
def frV : Option (Int × Int) → V
  | some p => .tup [.agg [.int .i64 p.1, .int .i64 p.2], .int .i64 0]
  | none => .tup [.agg [.int .i64 0, .int .i64 0], .int .i64 3]
theorem frV_ok {p : Int × Int} (h : p.1.natAbs ≤ 1000000000 ∧ p.2 ≤ 1000000000) : frV (okPf p) = .tup [.agg [.int .i64 p.1, .int .i64 p.2], .int .i64 0] := by
  unfold okPf; rw [if_pos h]; rfl
theorem frV_no {p : Int × Int} (h : ¬ (p.1.natAbs ≤ 1000000000 ∧ p.2 ≤ 1000000000)) : frV (okPf p) = .tup [.agg [.int .i64 0, .int .i64 0], .int .i64 3] := by
  unfold okPf; rw [if_neg h]; rfl
theorem isFr_iff {n d : Int} : isFr n d = true ↔ (-1000000000 ≤ n ∧ n ≤ 1000000000 ∧ 0 ≤ d ∧ d ≤ 1000000000 ∧ Int.gcd n d = 1 ∧ (0 < d ∨ n = 1)) := by
  unfold isFr; exact decide_eq_true_iff
theorem okP_fr {U V a b : Int} (hV : V ≠ 0) (h : okPf (rd U V) = some (a, b)) : isFr a b = true := by
  obtain ⟨h1, h2, h3⟩ := rd_spec (U := U) hV
  unfold okPf at h
  split at h
  · rename_i h4
    simp only [Option.some.injEq] at h
    rw [h] at h1 h2 h4
    rw [isFr_iff]
    simp only at *
    exact ⟨by omega, by omega, by omega, by omega, h2, .inl h1⟩
  · exact absurd h (by simp)
/-- Values of moves are fractions. -/
theorem mvO_fr {k f l n d a b : Int} (hx : isFr n d = true) (hm : isMoveB k f l = true) (h : mvO k f l n d = some (a, b)) : isFr a b = true := by
  have hm' : k = 2 ∧ 1 ≤ f ∧ f ≤ 20 ∧ 1 ≤ l ∧ l ≤ 20 ∨ (k = 0 ∨ k = 1) ∧ f = 0 ∧ l = 0 := by simpa [isMoveB] using hm
  rw [isFr_iff] at hx
  unfold mvO at h
  split at h
  · cases h; decide
  · split at h
    · cases h; decide
    · split at h
      · exact okP_fr (by omega) h
      · split at h
        · exact okP_fr (by omega) h
        · have := vV_pos (f := f.toNat) (l := l.toNat) (v := d) (by omega) (by omega) (by omega)
          exact okP_fr (by omega) h
end Go.Proofs.Ytlfpiegadaiafaa.Sep

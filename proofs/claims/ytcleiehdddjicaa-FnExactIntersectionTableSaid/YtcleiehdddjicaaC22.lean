/- What CoverOf computes. -/
import Derived.Test.YtcleiehdddjicaaC21
namespace Go.Proofs.Ytcleiehdddjicaa.Sep
open Go.RowKit
set_option linter.unusedVariables false
set_option linter.unusedSimpArgs false
set_option maxRecDepth 20000

noncomputable def covC (n : Int) (b w : List Int) (m : Int) (a c : List Int) : Int :=
  if isDB n b w = true then (if (decide (1 ≤ m ∧ m ≤ 16) && voltB n m a && voltB n m c) = true then 0 else 2) else 1
/-! ### Coverings -/
theorem covC_0 {n m : Int} {b w a c : List Int} (h : covC n b w m a c = 0) : isD n b w ∧ (1 ≤ m ∧ m ≤ 16) ∧ ((a.length : Int) = n ∧ ∀ k, k < a.length → 0 ≤ gi a k ∧ gi a k < m) ∧ (c.length : Int) = n ∧ ∀ k, k < c.length → 0 ≤ gi c k ∧ gi c k < m := by
  unfold covC at h
  split at h
  · rename_i hd
    split at h
    · rename_i hv
      simp only [Bool.and_eq_true, decide_eq_true_eq] at hv
      exact ⟨isDB_iff.1 hd, hv.1.1, voltB_at hv.1.2, voltB_at hv.2⟩
    · omega
  · omega
def cvV (m : Int) (b a : List Int) (x i : Nat) : Int := m * gi b x + ((i : Int) + gi a x).tmod m
def cvI (m : Int) (x : Nat) (f : Nat → Int) : Nat → List Int → List Int
  | 0, l => l
  | k + 1, l => (cvI m x f k l).set (m * x + k).toNat (f k)
def cvO (m : Int) (b a : List Int) : Nat → List Int
  | 0 => List.replicate 16 0
  | x + 1 => cvI m x (cvV m b a x) m.toNat (cvO m b a x)
theorem okP_set {p : List Int} (h : okP p) {k : Nat} {v : Int} (hv : 0 ≤ v ∧ v ≤ 255) : okP (p.set k v) := ⟨by simp [h.1], fun i hi => by
  rw [gi_set]; split
  · exact hv
  · exact h.2 i hi⟩
theorem cvI_ok {m : Int} {x : Nat} {f : Nat → Int} : ∀ (k : Nat) {l : List Int}, okP l → (∀ i, i < k → 0 ≤ f i ∧ f i ≤ 255) → okP (cvI m x f k l)
  | 0, l, h, hf => h
  | k + 1, l, h, hf => okP_set (cvI_ok k h fun i hi => hf i (by omega)) (hf k (by omega))
theorem cvV_lim {n m : Int} {b a : List Int} {x i : Nat} (hm : 1 ≤ m) (hnm : n * m ≤ 16) (hn : n ≤ 16) (hb : 0 ≤ gi b x ∧ gi b x < n) (ha : 0 ≤ gi a x) :
    (0 ≤ m * gi b x ∧ m * gi b x ≤ 16) ∧ (0 ≤ ((i : Int) + gi a x).tmod m ∧ ((i : Int) + gi a x).tmod m < m) ∧ 0 ≤ cvV m b a x i ∧ cvV m b a x i < 16 := by
  have h1 : m * (gi b x + 1) ≤ m * n := Int.mul_le_mul_of_nonneg_left (by omega) (by omega)
  have h2 : 0 ≤ m * gi b x := Int.mul_nonneg (by omega) hb.1
  have h3 := Int.tmod_nonneg m (a := (i : Int) + gi a x) (by omega)
  have h4 := Int.tmod_lt_of_pos ((i : Int) + gi a x) (show 0 < m by omega)
  rw [Int.mul_add, Int.mul_one, Int.mul_comm m n] at h1
  unfold cvV
  exact ⟨⟨h2, by omega⟩, ⟨h3, h4⟩, by omega, by omega⟩
theorem idx_lim {n m : Int} {x i : Nat} (hm : 1 ≤ m) (hnm : n * m ≤ 16) (hx : (x : Int) < n) (hi : (i : Int) < m) : 0 ≤ m * x ∧ m * x + i < 16 ∧ m * x ≤ 16 := by
  have h1 : m * ((x : Int) + 1) ≤ m * n := Int.mul_le_mul_of_nonneg_left (by omega) (by omega)
  have h2 : 0 ≤ m * (x : Int) := Int.mul_nonneg (by omega) (by omega)
  rw [Int.mul_add, Int.mul_one, Int.mul_comm m n] at h1
  omega
theorem cvO_ok {n m : Int} {b a : List Int} (hm : 1 ≤ m) (hnm : n * m ≤ 16) (hn : n ≤ 16) (hb : ∀ x : Nat, (x : Int) < n → 0 ≤ gi b x ∧ gi b x < n) (ha : ∀ x : Nat, (x : Int) < n → 0 ≤ gi a x) : ∀ x : Nat, (x : Int) ≤ n → okP (cvO m b a x)
  | 0, _ => ⟨by simp [cvO], fun i hi => by simp only [cvO]; rw [gi_rep]; split <;> omega⟩
  | x + 1, hx => cvI_ok _ (cvO_ok hm hnm hn hb ha x (by omega)) fun i hi => by
    have := (cvV_lim (i := i) hm hnm hn (hb x (by omega)) (ha x (by omega))).2.2
    omega
abbrev DCode := (Int × List Int × List Int) × Int
def z16 : List Int := List.replicate 16 0
noncomputable def covR (n : Int) (b w : List Int) (m : Int) (a c : List Int) : DCode :=
  if covC n b w m a c ≠ 0 then ((0, z16, z16), covC n b w m a c) else if 16 < n * m then ((0, z16, z16), 3) else
    if isDB (n * m) (cvO m b a n.toNat) (cvO m w c n.toNat) = true then ((n * m, cvO m b a n.toNat, cvO m w c n.toNat), 0) else ((0, z16, z16), 5)
def vDC (r : DCode) : V := .tup [vD r.1.1 r.1.2.1 r.1.2.2, .int .i64 r.2]

theorem covR_len {n m : Int} {b w a c : List Int} (hb : okP b) (hw : okP w) : (covR n b w m a c).1.2.1.length = 16 ∧ (covR n b w m a c).1.2.2.length = 16 := by
  unfold covR
  split
  · exact ⟨rfl, rfl⟩
  · rename_i h
    split
    · exact ⟨rfl, rfl⟩
    · rename_i h'
      obtain ⟨hd, hm, ⟨hal, hav⟩, hcl, hcv⟩ := covC_0 (by simpa using h)
      have hn := hd.pb.1
      split
      · exact ⟨(cvO_ok hm.1 (by omega) hn.2 (fun x hx => ⟨(hb.2 x (by omega)).1, ((hd.pb.2 x (by omega)).1 hx).1⟩) (fun x hx => (hav x (by omega)).1) _ (by omega)).len,
          (cvO_ok hm.1 (by omega) hn.2 (fun x hx => ⟨(hw.2 x (by omega)).1, ((hd.pw.2 x (by omega)).1 hx).1⟩) (fun x hx => (hcv x (by omega)).1) _ (by omega)).len⟩
      · exact ⟨rfl, rfl⟩
end Go.Proofs.Ytcleiehdddjicaa.Sep

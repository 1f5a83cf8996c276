/- The homology basis. -/
import Derived.Test.YtcleiehdddjicaaC46
namespace Go.Proofs.Ytcleiehdddjicaa.Sep
open Go.RowKit
set_option linter.unusedVariables false
set_option linter.unusedSimpArgs false
set_option maxRecDepth 20000
set_option maxHeartbeats 4000000

/-! ### On which face an edge lies, over as many edges as there are -/
def nO (A : List (List Int)) (n : Nat) : Nat → List Int
  | 0 => List.replicate n 0
  | v + 1 => wI v (gl A v) (gl A v).length (nO A n v)
theorem nO_len {A : List (List Int)} {n : Nat} : ∀ v, (nO A n v).length = n
  | 0 => by simp [nO]
  | v + 1 => by simp [nO, wI_len, nO_len v]
theorem nI_at {v n : Nat} {c L M : List Int} (hc : ∀ y ∈ c, 0 ≤ y ∧ y < n) (hn : n ≤ 16) (hL : L.length = n) (hM : M.length = 16) (h : ∀ x, x < n → gi L x = gi M x) {x : Nat} (hx : x < n) : ∀ s, s ≤ c.length → gi (wI v c s L) x = gi (wI v c s M) x
  | 0, _ => by simp only [wI]; exact h x hx
  | s + 1, hs => by
    have ih := nI_at (v := v) hc hn hL hM h hx s (by omega)
    have hcs := hc (gi c s) (by rw [gi_of (show s < c.length by omega)]; exact List.getElem_mem _)
    simp only [wI]
    rw [gi_set, gi_set, wI_len, wI_len, hL, hM]
    by_cases e : (gi c s).toNat = x
    · rw [if_pos ⟨e, hx⟩, if_pos ⟨e, by omega⟩]
    · rw [if_neg (fun h => e h.1), if_neg (fun h => e h.1)]; exact ih
theorem nO_at {A : List (List Int)} {n : Nat} (hn : n ≤ 16) (hA : ∀ l ∈ A, ∀ y ∈ l, 0 ≤ y ∧ y < n) : ∀ v, v ≤ A.length → ∀ x, x < n → gi (nO A n v) x = gi (wO A v) x
  | 0, _, x, hx => by simp only [nO, wO]; rw [gi_rep0, gi_rep0]
  | v + 1, hv, x, hx => by
    simp only [nO, wO]
    exact nI_at (hA _ (gl_mem (by omega))) hn (nO_len v) (wO_len v) (fun y hy => nO_at hn hA v (by omega) y hy) hx _ (Nat.le_refl _)
section
variable {n : Int} {b w : List Int}
def fcL (b w : List Int) (n : Int) : List (List Int) := cyc (faceP b w n) n
def numL (b w : List Int) (n : Int) : List Int := nO (fcL b w n) n.toNat (fcL b w n).length
def fwL (b w : List Int) (n : Int) : List Int := whichL (faceP b w n) n
theorem fc_lo (hn : 1 ≤ n ∧ n ≤ 16) : lo16 (faceP b w n) := backP_lo hn
theorem fc_lt (hn : 1 ≤ n ∧ n ≤ 16) : ltP (faceP b w n) n := backP_lt hn
theorem num_at (hn : 1 ≤ n ∧ n ≤ 16) {x : Nat} (hx : x < n.toNat) : gi (numL b w n) x = gi (fwL b w n) x := by
  unfold numL fwL whichL
  refine nO_at (by omega) (fun l hl y hy => ?_) _ (Nat.le_refl _) x hx
  have := (cyc_at (fc_lt hn) hn l hl).1 y hy
  omega
theorem fw_lim (hn : 1 ≤ n ∧ n ≤ 16) {x : Nat} : 0 ≤ gi (fwL b w n) x ∧ gi (fwL b w n) x < (fcL b w n).length := whichL_lim hn (fc_lt hn)
theorem fc_len (hn : 1 ≤ n ∧ n ≤ 16) : (fcL b w n).length ≤ 16 := cyc_lim hn
/-- The other edge whose face is joined. -/
def bkx (b : List Int) (n : Int) (k : Nat) : Nat := (gi (backP b n) k).toNat
theorem bkx_lt (hn : 1 ≤ n ∧ n ≤ 16) {k : Nat} (hk : k < n.toNat) : bkx b n k < n.toNat := by
  have := backP_lt (p := b) hn k (by omega)
  unfold bkx; omega
noncomputable def bI (b w : List Int) (n : Int) : Nat → List Int × List (List Int)
  | 0 => (iota 0 (fcL b w n).length, [])
  | k + 1 => if gb (treeM b w n) k = true then bI b w n k else
      (jnL (bI b w n k).1 (max (gi (bI b w n k).1 (gi (numL b w n) k).toNat) (gi (bI b w n k).1 (gi (numL b w n) (bkx b n k)).toNat)) (min (gi (bI b w n k).1 (gi (numL b w n) k).toNat) (gi (bI b w n k).1 (gi (numL b w n) (bkx b n k)).toNat)),
        if gi (bI b w n k).1 (gi (numL b w n) k).toNat = gi (bI b w n k).1 (gi (numL b w n) (bkx b n k)).toNat then (bI b w n k).2 ++ [cyL b w n k] else (bI b w n k).2)
noncomputable def bS (b w : List Int) (n : Int) : Nat → List Int × List (List Int)
  | 0 => (iota 0 16, [])
  | k + 1 => if gb (treeM b w n) k = true then bS b w n k else
      (jnL (bS b w n k).1 (gi (bS b w n k).1 (gi (fwL b w n) (bkx b n k)).toNat) (gi (bS b w n k).1 (gi (fwL b w n) k).toNat),
        if gi (bS b w n k).1 (gi (fwL b w n) (bkx b n k)).toNat = gi (bS b w n k).1 (gi (fwL b w n) k).toNat then (bS b w n k).2 ++ [cyL b w n k] else (bS b w n k).2)
theorem bI_len : ∀ k, (bI b w n k).1.length = (fcL b w n).length ∧ (bI b w n k).2.length ≤ k
  | 0 => by simp [bI, iota_len]
  | k + 1 => by
    obtain ⟨h1, h2⟩ := bI_len k
    simp only [bI]
    split
    · exact ⟨h1, by omega⟩
    · refine ⟨by simp [jnL_len, h1], ?_⟩
      split <;> simp <;> omega
theorem bS_len : ∀ k, (bS b w n k).1.length = 16
  | 0 => by simp [bS, iota_len]
  | k + 1 => by
    have h1 := bS_len k
    simp only [bS]
    split
    · exact h1
    · simp [jnL_len, h1]
theorem b_rel (hn : 1 ≤ n ∧ n ≤ 16) : ∀ k, k ≤ n.toNat → (∀ i j, i < (fcL b w n).length → j < (fcL b w n).length → (gi (bI b w n k).1 i = gi (bI b w n k).1 j ↔ gi (bS b w n k).1 i = gi (bS b w n k).1 j)) ∧ (bI b w n k).2 = (bS b w n k).2 := by
  intro k
  induction k with
  | zero =>
    intro _
    have := fc_len (b := b) (w := w) hn
    refine ⟨fun i j hi hj => ?_, rfl⟩
    simp only [bI, bS]
    rw [iota_at hi, iota_at hj, iota_at (by omega), iota_at (by omega)]
  | succ k ih =>
    intro hk
    obtain ⟨h1, h2⟩ := ih (by omega)
    have hF := fc_len (b := b) (w := w) hn
    obtain ⟨q1, -⟩ := bI_len (b := b) (w := w) (n := n) k
    have q2 := bS_len (b := b) (w := w) (n := n) k
    have n0 := num_at (b := b) (w := w) hn (x := k) (by omega)
    have n1 := num_at (b := b) (w := w) hn (bkx_lt (b := b) hn (k := k) (by omega))
    have f0 := fw_lim (b := b) (w := w) hn (x := k)
    have f1 := fw_lim (b := b) (w := w) hn (x := bkx b n k)
    simp only [bI, bS]
    rw [n0, n1]
    split
    · exact ⟨h1, h2⟩
    · have k01 := h1 (gi (fwL b w n) k).toNat (gi (fwL b w n) (bkx b n k)).toNat (by omega) (by omega)
      refine ⟨fun i j hi hj => ?_, ?_⟩
      · have ki0 := h1 i (gi (fwL b w n) k).toNat hi (by omega)
        have ki1 := h1 i (gi (fwL b w n) (bkx b n k)).toNat hi (by omega)
        have kj0 := h1 j (gi (fwL b w n) k).toNat hj (by omega)
        have kj1 := h1 j (gi (fwL b w n) (bkx b n k)).toNat hj (by omega)
        have kij := h1 i j hi hj
        rw [jnL_rel (by omega) (by omega), jnL_rel (by omega) (by omega)]
        omega
      · simp only
        rw [h2]
        split <;> split <;> first | rfl | (exfalso; omega)
theorem bI_mem {y : List Int} : ∀ k, y ∈ (bI b w n k).2 → ∃ e, e < k ∧ gb (treeM b w n) e = false ∧ y = cyL b w n e
  | 0, h => by simp [bI] at h
  | k + 1, h => by
    simp only [bI] at h
    split at h
    · obtain ⟨e, h1, h2, h3⟩ := bI_mem k h; exact ⟨e, by omega, h2, h3⟩
    · rename_i hg
      have hg' : gb (treeM b w n) k = false := by simpa using hg
      simp only at h
      split at h
      · rcases List.mem_append.1 h with h | h
        · obtain ⟨e, h1, h2, h3⟩ := bI_mem k h; exact ⟨e, by omega, h2, h3⟩
        · simp only [List.mem_cons, List.not_mem_nil, or_false] at h
          exact ⟨k, by omega, hg', h⟩
      · obtain ⟨e, h1, h2, h3⟩ := bI_mem k h; exact ⟨e, by omega, h2, h3⟩
noncomputable def basL (b w : List Int) (n : Int) : List (List Int) := (bI b w n n.toNat).2
theorem basL_len : (basL b w n).length ≤ n.toNat := (bI_len n.toNat).2
theorem basL_mem {y : List Int} (h : y ∈ basL b w n) : ∃ e, e < n.toNat ∧ gb (treeM b w n) e = false ∧ y = cyL b w n e := bI_mem n.toNat h
end
end Go.Proofs.Ytcleiehdddjicaa.Sep

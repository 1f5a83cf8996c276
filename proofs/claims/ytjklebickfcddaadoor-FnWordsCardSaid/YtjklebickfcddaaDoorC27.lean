/- What BoundariesOf computes. -/
import Derived.Test.YtjklebickfcddaaDoorC23
import Derived.Test.YtjklebickfcddaaDoorC25
import Derived.Test.YtjklebickfcddaaDoorC26
namespace Go.Proofs.YtjklebickfcddaaDoor.Sep
open Go.RowKit
set_option linter.unusedVariables false
set_option linter.unusedSimpArgs false
set_option maxRecDepth 20000

/-- Numbers below n lead to numbers below n. -/
def ltP (p : List Int) (n : Int) : Prop := ∀ x : Nat, (x : Int) < n → 0 ≤ gi p x ∧ gi p x < n
theorem isPm.ltP {p : List Int} {n : Int} (hp : okP p) (h : isPm p n) : ltP p n := fun x hx => ⟨(hp.2 x (by have := h.1; omega)).1, ((h.2 x (by have := h.1; omega)).1 hx).1⟩
theorem putL_lt {n : Int} {f : Nat → Nat × Int} : ∀ (k : Nat), (∀ i, i < k → 0 ≤ (f i).2 ∧ (f i).2 < n) → 1 ≤ n → ltP (putL f k) n
  | 0, _, hn => fun x hx => by simp only [putL]; rw [gi_rep]; split <;> omega
  | k + 1, h, hn => fun x hx => by
    simp only [putL]
    rw [gi_set]
    split
    · exact h k (by omega)
    · exact putL_lt k (fun i hi => h i (by omega)) hn x hx
theorem backP_lt {p : List Int} {n : Int} (hn : 1 ≤ n ∧ n ≤ 16) : ltP (backP p n) n := putL_lt _ (fun i hi => by simp only [backF]; omega) hn.1
theorem cycF_lt {p : List Int} {n : Int} (hp : ltP p n) : ∀ (c : Nat) {k : Int} {m : List Bool} {acc : List Int}, m.count false = c → (0 ≤ k ∧ k < n) → (∀ y ∈ acc, 0 ≤ y ∧ y < n) → ∀ y ∈ (cycF p k m acc).2, 0 ≤ y ∧ y < n := by
  intro c
  induction c using Nat.strongRecOn with
  | ind c ih =>
    intro k m acc hc hk hacc
    by_cases h : gb m k.toNat = false ∧ k.toNat < m.length
    · rw [cycF_go h.1 h.2]
      have hlt := count_false_lt h.1 h.2
      refine @ih _ (by omega) (gi p k.toNat) (m.set k.toNat true) (acc ++ [k]) rfl (hp _ (by omega)) fun y hy => ?_
      simp only [List.mem_append, List.mem_singleton] at hy
      rcases hy with hy | rfl
      · exact hacc y hy
      · exact hk
    · rw [cycF, dif_neg h]; exact hacc
theorem cycO_lt {p : List Int} {n : Int} (hp : ltP p n) : ∀ i : Nat, (i : Int) ≤ n → ∀ l ∈ (cycO p i).2, (∀ y ∈ l, 0 ≤ y ∧ y < n) ∧ l.length ≤ 16
  | 0, _ => by simp [cycO]
  | i + 1, hi => by
    have ih := cycO_lt hp i (by omega)
    simp only [cycO]
    split
    · exact ih
    · intro l hl
      simp only [List.mem_append, List.mem_singleton] at hl
      rcases hl with hl | rfl
      · exact ih l hl
      · refine ⟨cycF_lt hp _ rfl ⟨by omega, by omega⟩ (by simp), ?_⟩
        have h1 := (cycF_len (p := p) _ (k := (i : Int)) (m := (cycO p i).1) (acc := []) rfl).2.2
        have h2 := List.count_le_length (a := false) (l := (cycO p i).1)
        rw [(cycO_len i).1] at h2
        simp at h1
        omega

/-! ### Chains -/
def chStep (b : List Int) (l : List Int) (x : Int) : List Int :=
  (l.set (gi b x.toNat).toNat (gi l (gi b x.toNat).toNat + 1)).set x.toNat (gi (l.set (gi b x.toNat).toNat (gi l (gi b x.toNat).toNat + 1)) x.toNat - 1)
def chT (b : List Int) (n : Int) (c : List Int) : Nat → List Int
  | 0 => List.replicate n.toNat 0
  | s + 1 => chStep b (chT b n c s) (gi c s)
theorem chT_len {b : List Int} {n : Int} {c : List Int} : ∀ s, (chT b n c s).length = n.toNat
  | 0 => by simp [chT]
  | s + 1 => by simp [chT, chStep, chT_len s]
theorem chT_lim {b : List Int} {n : Int} {c : List Int} : ∀ (s j : Nat), -(2 * (s : Int)) ≤ gi (chT b n c s) j ∧ gi (chT b n c s) j ≤ 2 * s
  | 0, j => by simp only [chT]; rw [gi_rep]; split <;> simp
  | s + 1, j => by
    have h1 := chT_lim (b := b) (n := n) (c := c) s
    have h2 : ∀ j, -(2 * (s : Int) + 1) ≤ gi ((chT b n c s).set (gi b (gi c s).toNat).toNat (gi (chT b n c s) (gi b (gi c s).toNat).toNat + 1)) j ∧
        gi ((chT b n c s).set (gi b (gi c s).toNat).toNat (gi (chT b n c s) (gi b (gi c s).toNat).toNat + 1)) j ≤ 2 * s + 1 := fun j => by
      rw [gi_set]
      have h3 := h1 j
      have h4 := h1 (gi b (gi c s).toNat).toNat
      split <;> omega
    simp only [chT, chStep]
    rw [gi_set]
    have h3 := h2 j
    have h4 := h2 (gi c s).toNat
    split <;> omega
def bndL (b w : List Int) (n : Int) : List (List Int) := (cyc (faceP b w n) n).map fun c => chT b n c c.length
end Go.Proofs.YtjklebickfcddaaDoor.Sep

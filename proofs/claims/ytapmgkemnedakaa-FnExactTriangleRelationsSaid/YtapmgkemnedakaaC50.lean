/- Words: texts of letters, what the functions on them compute. -/
import Derived.Test.YtapmgkemnedakaaC20
namespace Go.Proofs.Ytapmgkemnedakaa.Sep
open Go.RowKit
set_option linter.unusedVariables false
set_option linter.unusedSimpArgs false
set_option maxRecDepth 20000
set_option maxHeartbeats 1000000

/-! ### Texts as bytes -/
def ub (s : List UInt8) : List Int := s.map fun c => (c.toNat : Int)
def sb (l : List Int) : List UInt8 := l.map fun n => UInt8.ofNat n.toNat
theorem ub_len {s : List UInt8} : (ub s).length = s.length := by simp [ub]
theorem sb_len {l : List Int} : (sb l).length = l.length := by simp [sb]
theorem ub_at {s : List UInt8} {i : Nat} : ((s.getD i 0).toNat : Int) = gi (ub s) i := by
  simp only [ub, gi, List.getD, List.getElem?_map]
  cases s[i]? <;> rfl
theorem ub_app {s u : List UInt8} : ub (s ++ u) = ub s ++ ub u := by simp [ub]
theorem sb_app {l m : List Int} : sb (l ++ m) = sb l ++ sb m := by simp [sb]
theorem ub_lim {s : List UInt8} {i : Nat} : 0 ≤ gi (ub s) i ∧ gi (ub s) i ≤ 255 := by
  rw [← ub_at]; have := (s.getD i 0).toNat_lt; omega
theorem sb_ub {s : List UInt8} : sb (ub s) = s := by
  simp only [sb, ub, List.map_map]
  conv => rhs; rw [← List.map_id s]
  refine List.map_congr_left fun c _ => ?_
  simp
theorem ub_sb {l : List Int} (h : ∀ i, i < l.length → 0 ≤ gi l i ∧ gi l i ≤ 255) : ub (sb l) = l := by
  refine gi_ext (by simp [ub, sb]) fun j hj => ?_
  rw [ub_len, sb_len] at hj
  have h1 := h j hj
  rw [gi_of hj] at h1 ⊢
  rw [gi_of (by rw [ub_len, sb_len]; exact hj)]
  simp only [ub, sb, List.getElem_map, UInt8.toNat_ofNat']
  omega
theorem sb_inj {l m : List Int} (h1 : ∀ i, i < l.length → 0 ≤ gi l i ∧ gi l i ≤ 255) (h2 : ∀ i, i < m.length → 0 ≤ gi m i ∧ gi m i ≤ 255) (h : sb l = sb m) : l = m := by
  rw [← ub_sb h1, ← ub_sb h2, h]
theorem vbytes_vi : ∀ {l : List Int}, vbytes (vi .u8 l) = some (sb l)
  | [] => rfl
  | a :: l => by
    have ih := vbytes_vi (l := l)
    simp only [vi, List.map_cons, vbytes] at ih ⊢
    rw [ih]; rfl
def vb2sB (o n : Nat) : Slot → Option V
  | .row _ _ cs => grd ((0 < n ∨ o = 0) ∧ o + n ≤ cs.length) ((vbytes ((cs.drop o).take n)).bind fun s => some (.str s))
  | _ => none
theorem vb2s_rf {h : Hp} {b o n : Nat} : vb2s h (.rf b o n) = vb2sB o n (h b) := by simp only [vb2s]; cases h b <;> rfl
theorem vb2sB_row {o n : Nat} {e : TypeId} {sz : Nat} {cs : List V} : vb2sB o n (.row e sz cs) = grd ((0 < n ∨ o = 0) ∧ o + n ≤ cs.length) ((vbytes ((cs.drop o).take n)).bind fun s => some (.str s)) := rfl
theorem vb2s_nils {h : Hp} : vb2s h .nils = some (.str []) := rfl
theorem vbytes_one {n : Int} : vbytes [.int .u8 n] = some (sb [n]) := rfl
set_option linter.defProp false in
def EB := And.intro @ub_at <| And.intro @vbytes_vi <| And.intro @vb2s_rf <| And.intro @vb2sB_row <| And.intro @vb2s_nils <| And.intro @vbytes_one <| And.intro @ub_len <| And.intro @sb_len <| And.intro @tk_all @Nat.add_sub_cancel

/-! ### Letters -/
def ltr (x : Int) : Prop := x = 120 ∨ x = 88 ∨ x = 121 ∨ x = 89
def lets (l : List Int) : Prop := ∀ i, i < l.length → ltr (gi l i)
def othL (x : Int) : Int := if x = 120 then 88 else if x = 88 then 120 else if x = 121 then 89 else 121
theorem othL_ltr (x : Int) : ltr (othL x) := by unfold othL ltr; grind
theorem ltr.lim {x : Int} (h : ltr x) : 0 ≤ x ∧ x ≤ 255 := by unfold ltr at h; omega
theorem lets.lim {l : List Int} (h : lets l) : ∀ i, i < l.length → 0 ≤ gi l i ∧ gi l i ≤ 255 := fun i hi => (h i hi).lim
theorem lets_app {l m : List Int} (h1 : lets l) (h2 : lets m) : lets (l ++ m) := fun i hi => by
  rw [gi_app]; split
  · exact h1 i (by assumption)
  · exact h2 _ (by simp at hi; omega)
theorem lets_one {x : Int} (h : ltr x) : lets [x] := fun i hi => by
  have : i = 0 := by simp at hi; exact hi
  subst this; exact h
theorem lets_take {l : List Int} (h : lets l) (k : Nat) : lets (l.take k) := fun i hi => by
  simp only [List.length_take] at hi
  have : gi (l.take k) i = gi l i := by simp only [gi, List.getD, List.getElem?_take, if_pos (show i < k by omega)]
  rw [this]; exact h i (by omega)
theorem lets_nil : lets [] := fun i hi => absurd hi (Nat.not_lt_zero i)

/-! ### Reduced forms -/
def redS (o : List Int) (x : Int) : List Int := if 0 < o.length ∧ gi o (o.length - 1) = othL x then o.take (o.length - 1) else o ++ [x]
def redT (w : List Int) : Nat → List Int
  | 0 => []
  | i + 1 => redS (redT w i) (gi w i)
theorem redT_len {w : List Int} : ∀ i, (redT w i).length ≤ i
  | 0 => by simp [redT]
  | i + 1 => by
    have := redT_len (w := w) i
    simp only [redT, redS]; split <;> simp <;> omega
theorem redT_lets {w : List Int} (h : lets w) : ∀ i, i ≤ w.length → lets (redT w i)
  | 0, _ => lets_nil
  | i + 1, hi => by
    have ih := redT_lets h i (by omega)
    simp only [redT, redS]; split
    · exact lets_take ih _
    · exact lets_app ih (lets_one (h i (by omega)))
theorem redT_yes {w : List Int} {i : Nat} (h0 : 0 < (redT w i).length) (h : gi (redT w i) ((redT w i).length - 1) = othL (gi w i)) : redT w (i + 1) = (redT w i).take ((redT w i).length - 1) := by
  simp only [redT, redS]; rw [if_pos ⟨h0, h⟩]
theorem redT_no {w : List Int} {i : Nat} (h : ¬ (0 < (redT w i).length ∧ gi (redT w i) ((redT w i).length - 1) = othL (gi w i))) : redT w (i + 1) = redT w i ++ [gi w i] := by
  simp only [redT, redS]; rw [if_neg h]
def red (w : List UInt8) : List UInt8 := sb (redT (ub w) w.length)

/-! ### Inverse words -/
def invT (w : List Int) : Nat → List Int
  | 0 => []
  | k + 1 => invT w k ++ [othL (gi w (w.length - 1 - k))]
theorem invT_len {w : List Int} : ∀ k, (invT w k).length = k
  | 0 => rfl
  | k + 1 => by simp [invT, invT_len k]
theorem invT_lets {w : List Int} : ∀ k, lets (invT w k)
  | 0 => lets_nil
  | k + 1 => lets_app (invT_lets k) (lets_one (othL_ltr _))
def inv (w : List UInt8) : List UInt8 := sb (invT (ub w) w.length)
end Go.Proofs.Ytapmgkemnedakaa.Sep

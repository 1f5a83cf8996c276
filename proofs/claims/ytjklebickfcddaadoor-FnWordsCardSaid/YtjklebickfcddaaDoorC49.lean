/- Lists of texts: reading, comparing. -/
import Derived.Test.YtjklebickfcddaaDoorC20
namespace Go.Proofs.YtjklebickfcddaaDoor.Sep
open Go.RowKit
set_option linter.unusedVariables false
set_option linter.unusedSimpArgs false
set_option maxRecDepth 20000
set_option maxHeartbeats 1000000

theorem vt_inj : ∀ {l m : List (List UInt8)}, vt l = vt m → l = m
  | [], [], _ => rfl
  | [], b :: m, h => by simp [vt] at h
  | a :: l, [], h => by simp [vt] at h
  | a :: l, b :: m, h => by
    simp only [vt, List.map_cons, List.cons.injEq, V.str.injEq] at h
    rw [h.1, vt_inj (l := l) (m := m) h.2]
theorem setV_tt {l m : List (List UInt8)} (h : l.length = m.length) : setV (vt l) 0 (vt m) = vt m := setV_full (by simp [vt_len, h])
theorem gt_ext {l m : List (List UInt8)} (h1 : l.length = m.length) (h2 : ∀ j, j < l.length → gt l j = gt m j) : l = m := getD_ext h1 h2
theorem gt_set {l : List (List UInt8)} {i j : Nat} {a : List UInt8} : gt (l.set i a) j = if i = j ∧ j < l.length then a else gt l j := by
  simp only [gt, List.getD, List.getElem?_set]
  by_cases h1 : i = j
  · subst h1; by_cases h2 : i < l.length <;> simp [h2]
  · simp [h1]
theorem gt_app {l m : List (List UInt8)} {i : Nat} : gt (l ++ m) i = if i < l.length then gt l i else gt m (i - l.length) := by
  simp only [gt, List.getD, List.getElem?_append]; split <;> rfl
end Go.Proofs.YtjklebickfcddaaDoor.Sep

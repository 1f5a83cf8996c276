/- What the laws' functions on rows of rows compute. -/
import Derived.Test.YtjklebickfcddaaDoorC21
namespace Go.Proofs.YtjklebickfcddaaDoor.Sep
open Go.RowKit
set_option linter.unusedVariables false
set_option linter.unusedSimpArgs false
set_option maxRecDepth 20000

def szV (x : Int) (n : Nat) : Int := if x - n < 0 then -1 else x - n
def szR : List (List Int) → Int → Int
  | [], x => x
  | l :: r, x => if x - (l.length : Int) < 0 then -1 else szR r (x - l.length)
def szSS (x : Int) (ls : List (List Int)) : Int := if x - (ls.length : Int) < 0 then -1 else szR ls (x - ls.length)
theorem szR_le : ∀ {ls : List (List Int)} {x : Int}, 0 ≤ x → x ≤ 1048576 → 0 ≤ szR ls x → ∀ l ∈ ls, l.length ≤ 1048576
  | [], x, _, _, _, l, hl => by simp at hl
  | a :: r, x, h0, h1, h2, l, hl => by
    simp only [szR] at h2
    split at h2
    · omega
    · simp only [List.mem_cons] at hl
      rcases hl with rfl | hl
      · omega
      · exact szR_le (by omega) (by omega) h2 l hl
theorem szSS_le {ls : List (List Int)} (h : 0 ≤ szSS 1048576 ls) : ls.length ≤ 1048576 ∧ ∀ l ∈ ls, l.length ≤ 1048576 := by
  unfold szSS at h
  split at h
  · omega
  · exact ⟨by omega, szR_le (by omega) (by omega) h⟩
theorem gl_mem {ls : List (List Int)} {i : Nat} (hi : i < ls.length) : gl ls i ∈ ls := by
  simp only [gl, List.getD, hi, List.getElem?_eq_getElem, Option.getD_some]; exact List.getElem_mem hi
theorem take_gl {ls : List (List Int)} {i : Nat} (hi : i < ls.length) : ls.take (i + 1) = ls.take i ++ [gl ls i] := by
  rw [List.take_add_one]; simp [gl, List.getD, hi]
end Go.Proofs.YtjklebickfcddaaDoor.Sep

/- What BoundariesOf computes. -/
import Derived.Test.YtjklebickfcddaaDoorC27
import Derived.Test.YtjklebickfcddaaDoorC29
namespace Go.Proofs.YtjklebickfcddaaDoor.Sep
open Go.RowKit
set_option linter.unusedVariables false
set_option linter.unusedSimpArgs false
set_option maxRecDepth 20000

theorem isD.lo {n : Int} {b w : List Int} (hb : okP b) (hw : okP w) (h : isD n b w) : lo16 b ∧ lo16 w ∧ (1 ≤ n ∧ n ≤ 16) := ⟨h.pb.lo hb, h.pw.lo hw, h.pb.1⟩
theorem bndL_lim {b w : List Int} {n : Int} (hn : 1 ≤ n ∧ n ≤ 16) : (bndL b w n).length ≤ 16 ∧ (∀ l ∈ bndL b w n, l.length ≤ 16) := by
  have hcn : (cyc (faceP b w n) n).length ≤ 16 := Nat.le_trans (cycO_len (p := faceP b w n) n.toNat).2 (by omega)
  refine ⟨by unfold bndL; simpa using hcn, fun l hl => ?_⟩
  unfold bndL at hl
  simp only [List.mem_map] at hl
  obtain ⟨c, _, rfl⟩ := hl
  rw [chT_len]; omega
theorem rowsN_lim {ls : List (List Int)} {k : Nat} (h : ∀ l ∈ ls, l.length ≤ k) : rowsN ls ≤ ls.length * k := by
  induction ls with
  | nil => simp [rowsN]
  | cons a r ih =>
    have h1 := h a (by simp)
    have h2 := ih fun l hl => h l (by simp [hl])
    simp only [rowsN, List.length_cons, Nat.add_mul, Nat.one_mul]
    omega
end Go.Proofs.YtjklebickfcddaaDoor.Sep

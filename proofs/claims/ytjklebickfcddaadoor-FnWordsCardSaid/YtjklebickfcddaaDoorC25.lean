/- What the laws' marks compute. -/
import Derived.Test.YtjklebickfcddaaDoorC24
namespace Go.Proofs.YtjklebickfcddaaDoor.Sep
open Go.RowKit
set_option linter.unusedVariables false
set_option linter.unusedSimpArgs false
set_option maxRecDepth 20000

def iota (k : Int) (n : Nat) : List Int := (List.range n).map fun j : Nat => k + (j : Int)
theorem iota_len {k : Int} {n : Nat} : (iota k n).length = n := by simp [iota]
theorem iota_at {k : Int} {n j : Nat} (h : j < n) : gi (iota k n) j = k + j := by
  rw [gi_of (by rw [iota_len]; exact h)]; simp [iota]

/-- The marks of rows of rows. -/
def rowsN : List (List Int) → Nat
  | [] => 0
  | l :: r => l.length + rowsN r
def iotaSS : List (List Int) → Int → List (List Int)
  | [], _ => []
  | l :: r, k => iota k l.length :: iotaSS r (k + l.length)
theorem iotaSS_len : ∀ {ls : List (List Int)} {k : Int}, (iotaSS ls k).length = ls.length
  | [], k => rfl
  | l :: r, k => by simp [iotaSS, iotaSS_len (ls := r)]
theorem rowsN_take_le : ∀ (ls : List (List Int)) (i : Nat), rowsN (ls.take i) ≤ rowsN ls
  | [], i => by simp [rowsN]
  | l :: r, 0 => by simp [rowsN]
  | l :: r, i + 1 => by simp only [List.take_succ_cons, rowsN]; have := rowsN_take_le r i; omega
theorem rowsN_app : ∀ (a b : List (List Int)), rowsN (a ++ b) = rowsN a + rowsN b
  | [], b => by simp [rowsN]
  | l :: r, b => by simp only [List.cons_append, rowsN, rowsN_app r b]; omega
theorem iotaSS_app : ∀ (a b : List (List Int)) (k : Int), iotaSS (a ++ b) k = iotaSS a k ++ iotaSS b (k + rowsN a)
  | [], b, k => by simp [iotaSS, rowsN]
  | l :: r, b, k => by
    simp only [List.cons_append, iotaSS, iotaSS_app r b, rowsN]
    rw [Int.natCast_add, ← Int.add_assoc]
theorem vo_rf {e : TypeId} {ls : List (List Int)} {l : List Int} {h : Hp} {d i k : Nat} (hd : h d = .row e 1 (vi .i64 l)) (hk : l.length = k) (hi : i < ls.length) :
    folds (fin 4) h ((vo e ls).set i (.rf d 0 k)) = some (vo e (ls.set i l), hput h d .dead) := by
  subst hk
  rw [List.set_eq_take_append_cons_drop, if_pos (by rw [vo_len]; exact hi), vo_take, vo_drop, folds_app, vo_fin]
  have hf : fin 4 h (.rf d 0 l.length) = some (.own e 1 l.length (vi .i64 l), hput h d .dead) := by
    simp only [fin, hd, grd, Nat.mul_one, vi_len, Nat.le_refl, vi_take, List.take_length, vi_fin]
    simp
  simp only [Option.bind_some, folds, hf, vo_fin, Option.map_some]
  rw [List.set_eq_take_append_cons_drop, if_pos hi]
  simp [vo]
end Go.Proofs.YtjklebickfcddaaDoor.Sep

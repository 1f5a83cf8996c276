/- Rows of numbers, of truth values, of texts as cells; what the evaluation knows of lists. -/
import Derived.Test.YtjklebickfcddaaDoorSepY
namespace Go.Proofs.YtjklebickfcddaaDoor.Sep
open Go.RowKit
set_option linter.unusedVariables false
set_option linter.unusedSimpArgs false
set_option linter.constructorNameAsVariable false

def vi (k : IntKind) (l : List Int) : List V := l.map (V.int k)
def vb (l : List Bool) : List V := l.map V.bool
def vt (l : List (List UInt8)) : List V := l.map V.str
/-- The number, the truth value, the text at a place. -/
def gi (l : List Int) (i : Nat) : Int := l.getD i 0
def gb (l : List Bool) (i : Nat) : Bool := l.getD i false
def gt (l : List (List UInt8)) (i : Nat) : List UInt8 := l.getD i []

section
variable {k : IntKind} {l m : List Int} {p q : List Bool} {s u : List (List UInt8)} {i j n : Nat} {v : Int} {w : Bool} {x : List UInt8} {r : List V} {h : Hp}
theorem vi_len : (vi k l).length = l.length := by simp [vi]
theorem vb_len : (vb p).length = p.length := by simp [vb]
theorem vt_len : (vt s).length = s.length := by simp [vt]
theorem vi_get (hi : i < l.length) : (vi k l).getD i .und = .int k (gi l i) := by simp [vi, gi, List.getD, hi]
theorem vb_get (hi : i < p.length) : (vb p).getD i .und = .bool (gb p i) := by simp [vb, gb, List.getD, hi]
theorem vt_get (hi : i < s.length) : (vt s).getD i .und = .str (gt s i) := by simp [vt, gt, List.getD, hi]
theorem vi_set : (vi k l).set i (.int k v) = vi k (l.set i v) := by simp [vi, List.map_set]
theorem vb_set : (vb p).set i (.bool w) = vb (p.set i w) := by simp [vb, List.map_set]
theorem vt_set : (vt s).set i (.str x) = vt (s.set i x) := by simp [vt, List.map_set]
theorem vi_take : (vi k l).take n = vi k (l.take n) := by simp [vi, List.map_take]
theorem vb_take : (vb p).take n = vb (p.take n) := by simp [vb, List.map_take]
theorem vt_take : (vt s).take n = vt (s.take n) := by simp [vt, List.map_take]
theorem vi_drop : (vi k l).drop n = vi k (l.drop n) := by simp [vi, List.map_drop]
theorem vb_drop : (vb p).drop n = vb (p.drop n) := by simp [vb, List.map_drop]
theorem vt_drop : (vt s).drop n = vt (s.drop n) := by simp [vt, List.map_drop]
theorem vi_app : vi k l ++ vi k m = vi k (l ++ m) := by simp [vi]
theorem vi_one : vi k l ++ [.int k v] = vi k (l ++ [v]) := by simp [vi]
theorem vb_one : vb p ++ [.bool w] = vb (p ++ [w]) := by simp [vb]
theorem vt_one : vt s ++ [.str x] = vt (s ++ [x]) := by simp [vt]
theorem vi_all : (vi k l).all cell1 = true := by simp [vi, cell1]
theorem vb_all : (vb p).all cell1 = true := by simp [vb, cell1]
theorem vt_all : (vt s).all cell1 = true := by simp [vt, cell1]
theorem vi_own : noOwn (vi k l) = true := by simp [noOwn, vi, plain1]
theorem vb_own : noOwn (vb p) = true := by simp [noOwn, vb, plain1]
theorem vt_own : noOwn (vt s) = true := by simp [noOwn, vt, plain1]
theorem vi_vws : vws (vi k l) = vi k l := by induction l <;> simp_all [vi, vws, vw]
theorem vb_vws : vws (vb p) = vb p := by induction p <;> simp_all [vb, vws, vw]
theorem vt_vws : vws (vt s) = vt s := by induction s <;> simp_all [vt, vws, vw]
theorem vi_dvs : dvs h (vi k l) = vi k l := by induction l <;> simp_all [vi, dvs, dv]
theorem vb_dvs : dvs h (vb p) = vb p := by induction p <;> simp_all [vb, dvs, dv]
theorem vt_dvs : dvs h (vt s) = vt s := by induction s <;> simp_all [vt, dvs, dv]
theorem vi_clo : clos (vi k l) = true := by induction l <;> simp_all [vi, clos, clo]
theorem vb_clo : clos (vb p) = true := by induction p <;> simp_all [vb, clos, clo]
theorem vt_clo : clos (vt s) = true := by induction s <;> simp_all [vt, clos, clo]
theorem vi_nrf : nrfs (vi k l) = true := by induction l <;> simp_all [vi, nrfs, nrf]
theorem vb_nrf : nrfs (vb p) = true := by induction p <;> simp_all [vb, nrfs, nrf]
theorem vt_nrf : nrfs (vt s) = true := by induction s <;> simp_all [vt, nrfs, nrf]
theorem vi_fin : folds (fin (n + 1)) h (vi k l) = some (vi k l, h) := folds_still (by simp [vi, still])
theorem vb_fin : folds (fin (n + 1)) h (vb p) = some (vb p, h) := folds_still (by simp [vb, still])
theorem vt_fin : folds (fin (n + 1)) h (vt s) = some (vt s, h) := folds_still (by simp [vt, still])
theorem vi_rep : (List.replicate n [V.int k v]).flatten = vi k (List.replicate n v) := by
  induction n <;> simp_all [vi, List.replicate_succ]
theorem vb_rep : (List.replicate n [V.bool w]).flatten = vb (List.replicate n w) := by
  induction n <;> simp_all [vb, List.replicate_succ]
theorem vt_rep : (List.replicate n [V.str x]).flatten = vt (List.replicate n x) := by
  induction n <;> simp_all [vt, List.replicate_succ]
theorem ofVals_ints : ofVals (List.replicate n (.int k v)) = vi k (List.replicate n v) := by
  induction n <;> simp_all [vi, List.replicate_succ, ofVals, ofVal]
theorem ofVals_bools : ofVals (List.replicate n (.bool w)) = vb (List.replicate n w) := by
  induction n <;> simp_all [vb, List.replicate_succ, ofVals, ofVal]
theorem ofVals_strs {a : ByteArray} : ofVals (List.replicate n (.string a)) = vt (List.replicate n a.data.toList) := by
  induction n <;> simp_all [vt, List.replicate_succ, ofVals, ofVal]
theorem ofVals_app {a b : List Value} : ofVals (a ++ b) = ofVals a ++ ofVals b := by
  induction a <;> simp_all [ofVals]
theorem vi_nil : vi k [] = [] := rfl
theorem vb_nil : vb [] = [] := rfl
theorem vt_nil : vt [] = [] := rfl
theorem vi_cons : V.int k v :: vi k l = vi k (v :: l) := rfl
theorem setV_vi (hn : l.length ≠ 1) : setV r i (vi k l) = r.take i ++ vi k l ++ r.drop (i + l.length) := by
  rw [setV_more (by simpa [vi] using hn), vi_len]
theorem setV_vb (hn : p.length ≠ 1) : setV r i (vb p) = r.take i ++ vb p ++ r.drop (i + p.length) := by
  rw [setV_more (by simpa [vb] using hn), vb_len]
theorem take_vi (hn : l.length = n) : (vi k l ++ r).take n = vi k l := List.take_left' (by simp [vi, hn])
theorem take_vb (hn : p.length = n) : (vb p ++ r).take n = vb p := List.take_left' (by simp [vb, hn])
theorem drop_vi (hn : l.length = n) : (vi k l ++ r).drop n = r := List.drop_left' (by simp [vi, hn])
theorem drop_vb (hn : p.length = n) : (vb p ++ r).drop n = r := List.drop_left' (by simp [vb, hn])
theorem drop_vi' (hn : l.length ≤ n) : (vi k l ++ r).drop n = r.drop (n - l.length) := by
  rw [List.drop_append, List.drop_of_length_le (by simpa [vi] using hn)]; simp [vi]
theorem take_all {α : Type} {l : List α} (hn : l.length ≤ n) : l.take n = l := List.take_of_length_le hn
theorem vi_inj : vi k l = vi k m ↔ l = m := by
  refine ⟨fun he => ?_, fun he => by rw [he]⟩
  have : ∀ (l m : List Int), l.map (V.int k) = m.map (V.int k) → l = m := by
    intro l
    induction l with
    | nil => intro m h; cases m <;> simp_all
    | cons a l ih => intro m h; cases m with
      | nil => simp at h
      | cons b m => simp only [List.map_cons, List.cons.injEq] at h; rw [ih _ h.2]; simpa using h.1
  exact this l m he
theorem vb_inj : vb p = vb q ↔ p = q := by
  refine ⟨fun he => ?_, fun he => by rw [he]⟩
  have : ∀ (l m : List Bool), l.map V.bool = m.map V.bool → l = m := by
    intro l
    induction l with
    | nil => intro m h; cases m <;> simp_all
    | cons a l ih => intro m h; cases m with
      | nil => simp at h
      | cons b m => simp only [List.map_cons, List.cons.injEq] at h; rw [ih _ h.2]; simpa using h.1
  exact this p q he
theorem gi_of (hi : i < l.length) : gi l i = l[i] := by simp [gi, List.getD, hi]
theorem gb_of (hi : i < p.length) : gb p i = p[i] := by simp [gb, List.getD, hi]
theorem gi_set : gi (l.set i v) j = if i = j ∧ j < l.length then v else gi l j := by
  simp only [gi, List.getD, List.getElem?_set]
  by_cases h1 : i = j
  · subst h1; by_cases h2 : i < l.length <;> simp [h2]
  · simp [h1]
theorem gb_set : gb (p.set i w) j = if i = j ∧ j < p.length then w else gb p j := by
  simp only [gb, List.getD, List.getElem?_set]
  by_cases h1 : i = j
  · subst h1; by_cases h2 : i < p.length <;> simp [h2]
  · simp [h1]
theorem gi_over (hi : l.length ≤ i) : gi l i = 0 := by simp [gi, List.getD, List.getElem?_eq_none hi]
theorem gb_over (hi : p.length ≤ i) : gb p i = false := by simp [gb, List.getD, List.getElem?_eq_none hi]
theorem gi_rep {c : Int} : gi (List.replicate n c) i = if i < n then c else 0 := by
  simp only [gi, List.getD, List.getElem?_replicate]; split <;> rfl
theorem gb_rep {c : Bool} : gb (List.replicate n c) i = if i < n then c else false := by
  simp only [gb, List.getD, List.getElem?_replicate]; split <;> rfl
theorem gi_app : gi (l ++ m) i = if i < l.length then gi l i else gi m (i - l.length) := by
  simp only [gi, List.getD, List.getElem?_append]; split <;> rfl
theorem toNat_cast {a : Nat} : (a : Int).toNat = a := Int.toNat_natCast a
theorem b_true {c : Bool} : (c = true) = c := rfl
end
theorem Rq_of' {c X : Prop} (hc : c) : Rq c X = X := Rq_of hc
theorem le_maxLen {n : Nat} (h : n ≤ 9223372036854775807) : n ≤ maxLen := by unfold maxLen; omega
theorem nat_le_maxLen {n : Int} (h : n ≤ 9223372036854775807) : (n ≤ (maxLen : Int)) = True := eq_true (by unfold maxLen; omega)
theorem le_maxLen' {n : Nat} (h : n ≤ 9223372036854775807) : (n ≤ maxLen) = True := eq_true (le_maxLen h)
set_option linter.defProp false in
set_option maxRecDepth 10000 in
def EL := And.intro @setV_vi <|
  And.intro @setV_vb <|
  And.intro @List.length_cons.{0} <|
  And.intro @List.length_nil.{0} <|
  And.intro @List.length_append.{0} <|
  And.intro @List.length_take.{0} <|
  And.intro @List.length_drop.{0} <|
  And.intro @List.length_set.{0} <|
  And.intro @List.length_replicate.{0} <|
  And.intro @List.getD_cons_zero.{0} <|
  And.intro @List.getD_cons_succ.{0} <|
  And.intro @List.all_cons.{0} <|
  And.intro @List.all_nil.{0} <|
  And.intro @List.drop_zero.{0} <|
  And.intro @List.drop_succ_cons.{0} <|
  And.intro @List.take_zero.{0} <|
  And.intro @List.take_succ_cons.{0} <|
  And.intro @List.take_nil.{0} <|
  And.intro @List.drop_nil.{0} <|
  And.intro @List.cons_append.{0} <|
  And.intro @List.nil_append.{0} <|
  And.intro @List.append_nil.{0} <|
  And.intro @List.set_cons_zero.{0} <|
  And.intro @List.set_cons_succ.{0} <|
  And.intro @List.getElem?_cons_zero.{0} <|
  And.intro @List.getElem?_cons_succ.{0} <|
  And.intro @List.map_cons.{0, 0} <|
  And.intro @List.map_nil.{0, 0} <|
  And.intro @List.take_length.{0} <|
  And.intro @List.replicate_zero.{0} <|
  And.intro @List.flatten_nil.{0} <|
  And.intro @Bool.and_true <|
  And.intro @Bool.true_and <|
  And.intro @Bool.and_false <|
  And.intro @Bool.false_and <|
  And.intro @Bool.not_true <|
  And.intro @Bool.not_false <|
  And.intro @and_true <|
  And.intro @true_and <|
  And.intro @and_false <|
  And.intro @false_and <|
  And.intro @or_true <|
  And.intro @true_or <|
  And.intro @or_false <|
  And.intro @false_or <|
  And.intro @not_true_eq_false <|
  And.intro @not_false_eq_true <|
  And.intro @ne_eq.{1} <|
  And.intro @Nat.zero_add <|
  And.intro @Nat.add_zero <|
  And.intro @Nat.zero_mul <|
  And.intro @Nat.mul_one <|
  And.intro @Nat.one_mul <|
  And.intro @Nat.mul_zero <|
  And.intro @Nat.sub_zero <|
  And.intro @Nat.le_refl <|
  And.intro @Nat.zero_le <|
  And.intro @Nat.min_self <|
  And.intro @Int.toNat_natCast <|
  And.intro @Int.toNat_zero <|
  And.intro @Option.map_some.{0, 0} <|
  And.intro @Option.map_none.{0, 0} <|
  And.intro @decide_true <|
  And.intro @decide_false <|
  And.intro @Nat.sub_self <|
  And.intro @vi_len <|
  And.intro @vb_len <|
  And.intro @vt_len <|
  And.intro @vi_get <|
  And.intro @vb_get <|
  And.intro @vt_get <|
  And.intro @vi_set <|
  And.intro @vb_set <|
  And.intro @vt_set <|
  And.intro @vi_take <|
  And.intro @vb_take <|
  And.intro @vt_take <|
  And.intro @vi_drop <|
  And.intro @vb_drop <|
  And.intro @vt_drop <|
  And.intro @vi_app <|
  And.intro @vi_one <|
  And.intro @vb_one <|
  And.intro @vt_one <|
  And.intro @vi_all <|
  And.intro @vb_all <|
  And.intro @vt_all <|
  And.intro @vi_own <|
  And.intro @vb_own <|
  And.intro @vt_own <|
  And.intro @vi_vws <|
  And.intro @vb_vws <|
  And.intro @vt_vws <|
  And.intro @vi_dvs <|
  And.intro @vb_dvs <|
  And.intro @vt_dvs <|
  And.intro @vi_clo <|
  And.intro @vb_clo <|
  And.intro @vt_clo <|
  And.intro @vi_nrf <|
  And.intro @vb_nrf <|
  And.intro @vt_nrf <|
  And.intro @vi_fin <|
  And.intro @vb_fin <|
  And.intro @vt_fin <|
  And.intro @vi_rep <|
  And.intro @vb_rep <|
  And.intro @vt_rep <|
  And.intro @ofVals_ints <|
  And.intro @ofVals_bools <|
  And.intro @ofVals_strs <|
  And.intro @ofVals_app <|
  And.intro @vi_nil <|
  And.intro @vb_nil <|
  And.intro @vt_nil <|
  And.intro @take_vi <|
  And.intro @take_vb <|
  And.intro @drop_vi <|
  And.intro @drop_vb <|
  And.intro @le_maxLen' @nat_le_maxLen

set_option linter.defProp false in
/-- What holds is owed no more; what is told of sums is in range. -/
def ER := And.intro @Rq_of' <| And.intro @wrap_i64_of <| And.intro @wrap_u8_of <| And.intro @wrap_u64_of @wrap_i32_of
end Go.Proofs.YtjklebickfcddaaDoor.Sep

/- Words as ways of darts: reduced words lead the same way, inverse words lead back. -/
import Derived.Test.YtjklebickfcddaaDoorC51
import Derived.Test.YtjklebickfcddaaDoorC56
namespace Go.Proofs.YtjklebickfcddaaDoor.Sep
open Go.RowKit
set_option linter.unusedVariables false
set_option linter.unusedSimpArgs false
set_option maxRecDepth 20000
set_option maxHeartbeats 1000000

/-! ### Places that are put one by one -/
theorem putL_out {f : Nat → Nat × Int} {x : Nat} : ∀ k : Nat, (∀ i, i < k → (f i).1 ≠ x) → gi (putL f k) x = 0
  | 0, _ => by simp only [putL]; rw [gi_rep]; split <;> rfl
  | k + 1, h => by
    simp only [putL]
    rw [gi_set, if_neg (fun h' => h k (by omega) h'.1)]
    exact putL_out k fun i hi => h i (by omega)
theorem putL_at {f : Nat → Nat × Int} : ∀ k : Nat, (∀ i, i < k → (f i).1 < 16) → (∀ i j, i < j → j < k → (f i).1 ≠ (f j).1) → ∀ i, i < k → gi (putL f k) (f i).1 = (f i).2
  | 0, _, _, i, hi => absurd hi (Nat.not_lt_zero i)
  | k + 1, h1, h2, i, hi => by
    simp only [putL]
    rw [gi_set]
    by_cases h : (f k).1 = (f i).1
    · rw [if_pos ⟨h, by rw [putL_len]; exact h1 i hi⟩]
      by_cases hk : i = k
      · rw [hk]
      · exact absurd h.symm (h2 i k (by omega) (by omega))
    · rw [if_neg fun h' => h h'.1]
      refine putL_at k (fun i hi => h1 i (by omega)) (fun i j a b => h2 i j a (by omega)) i ?_
      by_cases hk : i = k
      · exact absurd (by rw [hk]) h
      · omega
theorem thenP_at {p q : List Int} {n : Int} (hn : 1 ≤ n ∧ n ≤ 16) {x : Nat} (hx : (x : Int) < n) : gi (thenP p q n) x = gi q (gi p x).toNat :=
  putL_at (f := thenF p q) n.toNat (fun i hi => by simp only [thenF]; omega) (fun i j a b => by simp only [thenF]; omega) x (by omega)
theorem thenP_out {p q : List Int} {n : Int} {x : Nat} (hx : n ≤ x) : gi (thenP p q n) x = 0 := putL_out _ fun i hi => by simp only [thenF]; omega
theorem sameP_at {n : Int} (hn : 1 ≤ n ∧ n ≤ 16) {x : Nat} (hx : (x : Int) < n) : gi (sameP n) x = x :=
  putL_at (f := sameF) n.toNat (fun i hi => by simp only [sameF]; omega) (fun i j a b => by simp only [sameF]; omega) x (by omega)
theorem sameP_out {n : Int} {x : Nat} (hx : n ≤ x) : gi (sameP n) x = 0 := putL_out _ fun i hi => by simp only [sameF]; omega
theorem isPm.inj {p : List Int} {n : Int} (h : isPm p n) {x y : Nat} (hx : (x : Int) < n) (hy : (y : Int) < n) (e : gi p x = gi p y) : x = y := by
  have hn := h.1
  rcases Nat.lt_trichotomy x y with hl | hl | hl
  · exact absurd e (((h.2 y (by omega)).1 hy).2 x hl)
  · exact hl
  · exact absurd e.symm (((h.2 x (by omega)).1 hx).2 y hl)
theorem backP_at {p : List Int} {n : Int} (ho : okP p) (h : isPm p n) {x : Nat} (hx : (x : Int) < n) : gi (backP p n) (gi p x).toNat = x := by
  have hn := h.1
  have hl := h.ltP ho
  refine putL_at (f := backF p) n.toNat (fun i hi => ?_) (fun i j a b => ?_) x (by omega)
  · have := hl i (by omega)
    simp only [backF]; omega
  · have h1 := hl i (by omega)
    have h2 := hl j (by omega)
    simp only [backF]
    intro e
    have := h.inj (x := i) (y := j) (by omega) (by omega) (by omega)
    omega
theorem isPm.surj {p : List Int} {n : Int} (ho : okP p) (h : isPm p n) {y : Nat} (hy : (y : Int) < n) : ∃ x : Nat, (x : Int) < n ∧ gi p x = y := by
  have hn := h.1
  have hl := h.ltP ho
  refine Classical.byContradiction fun hno => ?_
  have hnd : (y :: (List.range n.toNat).map fun x => (gi p x).toNat).Nodup := by
    refine List.nodup_cons.2 ⟨fun hm => ?_, ?_⟩
    · obtain ⟨x, hx, e⟩ := List.mem_map.1 hm
      have hx := List.mem_range.1 hx
      have := hl x (by omega)
      exact hno ⟨x, by omega, by omega⟩
    · refine List.pairwise_map.2 (List.Pairwise.imp_of_mem ?_ List.pairwise_lt_range)
      intro a b ha hb hab e
      have ha := List.mem_range.1 ha
      have hb := List.mem_range.1 hb
      have h1 := hl a (by omega)
      have h2 := hl b (by omega)
      have := h.inj (x := a) (y := b) (by omega) (by omega) (by omega)
      omega
  have := nodup_len n.toNat _ hnd fun x hx => by
    rcases List.mem_cons.1 hx with rfl | hx
    · omega
    · obtain ⟨z, hz, rfl⟩ := List.mem_map.1 hx
      have hz := List.mem_range.1 hz
      have := hl z (by omega)
      omega
  simp at this
  omega
theorem back_at {p : List Int} {n : Int} (ho : okP p) (h : isPm p n) {y : Nat} (hy : (y : Int) < n) : gi p (gi (backP p n) y).toNat = y := by
  obtain ⟨x, hx, e⟩ := h.surj ho hy
  have := backP_at ho h hx
  rw [e] at this
  simp only [Int.toNat_natCast] at this
  rw [this]; simpa using e

/-! ### Ways -/
structure Dn (n : Int) (b w : List Int) : Prop where
  pb : isPm b n
  pw : isPm w n
  ob : okP b
  ow : okP w
theorem isD.dn {n : Int} {b w : List Int} (ob : okP b) (ow : okP w) (h : isD n b w) : Dn n b w := ⟨h.pb, h.pw, ob, ow⟩
variable {n : Int} {b w : List Int}
theorem Dn.hn (D : Dn n b w) : 1 ≤ n ∧ n ≤ 16 := D.pb.1
def stp (n : Int) (b w : List Int) (y L : Int) : Int := gi (ltrP n b w L) y.toNat
def run (n : Int) (b w : List Int) (t : List Int) (x : Int) : Int := t.foldl (stp n b w) x
theorem othL_twice {x : Int} (h : ltr x) : othL (othL x) = x := by rcases h with rfl | rfl | rfl | rfl <;> rfl
theorem stp_lt (D : Dn n b w) {L x : Int} (hx : 0 ≤ x ∧ x < n) : 0 ≤ stp n b w x L ∧ stp n b w x L < n := by
  unfold stp ltrP
  have h1 := D.pb.ltP D.ob x.toNat (by omega)
  have h2 := D.pw.ltP D.ow x.toNat (by omega)
  have h3 := backP_lt (p := b) D.hn x.toNat (by omega)
  have h4 := backP_lt (p := w) D.hn x.toNat (by omega)
  split
  · exact h1
  split
  · exact h2
  split
  · exact h3
  · exact h4
theorem stp_back (D : Dn n b w) {L x : Int} (hL : ltr L) (hx : 0 ≤ x ∧ x < n) : stp n b w (stp n b w x L) (othL L) = x := by
  have e0 : ((x.toNat : Nat) : Int) = x := by omega
  rcases hL with rfl | rfl | rfl | rfl
  · exact (backP_at D.ob D.pb (x := x.toNat) (by omega)).trans e0
  · exact (back_at D.ob D.pb (y := x.toNat) (by omega)).trans e0
  · exact (backP_at D.ow D.pw (x := x.toNat) (by omega)).trans e0
  · exact (back_at D.ow D.pw (y := x.toNat) (by omega)).trans e0
theorem run_lt (D : Dn n b w) : ∀ {t : List Int} {x : Int}, 0 ≤ x ∧ x < n → 0 ≤ run n b w t x ∧ run n b w t x < n
  | [], x, hx => hx
  | L :: t, x, hx => run_lt D (t := t) (stp_lt D hx)
theorem run_app {s t : List Int} {x : Int} : run n b w (s ++ t) x = run n b w t (run n b w s x) := List.foldl_append
theorem run_one {L x : Int} : run n b w [L] x = stp n b w x L := rfl
theorem gi_last {o : List Int} {a : Int} : gi (o ++ [a]) o.length = a := by rw [gi_appr (Nat.le_refl _)]; simp [gi_c0]
theorem redS_nil {x : Int} : redS [] x = [x] := by simp [redS]
theorem redS_snoc {o : List Int} {a x : Int} : redS (o ++ [a]) x = if a = othL x then o else o ++ [a] ++ [x] := by
  unfold redS
  have e : (o ++ [a]).length - 1 = o.length := by simp
  rw [e, gi_last]
  by_cases h : a = othL x
  · rw [if_pos ⟨by simp, h⟩, if_pos h]; simp
  · rw [if_neg fun h' => h h'.2, if_neg h]
theorem lets_mem {l : List Int} (h : lets l) {x : Int} (hx : x ∈ l) : ltr x := by
  obtain ⟨i, hi, e⟩ := List.mem_iff_getElem.1 hx
  have := h i hi
  rw [gi_of hi, e] at this; exact this
theorem mem_lets {l : List Int} (h : ∀ x ∈ l, ltr x) : lets l := fun i hi => by
  rw [gi_of hi]; exact h _ (List.getElem_mem hi)
theorem snoc_cases {α : Type} (l : List α) : l = [] ∨ ∃ m a, l = m ++ [a] := by
  by_cases h : l = []
  · exact .inl h
  · exact .inr ⟨l.dropLast, l.getLast h, (List.dropLast_concat_getLast h).symm⟩
theorem run_redS (D : Dn n b w) {o : List Int} {L x : Int} (ho : lets o) (hL : ltr L) (hx : 0 ≤ x ∧ x < n) : run n b w (redS o L) x = run n b w (o ++ [L]) x := by
  rcases snoc_cases o with rfl | ⟨m, a, rfl⟩
  · rw [redS_nil]; rfl
  · rw [redS_snoc]
    split
    · rename_i h
      have ha : ltr a := lets_mem ho (by simp)
      rw [run_app, run_app, run_one, run_one]
      have := stp_back D (L := a) ha (run_lt D (t := m) hx)
      rw [h, othL_twice hL] at this
      rw [h, this]
    · rfl
theorem take_one {l : List Int} {i : Nat} (hi : i < l.length) : l.take (i + 1) = l.take i ++ [gi l i] := by
  rw [List.take_add_one, List.getElem?_eq_getElem hi, gi_of hi]; rfl
theorem run_redT (D : Dn n b w) {t : List Int} {x : Int} (ht : lets t) (hx : 0 ≤ x ∧ x < n) : ∀ i, i ≤ t.length → run n b w (redT t i) x = run n b w (t.take i) x
  | 0, _ => by simp [redT]
  | i + 1, hi => by
    have ih := run_redT D ht hx i (by omega)
    simp only [redT]
    rw [run_redS D (redT_lets ht i (by omega)) (ht i (by omega)) hx, take_one (by omega), run_app, run_app, ih]
theorem invT_eq {t : List Int} : ∀ k, k ≤ t.length → invT t k = ((t.drop (t.length - k)).map othL).reverse
  | 0, _ => by simp [invT]
  | k + 1, hk => by
    have hlt : t.length - (k + 1) < t.length := by omega
    rw [List.drop_eq_getElem_cons hlt, show t.length - (k + 1) + 1 = t.length - k from by omega]
    simp only [invT, List.map_cons, List.reverse_cons]
    rw [invT_eq k (by omega), show t.length - 1 - k = t.length - (k + 1) from by omega, gi_of hlt]
theorem invT_all {t : List Int} : invT t t.length = (t.map othL).reverse := by rw [invT_eq _ (Nat.le_refl _)]; simp
theorem run_back (D : Dn n b w) : ∀ {t : List Int} {x : Int}, (∀ L ∈ t, ltr L) → 0 ≤ x ∧ x < n → run n b w (t.map othL).reverse (run n b w t x) = x
  | [], x, _, hx => rfl
  | L :: t, x, ht, hx => by
    have ih := run_back D (t := t) (x := stp n b w x L) (fun M hM => ht M (List.mem_cons_of_mem _ hM)) (stp_lt D hx)
    simp only [List.map_cons, List.reverse_cons]
    rw [run_app, run_one, show run n b w (L :: t) x = run n b w t (stp n b w x L) from rfl, ih]
    exact stp_back D (ht L (List.mem_cons_self ..)) hx
theorem wpT_at (D : Dn n b w) {t : List Int} {x : Nat} (hx : (x : Int) < n) : ∀ i, i ≤ t.length → gi (wpT n b w t i) x = run n b w (t.take i) x
  | 0, _ => by simp only [wpT]; rw [sameP_at D.hn hx]; simp [run]
  | i + 1, hi => by
    simp only [wpT]
    rw [thenP_at D.hn hx, wpT_at D hx i (by omega), take_one (by omega), run_app]; rfl
theorem wpT_out {t : List Int} {x : Nat} (hx : n ≤ x) : ∀ i, gi (wpT n b w t i) x = 0
  | 0 => sameP_out hx
  | i + 1 => thenP_out hx
theorem Dn.lb (D : Dn n b w) : lo16 b := D.pb.lo D.ob
theorem Dn.lw (D : Dn n b w) : lo16 w := D.pw.lo D.ow
/-- Where a word leads. -/
def wpA (n : Int) (b w t : List Int) : List Int := wpT n b w t t.length
theorem wpA_at (D : Dn n b w) {t : List Int} {x : Nat} (hx : (x : Int) < n) : gi (wpA n b w t) x = run n b w t x := by
  unfold wpA; rw [wpT_at D hx _ (Nat.le_refl _), List.take_length]
theorem wpA_lo (D : Dn n b w) {t : List Int} : lo16 (wpA n b w t) := wpT_lo D.lb D.lw D.hn _
theorem lo16.ok {p : List Int} (h : lo16 p) : okP p := ⟨h.1, fun i hi => by have := h.2 i hi; omega⟩
theorem wpA_pm (D : Dn n b w) {t : List Int} (ht : ∀ L ∈ t, ltr L) : isPm (wpA n b w t) n := by
  have hn := D.hn
  refine ⟨hn, fun j hj => ⟨fun hjn => ⟨?_, fun k hk e => ?_⟩, fun hjn => wpT_out hjn _⟩⟩
  · rw [wpA_at D hjn]; exact (run_lt D ⟨by omega, hjn⟩).2
  · rw [wpA_at D hjn, wpA_at D (by omega)] at e
    have h1 := run_back D (x := (j : Int)) ht ⟨by omega, hjn⟩
    have h2 := run_back D (x := (k : Int)) ht ⟨by omega, by omega⟩
    rw [e, h1] at h2
    omega
theorem wpA_ext (D : Dn n b w) {s t : List Int} (h : ∀ x : Nat, (x : Int) < n → run n b w s x = run n b w t x) : wpA n b w s = wpA n b w t := by
  refine gi_ext (by rw [(wpA_lo D).1, (wpA_lo D).1]) fun j hj => ?_
  by_cases hjn : (j : Int) < n
  · rw [wpA_at D hjn, wpA_at D hjn, h j hjn]
  · rw [wpA, wpA, wpT_out (by omega), wpT_out (by omega)]
/-! ### Words as bytes -/
theorem ub_red {s : List UInt8} (h : lets (ub s)) : ub (red s) = redT (ub s) s.length := ub_sb (redT_lets h _ (by rw [ub_len]; exact Nat.le_refl _)).lim
theorem wp_red (D : Dn n b w) {s : List UInt8} (h : lets (ub s)) : wpA n b w (ub (red s)) = wpA n b w (ub s) := by
  rw [ub_red h]
  refine wpA_ext D fun x hx => ?_
  have := run_redT D h (x := x) ⟨by omega, hx⟩ s.length (by rw [ub_len]; exact Nat.le_refl _)
  rw [this, List.take_of_length_le (by rw [ub_len]; exact Nat.le_refl _)]
theorem ub_inv' {s : List UInt8} : ub (inv s) = ((ub s).map othL).reverse := by
  rw [ub_inv, ← invT_all, ub_len]
theorem wp_both (D : Dn n b w) {s : List UInt8} (h : lets (ub s)) {x : Nat} (hx : (x : Int) < n) : gi (thenP (wpA n b w (ub s)) (wpA n b w (ub (inv s))) n) x = x := by
  have hr := run_lt D (t := ub s) (x := x) ⟨by omega, hx⟩
  rw [thenP_at D.hn hx, wpA_at D hx, wpA_at D (x := (run n b w (ub s) x).toNat) (by omega), ub_inv', show ((run n b w (ub s) x).toNat : Int) = run n b w (ub s) x from by omega]
  exact run_back D (fun L hL => lets_mem h hL) ⟨by omega, hx⟩
theorem red_lets {s : List UInt8} (h : lets (ub s)) : lets (ub (red s)) := by
  rw [ub_red h]; exact redT_lets h _ (by rw [ub_len]; exact Nat.le_refl _)
theorem red_len {s : List UInt8} : (red s).length ≤ s.length := by unfold red; rw [sb_len]; exact redT_len _
end Go.Proofs.YtjklebickfcddaaDoor.Sep

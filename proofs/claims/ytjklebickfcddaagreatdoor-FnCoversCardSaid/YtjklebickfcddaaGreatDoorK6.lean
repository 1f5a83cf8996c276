/- Texts put together: C97, C98, C54, C55, C30, C31, C99, C87, C91, C96, C34. -/
import Derived.Test.YtjklebickfcddaaGreatDoorK5
section
/- Sets of darts as bits; the search from 0, step by step; slices.Index, slices.Contains, slices.Repeat, isDart. -/
namespace Go.Proofs.YtjklebickfcddaaGreatDoor.Sep.Q
open Go.RowKit
open Go.Proofs.YtjklebickfcddaaGreatDoor.Sep
set_option linter.unusedVariables false
set_option linter.unusedSimpArgs false
set_option maxRecDepth 20000
set_option maxHeartbeats 4000000

/-! ### The search, step by step -/
def srT (p q : List Int) : Nat → Sr
  | 0 => sr0
  | k + 1 => srStep p q k (srT p q k)
theorem srRun_T {p q : List Int} : ∀ (m i : Nat), ∃ k, srRun p q m i (srT p q i) = srT p q k ∧ i ≤ k ∧ (∀ j, i ≤ j → j < k → j < (srT p q j).1.length) ∧ (k = i + m ∨ (srT p q k).1.length ≤ k)
  | 0, i => ⟨i, rfl, Nat.le_refl _, fun j a b => absurd b (by omega), .inl rfl⟩
  | m + 1, i => by
    simp only [srRun]
    split
    · rename_i hi
      obtain ⟨k, e, h1, h2, h3⟩ := srRun_T (p := p) (q := q) m (i + 1)
      refine ⟨k, e, by omega, fun j a b => ?_, by omega⟩
      by_cases hj : j = i
      · rw [hj]; exact hi
      · exact h2 j (by omega) b
    · exact ⟨i, rfl, Nat.le_refl _, fun j a b => absurd b (by omega), .inr (by omega)⟩
structure Sx (n : Int) (s : Sr) : Prop where
  l2 : s.2.length = 16
  nd : s.1.Nodup
  has : ∀ y : Nat, y < 16 → (gb s.2 y = true ↔ (y : Int) ∈ s.1)
  lt : ∀ y ∈ s.1, 0 ≤ y ∧ y < n
variable {n : Int} {b w : List Int}
theorem Sx.zero (hn : 1 ≤ n ∧ n ≤ 16) : Sx n sr0 := by
  refine ⟨by simp [sr0], by simp [sr0], fun y hy => ?_, fun y hy => ?_⟩
  · simp only [sr0, List.mem_singleton]
    rw [gb_set, gb_rep]
    simp
    omega
  · simp only [sr0, List.mem_singleton] at hy; omega
theorem Sx.visit (hn : 1 ≤ n ∧ n ≤ 16) {s : Sr} (h : Sx n s) {y : Int} (hy : 0 ≤ y ∧ y < n) : Sx n (visit y s) := by
  unfold Sep.visit
  split
  · exact h
  · rename_i hv
    have hno : y ∉ s.1 := fun hm => hv ((h.has y.toNat (by omega)).2 (by rw [show ((y.toNat : Nat) : Int) = y from by omega]; exact hm))
    refine ⟨by simp [h.l2], ?_, fun x hx => ?_, fun x hx => ?_⟩
    · refine List.nodup_append.2 ⟨h.nd, by simp, fun a ha c hc e => ?_⟩
      rw [List.mem_singleton.1 hc] at e
      exact hno (e ▸ ha)
    · simp only [List.mem_append, List.mem_singleton]
      rw [gb_set, h.l2]
      by_cases e : y.toNat = x
      · rw [if_pos ⟨e, hx⟩]
        exact ⟨fun _ => .inr (by omega), fun _ => rfl⟩
      · rw [if_neg fun h' => e h'.1, h.has x hx]
        exact ⟨fun h => .inl h, fun h => h.elim id fun h' => absurd (by omega) e⟩
    · rcases List.mem_append.1 hx with hx | hx
      · exact h.lt x hx
      · rw [List.mem_singleton.1 hx]; exact hy
theorem srT_ok (hn : 1 ≤ n ∧ n ≤ 16) (hb : ltP b n) (hw : ltP w n) : ∀ k, (∀ j, j < k → j < (srT b w j).1.length) → Sx n (srT b w k)
  | 0, _ => Sx.zero hn
  | k + 1, h => by
    have ih := srT_ok hn hb hw k fun j hj => h j (by omega)
    have hk := h k (by omega)
    have hm : gi (srT b w k).1 k ∈ (srT b w k).1 := by rw [gi_of hk]; exact List.getElem_mem hk
    have hz := ih.lt _ hm
    exact Sx.visit hn (Sx.visit hn ih (hb (gi (srT b w k).1 k).toNat (by omega))) (hw (gi (srT b w k).1 k).toNat (by omega))
theorem visit_pre' {y : Int} {s : Sr} {j : Nat} (hj : j < s.1.length) : gi (visit y s).1 j = gi s.1 j := by
  unfold visit; split
  · rfl
  · simp only [gi_app]; rw [if_pos hj]
/-- What the search from 0 in a dessin yields. -/
structure Srch (n : Int) (b w : List Int) : Prop where
  len : (srT b w n.toNat).1.length = n.toNat
  at_ : ∀ j, j < n.toNat → j < (srT b w j).1.length
  sx : ∀ k, k ≤ n.toNat → Sx n (srT b w k)
  all : ∀ y : Nat, (y : Int) < n → (y : Int) ∈ (srT b w n.toNat).1
theorem srch (hn : 1 ≤ n ∧ n ≤ 16) (hb : ltP b n) (hw : ltP w n) (hc : (cntR b w : Int) = n) : Srch n b w := by
  obtain ⟨k, e, _, h2, h3⟩ := srRun_T (p := b) (q := w) 17 0
  have hL : (srRun b w 17 0 sr0).1 = (srT b w k).1 := by rw [← e]; rfl
  have hlen : (srT b w k).1.length = n.toNat := by
    have : (srRun b w 17 0 sr0).1.length = cntR b w := rfl
    rw [hL] at this; omega
  have hmono : ∀ i j, i ≤ j → (srT b w i).1.length ≤ (srT b w j).1.length := fun i j hij => by
    induction j with
    | zero => rw [show i = 0 from by omega]; exact Nat.le_refl _
    | succ j ih =>
      by_cases h : i = j + 1
      · rw [h]; exact Nat.le_refl _
      · exact Nat.le_trans (ih (by omega)) srStep_len
  have hk : k = n.toNat := by
    have h4 : k ≤ n.toNat := by
      by_cases h0 : k = 0
      · omega
      · have := h2 (k - 1) (by omega) (by omega)
        have := hmono (k - 1) k (by omega)
        omega
    rcases h3 with h3 | h3 <;> omega
  subst hk
  have h2' : ∀ j, j < n.toNat → j < (srT b w j).1.length := fun j hj => h2 j (Nat.zero_le _) hj
  have hx := srT_ok hn hb hw n.toNat h2'
  refine ⟨hlen, h2', fun k hk => srT_ok hn hb hw k fun j hj => h2' j (by omega), fun y hy => ?_⟩
  refine Classical.byContradiction fun hno => ?_
  have hnd : (y :: (srT b w n.toNat).1.map Int.toNat).Nodup := by
    refine List.nodup_cons.2 ⟨fun hm => ?_, List.pairwise_map.2 (List.Pairwise.imp_of_mem ?_ hx.nd)⟩
    · obtain ⟨z, hz, ez⟩ := List.mem_map.1 hm
      have := hx.lt z hz
      rw [show z = (y : Int) from by omega] at hz
      exact hno hz
    · intro a c ha hc hne ee
      have := hx.lt a ha
      have := hx.lt c hc
      omega
  have := nodup_len n.toNat _ hnd fun z hz => by
    rcases List.mem_cons.1 hz with rfl | hz
    · omega
    · obtain ⟨u, hu, rfl⟩ := List.mem_map.1 hz
      have := hx.lt u hu
      omega
  simp [hlen] at this
  omega
/-! ### Sets as bits -/
/-- The set of the darts over x. -/
def fset (m x : Nat) : Nat := (2 ^ m - 1) <<< (m * x)
theorem fset_bit {m x j : Nat} : (fset m x).testBit j = true ↔ m * x ≤ j ∧ j < m * x + m := by
  unfold fset
  rw [Nat.testBit_shiftLeft]
  simp only [Nat.testBit_two_pow_sub_one, Bool.and_eq_true, decide_eq_true_eq]
  omega
theorem fset_bit' {m x j : Nat} (hm : 0 < m) : (fset m x).testBit j = true ↔ j / m = x := by
  rw [fset_bit, Nat.div_eq_iff hm, Nat.mul_comm m x]
  omega
theorem fset_lt {m x : Nat} (h : m * x + m ≤ 16) : fset m x < 65536 := by
  have h1 : fset m x < 2 ^ 16 := by
    refine Nat.lt_pow_two_of_testBit _ fun j hj => ?_
    cases hb : (fset m x).testBit j with
    | false => rfl
    | true => have := fset_bit.1 hb; omega
  exact h1
theorem fset_inj {m x y : Nat} (hm : 0 < m) (h : fset m x = fset m y) : x = y := by
  have h1 := (fset_bit' (m := m) (x := x) (j := m * x) hm).2 (by rw [Nat.mul_div_cancel_left _ hm])
  rw [h] at h1
  have := (fset_bit' hm).1 h1
  rw [Nat.mul_div_cancel_left _ hm] at this; exact this
theorem fset_apart {m x y : Nat} (hm : 0 < m) (h : x ≠ y) : fset m x &&& fset m y = 0 := by
  refine Nat.eq_of_testBit_eq fun j => ?_
  rw [Nat.testBit_and, Nat.zero_testBit]
  cases h1 : (fset m x).testBit j with
  | false => rfl
  | true =>
    cases h2 : (fset m y).testBit j with
    | false => rfl
    | true => exact absurd (((fset_bit' hm).1 h1).symm.trans ((fset_bit' hm).1 h2)) h
theorem or32 {a c : Nat} (ha : a < 65536) (hc : c < 65536) : IntKind.u32.wrap (((BitVec.ofInt IntKind.u32.bits (a : Int) ||| BitVec.ofInt IntKind.u32.bits (c : Int)).toNat : Nat) : Int) = ((a ||| c : Nat) : Int) := by
  have key : (BitVec.ofInt IntKind.u32.bits (a : Int) ||| BitVec.ofInt IntKind.u32.bits (c : Int)).toNat = a ||| c := by
    show (BitVec.ofInt 32 (a : Int) ||| BitVec.ofInt 32 (c : Int)).toNat = a ||| c
    rw [BitVec.ofInt_natCast, BitVec.ofInt_natCast, BitVec.toNat_or, BitVec.toNat_ofNat, BitVec.toNat_ofNat, Nat.mod_eq_of_lt (show a < 2 ^ 32 by omega), Nat.mod_eq_of_lt (show c < 2 ^ 32 by omega)]
  have h3 : a ||| c < 2 ^ 16 := Nat.or_lt_two_pow ha hc
  rw [key]
  generalize a ||| c = q at *
  simp [IntKind.wrap, IntKind.signed, IntKind.bits]
  omega
theorem and32 {a c : Nat} (ha : a < 65536) (hc : c < 65536) : IntKind.u32.wrap (((BitVec.ofInt IntKind.u32.bits (a : Int) &&& BitVec.ofInt IntKind.u32.bits (c : Int)).toNat : Nat) : Int) = ((a &&& c : Nat) : Int) := by
  have key : (BitVec.ofInt IntKind.u32.bits (a : Int) &&& BitVec.ofInt IntKind.u32.bits (c : Int)).toNat = a &&& c := by
    show (BitVec.ofInt 32 (a : Int) &&& BitVec.ofInt 32 (c : Int)).toNat = a &&& c
    rw [BitVec.ofInt_natCast, BitVec.ofInt_natCast, BitVec.toNat_and, BitVec.toNat_ofNat, BitVec.toNat_ofNat, Nat.mod_eq_of_lt (show a < 2 ^ 32 by omega), Nat.mod_eq_of_lt (show c < 2 ^ 32 by omega)]
  have h3 : a &&& c < 2 ^ 16 := Nat.lt_of_le_of_lt Nat.and_le_left ha
  rw [key]
  generalize a &&& c = q at *
  simp [IntKind.wrap, IntKind.signed, IntKind.bits]
  omega
theorem shl32 {i : Nat} (h : i < 16) : IntKind.u32.wrap (1 * 2 ^ i.min IntKind.u32.bits) = ((2 ^ i : Nat) : Int) := by
  have e : i.min IntKind.u32.bits = i := by
    show min i 32 = i
    omega
  rw [e]
  have h1 : (2 : Nat) ^ i < 2 ^ 16 := Nat.pow_lt_pow_right (by omega) h
  have h2 : ((2 : Int) ^ i) = ((2 ^ i : Nat) : Int) := by simp
  rw [Int.one_mul, h2]
  generalize 2 ^ i = q at *
  simp [IntKind.wrap, IntKind.signed, IntKind.bits]
  omega
theorem tb32 {a x : Nat} (ha : a < 65536) (hx : x < 16) : (IntKind.u32.wrap (((BitVec.ofInt IntKind.u32.bits ((a : Int).fdiv (2 ^ x.min IntKind.u32.bits)) &&& BitVec.ofInt IntKind.u32.bits 1).toNat : Nat) : Int) == 1) = a.testBit x := by
  have e : x.min IntKind.u32.bits = x := by
    show min x 32 = x
    omega
  have h2 : ((2 : Int) ^ x) = ((2 ^ x : Nat) : Int) := by simp
  rw [e, h2]
  have h3 : (a : Int).fdiv ((2 ^ x : Nat) : Int) = ((a >>> x : Nat) : Int) := by
    rw [Int.fdiv_eq_ediv_of_nonneg _ (Int.natCast_nonneg _), Nat.shiftRight_eq_div_pow]; rfl
  rw [h3]
  have h4 : a >>> x < 65536 := Nat.lt_of_le_of_lt (Nat.shiftRight_le _ _) ha
  have h5 := and32 (a := a >>> x) (c := 1) h4 (by omega)
  rw [show ((1 : Nat) : Int) = 1 from rfl] at h5
  rw [h5]
  unfold Nat.testBit
  rw [Nat.and_comm]
  have h6 : 1 &&& a >>> x ≤ 1 := Nat.and_le_left
  generalize 1 &&& a >>> x = q at *
  rcases (by omega : q = 0 ∨ q = 1) with rfl | rfl <;> rfl
/-- The first m darts. -/
theorem or_first : ∀ i : Nat, i < 16 → (2 ^ i - 1) ||| 2 ^ i = 2 ^ (i + 1) - 1 := by decide
theorem pow_lt {i : Nat} (h : i < 16) : 2 ^ i < 65536 := Nat.pow_lt_pow_right (a := 2) (m := i) (n := 16) (by omega) h
end Go.Proofs.YtjklebickfcddaaGreatDoor.Sep.Q
namespace Go.Proofs.YtjklebickfcddaaGreatDoor.Sep
open Go.RowKit
set_option linter.unusedVariables false
set_option linter.unusedSimpArgs false
set_option maxRecDepth 20000
set_option maxHeartbeats 4000000
theorem c_impl_isDarts {n : Int} {b w l : List Int} (hb : b.length = 16) (hw : w.length = 16) (hl : l.length ≤ 1000) (hin : ∀ i, i < l.length → 0 ≤ gi l i ∧ gi l i < n) : PSpec Tryz.prog 31 [vD n b w, .sl l.length (vi .i64 l)] fun v => v = .bool true := by
  refine impl_isDart_f.f ?_
  unfold vD
  dsimp only [impl_isDart_F, pcal_B, pcalp_B, pcala_B, pcond_B, pgk_B, JN_B, LP_B]
  (refine blkP.ini ?_; repeat (refine blkP.mk ?_; (try simp (disch := first | omega | (simp only [LN]; omega)) only [↓EC, EW, seval, ↓reduceIte, ↓EBD, EBE])))
  refine LPx_of (σ := Nat) 100000 [(66, 27, 1)] (fun i => [.int .i64 i]) (fun _ => [.int .i64 n :: vi .u8 (b ++ w)]) (fun i => i ≤ l.length) (fun i => l.length - i) 0 (by simp [frameOk, names, lpz, sclp, scv, scvs, nrfs, nrf, FRB]) (Nat.zero_le _) ?_ ?_
  · (refine blkP.ini ?_; repeat (refine blkP.mk ?_; simp (disch := first | omega | (simp only [LN]; omega)) only [↓EC, EW, seval, ↓reduceIte, ↓EBD, EBE, ColV_def]))
  · intro i hi
    (refine blkP.ini ?_; repeat (refine blkP.mk ?_; simp (disch := first | omega | (simp only [LN]; omega)) only [↓EC, EW, seval, ↓reduceIte, ↓EBD, EBE, ColV_def, lheap_def]))
    (refine Split.mkB (fun h => ?_) (fun h => ?_) <;> (try simp only [SD] at h))
    · have hh := hin i (by omega)
      (refine blkP.ini ?_; repeat (refine blkP.mk ?_; (try simp (disch := first | omega | (simp only [LN]; omega)) only [↓EC, EW, seval, ↓reduceIte, ↓EBD, EBE])))
      (refine Split.mkB (fun h => ?_) (fun h => ?_) <;> (try simp only [SD] at h))
      · omega
      · (refine blkP.ini ?_; repeat (refine blkP.mk ?_; (try simp (disch := first | omega | (simp only [LN]; omega)) only [↓EC, EW, seval, ↓reduceIte, ↓EBD, EBE])))
        (refine Split.mkB (fun h => ?_) (fun h => ?_) <;> (try simp only [SD] at h))
        · omega
        · (refine blkP.ini ?_; repeat (refine blkP.mk ?_; (try simp (disch := first | omega | (simp only [LN]; omega)) only [↓EC, EW, seval, ↓reduceIte, ↓EBD, EBE])))
          exact ⟨i + 1, by simp, by omega, by omega⟩
    · (refine blkP.ini ?_; repeat (refine blkP.mk ?_; (try simp (disch := first | omega | (simp only [LN]; omega)) only [↓EC, EW, seval, ↓reduceIte, ↓EBD, EBE])))
theorem c_IndexU {l : List Int} {x : Int} (hl : l.length ≤ 1000) : PSpec Tryz.prog 64 [.sl l.length (vi .u32 l), .int .u32 x] fun v => ∃ r, v = .int .i64 r ∧ (x ∈ l → 0 ≤ r) ∧ (x ∉ l → r = -1) := by
  refine slices_Index_uint32_uint32_f.f ?_
  dsimp only [slices_Index_uint32_uint32_F, pcal_B, pcalp_B, pcala_B, pcond_B, pgk_B, JN_B, LP_B]
  (refine blkP.ini ?_; repeat (refine blkP.mk ?_; (try simp (disch := first | omega | (simp only [LN]; omega)) only [↓EC, EW, seval, ↓reduceIte, ↓EBD, EBE])))
  refine LPx_of (σ := Nat) 100000 [] (fun i => [.int .i64 i]) (fun _ => []) (fun i => i ≤ l.length ∧ ∀ j, j < i → gi l j ≠ x) (fun i => l.length - i) 0 (by simp [frameOk, names, lpz, sclp, scv, scvs, nrfs, nrf, FRB]) ⟨Nat.zero_le _, fun j hj => absurd hj (Nat.not_lt_zero j)⟩ ?_ ?_
  · (refine blkP.ini ?_; repeat (refine blkP.mk ?_; simp (disch := first | omega | (simp only [LN]; omega)) only [↓EC, EW, seval, ↓reduceIte, ↓EBD, EBE, ColV_def]))
  · rintro i ⟨h1, h2⟩
    (refine blkP.ini ?_; repeat (refine blkP.mk ?_; simp (disch := first | omega | (simp only [LN]; omega)) only [↓EC, EW, seval, ↓reduceIte, ↓EBD, EBE, ColV_def, lheap_def]))
    (refine Split.mkB (fun h => ?_) (fun h => ?_) <;> (try simp only [SD] at h))
    · (refine blkP.ini ?_; repeat (refine blkP.mk ?_; (try simp (disch := first | omega | (simp only [LN]; omega)) only [↓EC, EW, seval, ↓reduceIte, ↓EBD, EBE])))
      (refine Split.mkB (fun h => ?_) (fun h => ?_) <;> (try simp only [SD] at h))
      · (refine blkP.ini ?_; repeat (refine blkP.mk ?_; (try simp (disch := first | omega | (simp only [LN]; omega)) only [↓EC, EW, seval, ↓reduceIte, ↓EBD, EBE])))
        refine ⟨i, rfl, fun _ => by omega, fun hno => absurd ?_ hno⟩
        rw [show x = gi l i by omega, gi_of (by omega)]
        exact List.getElem_mem _
      · (refine blkP.ini ?_; repeat (refine blkP.mk ?_; (try simp (disch := first | omega | (simp only [LN]; omega)) only [↓EC, EW, seval, ↓reduceIte, ↓EBD, EBE])))
        refine ⟨i + 1, by simp, ⟨by omega, fun j hj => ?_⟩, by omega⟩
        by_cases e : j = i
        · subst e; omega
        · exact h2 j (by omega)
    · (refine blkP.ini ?_; repeat (refine blkP.mk ?_; (try simp (disch := first | omega | (simp only [LN]; omega)) only [↓EC, EW, seval, ↓reduceIte, ↓EBD, EBE])))
      refine ⟨-1, rfl, fun hx => ?_, fun _ => rfl⟩
      obtain ⟨j, hj, e⟩ := List.mem_iff_getElem.1 hx
      exact absurd (by rw [gi_of hj, e]) (h2 j (by omega))
theorem c_ContainsU {l : List Int} {x : Int} (hl : l.length ≤ 1000) : PSpec Tryz.prog 32 [.sl l.length (vi .u32 l), .int .u32 x] fun v => v = .bool (decide (x ∈ l)) := by
  refine slices_Contains_uint32_uint32_f.f ?_
  dsimp only [slices_Contains_uint32_uint32_F, pcal_B, pcalp_B, pcala_B, pcond_B, pgk_B, JN_B, LP_B]
  (refine blkP.ini ?_; repeat (refine blkP.mk ?_; (try simp (disch := first | omega | (simp only [LN]; omega)) only [↓EC, EW, seval, ↓reduceIte, ↓EBD, EBE])))
  refine pcd_r (c_IndexU hl) ?_
  rintro _ ⟨r, rfl, h1, h2⟩
  (refine blkP.ini ?_; repeat (refine blkP.mk ?_; (try simp (disch := first | omega | (simp only [LN]; omega)) only [↓EC, EW, seval, ↓reduceIte, ↓EBD, EBE])))
  by_cases hx : x ∈ l
  · have := h1 hx
    simp [hx, this]
  · have := h2 hx
    simp [hx, this]
end Go.Proofs.YtjklebickfcddaaGreatDoor.Sep
end
section
/- Quotients of coverings by the block of the darts over 0. -/
namespace Go.Proofs.YtjklebickfcddaaGreatDoor.Sep
open Go.RowKit
open Go.Proofs.YtjklebickfcddaaGreatDoor.Sep.Q
set_option linter.unusedVariables false
set_option linter.unusedSimpArgs false
set_option maxRecDepth 20000
set_option maxHeartbeats 4000000

theorem c_Mul64M {k : Nat} (hk : k ≤ 16) : PSpec Tryz.prog 78 [.int .u64 1, .int .u64 k] fun v => v = .tup [.int .u64 0, .int .u64 k] := by
  refine math_bits_Mul64_f.f ?_
  have : k = 0 ∨ k = 1 ∨ k = 2 ∨ k = 3 ∨ k = 4 ∨ k = 5 ∨ k = 6 ∨ k = 7 ∨ k = 8 ∨ k = 9 ∨ k = 10 ∨ k = 11 ∨ k = 12 ∨ k = 13 ∨ k = 14 ∨ k = 15 ∨ k = 16 := by omega
  rcases this with rfl | rfl | rfl | rfl | rfl | rfl | rfl | rfl | rfl | rfl | rfl | rfl | rfl | rfl | rfl | rfl | rfl
  all_goals (simp (disch := first | omega | (simp only [LN]; omega)) only [↓EC, EW, seval, ↓reduceIte, math_bits_Mul64_F])
  all_goals rfl
theorem c_MulM {k : Nat} (hk : k ≤ 16) : PSpec Tryz.prog 65 [.int .u64 1, .int .u64 k] fun v => v = .tup [.int .u64 0, .int .u64 k] := by
  refine math_bits_Mul_f.f ?_
  simp (disch := first | omega | (simp only [LN]; omega)) only [↓EC, EW, seval, ↓reduceIte, math_bits_Mul_F]
  refine pcd_v (c_Mul64M hk) ?_
  (try simp (disch := first | omega | (simp only [LN]; omega)) only [↓EC, EW, seval, ↓reduceIte])
theorem setV_repM {x : Int} {t m r : Nat} : setV (vi .i64 (List.replicate t x ++ List.replicate (m + r) 0)) t (vi .i64 (List.replicate m x)) = vi .i64 (List.replicate (t + m) x ++ List.replicate r 0) := by
  rw [setV_gen (by simp [vi])]
  simp [vi, List.take_append, List.drop_append, List.map_append, ← List.replicate_append_replicate]
theorem c_RepeatM {x : Int} {k : Nat} (hk : k ≤ 16) : PSpec Tryz.prog 33 [.sl 1 (vi .i64 [x]), .int .i64 k] fun v => v = .own 2 1 k (vi .i64 (List.replicate k x)) := by
  refine slices_Repeat_int64_int64_i_f.f ?_
  simp (disch := first | omega | (simp only [LN]; omega)) only [↓EC, EW, seval, ↓reduceIte, slices_Repeat_int64_int64_i_F]
  (refine Split.mk (fun h => ?_) (fun h => ?_) <;> (try simp only [SD] at h))
  · omega
  refine pcd_v (c_MulM hk) ?_
  (try simp (disch := first | omega | (simp only [LN]; omega)) only [↓EC, EW, seval, ↓reduceIte])
  (refine Split.mk (fun h => ?_) (fun h => ?_) <;> (try simp only [SD] at h))
  · omega
  (try simp (disch := first | omega | (simp only [LN]; omega)) only [↓EC, EW, seval, ↓reduceIte])
  by_cases h0 : k = 0
  · subst h0
    (try simp (disch := first | omega | (simp only [LN]; omega)) only [↓EC, EW, seval, ↓reduceIte])
    refine LP_of (σ := Unit) 100000 [(94, 2, 1)] (fun s => [.int .i64 0]) (fun s => [[]]) (fun s => True) (fun s => 0) () (by simp [frameOk, names, lpz, sclp, scv, scvs, nrfs, nrf, FRB]) trivial ?_ ?_
    · simp (disch := first | omega | (simp only [LN]; omega)) only [↓EC, EW, seval, ↓reduceIte, ColV_def]
    · rintro _ _
      simp (disch := first | omega | (simp only [LN]; omega)) only [↓EC, EW, seval, ↓reduceIte, ColV_def, lheap_def]
      try rfl
  · have e1 : setV (vi .i64 (List.replicate k 0)) 0 (vi .i64 [x]) = vi .i64 (List.replicate 1 x ++ List.replicate (k - 1) 0) := by
      obtain ⟨k, rfl⟩ : ∃ k', k = k' + 1 := ⟨k - 1, by omega⟩
      simp [setV, vi, List.replicate_succ]
    have e2 : min 1 k = 1 := by omega
    (try simp (disch := first | omega | (simp only [LN]; omega)) only [↓EC, EW, seval, ↓reduceIte, e1, e2])
    refine LP_of (σ := Nat) 100000 [(94, 2, 1)] (fun t => [.int .i64 t]) (fun t => [vi .i64 (List.replicate t x ++ List.replicate (k - t) 0)]) (fun t => 1 ≤ t ∧ t ≤ k) (fun t => k - t) 1 (by simp [frameOk, names, lpz, sclp, scv, scvs, nrfs, nrf, FRB]) ⟨Nat.le_refl _, by omega⟩ ?_ ?_
    · simp (disch := first | omega | (simp only [LN]; omega)) only [↓EC, EW, seval, ↓reduceIte, ColV_def]
      try rfl
    · rintro t ⟨t1, t2⟩
      have e3 : setV (vi .i64 (List.replicate t x ++ List.replicate (k - t) 0)) t (vi .i64 (List.take (min t (k - t)) (List.take t (List.replicate t x ++ List.replicate (k - t) 0)))) = vi .i64 (List.replicate (t + min t (k - t)) x ++ List.replicate (k - (t + min t (k - t))) 0) := by
        have h1 : List.take (min t (k - t)) (List.take t (List.replicate t (x : Int) ++ List.replicate (k - t) 0)) = List.replicate (min t (k - t)) x := by
          simp [List.take_append]
        rw [h1]
        have h2 : k - t = min t (k - t) + (k - (t + min t (k - t))) := by omega
        have h3 := setV_repM (x := x) (t := t) (m := min t (k - t)) (r := k - (t + min t (k - t)))
        rw [← h2] at h3
        exact h3
      simp (disch := first | omega | (simp only [LN]; omega)) only [↓EC, EW, seval, ↓reduceIte, ColV_def, lheap_def]
      (refine Split.mk (fun h => ?_) (fun h => ?_) <;> (try simp only [SD] at h))
      · (try simp (disch := first | omega | (simp only [LN]; omega)) only [↓EC, EW, seval, ↓reduceIte, e3])
        exact ⟨t + min t (k - t), by simp, rfl, ⟨by omega, by omega⟩, by omega⟩
      · (try simp (disch := first | omega | (simp only [LN]; omega)) only [↓EC, EW, seval, ↓reduceIte])
        have : t = k := by omega
        subst this
        simp
/-! ### Parts -/
def ptT (p T : List Int) : Nat → List Int
  | 0 => List.replicate 16 0
  | s + 1 => (ptT p T s).set (gi T s).toNat (gi T (gi p s).toNat)
theorem ptT_len {p T : List Int} : ∀ s, (ptT p T s).length = 16
  | 0 => by simp [ptT]
  | s + 1 => by simp [ptT, ptT_len s]
theorem c_impl_parted {N : Int} {n : Int} {b w T : List Int} (hb : lo16 b) (hw : lo16 w) (hN : N ≤ 16) (hT : (T.length : Int) = N) (hbN : ltP b N) (hwN : ltP w N) (hTv : ∀ i, i < T.length → 0 ≤ gi T i ∧ gi T i < 16) :
    PSpec Tryz.prog 34 [vD N b w, .sl T.length (vi .i64 T), .int .i64 n] fun v => v = vD n (ptT b T T.length) (ptT w T T.length) := by
  have hbl := hb.1
  have hwl := hw.1
  refine impl_parted_f.f ?_
  unfold vD
  dsimp only [impl_parted_F, pcal_B, pcalp_B, pcala_B, pcond_B, pgk_B, JN_B, LP_B]
  (refine blkP.ini ?_; repeat (refine blkP.mk ?_; (try simp (disch := first | omega | (simp only [LN]; omega)) only [↓EC, EW, seval, ↓reduceIte, ↓EBD, EBE])))
  refine LPx_of (σ := Nat) 100000 [(67, 27, 1), (70, 27, 1), (71, 27, 1)] (fun i => [.int .i64 i]) (fun i => [.int .i64 N :: vi .u8 (b ++ w), .int .i64 0 :: vi .u8 (List.replicate 32 0), .int .i64 n :: vi .u8 (ptT b T i ++ ptT w T i)]) (fun i => i ≤ T.length) (fun i => T.length - i) 0 (by simp [frameOk, names, lpz, sclp, scv, scvs, nrfs, nrf, FRB]) (Nat.zero_le _) ?_ ?_
  · (refine blkP.ini ?_; repeat (refine blkP.mk ?_; simp (disch := first | omega | (simp only [LN]; omega)) only [↓EC, EW, seval, ↓reduceIte, ↓EBD, EBE, ColV_def]))
    rfl
  · intro i hi
    have hb1 := ptT_len (p := b) (T := T) i
    have hw1 := ptT_len (p := w) (T := T) i
    (refine blkP.ini ?_; repeat (refine blkP.mk ?_; simp (disch := first | omega | (simp only [LN]; omega)) only [↓EC, EW, seval, ↓reduceIte, ↓EBD, EBE, ColV_def, lheap_def]))
    (refine Split.mkB (fun h => ?_) (fun h => ?_) <;> (try simp only [SD] at h))
    · have c1 := hbN i (by omega)
      have c2 := hwN i (by omega)
      have v0 := hTv i (by omega)
      have v1 := hTv (gi b i).toNat (by omega)
      have v2 := hTv (gi w i).toNat (by omega)
      have e1 : gi (b ++ w) i = gi b i := gi_appl (by omega)
      have e3 : gi (b ++ w) (16 + i) = gi w i := by rw [gi_appr (by omega), hbl, Nat.add_sub_cancel_left]
      (refine blkP.ini ?_; repeat (refine blkP.mk ?_; (try simp (disch := first | omega | (simp only [LN]; omega)) only [↓EC, EW, seval, ↓reduceIte, ↓EBD, EBE, e1, e3])))
      rw [show 16 + (gi T i).toNat - (ptT b T i).length = (gi T i).toNat by omega]
      exact ⟨i + 1, by simp, rfl, by omega, by omega⟩
    · obtain rfl : i = T.length := by omega
      (refine blkP.ini ?_; repeat (refine blkP.mk ?_; (try simp (disch := first | omega | (simp only [LN]; omega)) only [↓EC, EW, seval, ↓reduceIte, ↓EBD, EBE])))
/-! ### Images of sets -/
theorem Pf.of {p : List Int} {n : Int} (ho : okP p) (h : isPm p n) : Pf p n.toNat := by
  have hn := h.1
  have hl := h.ltP ho
  refine ⟨fun x hx => ?_, fun x y hx hy e => ?_, by omega⟩
  · have := hl x (by omega); unfold fp; omega
  · have h1 := hl x (by omega)
    have h2 := hl y (by omega)
    unfold fp at e
    have e' : gi p x = gi p y := by omega
    rcases Nat.lt_trichotomy x y with hl | hl | hl
    · exact absurd e' (((h.2 y (by omega)).1 (by omega)).2 x hl)
    · exact hl
    · exact absurd e'.symm (((h.2 x (by omega)).1 (by omega)).2 y hl)
theorem Pf.surj {p : List Int} {N : Nat} (h : Pf p N) {y : Nat} (hy : y < N) : ∃ x, x < N ∧ fp p x = y := by
  obtain ⟨k, h1, h2⟩ := it_ret h hy
  obtain ⟨k, rfl⟩ : ∃ k', k = k' + 1 := ⟨k - 1, by omega⟩
  exact ⟨it p k y, it_lt h hy k, h2⟩
def imgT (p : List Int) (S : Nat) : Nat → Nat
  | 0 => 0
  | x + 1 => if S.testBit x = true then imgT p S x ||| 2 ^ fp p x else imgT p S x
theorem imgT_lt {p : List Int} {S N : Nat} (h : Pf p N) : ∀ x, x ≤ N → imgT p S x < 65536
  | 0, _ => by simp [imgT]
  | x + 1, hx => by
    have ih := imgT_lt (S := S) h x (by omega)
    have h1 := h.lt x (by omega)
    have h2 := h.le
    simp only [imgT]
    split
    · have h3 : 2 ^ fp p x < 2 ^ 16 := Nat.pow_lt_pow_right (by omega) (by omega)
      exact Nat.or_lt_two_pow (n := 16) ih h3
    · exact ih
theorem imgT_bit {p : List Int} {S j : Nat} : ∀ x, (imgT p S x).testBit j = true ↔ ∃ t, t < x ∧ S.testBit t = true ∧ fp p t = j
  | 0 => by simp [imgT]
  | x + 1 => by
    have ih := imgT_bit (p := p) (S := S) (j := j) x
    simp only [imgT]
    split
    · rename_i hs
      rw [Nat.testBit_or, Bool.or_eq_true, ih, Nat.testBit_two_pow]
      simp only [decide_eq_true_eq]
      constructor
      · rintro (⟨t, a, b, c⟩ | e)
        · exact ⟨t, by omega, b, c⟩
        · exact ⟨x, by omega, hs, e⟩
      · rintro ⟨t, a, b, c⟩
        by_cases e : t = x
        · subst e; exact .inr c
        · exact .inl ⟨t, by omega, b, c⟩
    · rename_i hs
      rw [ih]
      constructor
      · rintro ⟨t, a, b, c⟩; exact ⟨t, by omega, b, c⟩
      · rintro ⟨t, a, b, c⟩
        by_cases e : t = x
        · subst e; exact absurd b hs
        · exact ⟨t, by omega, b, c⟩
/-- Darts over one lead to darts over one. -/
structure Fib (p b : List Int) (N m : Nat) : Prop where
  hp : Pf p (N * m)
  hb : Pf b N
  m0 : 0 < m
  fib : ∀ t, t < N * m → fp p t / m = fp b (t / m)
theorem Fib.img {p b : List Int} {N m z : Nat} (h : Fib p b N m) (hz : z < N) : imgT p (fset m z) (N * m) = fset m (fp b z) := by
  have hm := h.m0
  refine Nat.eq_of_testBit_eq fun j => ?_
  rw [Bool.eq_iff_iff, imgT_bit, fset_bit' hm]
  constructor
  · rintro ⟨t, a, e, rfl⟩
    rw [h.fib t a, (fset_bit' hm).1 e]
  · intro e
    have hj : j < N * m := by
      have h1 := h.hb.lt z hz
      rw [← e] at h1
      exact (Nat.div_lt_iff_lt_mul hm).1 h1
    obtain ⟨t, ht, et⟩ := h.hp.surj hj
    refine ⟨t, ht, (fset_bit' hm).2 ?_, et⟩
    have h1 := h.fib t ht
    rw [et, e] at h1
    exact (h.hb.inj z (t / m) hz ((Nat.div_lt_iff_lt_mul hm).2 ht) h1).symm
theorem _root_.Go.Proofs.YtjklebickfcddaaGreatDoor.Sep.Q.Sx.le16 {n : Int} {s : Sr} (h : Sx n s) (hn : n ≤ 16 := by omega) : s.1.length ≤ 16 := by
  have hnd : (s.1.map Int.toNat).Nodup := List.pairwise_map.2 (List.Pairwise.imp_of_mem (fun {a c} ha hc hne e => by
    have := h.lt a ha
    have := h.lt c hc
    omega) h.nd)
  have := nodup_len 16 _ hnd fun x hx => by
    obtain ⟨u, hu, rfl⟩ := List.mem_map.1 hx
    have := h.lt u hu
    omega
  simpa using this
/-- The sets of the darts that are met. -/
def stL (m : Nat) (s : Sr) : List Int := s.1.map fun x => (fset m x.toNat : Int)
theorem stL_len {m : Nat} {s : Sr} : (stL m s).length = s.1.length := by simp [stL]
theorem stL_at {m : Nat} {s : Sr} {i : Nat} (h : i < s.1.length) : gi (stL m s) i = (fset m (gi s.1 i).toNat : Int) := by
  rw [gi_of (by rw [stL_len]; exact h), gi_of h]; simp [stL]
theorem stL_mem {m : Nat} {n : Int} {s : Sr} {y : Int} (hm : 0 < m) (hs : Sx n s) (hn : n ≤ 16) (hy : 0 ≤ y ∧ y < n) : (fset m y.toNat : Int) ∈ stL m s ↔ gb s.2 y.toNat = true := by
  rw [hs.has _ (by omega), show ((y.toNat : Nat) : Int) = y by omega]
  unfold stL
  rw [List.mem_map]
  constructor
  · rintro ⟨x, hx, e⟩
    have h1 := hs.lt x hx
    have h2 := fset_inj hm (Int.ofNat_inj.1 e)
    rw [show y = x by omega]; exact hx
  · intro h; exact ⟨y, h, rfl⟩
theorem stL_visit {m : Nat} {s : Sr} {y : Int} (h : gb s.2 y.toNat = false) : stL m (visit y s) = stL m s ++ [(fset m y.toNat : Int)] := by
  rw [visit_no h]; simp [stL]
def mid (b w : List Int) (k : Nat) : Nat → Sr
  | 0 => srT b w k
  | 1 => visit (gi b (gi (srT b w k).1 k).toNat) (srT b w k)
  | _ => srT b w (k + 1)
/-! ### The numbers of the parts -/
def fnL (N : Nat) (f : Nat → Int) : List Int := (List.range N).map f
theorem fnL_len {N : Nat} {f : Nat → Int} : (fnL N f).length = N := by simp [fnL]
theorem fnL_at {N : Nat} {f : Nat → Int} {i : Nat} (h : i < N) : gi (fnL N f) i = f i := by simp [fnL, gi, List.getD, h]
theorem fnL_set {N : Nat} {f g : Nat → Int} {i : Nat} {v : Int} (h : ∀ j, j < N → g j = if j = i then v else f j) : (fnL N f).set i v = fnL N g := by
  refine gi_ext (by simp [fnL]) fun j hj => ?_
  have hj' : j < N := by simpa [fnL] using hj
  rw [gi_set, fnL_at hj', fnL_at hj', h j hj', fnL_len]
  by_cases e : i = j
  · rw [if_pos ⟨e, hj'⟩, if_pos e.symm]
  · rw [if_neg fun h' => e h'.1, if_neg (Ne.symm e)]
theorem fnL_eq {N : Nat} {f g : Nat → Int} (h : ∀ j, j < N → f j = g j) : fnL N f = fnL N g := by
  refine gi_ext (by simp [fnL]) fun j hj => ?_
  have hj' : j < N := by simpa [fnL] using hj
  rw [fnL_at hj', fnL_at hj', h j hj']
/-- The parts of the first c sets have their numbers. -/
def prt (N m c : Nat) : List Int := fnL N fun y => if y / m < c then ((y / m : Nat) : Int) else -1
theorem prt_len {N m c : Nat} : (prt N m c).length = N := fnL_len
theorem prt_at {N m c y : Nat} (h : y < N) : gi (prt N m c) y = if y / m < c then ((y / m : Nat) : Int) else -1 := fnL_at h
theorem prt_0 {N m : Nat} : List.replicate N (-1 : Int) = prt N m 0 := by
  refine gi_ext (by simp [prt, fnL]) fun j hj => ?_
  have hj' : j < N := by simpa using hj
  rw [prt_at hj', gi_rep, if_pos hj', if_neg (Nat.not_lt_zero _)]
/-- The part of the set c is written as far as y. -/
def prm (N m c y : Nat) : List Int := fnL N fun j => if j / m < c then ((j / m : Nat) : Int) else if j / m = c ∧ j < y then (c : Int) else -1
theorem prm_len {N m c y : Nat} : (prm N m c y).length = N := fnL_len
theorem prm_0 {N m c : Nat} : prm N m c 0 = prt N m c := fnL_eq fun j hj => by
  by_cases h : j / m < c
  · rw [if_pos h, if_pos h]
  · rw [if_neg h, if_neg h, if_neg (by omega)]
theorem prm_N {N m c : Nat} : prm N m c N = prt N m (c + 1) := fnL_eq fun j hj => by
  by_cases h : j / m < c
  · rw [if_pos h, if_pos (by omega)]
  · rw [if_neg h]
    by_cases e : j / m = c
    · rw [if_pos ⟨e, hj⟩, if_pos (by omega), e]
    · rw [if_neg (by omega), if_neg (by omega)]
theorem prm_set {N m c y : Nat} (h : y / m = c) : (prm N m c y).set y c = prm N m c (y + 1) := fnL_set fun j hj => by
  by_cases e : j = y
  · subst e; rw [if_pos rfl, if_neg (by omega), if_pos ⟨h, by omega⟩]
  · rw [if_neg e]
    by_cases h1 : j / m < c
    · rw [if_pos h1, if_pos h1]
    · rw [if_neg h1, if_neg h1]
      by_cases h2 : j / m = c ∧ j < y
      · rw [if_pos h2, if_pos ⟨h2.1, by omega⟩]
      · rw [if_neg h2, if_neg (by omega)]
theorem prm_skip {N m c y : Nat} (h : ¬ y / m = c) : prm N m c y = prm N m c (y + 1) := fnL_eq fun j hj => by
  by_cases h1 : j / m < c
  · rw [if_pos h1, if_pos h1]
  · rw [if_neg h1, if_neg h1]
    by_cases e : j = y
    · subst e; rw [if_neg (by omega), if_neg (by omega)]
    · by_cases h2 : j / m = c ∧ j < y
      · rw [if_pos h2, if_pos ⟨h2.1, by omega⟩]
      · rw [if_neg h2, if_neg (by omega)]
/-- How many sets are met below x. -/
def cdv (m x : Nat) : Nat := (x + m - 1) / m
theorem cdv_mul {m c : Nat} (hm : 0 < m) : cdv m (m * c) = c := by
  unfold cdv
  rw [show m * c + m - 1 = (m - 1) + m * c by omega, Nat.add_mul_div_left _ _ hm, Nat.div_eq_of_lt (by omega), Nat.zero_add]
theorem cdv_succ {m x : Nat} (hm : 0 < m) : cdv m (x + 1) = x / m + 1 := by
  unfold cdv
  rw [show x + 1 + m - 1 = x + m by omega, Nat.add_div_right _ hm]
theorem cdv_cases {m x : Nat} (hm : 0 < m) : (x / m < cdv m x ∧ cdv m (x + 1) = cdv m x) ∨ (x / m = cdv m x ∧ x = m * (x / m)) := by
  have h1 := Nat.div_add_mod x m
  have h2 := Nat.mod_lt x hm
  by_cases h : x % m = 0
  · right
    have e : x = m * (x / m) := by omega
    refine ⟨?_, e⟩
    have := cdv_mul (c := x / m) hm
    rw [← e] at this; exact this.symm
  · left
    have e : cdv m x = x / m + 1 := by
      unfold cdv
      have h3 : x + m - 1 = (x % m - 1) + m * (x / m + 1) := by rw [Nat.mul_succ]; omega
      rw [h3, Nat.add_mul_div_left _ _ hm, Nat.div_eq_of_lt (by omega), Nat.zero_add]
    rw [cdv_succ hm, e]; omega
/-- The parts, where the first t sets are gone through for the set c. -/
def ptq (N m c : Nat) (L : List Int) (t : Nat) : List Int := prt N m (if (c : Int) ∈ L.take t then c + 1 else c)
theorem ptq_no {N m c t : Nat} {L : List Int} (hL : L.Nodup) (ht : t < L.length) (h : gi L t = (c : Int)) : ptq N m c L t = prt N m c := by
  unfold ptq
  rw [if_neg]
  intro hm
  obtain ⟨j, hj, e⟩ := List.mem_iff_getElem.1 hm
  rw [List.getElem_take] at e
  rw [gi_of ht, ← e] at h
  have := (List.getElem_inj hL).1 h
  simp at hj
  omega
theorem ptq_yes {N m c t : Nat} {L : List Int} (ht : t < L.length) (h : gi L t = (c : Int)) : ptq N m c L (t + 1) = prt N m (c + 1) := by
  unfold ptq
  rw [if_pos]
  refine List.mem_iff_getElem.2 ⟨t, by simp; omega, ?_⟩
  rw [List.getElem_take, ← gi_of ht, h]
theorem ptq_skip {N m c t : Nat} {L : List Int} (ht : t < L.length) (h : gi L t ≠ (c : Int)) : ptq N m c L (t + 1) = ptq N m c L t := by
  unfold ptq
  have : (c : Int) ∈ L.take (t + 1) ↔ (c : Int) ∈ L.take t := by
    rw [List.take_add_one, List.getElem?_eq_getElem ht]
    simp only [List.mem_append, Option.toList_some, List.mem_singleton]
    rw [gi_of ht] at h
    exact ⟨fun h' => h'.elim id fun e => absurd e.symm h, .inl⟩
  simp only [this]
theorem ptq_all {N m c : Nat} {L : List Int} (h : (c : Int) ∈ L) : ptq N m c L L.length = prt N m (c + 1) := by
  unfold ptq
  rw [List.take_length, if_pos h]
/-- The parts' dessin. -/
theorem ptT_at {p b : List Int} {N m : Nat} (f : Fib p b N m) {c : Nat} (hc : c < 16) : ∀ s, s ≤ N * m → gi (ptT p (prt (N * m) m N) s) c = if m * c < s then (fp b c : Int) else 0
  | 0, _ => by
    simp only [ptT]
    rw [gi_rep, if_pos hc, if_neg (Nat.not_lt_zero _)]
  | s + 1, hs => by
    have ih := ptT_at f hc s (by omega)
    have hm := f.m0
    have hsl : s < N * m := by omega
    have h1 := (Nat.div_lt_iff_lt_mul hm).2 hsl
    have h2 := f.hp.lt s hsl
    have h3 := (Nat.div_lt_iff_lt_mul hm).2 h2
    have h4 := f.fib s hsl
    have hle := f.hb.le
    simp only [ptT]
    rw [prt_at hsl, if_pos h1, show (gi p s).toNat = fp p s from rfl, prt_at h2, if_pos h3, h4, gi_set, ptT_len, Int.toNat_natCast]
    have hd1 := Nat.div_add_mod s m
    have hd2 := Nat.mod_lt s hm
    by_cases e : s / m = c
    · rw [if_pos ⟨e, hc⟩, e, if_pos (by rw [← e]; omega)]
    · rw [if_neg fun h' => e h'.1, ih]
      have hne : m * c ≠ s := fun h' => e (by rw [← h', Nat.mul_div_cancel_left _ hm])
      by_cases h5 : m * c < s
      · rw [if_pos h5, if_pos (by omega)]
      · rw [if_neg h5, if_neg (by omega)]
theorem ptT_eq {p b : List Int} {n : Int} {m : Nat} (f : Fib p b n.toNat m) (ob : okP b) (pb : isPm b n) : ptT p (prt (n.toNat * m) m n.toNat) (n.toNat * m) = b := by
  refine gi_ext (by rw [ptT_len, ob.1]) fun c hc => ?_
  rw [ptT_len] at hc
  rw [ptT_at f hc _ (Nat.le_refl _)]
  have hm := f.m0
  by_cases h : c < n.toNat
  · have h1 : m * c < n.toNat * m := by rw [Nat.mul_comm m c]; exact Nat.mul_lt_mul_of_pos_right h hm
    have := pb.ltP ob c (by omega)
    rw [if_pos h1]; unfold fp; omega
  · have h1 : ¬ m * c < n.toNat * m := by
      rw [Nat.mul_comm m c]
      exact Nat.not_lt.2 (Nat.mul_le_mul_right m (by omega))
    rw [if_neg h1, (pb.2 c hc).2 (by omega)]
def rgI (m : Nat) : List Int := (List.range m).map fun i : Nat => (i : Int)
theorem rgI_len {m : Nat} : (rgI m).length = m := by simp [rgI]
theorem rgI_at {m i : Nat} (h : i < m) : gi (rgI m) i = i := by simp [rgI, gi, List.getD, h]
theorem c_impl_QuotientByBlock {n : Int} {m : Nat} {b w p q : List Int} (D : isD n b w) (ob : okP b) (ow : okP w) (hm : 1 ≤ m) (hN : n.toNat * m ≤ 16) (op : okP p) (oq : okP q) (hd : isDB (n * m) p q = true)
    (fb : Fib p b n.toNat m) (fw : Fib q w n.toNat m) : PSpec Tryz.prog 14 [vD (n * m) p q, .sl m (vi .i64 (rgI m))] fun v => v = .tup [vD n b w, .int .i64 0] := by
  have hpl := op.1
  have hql := oq.1
  have hn := D.pb.1
  have hm16 : m ≤ 16 := by
    have : 1 * m ≤ n.toNat * m := Nat.mul_le_mul_right m (by omega)
    omega
  have hrl := rgI_len (m := m)
  refine impl_QuotientByBlock_f.f ?_
  unfold vD
  dsimp only [impl_QuotientByBlock_F, pcal_B, pcalp_B, pcala_B, pcond_B, pgk_B, JN_B, LP_B]
  (refine blkP.ini ?_; repeat (refine blkP.mk ?_; (try simp (disch := first | omega | (simp only [LN]; omega)) only [↓EC, EW, seval, ↓reduceIte, ↓EBD, EBE])))
  refine pcd_v (c_impl_IsDessin (n := n * m) op oq) ?_
  (refine blkP.ini ?_; repeat (refine blkP.mk ?_; (try simp (disch := first | omega | (simp only [LN]; omega)) only [↓EC, EW, seval, ↓reduceIte, ↓EBD, EBE, hd])))
  (refine Split.mkB (fun h => ?_) (fun h => ?_) <;> (try simp only [SD] at h))
  · omega
  (refine blkP.ini ?_; repeat (refine blkP.mk ?_; (try simp (disch := first | omega | (simp only [LN]; omega)) only [↓EC, EW, seval, ↓reduceIte, ↓EBD, EBE])))
  have hdart := c_impl_isDarts (n := n * m) (b := p) (w := q) (l := rgI m) hpl hql (by omega) (fun i hi => by
    rw [rgI_at (by omega)]
    have : 1 * (m : Int) ≤ n * m := Int.mul_le_mul_of_nonneg_right (by omega) (by omega)
    omega)
  rw [hrl] at hdart
  refine pcd_v hdart ?_
  (refine blkP.ini ?_; repeat (refine blkP.mk ?_; (try simp (disch := first | omega | (simp only [LN]; omega)) only [↓EC, EW, seval, ↓reduceIte, ↓EBD, EBE])))
  refine LPx_of (σ := Nat) 100000 [(66, 27, 1), (68, 27, 1)] (fun i => [.int .u32 ((2 ^ i - 1 : Nat) : Int), .int .i64 i]) (fun _ => [.int .i64 (n * m) :: vi .u8 (p ++ q), .int .i64 0 :: vi .u8 (List.replicate 32 0)]) (fun i => i ≤ m) (fun i => m - i) 0 (by simp [frameOk, names, lpz, sclp, scv, scvs, nrfs, nrf, FRB]) (Nat.zero_le _) ?_ ?_
  · (refine blkP.ini ?_; repeat (refine blkP.mk ?_; simp (disch := first | omega | (simp only [LN]; omega)) only [↓EC, EW, seval, ↓reduceIte, ↓EBD, EBE, ColV_def]))
  · intro i hi
    (refine blkP.ini ?_; repeat (refine blkP.mk ?_; simp (disch := first | omega | (simp only [LN]; omega)) only [↓EC, EW, seval, ↓reduceIte, ↓EBD, EBE, ColV_def, lheap_def]))
    (refine Split.mkB (fun h => ?_) (fun h => ?_) <;> (try simp only [SD] at h))
    · have r1 := rgI_at (m := m) (i := i) (by omega)
      have r2 := rgI_at (m := m) (i := i - 1) (by omega)
      have e1 := shl32 (i := i) (by omega)
      have e2 := or32 (a := 2 ^ i - 1) (c := 2 ^ i) (by have := pow_lt (i := i) (by omega); omega) (pow_lt (by omega))
      rw [or_first i (by omega)] at e2
      (refine blkP.ini ?_; repeat (refine blkP.mk ?_; (try simp (disch := first | omega | (simp only [LN]; omega)) only [↓EC, EW, seval, ↓reduceIte, ↓EBD, EBE, r1])))
      (refine Split.mkB (fun h => ?_) (fun h => ?_) <;> (try simp only [SD] at h))
      · (refine blkP.ini ?_; repeat (refine blkP.mk ?_; (try simp (disch := first | omega | (simp only [LN]; omega)) only [↓EC, EW, seval, ↓reduceIte, ↓EBD, EBE, r1])))
        (refine Split.mkB (fun h => ?_) (fun h => ?_) <;> (try simp only [SD] at h))
        · rw [show ((i : Int) - 1).toNat = i - 1 by omega, r2] at h
          omega
        · (refine blkP.ini ?_; repeat (refine blkP.mk ?_; (try simp (disch := first | omega | (simp only [LN]; omega)) only [↓EC, EW, seval, ↓reduceIte, ↓EBD, EBE, r1])))
          refine ⟨i + 1, ?_, by omega, by omega⟩
          rw [e1, e2]; simp
      · (refine blkP.ini ?_; repeat (refine blkP.mk ?_; (try simp (disch := first | omega | (simp only [LN]; omega)) only [↓EC, EW, seval, ↓reduceIte, ↓EBD, EBE, r1])))
        refine ⟨i + 1, ?_, by omega, by omega⟩
        rw [e1, e2]; simp
    · obtain rfl : i = m := by omega
      (refine blkP.ini ?_; repeat (refine blkP.mk ?_; (try simp (disch := first | omega | (simp only [LN]; omega)) only [↓EC, EW, seval, ↓reduceIte, ↓EBD, EBE])))
      have hb' := D.pb.ltP ob
      have hw' := D.pw.ltP ow
      have hsr := srch hn hb' hw' D.cn
      have e0 : ((2 ^ i - 1 : Nat) : Int) = (fset i 0 : Int) := by simp [fset]
      have hNI : n * (i : Int) = ((n.toNat * i : Nat) : Int) := by rw [Int.natCast_mul, show ((n.toNat : Nat) : Int) = n by omega]
      rw [e0]
      refine LPx_of (σ := Nat) 100000 [(66, 27, 1), (68, 27, 1)] (fun k => [.own 60 1 (stL i (srT b w k)).length (vi .u32 (stL i (srT b w k))), .int .i64 k]) (fun _ => [.int .i64 (n * i) :: vi .u8 (p ++ q), .int .i64 0 :: vi .u8 (List.replicate 32 0)]) (fun k => k ≤ n.toNat) (fun k => n.toNat - k) 0 (by simp [frameOk, names, lpz, sclp, scv, scvs, nrfs, nrf, FRB]) (Nat.zero_le _) ?_ ?_
      · (refine blkP.ini ?_; repeat (refine blkP.mk ?_; simp (disch := first | omega | (simp only [LN]; omega)) only [↓EC, EW, seval, ↓reduceIte, ↓EBD, EBE, ColV_def]))
        rfl
      · intro k hk
        have hsx := hsr.sx k hk
        have hsl := stL_len (m := i) (s := srT b w k)
        (refine blkP.ini ?_; repeat (refine blkP.mk ?_; simp (disch := first | omega | (simp only [LN]; omega)) only [↓EC, EW, seval, ↓reduceIte, ↓EBD, EBE, ColV_def, lheap_def]))
        (refine Split.mkB (fun h => ?_) (fun h => ?_) <;> (try simp only [SD] at h))
        · (refine blkP.ini ?_; repeat (refine blkP.mk ?_; (try simp (disch := first | omega | (simp only [LN]; omega)) only [↓EC, EW, seval, ↓reduceIte, ↓EBD, EBE])))
          have hkn : k < n.toNat := by
            refine Classical.byContradiction fun hno => ?_
            have : k = n.toNat := by omega
            subst this
            have := hsr.len
            omega
          have hkl := hsr.at_ k hkn
          have hzm : gi (srT b w k).1 k ∈ (srT b w k).1 := by rw [gi_of hkl]; exact List.getElem_mem hkl
          have hz := hsx.lt _ hzm
          have hzN : (gi (srT b w k).1 k).toNat < n.toNat := by omega
          have hyb := hb' (gi (srT b w k).1 k).toNat (by omega)
          have hyw := hw' (gi (srT b w k).1 k).toNat (by omega)
          have hs1 := Sx.visit hn hsx hyb
          have hs2 : Sx n (srT b w (k + 1)) := hsr.sx (k + 1) (by omega)
          have hfz : i * (gi (srT b w k).1 k).toNat + i ≤ 16 := by
            have h1 : i * ((gi (srT b w k).1 k).toNat + 1) ≤ i * n.toNat := Nat.mul_le_mul_left i (by omega)
            rw [Nat.mul_succ, Nat.mul_comm i n.toNat] at h1
            omega
          have srle0 : (mid b w k 0).1.length ≤ 16 := hsx.le16
          have srle1 : (mid b w k 1).1.length ≤ 16 := hs1.le16
          refine LPx_of (σ := Nat) 200000 [(66, 27, 1), (68, 27, 1), (137, 25, 16)] (fun j => [.own 60 1 (stL i (mid b w k j)).length (vi .u32 (stL i (mid b w k j))), .int .i64 j]) (fun _ => [.int .i64 (n * i) :: vi .u8 (p ++ q), .int .i64 0 :: vi .u8 (List.replicate 32 0), vi .u8 (p ++ q)]) (fun j => j ≤ 2) (fun j => 2 - j) 0 (by simp [frameOk, names, lpz, sclp, scv, scvs, nrfs, nrf, FRB]) (Nat.zero_le _) ?_ ?_
          · (refine blkP.ini ?_; repeat (refine blkP.mk ?_; simp (disch := first | omega | (simp only [LN]; omega)) only [↓EC, EW, seval, ↓reduceIte, ↓EBD, EBE, ColV_def]))
            rfl
          · intro j hj
            have hml := stL_len (m := i) (s := mid b w k j)
            (refine blkP.ini ?_; repeat (refine blkP.mk ?_; simp (disch := first | omega | (simp only [LN]; omega)) only [↓EC, EW, seval, ↓reduceIte, ↓EBD, EBE, ColV_def, lheap_def]))
            rcases (by omega : j = 0 ∨ j = 1 ∨ j = 2) with rfl | rfl | rfl
            · (refine blkP.ini ?_; repeat (refine blkP.mk ?_; (try simp (disch := first | omega | (simp only [LN]; omega)) only [↓EC, EW, seval, ↓reduceIte, ↓EBD, EBE])))
              have hk0 : k < (stL i (mid b w k 0)).length := by rw [stL_len]; exact hkl
              have hgv : gi (stL i (mid b w k 0)) k = (fset i (gi (srT b w k).1 k).toNat : Int) := by
                rw [stL_at (by rw [stL_len] at hk0; exact hk0)]
                rfl
              refine JNx_un ?_
              (refine blkP.ini ?_; repeat (refine blkP.mk ?_; (try simp (disch := first | omega | (simp only [LN]; omega)) only [↓EC, EW, seval, ↓reduceIte, ↓EBD, EBE])))
              refine LPx_of (σ := Nat) 300000 [(66, 27, 1), (68, 27, 1), (137, 25, 16), (76, 25, 1), (200000, 60, 1)] (fun x => [.int .u32 (imgT p (fset i (gi (srT b w k).1 k).toNat) x : Int), .int .i64 x])
                (fun _ => [.int .i64 (n * i) :: vi .u8 (p ++ q), .int .i64 0 :: vi .u8 (List.replicate 32 0), vi .u8 (p ++ q), vi .u8 p, vi .u32 (stL i (mid b w k 0))]) (fun x => x ≤ n.toNat * i) (fun x => n.toNat * i - x) 0 (by simp [frameOk, names, lpz, sclp, scv, scvs, nrfs, nrf, FRB]) (Nat.zero_le _) ?_ ?_
              · (refine blkP.ini ?_; repeat (refine blkP.mk ?_; simp (disch := first | omega | (simp only [LN]; omega)) only [↓EC, EW, seval, ↓reduceIte, ↓EBD, EBE, ColV_def]))
                rfl
              · intro x hx
                (refine blkP.ini ?_; repeat (refine blkP.mk ?_; simp (disch := first | omega | (simp only [LN]; omega)) only [↓EC, EW, seval, ↓reduceIte, ↓EBD, EBE, ColV_def, lheap_def]))
                have hxi := imgT_lt (S := fset i (gi (srT b w k).1 k).toNat) fb.hp x hx
                (refine Split.mkB (fun h => ?_) (fun h => ?_) <;> (try simp only [SD] at h))
                · have hxp := fb.hp.lt x (by omega)
                  (refine blkP.ini ?_; repeat (refine blkP.mk ?_; (try simp (disch := first | omega | (simp only [LN]; omega)) only [↓EC, EW, seval, ↓reduceIte, ↓EBD, EBE])))
                  refine JNx_un ?_
                  (refine blkP.ini ?_; repeat (refine blkP.mk ?_; (try simp (disch := first | omega | (simp only [LN]; omega)) only [↓EC, EW, seval, ↓reduceIte, ↓EBD, EBE, hgv])))
                  rw [tb32 (fset_lt hfz) (show x < 16 by omega)]
                  have hpx : 0 ≤ gi p x ∧ gi p x < n * i := (isDB_iff.1 hd).pb.ltP op x (by omega)
                  (refine Split.mkB (fun h => ?_) (fun h => ?_) <;> (try simp only [SD] at h))
                  · (refine blkP.ini ?_; repeat (refine blkP.mk ?_; (try simp (disch := first | omega | (simp only [LN]; omega)) only [↓EC, EW, seval, ↓reduceIte, ↓EBD, EBE])))
                    refine ⟨x + 1, ?_, by omega, by omega⟩
                    have e3 := shl32 (i := (gi p x).toNat) (by unfold fp at hxp; omega)
                    have e4 := or32 hxi (pow_lt (i := (gi p x).toNat) (by unfold fp at hxp; omega))
                    rw [e3, e4]
                    simp only [imgT, h, if_true]
                    simp [fp]
                  · (refine blkP.ini ?_; repeat (refine blkP.mk ?_; (try simp (disch := first | omega | (simp only [LN]; omega)) only [↓EC, EW, seval, ↓reduceIte, ↓EBD, EBE])))
                    refine ⟨x + 1, ?_, by omega, by omega⟩
                    simp only [imgT, h]
                    simp
                · obtain rfl : x = n.toNat * i := by omega
                  (refine blkP.ini ?_; repeat (refine blkP.mk ?_; (try simp (disch := first | omega | (simp only [LN]; omega)) only [↓EC, EW, seval, ↓reduceIte, ↓EBD, EBE])))
                  rw [fb.img hzN, show fp b (gi (srT b w k).1 k).toNat = (gi b (gi (srT b w k).1 k).toNat).toNat from rfl]
                  generalize hY : gi b (gi (srT b w k).1 k).toNat = y at *
                  refine pcd_v (c_ContainsU (l := stL i (mid b w k 0)) (by rw [stL_len]; have := srle0; omega)) ?_
                  have hmem : (fset i y.toNat : Int) ∈ stL i (mid b w k 0) ↔ gb (mid b w k 0).2 y.toNat = true := stL_mem (m := i) (y := y) hm hsx hn.2 hyb
                  (refine blkP.ini ?_; repeat (refine blkP.mk ?_; (try simp (disch := first | omega | (simp only [LN]; omega)) only [↓EC, EW, seval, ↓reduceIte, ↓EBD, EBE])))
                  have hnx : mid b w k 1 = visit y (mid b w k 0) := by rw [← hY]; rfl
                  (refine Split.mkB (fun h => ?_) (fun h => ?_) <;> (try simp only [SD] at h))
                  · (refine blkP.ini ?_; repeat (refine blkP.mk ?_; (try simp (disch := first | omega | (simp only [LN]; omega)) only [↓EC, EW, seval, ↓reduceIte, ↓EBD, EBE])))
                    refine ⟨1, ?_, by omega, by omega⟩
                    rw [hnx, visit_yes (hmem.1 h)]
                    rfl
                  · have hno : gb (mid b w k 0).2 y.toNat = false := by
                      cases hg : gb (mid b w k 0).2 y.toNat with
                      | false => rfl
                      | true => exact absurd (hmem.2 hg) h
                    have hlS := stL_len (m := i) (s := (mid b w k 0))
                    (refine blkP.ini ?_; repeat (refine blkP.mk ?_; (try simp (disch := first | omega | (simp only [LN]; omega)) only [↓EC, EW, seval, ↓reduceIte, ↓EBD, EBE])))
                    refine LPx_of (σ := Nat) 400000 [(66, 27, 1), (68, 27, 1), (137, 25, 16), (200000, 60, 1)] (fun t => [.int .i64 t])
                      (fun _ => [.int .i64 (n * i) :: vi .u8 (p ++ q), .int .i64 0 :: vi .u8 (List.replicate 32 0), vi .u8 (p ++ q), vi .u32 (stL i (mid b w k 0))]) (fun t => t ≤ (stL i (mid b w k 0)).length) (fun t => (stL i (mid b w k 0)).length - t) 0 (by simp [frameOk, names, lpz, sclp, scv, scvs, nrfs, nrf, FRB]) (Nat.zero_le _) ?_ ?_
                    · (refine blkP.ini ?_; repeat (refine blkP.mk ?_; simp (disch := first | omega | (simp only [LN]; omega)) only [↓EC, EW, seval, ↓reduceIte, ↓EBD, EBE, ColV_def]))
                    · intro t ht
                      (refine blkP.ini ?_; repeat (refine blkP.mk ?_; simp (disch := first | omega | (simp only [LN]; omega)) only [↓EC, EW, seval, ↓reduceIte, ↓EBD, EBE, ColV_def, lheap_def]))
                      (refine Split.mkB (fun h => ?_) (fun h => ?_) <;> (try simp only [SD] at h))
                      · have htl : t < (mid b w k 0).1.length := by omega
                        have hxm : gi (mid b w k 0).1 t ∈ (mid b w k 0).1 := by rw [gi_of htl]; exact List.getElem_mem htl
                        have hxl := hsx.lt _ hxm
                        have hne : (gi (mid b w k 0).1 t).toNat ≠ y.toNat := fun e => by
                          have e' : gi (mid b w k 0).1 t = y := by omega
                          rw [e'] at hxm
                          have := (hsx.has y.toNat (by omega)).2 (by rw [show ((y.toNat : Nat) : Int) = y by omega]; exact hxm)
                          rw [show gb (mid b w k 0).2 y.toNat = true from this] at hno; cases hno
                        have lt1 : fset i (gi (mid b w k 0).1 t).toNat < 65536 := fset_lt (by
                          have h1 : i * ((gi (mid b w k 0).1 t).toNat + 1) ≤ i * n.toNat := Nat.mul_le_mul_left i (by omega)
                          rw [Nat.mul_succ, Nat.mul_comm i n.toNat] at h1
                          omega)
                        have lt2 : fset i y.toNat < 65536 := fset_lt (by
                          have h1 : i * (y.toNat + 1) ≤ i * n.toNat := Nat.mul_le_mul_left i (by omega)
                          rw [Nat.mul_succ, Nat.mul_comm i n.toNat] at h1
                          omega)
                        (refine blkP.ini ?_; repeat (refine blkP.mk ?_; (try simp (disch := first | omega | (simp only [LN]; omega)) only [↓EC, EW, seval, ↓reduceIte, ↓EBD, EBE, stL_at htl])))
                        rw [and32 lt1 lt2, fset_apart hm hne]
                        (refine blkP.ini ?_; repeat (refine blkP.mk ?_; (try simp (disch := first | omega | (simp only [LN]; omega)) only [↓EC, EW, seval, ↓reduceIte, ↓EBD, EBE])))
                        exact ⟨t + 1, by simp, by omega, by omega⟩
                      · (refine blkP.ini ?_; repeat (refine blkP.mk ?_; (try simp (disch := first | omega | (simp only [LN]; omega)) only [↓EC, EW, seval, ↓reduceIte, ↓EBD, EBE])))
                        refine ⟨1, ?_, by omega, by omega⟩
                        rw [hnx, stL_visit hno]
                        simp only [List.length_append, List.length_cons, List.length_nil]
                        rfl
            · (refine blkP.ini ?_; repeat (refine blkP.mk ?_; (try simp (disch := first | omega | (simp only [LN]; omega)) only [↓EC, EW, seval, ↓reduceIte, ↓EBD, EBE])))
              have hk0 : k < (stL i (mid b w k 1)).length := by rw [stL_len]; exact Nat.lt_of_lt_of_le hkl visit_len
              have hgv : gi (stL i (mid b w k 1)) k = (fset i (gi (srT b w k).1 k).toNat : Int) := by
                rw [stL_at (by rw [stL_len] at hk0; exact hk0)]
                simp only [mid]; rw [visit_pre' hkl]
              refine JNx_un ?_
              (refine blkP.ini ?_; repeat (refine blkP.mk ?_; (try simp (disch := first | omega | (simp only [LN]; omega)) only [↓EC, EW, seval, ↓reduceIte, ↓EBD, EBE])))
              refine LPx_of (σ := Nat) 300000 [(66, 27, 1), (68, 27, 1), (137, 25, 16), (76, 25, 1), (200000, 60, 1)] (fun x => [.int .u32 (imgT q (fset i (gi (srT b w k).1 k).toNat) x : Int), .int .i64 x])
                (fun _ => [.int .i64 (n * i) :: vi .u8 (p ++ q), .int .i64 0 :: vi .u8 (List.replicate 32 0), vi .u8 (p ++ q), vi .u8 q, vi .u32 (stL i (mid b w k 1))]) (fun x => x ≤ n.toNat * i) (fun x => n.toNat * i - x) 0 (by simp [frameOk, names, lpz, sclp, scv, scvs, nrfs, nrf, FRB]) (Nat.zero_le _) ?_ ?_
              · (refine blkP.ini ?_; repeat (refine blkP.mk ?_; simp (disch := first | omega | (simp only [LN]; omega)) only [↓EC, EW, seval, ↓reduceIte, ↓EBD, EBE, ColV_def]))
                rfl
              · intro x hx
                (refine blkP.ini ?_; repeat (refine blkP.mk ?_; simp (disch := first | omega | (simp only [LN]; omega)) only [↓EC, EW, seval, ↓reduceIte, ↓EBD, EBE, ColV_def, lheap_def]))
                have hxi := imgT_lt (S := fset i (gi (srT b w k).1 k).toNat) fw.hp x hx
                (refine Split.mkB (fun h => ?_) (fun h => ?_) <;> (try simp only [SD] at h))
                · have hxp := fw.hp.lt x (by omega)
                  (refine blkP.ini ?_; repeat (refine blkP.mk ?_; (try simp (disch := first | omega | (simp only [LN]; omega)) only [↓EC, EW, seval, ↓reduceIte, ↓EBD, EBE])))
                  refine JNx_un ?_
                  (refine blkP.ini ?_; repeat (refine blkP.mk ?_; (try simp (disch := first | omega | (simp only [LN]; omega)) only [↓EC, EW, seval, ↓reduceIte, ↓EBD, EBE, hgv])))
                  rw [tb32 (fset_lt hfz) (show x < 16 by omega)]
                  have hpx : 0 ≤ gi q x ∧ gi q x < n * i := (isDB_iff.1 hd).pw.ltP oq x (by omega)
                  (refine Split.mkB (fun h => ?_) (fun h => ?_) <;> (try simp only [SD] at h))
                  · (refine blkP.ini ?_; repeat (refine blkP.mk ?_; (try simp (disch := first | omega | (simp only [LN]; omega)) only [↓EC, EW, seval, ↓reduceIte, ↓EBD, EBE])))
                    refine ⟨x + 1, ?_, by omega, by omega⟩
                    have e3 := shl32 (i := (gi q x).toNat) (by unfold fp at hxp; omega)
                    have e4 := or32 hxi (pow_lt (i := (gi q x).toNat) (by unfold fp at hxp; omega))
                    rw [e3, e4]
                    simp only [imgT, h, if_true]
                    simp [fp]
                  · (refine blkP.ini ?_; repeat (refine blkP.mk ?_; (try simp (disch := first | omega | (simp only [LN]; omega)) only [↓EC, EW, seval, ↓reduceIte, ↓EBD, EBE])))
                    refine ⟨x + 1, ?_, by omega, by omega⟩
                    simp only [imgT, h]
                    simp
                · obtain rfl : x = n.toNat * i := by omega
                  (refine blkP.ini ?_; repeat (refine blkP.mk ?_; (try simp (disch := first | omega | (simp only [LN]; omega)) only [↓EC, EW, seval, ↓reduceIte, ↓EBD, EBE])))
                  rw [fw.img hzN, show fp w (gi (srT b w k).1 k).toNat = (gi w (gi (srT b w k).1 k).toNat).toNat from rfl]
                  generalize hY : gi w (gi (srT b w k).1 k).toNat = y at *
                  refine pcd_v (c_ContainsU (l := stL i (mid b w k 1)) (by rw [stL_len]; have := srle1; omega)) ?_
                  have hmem : (fset i y.toNat : Int) ∈ stL i (mid b w k 1) ↔ gb (mid b w k 1).2 y.toNat = true := stL_mem (m := i) (y := y) hm hs1 hn.2 hyw
                  (refine blkP.ini ?_; repeat (refine blkP.mk ?_; (try simp (disch := first | omega | (simp only [LN]; omega)) only [↓EC, EW, seval, ↓reduceIte, ↓EBD, EBE])))
                  have hnx : mid b w k 2 = visit y (mid b w k 1) := by rw [← hY]; rfl
                  (refine Split.mkB (fun h => ?_) (fun h => ?_) <;> (try simp only [SD] at h))
                  · (refine blkP.ini ?_; repeat (refine blkP.mk ?_; (try simp (disch := first | omega | (simp only [LN]; omega)) only [↓EC, EW, seval, ↓reduceIte, ↓EBD, EBE])))
                    refine ⟨2, ?_, by omega, by omega⟩
                    rw [hnx, visit_yes (hmem.1 h)]
                    rfl
                  · have hno : gb (mid b w k 1).2 y.toNat = false := by
                      cases hg : gb (mid b w k 1).2 y.toNat with
                      | false => rfl
                      | true => exact absurd (hmem.2 hg) h
                    have hlS := stL_len (m := i) (s := (mid b w k 1))
                    (refine blkP.ini ?_; repeat (refine blkP.mk ?_; (try simp (disch := first | omega | (simp only [LN]; omega)) only [↓EC, EW, seval, ↓reduceIte, ↓EBD, EBE])))
                    refine LPx_of (σ := Nat) 400000 [(66, 27, 1), (68, 27, 1), (137, 25, 16), (200000, 60, 1)] (fun t => [.int .i64 t])
                      (fun _ => [.int .i64 (n * i) :: vi .u8 (p ++ q), .int .i64 0 :: vi .u8 (List.replicate 32 0), vi .u8 (p ++ q), vi .u32 (stL i (mid b w k 1))]) (fun t => t ≤ (stL i (mid b w k 1)).length) (fun t => (stL i (mid b w k 1)).length - t) 0 (by simp [frameOk, names, lpz, sclp, scv, scvs, nrfs, nrf, FRB]) (Nat.zero_le _) ?_ ?_
                    · (refine blkP.ini ?_; repeat (refine blkP.mk ?_; simp (disch := first | omega | (simp only [LN]; omega)) only [↓EC, EW, seval, ↓reduceIte, ↓EBD, EBE, ColV_def]))
                    · intro t ht
                      (refine blkP.ini ?_; repeat (refine blkP.mk ?_; simp (disch := first | omega | (simp only [LN]; omega)) only [↓EC, EW, seval, ↓reduceIte, ↓EBD, EBE, ColV_def, lheap_def]))
                      (refine Split.mkB (fun h => ?_) (fun h => ?_) <;> (try simp only [SD] at h))
                      · have htl : t < (mid b w k 1).1.length := by omega
                        have hxm : gi (mid b w k 1).1 t ∈ (mid b w k 1).1 := by rw [gi_of htl]; exact List.getElem_mem htl
                        have hxl := hs1.lt _ hxm
                        have hne : (gi (mid b w k 1).1 t).toNat ≠ y.toNat := fun e => by
                          have e' : gi (mid b w k 1).1 t = y := by omega
                          rw [e'] at hxm
                          have := (hs1.has y.toNat (by omega)).2 (by rw [show ((y.toNat : Nat) : Int) = y by omega]; exact hxm)
                          rw [show gb (mid b w k 1).2 y.toNat = true from this] at hno; cases hno
                        have lt1 : fset i (gi (mid b w k 1).1 t).toNat < 65536 := fset_lt (by
                          have h1 : i * ((gi (mid b w k 1).1 t).toNat + 1) ≤ i * n.toNat := Nat.mul_le_mul_left i (by omega)
                          rw [Nat.mul_succ, Nat.mul_comm i n.toNat] at h1
                          omega)
                        have lt2 : fset i y.toNat < 65536 := fset_lt (by
                          have h1 : i * (y.toNat + 1) ≤ i * n.toNat := Nat.mul_le_mul_left i (by omega)
                          rw [Nat.mul_succ, Nat.mul_comm i n.toNat] at h1
                          omega)
                        (refine blkP.ini ?_; repeat (refine blkP.mk ?_; (try simp (disch := first | omega | (simp only [LN]; omega)) only [↓EC, EW, seval, ↓reduceIte, ↓EBD, EBE, stL_at htl])))
                        rw [and32 lt1 lt2, fset_apart hm hne]
                        (refine blkP.ini ?_; repeat (refine blkP.mk ?_; (try simp (disch := first | omega | (simp only [LN]; omega)) only [↓EC, EW, seval, ↓reduceIte, ↓EBD, EBE])))
                        exact ⟨t + 1, by simp, by omega, by omega⟩
                      · (refine blkP.ini ?_; repeat (refine blkP.mk ?_; (try simp (disch := first | omega | (simp only [LN]; omega)) only [↓EC, EW, seval, ↓reduceIte, ↓EBD, EBE])))
                        refine ⟨2, ?_, by omega, by omega⟩
                        rw [hnx, stL_visit hno]
                        simp only [List.length_append, List.length_cons, List.length_nil]
                        rfl
            · (refine blkP.ini ?_; repeat (refine blkP.mk ?_; (try simp (disch := first | omega | (simp only [LN]; omega)) only [↓EC, EW, seval, ↓reduceIte, ↓EBD, EBE])))
              refine ⟨k + 1, ?_, by omega, by omega⟩
              rfl
        · (refine blkP.ini ?_; repeat (refine blkP.mk ?_; (try simp (disch := first | omega | (simp only [LN]; omega)) only [↓EC, EW, seval, ↓reduceIte, ↓EBD, EBE])))
          have hkn : k = n.toNat := by
            refine Classical.byContradiction fun hno => ?_
            have := hsr.at_ k (by omega)
            omega
          subst hkn
          have hlen := hsr.len
          have hrep := c_RepeatM (x := -1) (k := n.toNat * i) hN
          rw [← hNI] at hrep
          refine pcd_o hrep ?_
          (refine blkP.ini ?_; repeat (refine blkP.mk ?_; (try simp (disch := first | omega | (simp only [LN]; omega)) only [↓EC, EW, seval, ↓reduceIte, ↓EBD, EBE])))
          have hi0 : 0 < i := hm
          have hprt0 : List.replicate (n.toNat * i) (-1 : Int) = prt (n.toNat * i) i 0 := prt_0
          rw [hprt0]
          have hSn : (stL i (srT b w n.toNat)).length = n.toNat := by rw [stL_len, hlen]
          refine LPx_of (σ := Nat) 500000 [(66, 27, 1), (68, 27, 1), (100000, 60, 1), (186, 2, 1)] (fun x => [.int .i64 (cdv i x : Int), .int .i64 x]) (fun x => [.int .i64 (n * i) :: vi .u8 (p ++ q), .int .i64 0 :: vi .u8 (List.replicate 32 0), vi .u32 (stL i (srT b w n.toNat)), vi .i64 (prt (n.toNat * i) i (cdv i x))])
            (fun x => x ≤ n.toNat * i) (fun x => n.toNat * i - x) 0 (by simp [frameOk, names, lpz, sclp, scv, scvs, nrfs, nrf, FRB]) (Nat.zero_le _) ?_ ?_
          · (refine blkP.ini ?_; repeat (refine blkP.mk ?_; simp (disch := first | omega | (simp only [LN]; omega)) only [↓EC, EW, seval, ↓reduceIte, ↓EBD, EBE, ColV_def]))
            have c0 : cdv i 0 = 0 := cdv_mul (c := 0) hm
            rw [c0]
            exact ⟨rfl, rfl⟩
          · intro x hx
            (refine blkP.ini ?_; repeat (refine blkP.mk ?_; simp (disch := first | omega | (simp only [LN]; omega)) only [↓EC, EW, seval, ↓reduceIte, ↓EBD, EBE, ColV_def, lheap_def]))
            (refine Split.mkB (fun h => ?_) (fun h => ?_) <;> (try simp only [SD] at h))
            · have hxN : x < n.toNat * i := by omega
              have hpx := prt_at (m := i) (c := cdv i x) hxN
              have hpl' := prt_len (N := n.toNat * i) (m := i) (c := cdv i x)
              (refine blkP.ini ?_; repeat (refine blkP.mk ?_; (try simp (disch := first | omega | (simp only [LN]; omega)) only [↓EC, EW, seval, ↓reduceIte, ↓EBD, EBE])))
              refine JNx_un ?_
              have hcn : x / i < n.toNat := (Nat.div_lt_iff_lt_mul hi0).2 hxN
              have cs : cdv i (x + 1) = x / i + 1 := cdv_succ hi0
              have hcc := cdv_cases (x := x) hi0
              obtain ⟨c, hc⟩ : ∃ c, x / i = c := ⟨_, rfl⟩
              rw [hc] at hcc hcn cs hpx
              rcases hcc with ⟨c1, c2⟩ | ⟨c1, c2⟩
              · rw [if_pos c1] at hpx
                (refine blkP.ini ?_; repeat (refine blkP.mk ?_; (try simp (disch := first | omega | (simp only [LN]; omega)) only [↓EC, EW, seval, ↓reduceIte, ↓EBD, EBE, hpx])))
                (refine Split.mkB (fun h => ?_) (fun h => ?_) <;> (try simp only [SD] at h))
                · (refine blkP.ini ?_; repeat (refine blkP.mk ?_; (try simp (disch := first | omega | (simp only [LN]; omega)) only [↓EC, EW, seval, ↓reduceIte, ↓EBD, EBE])))
                  exact ⟨x + 1, by rw [c2]; simp, by rw [c2], by omega, by omega⟩
                · omega
              · rw [if_neg (by omega)] at hpx
                (refine blkP.ini ?_; repeat (refine blkP.mk ?_; (try simp (disch := first | omega | (simp only [LN]; omega)) only [↓EC, EW, seval, ↓reduceIte, ↓EBD, EBE, hpx])))
                rw [← c1]
                (refine blkP.ini ?_; repeat (refine blkP.mk ?_; (try simp (disch := first | omega | (simp only [LN]; omega)) only [↓EC, EW, seval, ↓reduceIte, ↓EBD, EBE])))
                have hsx := hsr.sx n.toNat (Nat.le_refl _)
                refine LPx_of (σ := Nat) 600000 [(66, 27, 1), (68, 27, 1), (100000, 60, 1), (186, 2, 1)] (fun t => [.int .i64 t]) (fun t => [.int .i64 (n * i) :: vi .u8 (p ++ q), .int .i64 0 :: vi .u8 (List.replicate 32 0), vi .u32 (stL i (srT b w n.toNat)), vi .i64 (ptq (n.toNat * i) i c (srT b w n.toNat).1 t)])
                  (fun t => t ≤ n.toNat) (fun t => n.toNat - t) 0 (by simp [frameOk, names, lpz, sclp, scv, scvs, nrfs, nrf, FRB]) (Nat.zero_le _) ?_ ?_
                · (refine blkP.ini ?_; repeat (refine blkP.mk ?_; simp (disch := first | omega | (simp only [LN]; omega)) only [↓EC, EW, seval, ↓reduceIte, ↓EBD, EBE, ColV_def]))
                  rfl
                · intro t ht
                  (refine blkP.ini ?_; repeat (refine blkP.mk ?_; simp (disch := first | omega | (simp only [LN]; omega)) only [↓EC, EW, seval, ↓reduceIte, ↓EBD, EBE, ColV_def, lheap_def]))
                  (refine Split.mkB (fun h => ?_) (fun h => ?_) <;> (try simp only [SD] at h))
                  · have htn : t < n.toNat := by omega
                    have htl : t < (srT b w n.toNat).1.length := by omega
                    have hxm : gi (srT b w n.toNat).1 t ∈ (srT b w n.toNat).1 := by rw [gi_of htl]; exact List.getElem_mem htl
                    have hxl := hsx.lt _ hxm
                    have lt1 : fset i (gi (srT b w n.toNat).1 t).toNat < 65536 := fset_lt (by
                      have h1 : i * ((gi (srT b w n.toNat).1 t).toNat + 1) ≤ i * n.toNat := Nat.mul_le_mul_left i (by omega)
                      rw [Nat.mul_succ, Nat.mul_comm i n.toNat] at h1
                      omega)
                    (refine blkP.ini ?_; repeat (refine blkP.mk ?_; (try simp (disch := first | omega | (simp only [LN]; omega)) only [↓EC, EW, seval, ↓reduceIte, ↓EBD, EBE, stL_at htl])))
                    by_cases hz : (gi (srT b w n.toNat).1 t).toNat = c
                    · have q0 : ptq (n.toNat * i) i c (srT b w n.toNat).1 t = prm (n.toNat * i) i c 0 := by rw [ptq_no hsx.nd htl (by omega), prm_0]
                      have q1 : ptq (n.toNat * i) i c (srT b w n.toNat).1 (t + 1) = prm (n.toNat * i) i c (n.toNat * i) := by rw [ptq_yes htl (by omega), prm_N]
                      rw [q0]
                      refine LPx_of (σ := Nat) 700000 [(66, 27, 1), (68, 27, 1), (100000, 60, 1), (186, 2, 1)] (fun y => [.int .i64 y]) (fun y => [.int .i64 (n * i) :: vi .u8 (p ++ q), .int .i64 0 :: vi .u8 (List.replicate 32 0), vi .u32 (stL i (srT b w n.toNat)), vi .i64 (prm (n.toNat * i) i c y)])
                        (fun y => y ≤ n.toNat * i) (fun y => n.toNat * i - y) 0 (by simp [frameOk, names, lpz, sclp, scv, scvs, nrfs, nrf, FRB]) (Nat.zero_le _) ?_ ?_
                      · (refine blkP.ini ?_; repeat (refine blkP.mk ?_; simp (disch := first | omega | (simp only [LN]; omega)) only [↓EC, EW, seval, ↓reduceIte, ↓EBD, EBE, ColV_def]))
                      · intro y hy
                        have hpm := prm_len (N := n.toNat * i) (m := i) (c := c) (y := y)
                        (refine blkP.ini ?_; repeat (refine blkP.mk ?_; simp (disch := first | omega | (simp only [LN]; omega)) only [↓EC, EW, seval, ↓reduceIte, ↓EBD, EBE, ColV_def, lheap_def]))
                        (refine Split.mkB (fun h => ?_) (fun h => ?_) <;> (try simp only [SD] at h))
                        · (refine blkP.ini ?_; repeat (refine blkP.mk ?_; (try simp (disch := first | omega | (simp only [LN]; omega)) only [↓EC, EW, seval, ↓reduceIte, ↓EBD, EBE])))
                          refine JNx_un ?_
                          (refine blkP.ini ?_; repeat (refine blkP.mk ?_; (try simp (disch := first | omega | (simp only [LN]; omega)) only [↓EC, EW, seval, ↓reduceIte, ↓EBD, EBE])))
                          have tbx : (fset i (gi (srT b w n.toNat).1 t).toNat).testBit x = true := (fset_bit' hi0).2 (by rw [hc, hz])
                          rw [tb32 lt1 (show x < 16 by omega), tbx]
                          (refine blkP.ini ?_; repeat (refine blkP.mk ?_; (try simp (disch := first | omega | (simp only [LN]; omega)) only [↓EC, EW, seval, ↓reduceIte, ↓EBD, EBE])))
                          rw [tb32 lt1 (show y < 16 by omega)]
                          (refine Split.mkB (fun h => ?_) (fun h => ?_) <;> (try simp only [SD] at h))
                          · (refine blkP.ini ?_; repeat (refine blkP.mk ?_; (try simp (disch := first | omega | (simp only [LN]; omega)) only [↓EC, EW, seval, ↓reduceIte, ↓EBD, EBE])))
                            have hyc : y / i = c := ((fset_bit' hi0).1 h).trans hz
                            rw [prm_set hyc]
                            exact ⟨y + 1, by simp, rfl, by omega, by omega⟩
                          · (refine blkP.ini ?_; repeat (refine blkP.mk ?_; (try simp (disch := first | omega | (simp only [LN]; omega)) only [↓EC, EW, seval, ↓reduceIte, ↓EBD, EBE])))
                            have hyc : ¬ y / i = c := fun e => by rw [(fset_bit' hi0).2 (e.trans hz.symm)] at h; cases h
                            exact ⟨y + 1, by simp, by rw [← prm_skip hyc], by omega, by omega⟩
                        · obtain rfl : y = n.toNat * i := by omega
                          (refine blkP.ini ?_; repeat (refine blkP.mk ?_; (try simp (disch := first | omega | (simp only [LN]; omega)) only [↓EC, EW, seval, ↓reduceIte, ↓EBD, EBE])))
                          rw [← q1]
                          exact ⟨t + 1, by simp, rfl, by omega, by omega⟩
                    · have q1 : ptq (n.toNat * i) i c (srT b w n.toNat).1 (t + 1) = ptq (n.toNat * i) i c (srT b w n.toNat).1 t := ptq_skip htl (by omega)
                      refine LPx_of (σ := Nat) 700000 [(66, 27, 1), (68, 27, 1), (100000, 60, 1), (186, 2, 1)] (fun y => [.int .i64 y]) (fun y => [.int .i64 (n * i) :: vi .u8 (p ++ q), .int .i64 0 :: vi .u8 (List.replicate 32 0), vi .u32 (stL i (srT b w n.toNat)), vi .i64 (ptq (n.toNat * i) i c (srT b w n.toNat).1 t)])
                        (fun y => y ≤ n.toNat * i) (fun y => n.toNat * i - y) 0 (by simp [frameOk, names, lpz, sclp, scv, scvs, nrfs, nrf, FRB]) (Nat.zero_le _) ?_ ?_
                      · (refine blkP.ini ?_; repeat (refine blkP.mk ?_; simp (disch := first | omega | (simp only [LN]; omega)) only [↓EC, EW, seval, ↓reduceIte, ↓EBD, EBE, ColV_def]))
                      · intro y hy
                        (refine blkP.ini ?_; repeat (refine blkP.mk ?_; simp (disch := first | omega | (simp only [LN]; omega)) only [↓EC, EW, seval, ↓reduceIte, ↓EBD, EBE, ColV_def, lheap_def]))
                        (refine Split.mkB (fun h => ?_) (fun h => ?_) <;> (try simp only [SD] at h))
                        · (refine blkP.ini ?_; repeat (refine blkP.mk ?_; (try simp (disch := first | omega | (simp only [LN]; omega)) only [↓EC, EW, seval, ↓reduceIte, ↓EBD, EBE])))
                          refine JNx_un ?_
                          (refine blkP.ini ?_; repeat (refine blkP.mk ?_; (try simp (disch := first | omega | (simp only [LN]; omega)) only [↓EC, EW, seval, ↓reduceIte, ↓EBD, EBE])))
                          have tbx : (fset i (gi (srT b w n.toNat).1 t).toNat).testBit x = false := by
                            cases hg : (fset i (gi (srT b w n.toNat).1 t).toNat).testBit x with
                            | false => rfl
                            | true => exact absurd (((fset_bit' hi0).1 hg).symm.trans hc) hz
                          rw [tb32 lt1 (show x < 16 by omega), tbx]
                          (refine blkP.ini ?_; repeat (refine blkP.mk ?_; (try simp (disch := first | omega | (simp only [LN]; omega)) only [↓EC, EW, seval, ↓reduceIte, ↓EBD, EBE])))
                          exact ⟨y + 1, by simp, by omega, by omega⟩
                        · (refine blkP.ini ?_; repeat (refine blkP.mk ?_; (try simp (disch := first | omega | (simp only [LN]; omega)) only [↓EC, EW, seval, ↓reduceIte, ↓EBD, EBE])))
                          rw [← q1]
                          exact ⟨t + 1, by simp, rfl, by omega, by omega⟩
                  · obtain rfl : t = n.toNat := by omega
                    (refine blkP.ini ?_; repeat (refine blkP.mk ?_; (try simp (disch := first | omega | (simp only [LN]; omega)) only [↓EC, EW, seval, ↓reduceIte, ↓EBD, EBE])))
                    have hall := hsr.all c (by omega)
                    have q2 : ptq (n.toNat * i) i c (srT b w n.toNat).1 n.toNat = prt (n.toNat * i) i (c + 1) := by
                      have := ptq_all (N := n.toNat * i) (m := i) hall
                      rw [hlen] at this; exact this
                    rw [q2, ← cs]
                    exact ⟨x + 1, by rw [cs]; simp, rfl, by omega, by omega⟩
            · obtain rfl : x = n.toNat * i := by omega
              have hcN : cdv i (n.toNat * i) = n.toNat := by rw [Nat.mul_comm]; exact cdv_mul hi0
              have hTl := prt_len (N := n.toNat * i) (m := i) (c := n.toNat)
              (refine blkP.ini ?_; repeat (refine blkP.mk ?_; (try simp (disch := first | omega | (simp only [LN]; omega)) only [↓EC, EW, seval, ↓reduceIte, ↓EBD, EBE])))
              rw [hcN]
              have hD := isDB_iff.1 hd
              have hpt := c_impl_parted (N := n * i) (n := n) (b := p) (w := q) (T := prt (n.toNat * i) i n.toNat) (hD.pb.lo op) (hD.pw.lo oq) (by omega) (by rw [hTl]; omega) (hD.pb.ltP op) (hD.pw.ltP oq) (fun y hy => by
                rw [hTl] at hy
                have hyn : y / i < n.toNat := (Nat.div_lt_iff_lt_mul hi0).2 hy
                rw [prt_at hy, if_pos hyn]
                generalize y / i = z at *
                omega)
              rw [hTl, ptT_eq fb ob D.pb, ptT_eq fw ow D.pw] at hpt
              rw [List.take_of_length_le (Nat.le_of_eq hTl), show ((n.toNat : Nat) : Int) = n by omega]
              have hb1 := ob.1
              have hw1 := ow.1
              refine pcd_v hpt ?_
              (refine blkP.ini ?_; repeat (refine blkP.mk ?_; (try simp (disch := first | omega | (simp only [LN]; omega)) only [↓EC, EW, seval, ↓reduceIte, ↓EBD, EBE, vD])))
end Go.Proofs.YtjklebickfcddaaGreatDoor.Sep
end
section
/- Walks along words in covers: the reference. -/
namespace Go.Proofs.YtjklebickfcddaaGreatDoor.Sep
open Go.RowKit
set_option linter.unusedVariables false
set_option linter.unusedSimpArgs false
set_option maxRecDepth 20000
set_option maxHeartbeats 1000000

section
variable {n m : Int} {b w a c : List Int} {s : Int × Int} {L : Int}
theorem wk1_98 (h : L = 98) : wk1 n m b w a c L s = stF b a m s := by subst h; rfl
theorem wk1_119 (h : L = 119) : wk1 n m b w a c L s = stF w c m s := by subst h; rfl
theorem wk1_66 (h : L = 66) : wk1 n m b w a c L s = stB b a n m s := by subst h; rfl
theorem wk1_87 (h : L = 87) : wk1 n m b w a c L s = stB w c n m s := by subst h; rfl
theorem wk1_else (h1 : ¬ L = 98) (h2 : ¬ L = 119) (h4 : ¬ L = 66) (h5 : ¬ L = 87) : wk1 n m b w a c L s = s := by
  simp only [wk1, if_neg h1, if_neg h2, if_neg h4, if_neg h5]
end
theorem c_spec_WalkOf {n m x y : Int} {b w a c : List Int} {s : List UInt8} (hb : okP b) (hw : okP w) (ha : a.length ≤ 1048576) (hc : c.length ≤ 1048576) (hs : s.length ≤ 1048576) (h0 : covC n b w m a c = 0) (hx : StOk n m (x, y)) (hsp : isSp s = true) :
    PSpec Tryz.prog 20 [vD n b w, .int .i64 m, .sl a.length (vi .i64 a), .sl c.length (vi .i64 c), .int .i64 x, .int .i64 y, .str s] fun v =>
      v = .tup [.own 2 1 2 (vi .i64 [(wkT n m b w a c (x, y) (ub s) s.length).1, (wkT n m b w a c (x, y) (ub s) s.length).2]), .int .i64 0] := by
  have hl := hb.len
  have hk := hw.len
  have hcv := CvOk.of hb hw h0
  obtain ⟨⟨x0, x1⟩, y0, y1⟩ := id hx
  simp only at x0 x1 y0 y1
  have hm := hcv.hm
  have hn := hcv.hn
  have hal := hcv.al
  have hcl := hcv.cl
  refine spec_WalkOf_f.f ?_
  have g1 := c_spec_l09Code (n := n) (m := m) hb hw ha hc
  have g3 := c_spec_l03Value (n := n) hcv.lb hcv.lw hcv.hn hs
  rw [hsp] at g3
  have d1 : decide (0 ≤ x ∧ x ≤ n - 1) = true := by simp only [decide_eq_true_eq]; omega
  have d2 : decide (0 ≤ y ∧ y ≤ m - 1) = true := by simp only [decide_eq_true_eq]; omega
  have k1 := c_spec_l01In (n := x) (a := 0) (b := n - 1)
  have k2 := c_spec_l01In (n := y) (a := 0) (b := m - 1)
  rw [d1] at k1; rw [d2] at k2
  unfold vD at g1 g3 ⊢
  simp (config := { maxSteps := 10000000 }) (disch := first | omega | (simp only [LN]; omega)) only [↓EC, EW, seval, ↓reduceIte, spec_WalkOf_F, hl, hk]
  refine pcd_v g1 ?_
  (try simp (disch := first | omega | (simp only [LN]; omega)) only [↓EC, EW, seval, ↓reduceIte, hl, hk, h0])
  refine pcd_v k1 ?_
  (try simp (disch := first | omega | (simp only [LN]; omega)) only [↓EC, EW, seval, ↓reduceIte, hl, hk])
  refine pcd_v k2 ?_
  (try simp (disch := first | omega | (simp only [LN]; omega)) only [↓EC, EW, seval, ↓reduceIte, hl, hk])
  refine pcd_r g3 ?_
  rintro _ ⟨Q, hQ, rfl⟩
  (try simp (disch := first | omega | (simp only [LN]; omega)) only [↓EC, EW, seval, ↓reduceIte, hl, hk, hQ, setV_vv])
  have kb : PSpec Tryz.prog 45 [.agg (vi .u8 b), .int .i64 n] fun v => v = .agg (vi .u8 (backP b n)) := c_spec_l01Back hcv.lb hn
  have kw : PSpec Tryz.prog 45 [.agg (vi .u8 w), .int .i64 n] fun v => v = .agg (vi .u8 (backP w n)) := c_spec_l01Back hcv.lw hn
  have blb := (backP_lo (p := b) hn).1
  have blw := (backP_lo (p := w) hn).1
  refine LP_of (σ := Nat) 100000 [(71, 27, 1)] (fun i => [.int .i64 (wkT n m b w a c (x, y) (ub s) i).1, .int .i64 (wkT n m b w a c (x, y) (ub s) i).2, .int .i64 i])
    (fun i => [.int .i64 n :: vi .u8 (b ++ w)])
    (fun i => i ≤ s.length) (fun i => s.length - i) 0 (by simp [frameOk, names, lpz, sclp, scv, scvs, nrfs, nrf, FRB]) (Nat.zero_le _) ?_ ?_
  · simp (disch := first | omega | (simp only [LN]; omega)) only [↓EC, EW, seval, ↓reduceIte, ColV_def]
    rfl
  · rintro i h1
    have hT := wkT_ok hcv (t := ub s) hx i
    have hus : ub (sb [gi (ub s) i]) = [gi (ub s) i] := ub_sb fun j hj => by
      have : j = 0 := by simp at hj; exact hj
      subst this; exact ub_lim
    have hlim := ub_lim (s := s) (i := i)
    obtain ⟨T, hTe⟩ : ∃ T, wkT n m b w a c (x, y) (ub s) i = T := ⟨_, rfl⟩
    simp (disch := first | omega | (simp only [LN]; omega)) only [↓EC, EW, seval, ↓reduceIte, ColV_def, lheap_def]
    (refine Split.mk (fun h => ?_) (fun h => ?_) <;> (try simp only [SD] at h))
    · rw [hTe] at hT ⊢
      (try simp (disch := first | omega | (simp only [LN]; omega)) only [↓EC, EW, seval, ↓reduceIte, EB, hl, hk])
      (refine Split.mk (fun h => ?_) (fun h => ?_) <;> (try simp only [SD] at h))
      · have hL := h
        have hW : wkT n m b w a c (x, y) (ub s) (i + 1) = wkX n m b w a c T [87, 66] 2 := by simp only [wkT, wkL, expL, hTe]; rw [hL]; rfl
        refine LP_of (σ := (Int × Int) × Nat) 200000 [(71, 27, 1)] (fun t => [.int .i64 t.1.1, .int .i64 t.1.2, .int .i64 t.2]) (fun t => [.int .i64 n :: vi .u8 (b ++ w)])
          (fun t => t.2 ≤ 2 ∧ t.1 = wkX n m b w a c T [87, 66] t.2) (fun t => 2 - t.2) (T, 0) (by simp [frameOk, names, lpz, sclp, scv, scvs, nrfs, nrf, FRB]) ⟨Nat.zero_le _, rfl⟩ ?_ ?_
        · simp (disch := first | omega | (simp only [LN]; omega)) only [↓EC, EW, seval, ↓reduceIte, ColV_def]
        · rintro ⟨⟨u, v⟩, k⟩ ⟨j1, j2⟩
          simp only at j1 j2
          have hst := wkX_ok hcv (s := T) (u := [87, 66]) hT k
          rw [← j2] at hst
          obtain ⟨⟨u0, u1⟩, v0, v1⟩ := id hst
          simp only at u0 u1 v0 v1
          have f1 := hcv.av u.toNat (by omega)
          have f2 := hcv.cv u.toNat (by omega)
          have f3 := hcv.bt u.toNat (by omega)
          have f4 := hcv.wt u.toNat (by omega)
          have B1 := backP_lt (p := b) hn u.toNat (by omega)
          have B2 := backP_lt (p := w) hn u.toNat (by omega)
          have f5 := hcv.av (gi (backP b n) u.toNat).toNat (by omega)
          have f6 := hcv.cv (gi (backP w n) u.toNat).toNat (by omega)
          simp (disch := first | omega | (simp only [LN]; omega)) only [↓EC, EW, seval, ↓reduceIte, ColV_def, lheap_def]
          (refine Split.mk (fun h => ?_) (fun h => ?_) <;> (try simp only [SD] at h))
          · have hk2 : k = 0 ∨ k = 1 := by omega
            rcases hk2 with rfl | rfl
            · have E0 : gi (ub [87, 66]) 0 = 87 := rfl
              (try simp (disch := first | omega | (simp only [LN]; omega)) only [↓EC, EW, seval, ↓reduceIte, EB, hl, hk, blb, blw, E0])
              refine pcd_v kw ?_
              (try simp (disch := first | omega | (simp only [LN]; omega)) only [↓EC, EW, seval, ↓reduceIte, EB, hl, hk, blb, blw, E0])
              exact ⟨(stB w c n m (u, v), 1), rfl, ⟨by simp only; omega, by show _ = wk1 n m b w a c (gi [87, 66] 0) (wkX n m b w a c T [87, 66] 0); rw [← j2]; exact (wk1_87 rfl).symm⟩, by simp only; omega⟩
            · have E0 : gi (ub [87, 66]) 1 = 66 := rfl
              (try simp (disch := first | omega | (simp only [LN]; omega)) only [↓EC, EW, seval, ↓reduceIte, EB, hl, hk, blb, blw, E0])
              refine pcd_v kb ?_
              (try simp (disch := first | omega | (simp only [LN]; omega)) only [↓EC, EW, seval, ↓reduceIte, EB, hl, hk, blb, blw, E0])
              exact ⟨(stB b a n m (u, v), 2), rfl, ⟨by simp only; omega, by show _ = wk1 n m b w a c (gi [87, 66] 1) (wkX n m b w a c T [87, 66] 1); rw [← j2]; exact (wk1_66 rfl).symm⟩, by simp only; omega⟩
          · (try simp (disch := first | omega | (simp only [LN]; omega)) only [↓EC, EW, seval, ↓reduceIte])
            obtain rfl : k = 2 := by omega
            refine ⟨i + 1, ?_, by omega, by omega⟩
            rw [hW, ← j2]
            simp
      have h102 := h
      (try simp (disch := first | omega | (simp only [LN]; omega)) only [↓EC, EW, seval, ↓reduceIte, EB, hl, hk])
      (refine Split.mk (fun h => ?_) (fun h => ?_) <;> (try simp only [SD] at h))
      · have hL := h
        have hW : wkT n m b w a c (x, y) (ub s) (i + 1) = wkX n m b w a c T [98, 119] 2 := by simp only [wkT, wkL, expL, hTe]; rw [hL]; rfl
        refine LP_of (σ := (Int × Int) × Nat) 200000 [(71, 27, 1)] (fun t => [.int .i64 t.1.1, .int .i64 t.1.2, .int .i64 t.2]) (fun t => [.int .i64 n :: vi .u8 (b ++ w)])
          (fun t => t.2 ≤ 2 ∧ t.1 = wkX n m b w a c T [98, 119] t.2) (fun t => 2 - t.2) (T, 0) (by simp [frameOk, names, lpz, sclp, scv, scvs, nrfs, nrf, FRB]) ⟨Nat.zero_le _, rfl⟩ ?_ ?_
        · simp (disch := first | omega | (simp only [LN]; omega)) only [↓EC, EW, seval, ↓reduceIte, ColV_def]
        · rintro ⟨⟨u, v⟩, k⟩ ⟨j1, j2⟩
          simp only at j1 j2
          have hst := wkX_ok hcv (s := T) (u := [98, 119]) hT k
          rw [← j2] at hst
          obtain ⟨⟨u0, u1⟩, v0, v1⟩ := id hst
          simp only at u0 u1 v0 v1
          have f1 := hcv.av u.toNat (by omega)
          have f2 := hcv.cv u.toNat (by omega)
          have f3 := hcv.bt u.toNat (by omega)
          have f4 := hcv.wt u.toNat (by omega)
          have B1 := backP_lt (p := b) hn u.toNat (by omega)
          have B2 := backP_lt (p := w) hn u.toNat (by omega)
          have f5 := hcv.av (gi (backP b n) u.toNat).toNat (by omega)
          have f6 := hcv.cv (gi (backP w n) u.toNat).toNat (by omega)
          simp (disch := first | omega | (simp only [LN]; omega)) only [↓EC, EW, seval, ↓reduceIte, ColV_def, lheap_def]
          (refine Split.mk (fun h => ?_) (fun h => ?_) <;> (try simp only [SD] at h))
          · have hk2 : k = 0 ∨ k = 1 := by omega
            rcases hk2 with rfl | rfl
            · have E0 : gi (ub [98, 119]) 0 = 98 := rfl
              (try simp (disch := first | omega | (simp only [LN]; omega)) only [↓EC, EW, seval, ↓reduceIte, EB, hl, hk, blb, blw, E0])
              exact ⟨(stF b a m (u, v), 1), rfl, ⟨by simp only; omega, by show _ = wk1 n m b w a c (gi [98, 119] 0) (wkX n m b w a c T [98, 119] 0); rw [← j2]; exact (wk1_98 rfl).symm⟩, by simp only; omega⟩
            · have E0 : gi (ub [98, 119]) 1 = 119 := rfl
              (try simp (disch := first | omega | (simp only [LN]; omega)) only [↓EC, EW, seval, ↓reduceIte, EB, hl, hk, blb, blw, E0])
              exact ⟨(stF w c m (u, v), 2), rfl, ⟨by simp only; omega, by show _ = wk1 n m b w a c (gi [98, 119] 1) (wkX n m b w a c T [98, 119] 1); rw [← j2]; exact (wk1_119 rfl).symm⟩, by simp only; omega⟩
          · (try simp (disch := first | omega | (simp only [LN]; omega)) only [↓EC, EW, seval, ↓reduceIte])
            obtain rfl : k = 2 := by omega
            refine ⟨i + 1, ?_, by omega, by omega⟩
            rw [hW, ← j2]
            simp
      · have h70 := h
        have hW : wkT n m b w a c (x, y) (ub s) (i + 1) = wkX n m b w a c T [gi (ub s) i] 1 := by simp only [wkT, wkL, expL, hTe]; rw [if_neg h102, if_neg h70]; rfl
        have hsl : (sb [gi (ub s) i]).length = 1 := sb_len
        refine LP_of (σ := (Int × Int) × Nat) 200000 [(71, 27, 1)] (fun t => [.int .i64 t.1.1, .int .i64 t.1.2, .int .i64 t.2]) (fun t => [.int .i64 n :: vi .u8 (b ++ w)])
          (fun t => t.2 ≤ 1 ∧ t.1 = wkX n m b w a c T [gi (ub s) i] t.2) (fun t => 1 - t.2) (T, 0) (by simp [frameOk, names, lpz, sclp, scv, scvs, nrfs, nrf, FRB]) ⟨Nat.zero_le _, rfl⟩ ?_ ?_
        · simp (disch := first | omega | (simp only [LN]; omega)) only [↓EC, EW, seval, ↓reduceIte, ColV_def]
        · rintro ⟨⟨u, v⟩, k⟩ ⟨j1, j2⟩
          simp only at j1 j2
          have hst := wkX_ok hcv (s := T) (u := [gi (ub s) i]) hT k
          rw [← j2] at hst
          obtain ⟨⟨u0, u1⟩, v0, v1⟩ := id hst
          simp only at u0 u1 v0 v1
          have f1 := hcv.av u.toNat (by omega)
          have f2 := hcv.cv u.toNat (by omega)
          have f3 := hcv.bt u.toNat (by omega)
          have f4 := hcv.wt u.toNat (by omega)
          have B1 := backP_lt (p := b) hn u.toNat (by omega)
          have B2 := backP_lt (p := w) hn u.toNat (by omega)
          have f5 := hcv.av (gi (backP b n) u.toNat).toNat (by omega)
          have f6 := hcv.cv (gi (backP w n) u.toNat).toNat (by omega)
          simp (disch := first | omega | (simp only [LN]; omega)) only [↓EC, EW, seval, ↓reduceIte, ColV_def, lheap_def]
          (refine Split.mk (fun h => ?_) (fun h => ?_) <;> (try simp only [SD] at h))
          · have hk2 : k = 0 := by omega
            subst hk2
            have E0 : gi (ub (sb [gi (ub s) i])) 0 = gi (ub s) i := by rw [hus]; rfl
            (try simp (disch := first | omega | (simp only [LN]; omega)) only [↓EC, EW, seval, ↓reduceIte, EB, hl, hk, blb, blw, E0])
            (refine Split.mk (fun h => ?_) (fun h => ?_) <;> (try simp only [SD] at h))
            · have q98 := h
              (try simp (disch := first | omega | (simp only [LN]; omega)) only [↓EC, EW, seval, ↓reduceIte, EB, hl, hk, blb, blw])
              exact ⟨(stF b a m (u, v), 1), rfl, ⟨by simp only; omega, by show _ = wk1 n m b w a c (gi [gi (ub s) i] 0) (wkX n m b w a c T [gi (ub s) i] 0); rw [← j2]; exact (wk1_98 q98).symm⟩, by simp only; omega⟩
            have q98 := h
            (try simp (disch := first | omega | (simp only [LN]; omega)) only [↓EC, EW, seval, ↓reduceIte, EB, hl, hk, blb, blw])
            (refine Split.mk (fun h => ?_) (fun h => ?_) <;> (try simp only [SD] at h))
            · have q119 := h
              (try simp (disch := first | omega | (simp only [LN]; omega)) only [↓EC, EW, seval, ↓reduceIte, EB, hl, hk, blb, blw])
              exact ⟨(stF w c m (u, v), 1), rfl, ⟨by simp only; omega, by show _ = wk1 n m b w a c (gi [gi (ub s) i] 0) (wkX n m b w a c T [gi (ub s) i] 0); rw [← j2]; exact (wk1_119 q119).symm⟩, by simp only; omega⟩
            have q119 := h
            (try simp (disch := first | omega | (simp only [LN]; omega)) only [↓EC, EW, seval, ↓reduceIte, EB, hl, hk, blb, blw])
            (refine Split.mk (fun h => ?_) (fun h => ?_) <;> (try simp only [SD] at h))
            · have q66 := h
              (try simp (disch := first | omega | (simp only [LN]; omega)) only [↓EC, EW, seval, ↓reduceIte, EB, hl, hk, blb, blw])
              refine pcd_v kb ?_
              (try simp (disch := first | omega | (simp only [LN]; omega)) only [↓EC, EW, seval, ↓reduceIte, EB, hl, hk, blb, blw])
              exact ⟨(stB b a n m (u, v), 1), rfl, ⟨by simp only; omega, by show _ = wk1 n m b w a c (gi [gi (ub s) i] 0) (wkX n m b w a c T [gi (ub s) i] 0); rw [← j2]; exact (wk1_66 q66).symm⟩, by simp only; omega⟩
            have q66 := h
            (try simp (disch := first | omega | (simp only [LN]; omega)) only [↓EC, EW, seval, ↓reduceIte, EB, hl, hk, blb, blw])
            (refine Split.mk (fun h => ?_) (fun h => ?_) <;> (try simp only [SD] at h))
            · have q87 := h
              (try simp (disch := first | omega | (simp only [LN]; omega)) only [↓EC, EW, seval, ↓reduceIte, EB, hl, hk, blb, blw])
              refine pcd_v kw ?_
              (try simp (disch := first | omega | (simp only [LN]; omega)) only [↓EC, EW, seval, ↓reduceIte, EB, hl, hk, blb, blw])
              exact ⟨(stB w c n m (u, v), 1), rfl, ⟨by simp only; omega, by show _ = wk1 n m b w a c (gi [gi (ub s) i] 0) (wkX n m b w a c T [gi (ub s) i] 0); rw [← j2]; exact (wk1_87 q87).symm⟩, by simp only; omega⟩
            · have q87 := h
              (try simp (disch := first | omega | (simp only [LN]; omega)) only [↓EC, EW, seval, ↓reduceIte, EB, hl, hk, blb, blw])
              exact ⟨((u, v), 1), rfl, ⟨by simp only; omega, by show _ = wk1 n m b w a c (gi [gi (ub s) i] 0) (wkX n m b w a c T [gi (ub s) i] 0); rw [← j2]; exact (wk1_else q98 q119 q66 q87).symm⟩, by simp only; omega⟩
          · (try simp (disch := first | omega | (simp only [LN]; omega)) only [↓EC, EW, seval, ↓reduceIte])
            obtain rfl : k = 1 := by omega
            refine ⟨i + 1, ?_, by omega, by omega⟩
            rw [hW, ← j2]
            simp
    · have : i = s.length := by omega
      subst this
      (try simp (disch := first | omega | (simp only [LN]; omega)) only [↓EC, EW, seval, ↓reduceIte])
      rfl
end Go.Proofs.YtjklebickfcddaaGreatDoor.Sep
end
section
/- Walks along words in covers: the law. -/
namespace Go.Proofs.YtjklebickfcddaaGreatDoor.Sep
open Go.RowKit
set_option linter.unusedVariables false
set_option linter.unusedSimpArgs false
set_option maxRecDepth 20000
set_option maxHeartbeats 1000000

/-! ### Where there is no walk -/
noncomputable def wkC (n m : Int) (b w a c : List Int) (x y : Int) (s : List UInt8) : Int :=
  if covC n b w m a c = 0 then (if 0 ≤ x ∧ x < n ∧ 0 ≤ y ∧ y < m then (if isSp s = true then 0 else 6) else 2) else covC n b w m a c
theorem wkC_0 {n m : Int} {b w a c : List Int} {x y : Int} {s : List UInt8} (h : wkC n m b w a c x y s = 0) : covC n b w m a c = 0 ∧ StOk n m (x, y) ∧ isSp s = true := by
  unfold wkC at h
  split at h
  · rename_i h0
    split at h
    · rename_i h1
      split at h
      · rename_i h2; exact ⟨h0, ⟨⟨h1.1, h1.2.1⟩, h1.2.2.1, h1.2.2.2⟩, h2⟩
      · omega
    · omega
  · exact absurd h (by assumption)
theorem c_impl_WalkOf_no {n m x y : Int} {b w a c : List Int} {s : List UInt8} (hb : okP b) (hw : okP w) (ha : a.length ≤ 1048576) (hc : c.length ≤ 1048576) (hs : s.length ≤ 1048576) (h0 : ¬ wkC n m b w a c x y s = 0) :
    PSpec Tryz.prog 17 [vD n b w, .int .i64 m, .sl a.length (vi .i64 a), .sl c.length (vi .i64 c), .int .i64 x, .int .i64 y, .str s] fun v =>
      v = .tup [.nils, .int .i64 (wkC n m b w a c x y s)] := by
  have hl := hb.len
  have hk := hw.len
  refine impl_WalkOf_f.f ?_
  have g1 := c_impl_coverCode (n := n) (m := m) hb hw ha hc
  have g2 := c_impl_isDart (n := n) (x := x) (b := b) (w := w) hl hk
  have g3 := c_impl_isSpelled hs
  unfold vD at g1 g2 ⊢
  simp (config := { maxSteps := 10000000 }) (disch := first | omega | (simp only [LN]; omega)) only [↓EC, EW, seval, ↓reduceIte, impl_WalkOf_F, hl, hk]
  refine pcd_v g1 ?_
  by_cases k0 : covC n b w m a c = 0
  · (try simp (disch := first | omega | (simp only [LN]; omega)) only [↓EC, EW, seval, ↓reduceIte, hl, hk, k0])
    refine pcd_v g2 ?_
    by_cases hx : 0 ≤ x ∧ x < n
    · have d1 : decide (0 ≤ x ∧ x < n) = true := decide_eq_true hx
      (try simp (disch := first | omega | (simp only [LN]; omega)) only [↓EC, EW, seval, ↓reduceIte, hl, hk, d1])
      have e2 : ¬ (0 ≤ y ∧ y < m) → wkC n m b w a c x y s = 2 := fun h => by unfold wkC; rw [if_pos k0, if_neg (by omega)]
      (refine Split.mk (fun h => ?_) (fun h => ?_) <;> (try simp only [SD] at h))
      · rw [e2 (by omega)]
      (refine Split.mk (fun h => ?_) (fun h => ?_) <;> (try simp only [SD] at h))
      · rw [e2 (by omega)]
      (try simp (disch := first | omega | (simp only [LN]; omega)) only [↓EC, EW, seval, ↓reduceIte, hl, hk])
      refine pcd_v g3 ?_
      cases hsp : isSp s with
      | false =>
        (try simp (disch := first | omega | (simp only [LN]; omega)) only [↓EC, EW, seval, ↓reduceIte, hl, hk])
        have e3 : wkC n m b w a c x y s = 6 := by unfold wkC; rw [if_pos k0, if_pos (by omega), if_neg (by rw [hsp]; decide)]
        rw [e3]
      | true =>
        exact absurd (by unfold wkC; rw [if_pos k0, if_pos (by omega), if_pos hsp]) h0
    · have d1 : decide (0 ≤ x ∧ x < n) = false := decide_eq_false hx
      (try simp (disch := first | omega | (simp only [LN]; omega)) only [↓EC, EW, seval, ↓reduceIte, hl, hk, d1])
      have e2 : wkC n m b w a c x y s = 2 := by unfold wkC; rw [if_pos k0, if_neg (by omega)]
      rw [e2]
  · have e2 : wkC n m b w a c x y s = covC n b w m a c := by unfold wkC; rw [if_neg k0]
    rw [e2]
    (try simp (disch := first | omega | (simp only [LN]; omega)) only [↓EC, EW, seval, ↓reduceIte, hl, hk])
    (refine Split.mk (fun h => ?_) (fun h => ?_) <;> (try simp only [SD] at h))
    · (try simp (disch := first | omega | (simp only [LN]; omega)) only [↓EC, EW, seval, ↓reduceIte, hl, hk])
    · exact absurd h k0
theorem c_spec_WalkOf_no {n m x y : Int} {b w a c : List Int} {s : List UInt8} (hb : okP b) (hw : okP w) (ha : a.length ≤ 1048576) (hc : c.length ≤ 1048576) (hs : s.length ≤ 1048576) (h0 : ¬ wkC n m b w a c x y s = 0) :
    PSpec Tryz.prog 20 [vD n b w, .int .i64 m, .sl a.length (vi .i64 a), .sl c.length (vi .i64 c), .int .i64 x, .int .i64 y, .str s] fun v =>
      v = .tup [.nils, .int .i64 (wkC n m b w a c x y s)] := by
  have hl := hb.len
  have hk := hw.len
  refine spec_WalkOf_f.f ?_
  have g1 := c_spec_l09Code (n := n) (m := m) hb hw ha hc
  have g3 := fun (hcv : CvOk n m b w a c) => c_spec_l03Value (n := n) hcv.lb hcv.lw hcv.hn hs
  have k1 := c_spec_l01In (n := x) (a := 0) (b := n - 1)
  have k2 := c_spec_l01In (n := y) (a := 0) (b := m - 1)
  unfold vD at g1 g3 ⊢
  simp (config := { maxSteps := 10000000 }) (disch := first | omega | (simp only [LN]; omega)) only [↓EC, EW, seval, ↓reduceIte, spec_WalkOf_F, hl, hk]
  refine pcd_v g1 ?_
  by_cases k0 : covC n b w m a c = 0
  · have hcv := CvOk.of hb hw k0
    have hm := hcv.hm
    have hn := hcv.hn
    have e2 : ¬ (0 ≤ x ∧ x < n ∧ 0 ≤ y ∧ y < m) → wkC n m b w a c x y s = 2 := fun h => by unfold wkC; rw [if_pos k0, if_neg h]
    (try simp (disch := first | omega | (simp only [LN]; omega)) only [↓EC, EW, seval, ↓reduceIte, hl, hk, k0])
    refine pcd_v k1 ?_
    by_cases hx : 0 ≤ x ∧ x ≤ n - 1
    · have d1 : decide (0 ≤ x ∧ x ≤ n - 1) = true := decide_eq_true hx
      (try simp (disch := first | omega | (simp only [LN]; omega)) only [↓EC, EW, seval, ↓reduceIte, hl, hk, d1])
      refine pcd_v k2 ?_
      by_cases hy : 0 ≤ y ∧ y ≤ m - 1
      · have d2 : decide (0 ≤ y ∧ y ≤ m - 1) = true := decide_eq_true hy
        (try simp (disch := first | omega | (simp only [LN]; omega)) only [↓EC, EW, seval, ↓reduceIte, hl, hk, d2])
        refine pcd_r (g3 hcv) ?_
        rintro _ ⟨Q, hQ, rfl⟩
        cases hsp : isSp s with
        | false =>
          (try simp (disch := first | omega | (simp only [LN]; omega)) only [↓EC, EW, seval, ↓reduceIte, hl, hk, hQ, setV_vv])
          have e3 : wkC n m b w a c x y s = 6 := by unfold wkC; rw [if_pos k0, if_pos (by omega), if_neg (by rw [hsp]; decide)]
          rw [e3]
        | true =>
          exact absurd (by unfold wkC; rw [if_pos k0, if_pos (by omega), if_pos hsp]) h0
      · have d2 : decide (0 ≤ y ∧ y ≤ m - 1) = false := decide_eq_false hy
        (try simp (disch := first | omega | (simp only [LN]; omega)) only [↓EC, EW, seval, ↓reduceIte, hl, hk, d2])
        rw [e2 (by omega)]
    · have d1 : decide (0 ≤ x ∧ x ≤ n - 1) = false := decide_eq_false hx
      (try simp (disch := first | omega | (simp only [LN]; omega)) only [↓EC, EW, seval, ↓reduceIte, hl, hk, d1])
      rw [e2 (by omega)]
  · have e2 : wkC n m b w a c x y s = covC n b w m a c := by unfold wkC; rw [if_neg k0]
    rw [e2]
    generalize covC n b w m a c = C at *
    (try simp (disch := first | omega | (simp only [LN]; omega)) only [↓EC, EW, seval, ↓reduceIte, hl, hk])
    (refine Split.mk (fun h => ?_) (fun h => ?_) <;> (try simp only [SD] at h))
    · exact absurd h k0
    (try simp (disch := first | omega | (simp only [LN]; omega)) only [↓EC, EW, seval, ↓reduceIte, hl, hk])
    repeat' first
      | (refine Split.mk (fun h => ?_) (fun h => ?_) <;> (try simp only [SD] at h))
      | ((try simp (disch := first | omega | (simp only [LN]; omega)) only [↓EC, EW, seval, ↓reduceIte, hl, hk]); done)
    all_goals first | trivial | contradiction | trace_state
end Go.Proofs.YtjklebickfcddaaGreatDoor.Sep
end
section
/- What the functions on chains and vertices compute. -/
namespace Go.Proofs.YtjklebickfcddaaGreatDoor.Sep
open Go.RowKit
set_option linter.unusedVariables false
set_option linter.unusedSimpArgs false
set_option maxRecDepth 20000

/-! ### Vertices -/
theorem cyc_lim {p : List Int} {n : Int} (hn : 1 ≤ n ∧ n ≤ 16) : (cyc p n).length ≤ 16 := Nat.le_trans (cycO_len (p := p) n.toNat).2 (by omega)
theorem cyc_at {p : List Int} {n : Int} (hp : ltP p n) (hn : 1 ≤ n ∧ n ≤ 16) : ∀ l ∈ cyc p n, (∀ y ∈ l, 0 ≤ y ∧ y < n) ∧ l.length ≤ 16 := cycO_lt hp n.toNat (by omega)
/-! ### Sums over vertices -/
def sumT (a c : List Int) : Nat → Int
  | 0 => 0
  | s + 1 => sumT a c s + gi a (gi c s).toNat
theorem sumT_lim {a c : List Int} {M : Int} (h : ∀ k : Nat, -M ≤ gi a k ∧ gi a k ≤ M) : ∀ s : Nat, -(M * s) ≤ sumT a c s ∧ sumT a c s ≤ M * s
  | 0 => by simp [sumT]
  | s + 1 => by
    have ih := sumT_lim (c := c) h s
    have h1 := h (gi c s).toNat
    simp only [sumT, Int.natCast_add, Int.mul_add]
    omega
/-! ### Intersections -/
/-! ### Cycles -/
end Go.Proofs.YtjklebickfcddaaGreatDoor.Sep
end
section
/- What the sums of voltages are. -/
namespace Go.Proofs.YtjklebickfcddaaGreatDoor.Sep
open Go.RowKit
set_option linter.unusedVariables false
set_option linter.unusedSimpArgs false
set_option maxRecDepth 20000
set_option maxHeartbeats 2000000

def smL (a : List Int) (m : Int) (A : List (List Int)) : List Int := A.map fun c => (sumT a c c.length).tmod m
def bothT (x y b : List Int) (s : Nat) : List Int := (List.range s).map fun k => gi x k + gi y (gi b k).toNat
theorem bothT_len {x y b : List Int} {s : Nat} : (bothT x y b s).length = s := by simp [bothT]
theorem bothT_at {x y b : List Int} {s k : Nat} (h : k < s) : gi (bothT x y b s) k = gi x k + gi y (gi b k).toNat := by
  rw [gi_of (by rw [bothT_len]; exact h)]; simp [bothT]
theorem bothT_one {x y b : List Int} {s : Nat} : bothT x y b (s + 1) = bothT x y b s ++ [gi x s + gi y (gi b s).toNat] := by simp [bothT, List.range_succ]
def lm1 (a : List Int) : Prop := ∀ k : Nat, -1000 ≤ gi a k ∧ gi a k ≤ 1000
theorem tmod_lim {x m : Int} (hm : 1 ≤ m ∧ m ≤ 16) : -16 ≤ x.tmod m ∧ x.tmod m ≤ 16 := by
  by_cases h : 0 ≤ x
  · have h1 := Int.tmod_nonneg m h
    have h2 := Int.tmod_lt_of_pos x (show 0 < m by omega)
    omega
  · have h1 := Int.tmod_nonneg m (a := -x) (by omega)
    have h2 := Int.tmod_lt_of_pos (-x) (show 0 < m by omega)
    rw [Int.neg_tmod] at h1 h2
    omega
theorem c_impl_sumsAt {a : List Int} {m n : Int} {A : List (List Int)} {f : FuncId} {cap : List V} (hf : isFn Tryz.prog f = true) (hcap : ∀ h, dvs h cap = cap) (hsc : ∀ ns, scvs ns cap = true) (ha : lm1 a) (hm : 1 ≤ m ∧ m ≤ 16) (hA : A.length ≤ 16) (hat : ∀ l ∈ A, (∀ y ∈ l, 0 ≤ y ∧ y < n) ∧ l.length ≤ 16)
    (hfn : ∀ x : Int, 0 ≤ x → x < n → PSpec Tryz.prog f (.int .i64 x :: cap) fun v => v = .int .i64 (gi a x.toNat)) :
    PSpec Tryz.prog 55 [.sl A.length (vl A), .int .i64 m, .fn f cap] fun v => v = .own 2 1 A.length (vi .i64 (smL a m A)) := by
  refine impl_sumsAt_f.f ?_
  simp (disch := first | omega | (simp only [LN]; omega)) only [↓EC, EW, seval, ↓reduceIte, impl_sumsAt_F]
  refine LP_ofE (σ := Nat) [1, 1] 100000 [] (fun s => [.own 2 1 s (vi .i64 (smL a m (A.take s))), .int .i64 s]) (fun s => []) (fun s => s ≤ A.length) (fun s => A.length - s) 0 (by simp [frameOk, names, lpz, sclp, scv, scvs, vi_nrf, nrfs, nrf, sc_vi, hsc, vl_nrf, sc_vl]) (Nat.zero_le _) ?_ ?_
  · simp (disch := first | omega | (simp only [LN]; omega)) only [↓EC, EW, seval, ↓reduceIte, ColV_def]
    exact ⟨fun _ => trivial, rfl⟩
  · rintro i h1
    have hml : (smL a m (A.take i)).length = i := by simp [smL]; omega
    simp (disch := first | omega | (simp only [LN]; omega)) only [↓EC, EW, seval, ↓reduceIte, ColV_def, lheap_def]
    (refine Split.mk (fun h => ?_) (fun h => ?_) <;> (try simp only [SD] at h))
    · have hi : i < A.length := by omega
      have hai := hat _ (gl_mem hi)
      (try simp (disch := first | omega | (simp only [LN]; omega)) only [↓EC, EW, seval, ↓reduceIte])
      refine LP_of (σ := Nat) 200000 [(100000, 2, 1)] (fun s => [.int .i64 (sumT a (gl A i) s), .int .i64 s]) (fun s => [vi .i64 (smL a m (A.take i))]) (fun s => s ≤ (gl A i).length) (fun s => (gl A i).length - s) 0 (by simp [frameOk, names, lpz, sclp, scv, scvs, vi_nrf, nrfs, nrf, sc_vi, hsc, vl_nrf, sc_vl]) (Nat.zero_le _) ?_ ?_
      · simp (disch := first | omega | (simp only [LN]; omega)) only [↓EC, EW, seval, ↓reduceIte, ColV_def]
        rfl
      · rintro s g1
        have q1 := sumT_lim (c := gl A i) ha s
        simp (disch := first | omega | (simp only [LN]; omega)) only [↓EC, EW, seval, ↓reduceIte, ColV_def, lheap_def]
        (refine Split.mk (fun h => ?_) (fun h => ?_) <;> (try simp only [SD] at h))
        · have hs : s < (gl A i).length := by omega
          have hx := hai.1 (gi (gl A i) s) (by rw [gi_of hs]; exact List.getElem_mem hs)
          have q2 := ha (gi (gl A i) s).toNat
          (try simp (disch := first | omega | (simp only [LN]; omega)) only [↓EC, EW, seval, ↓reduceIte, hf, hcap])
          refine pcd_v (hfn _ hx.1 hx.2) ?_
          (try simp (disch := first | omega | (simp only [LN]; omega)) only [↓EC, EW, seval, ↓reduceIte])
          exact ⟨s + 1, rfl, by omega, by omega⟩
        · have : s = (gl A i).length := by omega
          subst this
          have q3 := tmod_lim (x := sumT a (gl A i) (gl A i).length) hm
          (try simp (disch := first | omega | (simp only [LN]; omega)) only [↓EC, EW, seval, ↓reduceIte, hml])
          refine ⟨i + 1, ?_, by omega, by omega⟩
          rw [take_gl hi]
          simp [smL]
    · (try simp (disch := first | omega | (simp only [LN]; omega)) only [↓EC, EW, seval, ↓reduceIte])
      have : i = A.length := by omega
      subst this
      rfl
theorem c_impl_sv1 {a : List Int} {n x : Int} (h0 : 0 ≤ x) (h1 : x < n) (ha : (a.length : Int) = n) : PSpec Tryz.prog 57 [.int .i64 x, .pf [.sl a.length (vi .i64 a)] 0] fun v => v = .int .i64 (gi a x.toNat) := by
  refine impl_sumsOfVoltages_1_f.f ?_
  simp (disch := first | omega | (simp only [LN]; omega)) only [↓EC, EW, seval, ↓reduceIte, impl_sumsOfVoltages_1_F]
theorem c_impl_sv2 {a : List Int} {n x : Int} (h0 : 0 ≤ x) (h1 : x < n) (ha : (a.length : Int) = n) : PSpec Tryz.prog 58 [.int .i64 x, .pf [.sl a.length (vi .i64 a)] 0] fun v => v = .int .i64 (gi a x.toNat) := by
  refine impl_sumsOfVoltages_2_f.f ?_
  simp (disch := first | omega | (simp only [LN]; omega)) only [↓EC, EW, seval, ↓reduceIte, impl_sumsOfVoltages_2_F]
theorem c_impl_sv3 {a c b w : List Int} {n x : Int} (h0 : 0 ≤ x) (h1 : x < n) (hn : n ≤ 16) (ha : (a.length : Int) = n) (hc : (c.length : Int) = n) (hb : b.length = 16) (hw : w.length = 16) (hbv : ltP b n) (la : lm1 a) (lc : lm1 c) :
    PSpec Tryz.prog 60 [.int .i64 x, .pf [.sl a.length (vi .i64 a)] 0, .pf [.sl c.length (vi .i64 c)] 0, .pf (.int .i64 n :: vi .u8 (b ++ w)) 0] fun v => v = .int .i64 (gi (bothT a c b n.toNat) x.toNat) := by
  have q1 := hbv x.toNat (by omega)
  have q2 := la x.toNat
  have q3 := lc (gi b x.toNat).toNat
  rw [bothT_at (by omega)]
  refine impl_sumsOfVoltages_3_f.f ?_
  simp (disch := first | omega | (simp only [LN]; omega)) only [↓EC, EW, seval, ↓reduceIte, impl_sumsOfVoltages_3_F, hb, hw]

def svL (n : Int) (b w : List Int) (m : Int) (x y : List Int) : List (List Int) := [smL x m (cyc b n), smL y m (cyc w n), smL (bothT x y b n.toNat) m (cyc (faceP b w n) n)]
theorem bothT_lm {x y b : List Int} {s : Nat} (hx : ∀ k : Nat, -400 ≤ gi x k ∧ gi x k ≤ 400) (hy : ∀ k : Nat, -400 ≤ gi y k ∧ gi y k ≤ 400) : lm1 (bothT x y b s) := fun k => by
  by_cases h : k < s
  · rw [bothT_at h]
    have h1 := hx k
    have h2 := hy (gi b k).toNat
    omega
  · rw [gi_over (by rw [bothT_len]; omega)]; omega
theorem c_impl_sumsOfVoltages {n m : Int} {b w x y : List Int} (hb : okP b) (hw : okP w) (h0 : isD n b w) (hm : 1 ≤ m ∧ m ≤ 16) (hxl : (x.length : Int) = n) (hyl : (y.length : Int) = n)
    (hx : ∀ k : Nat, -400 ≤ gi x k ∧ gi x k ≤ 400) (hy : ∀ k : Nat, -400 ≤ gi y k ∧ gi y k ≤ 400) :
    PSpec Tryz.prog 27 [vD n b w, .int .i64 m, .sl x.length (vi .i64 x), .sl y.length (vi .i64 y)] fun v => v = .own 28 1 3 (vo 2 (svL n b w m x y)) := by
  have hl := hb.len
  have hk := hw.len
  have hn := h0.pb.1
  have lb := h0.pb.lo hb
  have lw := h0.pw.lo hw
  have lx : lm1 x := fun k => by have := hx k; omega
  have ly : lm1 y := fun k => by have := hy k; omega
  have hbl := cyc_lim (p := b) hn
  have hwl := cyc_lim (p := w) hn
  have hfl := cyc_lim (p := faceP b w n) hn
  have e1 : (smL x m (cyc b n)).length = (cyc b n).length := by simp [smL]
  have e2 : (smL y m (cyc w n)).length = (cyc w n).length := by simp [smL]
  have e3 : (smL (bothT x y b n.toNat) m (cyc (faceP b w n) n)).length = (cyc (faceP b w n) n).length := by simp [smL]
  refine impl_sumsOfVoltages_f.f ?_
  have hfc := c_impl_face lb lw hn
  unfold vD at hfc ⊢
  simp (disch := first | omega | (simp only [LN]; omega)) only [↓EC, EW, seval, ↓reduceIte, impl_sumsOfVoltages_F, hl, hk]
  refine pcd_v (c_impl_cycles lb hn) ?_
  (try simp (disch := first | omega | (simp only [LN]; omega)) only [↓EC, EW, seval, ↓reduceIte, hl, hk])
  refine pcd_o (c_impl_sumsAt (n := n) (cap := [.pf [.sl x.length (vi .i64 x)] 0]) (by kernel_rfl) (fun h => by simp [dvs, dv, vw, vws, vi_vws]) (fun ns => by simp [scvs, scv, nrfs, nrf, vi_nrf]) lx hm hbl (cyc_at (h0.pb.ltP hb) hn) fun z z0 z1 => c_impl_sv1 z0 z1 hxl) ?_
  (try simp (disch := first | omega | (simp only [LN]; omega)) only [↓EC, EW, seval, ↓reduceIte, hl, hk])
  refine pcd_v (c_impl_cycles lw hn) ?_
  (try simp (disch := first | omega | (simp only [LN]; omega)) only [↓EC, EW, seval, ↓reduceIte, hl, hk])
  refine pcd_o (c_impl_sumsAt (n := n) (cap := [.pf [.sl y.length (vi .i64 y)] 0]) (by kernel_rfl) (fun h => by simp [dvs, dv, vw, vws, vi_vws]) (fun ns => by simp [scvs, scv, nrfs, nrf, vi_nrf]) ly hm hwl (cyc_at (h0.pw.ltP hw) hn) fun z z0 z1 => c_impl_sv2 z0 z1 hyl) ?_
  (try simp (disch := first | omega | (simp only [LN]; omega)) only [↓EC, EW, seval, ↓reduceIte, hl, hk])
  refine pcd_v hfc ?_
  (try simp (disch := first | omega | (simp only [LN]; omega)) only [↓EC, EW, seval, ↓reduceIte, hl, hk])
  refine pcd_v (c_impl_cycles (backP_lo hn) hn) ?_
  (try simp (disch := first | omega | (simp only [LN]; omega)) only [↓EC, EW, seval, ↓reduceIte, hl, hk])
  refine pcd_o (c_impl_sumsAt (n := n) (cap := [.pf [.sl x.length (vi .i64 x)] 0, .pf [.sl y.length (vi .i64 y)] 0, .pf (.int .i64 n :: vi .u8 (b ++ w)) 0]) (by kernel_rfl) (fun h => by simp [dvs, dv, vw, vws, vi_vws]) (fun ns => by simp [scvs, scv, nrfs, nrf, vi_nrf]) (bothT_lm hx hy) hm hfl (cyc_at (backP_lt (p := thenP b w n) hn) hn)
    fun z z0 z1 => c_impl_sv3 z0 z1 hn.2 hxl hyl hl hk (h0.pb.ltP hb) lx ly) ?_
  (try simp (disch := first | omega | (simp only [LN]; omega)) only [↓EC, EW, seval, ↓reduceIte, hl, hk])
  simp only [svL, vo, List.map_cons, List.map_nil, e1, e2, e3]
theorem c_spec_l09Sums {n m : Int} {b w x y : List Int} (hb : okP b) (hw : okP w) (h0 : isD n b w) (hm : 1 ≤ m ∧ m ≤ 16) (hxl : (x.length : Int) = n) (hyl : (y.length : Int) = n)
    (hx : ∀ k : Nat, -400 ≤ gi x k ∧ gi x k ≤ 400) (hy : ∀ k : Nat, -400 ≤ gi y k ∧ gi y k ≤ 400) :
    PSpec Tryz.prog 28 [vD n b w, .int .i64 m, .sl x.length (vi .i64 x), .sl y.length (vi .i64 y)] fun v => v = .own 28 1 3 (vo 2 (svL n b w m x y)) := by
  have hl := hb.len
  have hk := hw.len
  have hn := h0.pb.1
  have lb := h0.pb.lo hb
  have lw := h0.pw.lo hw
  have lf : lo16 (faceP b w n) := backP_lo hn
  have hfl := lf.1
  have lx : lm1 x := fun k => by have := hx k; omega
  have ly : lm1 y := fun k => by have := hy k; omega
  have hbv := h0.pb.ltP hb
  refine spec_l09Sums_f.f ?_
  have hfc := c_spec_l01Face lb lw hn
  unfold vD at hfc ⊢
  simp (disch := first | omega | (simp only [LN]; omega)) only [↓EC, EW, seval, ↓reduceIte, spec_l09Sums_F, hl, hk]
  refine LP_ofE (σ := Nat) [1, 1] 100000 [(68, 27, 1)] (fun s => [.own 2 1 s (vi .i64 (bothT x y b s)), .int .i64 s]) (fun s => [.int .i64 n :: vi .u8 (b ++ w)]) (fun s => (s : Int) ≤ n) (fun s => (n - s).toNat) 0 (by simp [frameOk, names, lpz, sclp, scv, scvs, nrfs, nrf, FRB]) (by simp only [Int.natCast_zero]; omega) ?_ ?_
  · simp (disch := first | omega | (simp only [LN]; omega)) only [↓EC, EW, seval, ↓reduceIte, ColV_def]
    exact ⟨fun _ => trivial, rfl⟩
  · rintro s h1
    have hbl := bothT_len (x := x) (y := y) (b := b) (s := s)
    simp (disch := first | omega | (simp only [LN]; omega)) only [↓EC, EW, seval, ↓reduceIte, ColV_def, lheap_def]
    (refine Split.mk (fun h => ?_) (fun h => ?_) <;> (try simp only [SD] at h))
    · have q1 := hbv s (by omega)
      have q2 := hx s
      have q3 := hy (gi b s).toNat
      (try simp (disch := first | omega | (simp only [LN]; omega)) only [↓EC, EW, seval, ↓reduceIte, hl, hk, hbl])
      exact ⟨s + 1, by rw [bothT_one]; rfl, by omega, by omega⟩
    · have : s = n.toNat := by omega
      subst this
      (try simp (disch := first | omega | (simp only [LN]; omega)) only [↓EC, EW, seval, ↓reduceIte, hl, hk])
      refine pcd_v hfc ?_
      (try simp (disch := first | omega | (simp only [LN]; omega)) only [↓EC, EW, seval, ↓reduceIte, hl, hk, hfl])
      have t1 : List.take 16 (b ++ w ++ faceP b w n) = b := by rw [List.append_assoc, List.take_left' hl]
      have t2 : List.take 16 (List.drop 16 (b ++ w ++ faceP b w n)) = w := by rw [List.append_assoc, List.drop_left' hl, List.take_left' hk]
      have hbo : lm1 (bothT x y b n.toNat) := bothT_lm hx hy
      have hsv : ∀ k, k ≤ 3 → ((svL n b w m x y).take k).length = k := fun k hk => by simp [svL]; omega
      refine LP_ofE (σ := Nat) [1] 200000 [(68, 27, 1), (112, 25, 16), (116, 28, 1)] (fun s => [.own 28 1 s (vo 2 ((svL n b w m x y).take s)), .int .i64 s]) (fun s => [.int .i64 n :: vi .u8 (b ++ w), vi .u8 (b ++ w ++ faceP b w n), [.sl x.length (vi .i64 x), .sl y.length (vi .i64 y), .own 2 1 n.toNat (vi .i64 (bothT x y b n.toNat))]])
        (fun s => s ≤ 3) (fun s => 3 - s) 0 (by simp [frameOk, names, lpz, sclp, scv, scvs, nrfs, nrf, FRB]) (by decide) ?_ ?_
      · simp (disch := first | omega | (simp only [LN]; omega)) only [↓EC, EW, seval, ↓reduceIte, ColV_def]
        repeat' (first | (refine And.intro ?_ ?_) | rfl | (intro _; trivial) | trivial)
      · rintro k h1
        simp (disch := first | omega | (simp only [LN]; omega)) only [↓EC, EW, seval, ↓reduceIte, ColV_def, lheap_def]
        (refine Split.mk (fun h => ?_) (fun h => ?_) <;> (try simp only [SD] at h))
        · have hk3 : k = 0 ∨ k = 1 ∨ k = 2 := by omega
          rcases hk3 with rfl | rfl | rfl
          · have hat := cyc_at hbv hn
            have hcl := cyc_lim (p := b) hn
            (try simp (disch := first | omega | (simp only [LN]; omega)) only [↓EC, EW, seval, ↓reduceIte, hl, hk, hfl, t1, t2])
            refine pcd_v (c_spec_l01Cycles lb hn) ?_
            (try simp (disch := first | omega | (simp only [LN]; omega)) only [↓EC, EW, seval, ↓reduceIte, hl, hk, hfl])
            refine LP_ofE (σ := Nat) [1, 1] 300000 [(68, 27, 1), (112, 25, 16), (116, 28, 1), (200000, 28, 1)] (fun s => [.own 2 1 s (vi .i64 (smL x m ((cyc b n).take s))), .int .i64 s]) (fun s => [.int .i64 n :: vi .u8 (b ++ w), vi .u8 (b ++ w ++ faceP b w n), [.sl x.length (vi .i64 x), .sl y.length (vi .i64 y), .own 2 1 n.toNat (vi .i64 (bothT x y b n.toNat))], vo 2 ((svL n b w m x y).take 0)])
              (fun s => s ≤ (cyc b n).length) (fun s => (cyc b n).length - s) 0 (by simp [frameOk, names, lpz, sclp, scv, scvs, nrfs, nrf, FRB]) (Nat.zero_le _) ?_ ?_
            · simp (disch := first | omega | (simp only [LN]; omega)) only [↓EC, EW, seval, ↓reduceIte, ColV_def, hsv]
              repeat' (first | (refine And.intro ?_ ?_) | rfl | (intro _; trivial) | trivial)
            · rintro i h2
              have hml : (smL x m ((cyc b n).take i)).length = i := by simp [smL]; omega
              simp (disch := first | omega | (simp only [LN]; omega)) only [↓EC, EW, seval, ↓reduceIte, ColV_def, lheap_def, hsv]
              (refine Split.mk (fun h => ?_) (fun h => ?_) <;> (try simp only [SD] at h))
              · have hi : i < (cyc b n).length := by omega
                have hai := hat _ (gl_mem hi)
                (try simp (disch := first | omega | (simp only [LN]; omega)) only [↓EC, EW, seval, ↓reduceIte])
                refine LP_of (σ := Nat) 400000 [(68, 27, 1), (112, 25, 16), (116, 28, 1), (200000, 28, 1), (300000, 2, 1)] (fun s => [.int .i64 (sumT x (gl (cyc b n) i) s), .int .i64 s])
                  (fun s => [.int .i64 n :: vi .u8 (b ++ w), vi .u8 (b ++ w ++ faceP b w n), [.sl x.length (vi .i64 x), .sl y.length (vi .i64 y), .own 2 1 n.toNat (vi .i64 (bothT x y b n.toNat))], vo 2 ((svL n b w m x y).take 0), vi .i64 (smL x m ((cyc b n).take i))])
                  (fun s => s ≤ (gl (cyc b n) i).length) (fun s => (gl (cyc b n) i).length - s) 0 (by simp [frameOk, names, lpz, sclp, scv, scvs, nrfs, nrf, FRB]) (Nat.zero_le _) ?_ ?_
                · simp (disch := first | omega | (simp only [LN]; omega)) only [↓EC, EW, seval, ↓reduceIte, ColV_def, hsv]
                  repeat' (first | (refine And.intro ?_ ?_) | rfl | (intro _; trivial) | trivial)
                · rintro s g1
                  have q1 := sumT_lim (c := gl (cyc b n) i) lx s
                  simp (disch := first | omega | (simp only [LN]; omega)) only [↓EC, EW, seval, ↓reduceIte, ColV_def, lheap_def, hsv]
                  (refine Split.mk (fun h => ?_) (fun h => ?_) <;> (try simp only [SD] at h))
                  · have hs : s < (gl (cyc b n) i).length := by omega
                    have hz := hai.1 (gi (gl (cyc b n) i) s) (by rw [gi_of hs]; exact List.getElem_mem hs)
                    have q2 := lx (gi (gl (cyc b n) i) s).toNat
                    (try simp (disch := first | omega | (simp only [LN]; omega)) only [↓EC, EW, seval, ↓reduceIte, hl, hk, hfl, hbl, hsv])
                    (refine ⟨s + 1, ?_⟩; repeat' (first | (refine And.intro ?_ ?_) | rfl | omega | trivial))
                  · have : s = (gl (cyc b n) i).length := by omega
                    subst this
                    have q3 := tmod_lim (x := sumT x (gl (cyc b n) i) (gl (cyc b n) i).length) hm
                    (try simp (disch := first | omega | (simp only [LN]; omega)) only [↓EC, EW, seval, ↓reduceIte, hml, hsv])
                    refine ⟨i + 1, ?_⟩
                    rw [take_gl hi]
                    repeat' (first | (refine And.intro ?_ ?_) | rfl | omega | trivial | (simp [smL]; done))
              · have : i = (cyc b n).length := by omega
                subst this
                (try simp (disch := first | omega | (simp only [LN]; omega)) only [↓EC, EW, seval, ↓reduceIte, hml, hsv])
                refine ⟨1, ?_⟩
                repeat' (first | (refine And.intro ?_ ?_) | rfl | omega | trivial | (simp [svL, vo, smL]; done))
          · have hat := cyc_at (h0.pw.ltP hw) hn
            have hcl := cyc_lim (p := w) hn
            (try simp (disch := first | omega | (simp only [LN]; omega)) only [↓EC, EW, seval, ↓reduceIte, hl, hk, hfl, t1, t2])
            refine pcd_v (c_spec_l01Cycles lw hn) ?_
            (try simp (disch := first | omega | (simp only [LN]; omega)) only [↓EC, EW, seval, ↓reduceIte, hl, hk, hfl])
            refine LP_ofE (σ := Nat) [1, 1] 300000 [(68, 27, 1), (112, 25, 16), (116, 28, 1), (200000, 28, 1)] (fun s => [.own 2 1 s (vi .i64 (smL y m ((cyc w n).take s))), .int .i64 s]) (fun s => [.int .i64 n :: vi .u8 (b ++ w), vi .u8 (b ++ w ++ faceP b w n), [.sl x.length (vi .i64 x), .sl y.length (vi .i64 y), .own 2 1 n.toNat (vi .i64 (bothT x y b n.toNat))], vo 2 ((svL n b w m x y).take 1)])
              (fun s => s ≤ (cyc w n).length) (fun s => (cyc w n).length - s) 0 (by simp [frameOk, names, lpz, sclp, scv, scvs, nrfs, nrf, FRB]) (Nat.zero_le _) ?_ ?_
            · simp (disch := first | omega | (simp only [LN]; omega)) only [↓EC, EW, seval, ↓reduceIte, ColV_def, hsv]
              repeat' (first | (refine And.intro ?_ ?_) | rfl | (intro _; trivial) | trivial)
            · rintro i h2
              have hml : (smL y m ((cyc w n).take i)).length = i := by simp [smL]; omega
              simp (disch := first | omega | (simp only [LN]; omega)) only [↓EC, EW, seval, ↓reduceIte, ColV_def, lheap_def, hsv]
              (refine Split.mk (fun h => ?_) (fun h => ?_) <;> (try simp only [SD] at h))
              · have hi : i < (cyc w n).length := by omega
                have hai := hat _ (gl_mem hi)
                (try simp (disch := first | omega | (simp only [LN]; omega)) only [↓EC, EW, seval, ↓reduceIte])
                refine LP_of (σ := Nat) 400000 [(68, 27, 1), (112, 25, 16), (116, 28, 1), (200000, 28, 1), (300000, 2, 1)] (fun s => [.int .i64 (sumT y (gl (cyc w n) i) s), .int .i64 s])
                  (fun s => [.int .i64 n :: vi .u8 (b ++ w), vi .u8 (b ++ w ++ faceP b w n), [.sl x.length (vi .i64 x), .sl y.length (vi .i64 y), .own 2 1 n.toNat (vi .i64 (bothT x y b n.toNat))], vo 2 ((svL n b w m x y).take 1), vi .i64 (smL y m ((cyc w n).take i))])
                  (fun s => s ≤ (gl (cyc w n) i).length) (fun s => (gl (cyc w n) i).length - s) 0 (by simp [frameOk, names, lpz, sclp, scv, scvs, nrfs, nrf, FRB]) (Nat.zero_le _) ?_ ?_
                · simp (disch := first | omega | (simp only [LN]; omega)) only [↓EC, EW, seval, ↓reduceIte, ColV_def, hsv]
                  repeat' (first | (refine And.intro ?_ ?_) | rfl | (intro _; trivial) | trivial)
                · rintro s g1
                  have q1 := sumT_lim (c := gl (cyc w n) i) ly s
                  simp (disch := first | omega | (simp only [LN]; omega)) only [↓EC, EW, seval, ↓reduceIte, ColV_def, lheap_def, hsv]
                  (refine Split.mk (fun h => ?_) (fun h => ?_) <;> (try simp only [SD] at h))
                  · have hs : s < (gl (cyc w n) i).length := by omega
                    have hz := hai.1 (gi (gl (cyc w n) i) s) (by rw [gi_of hs]; exact List.getElem_mem hs)
                    have q2 := ly (gi (gl (cyc w n) i) s).toNat
                    (try simp (disch := first | omega | (simp only [LN]; omega)) only [↓EC, EW, seval, ↓reduceIte, hl, hk, hfl, hbl, hsv])
                    (refine ⟨s + 1, ?_⟩; repeat' (first | (refine And.intro ?_ ?_) | rfl | omega | trivial))
                  · have : s = (gl (cyc w n) i).length := by omega
                    subst this
                    have q3 := tmod_lim (x := sumT y (gl (cyc w n) i) (gl (cyc w n) i).length) hm
                    (try simp (disch := first | omega | (simp only [LN]; omega)) only [↓EC, EW, seval, ↓reduceIte, hml, hsv])
                    refine ⟨i + 1, ?_⟩
                    rw [take_gl hi]
                    repeat' (first | (refine And.intro ?_ ?_) | rfl | omega | trivial | (simp [smL]; done))
              · have : i = (cyc w n).length := by omega
                subst this
                (try simp (disch := first | omega | (simp only [LN]; omega)) only [↓EC, EW, seval, ↓reduceIte, hml, hsv])
                refine ⟨2, ?_⟩
                repeat' (first | (refine And.intro ?_ ?_) | rfl | omega | trivial | (simp [svL, vo, smL]; done))
          · have hat : ∀ l ∈ cyc (faceP b w n) n, (∀ y ∈ l, 0 ≤ y ∧ y < n) ∧ l.length ≤ 16 := cyc_at (backP_lt (p := thenP b w n) hn) hn
            have hcl := cyc_lim (p := (faceP b w n)) hn
            (try simp (disch := first | omega | (simp only [LN]; omega)) only [↓EC, EW, seval, ↓reduceIte, hl, hk, hfl, t1, t2])
            refine pcd_v (c_spec_l01Cycles lf hn) ?_
            (try simp (disch := first | omega | (simp only [LN]; omega)) only [↓EC, EW, seval, ↓reduceIte, hl, hk, hfl])
            refine LP_ofE (σ := Nat) [1, 1] 300000 [(68, 27, 1), (112, 25, 16), (116, 28, 1), (200000, 28, 1)] (fun s => [.own 2 1 s (vi .i64 (smL (bothT x y b n.toNat) m ((cyc (faceP b w n) n).take s))), .int .i64 s]) (fun s => [.int .i64 n :: vi .u8 (b ++ w), vi .u8 (b ++ w ++ faceP b w n), [.sl x.length (vi .i64 x), .sl y.length (vi .i64 y), .own 2 1 n.toNat (vi .i64 (bothT x y b n.toNat))], vo 2 ((svL n b w m x y).take 2)])
              (fun s => s ≤ (cyc (faceP b w n) n).length) (fun s => (cyc (faceP b w n) n).length - s) 0 (by simp [frameOk, names, lpz, sclp, scv, scvs, nrfs, nrf, FRB]) (Nat.zero_le _) ?_ ?_
            · simp (disch := first | omega | (simp only [LN]; omega)) only [↓EC, EW, seval, ↓reduceIte, ColV_def, hsv]
              repeat' (first | (refine And.intro ?_ ?_) | rfl | (intro _; trivial) | trivial)
            · rintro i h2
              have hml : (smL (bothT x y b n.toNat) m ((cyc (faceP b w n) n).take i)).length = i := by simp [smL]; omega
              simp (disch := first | omega | (simp only [LN]; omega)) only [↓EC, EW, seval, ↓reduceIte, ColV_def, lheap_def, hsv]
              (refine Split.mk (fun h => ?_) (fun h => ?_) <;> (try simp only [SD] at h))
              · have hi : i < (cyc (faceP b w n) n).length := by omega
                have hai := hat _ (gl_mem hi)
                (try simp (disch := first | omega | (simp only [LN]; omega)) only [↓EC, EW, seval, ↓reduceIte])
                refine LP_of (σ := Nat) 400000 [(68, 27, 1), (112, 25, 16), (116, 28, 1), (200000, 28, 1), (300000, 2, 1)] (fun s => [.int .i64 (sumT (bothT x y b n.toNat) (gl (cyc (faceP b w n) n) i) s), .int .i64 s])
                  (fun s => [.int .i64 n :: vi .u8 (b ++ w), vi .u8 (b ++ w ++ faceP b w n), [.sl x.length (vi .i64 x), .sl y.length (vi .i64 y), .own 2 1 n.toNat (vi .i64 (bothT x y b n.toNat))], vo 2 ((svL n b w m x y).take 2), vi .i64 (smL (bothT x y b n.toNat) m ((cyc (faceP b w n) n).take i))])
                  (fun s => s ≤ (gl (cyc (faceP b w n) n) i).length) (fun s => (gl (cyc (faceP b w n) n) i).length - s) 0 (by simp [frameOk, names, lpz, sclp, scv, scvs, nrfs, nrf, FRB]) (Nat.zero_le _) ?_ ?_
                · simp (disch := first | omega | (simp only [LN]; omega)) only [↓EC, EW, seval, ↓reduceIte, ColV_def, hsv]
                  repeat' (first | (refine And.intro ?_ ?_) | rfl | (intro _; trivial) | trivial)
                · rintro s g1
                  have q1 := sumT_lim (c := gl (cyc (faceP b w n) n) i) hbo s
                  simp (disch := first | omega | (simp only [LN]; omega)) only [↓EC, EW, seval, ↓reduceIte, ColV_def, lheap_def, hsv]
                  (refine Split.mk (fun h => ?_) (fun h => ?_) <;> (try simp only [SD] at h))
                  · have hs : s < (gl (cyc (faceP b w n) n) i).length := by omega
                    have hz := hai.1 (gi (gl (cyc (faceP b w n) n) i) s) (by rw [gi_of hs]; exact List.getElem_mem hs)
                    have q2 := hbo (gi (gl (cyc (faceP b w n) n) i) s).toNat
                    (try simp (disch := first | omega | (simp only [LN]; omega)) only [↓EC, EW, seval, ↓reduceIte, hl, hk, hfl, hbl, hsv])
                    refine ldc_open 700 (by decide) ?_
                    (try simp (disch := first | omega | (simp only [LN]; omega)) only [↓EC, EW, seval, ↓reduceIte, hl, hk, hfl, hbl])
                    (refine ⟨s + 1, ?_⟩; repeat' (first | (refine And.intro ?_ ?_) | rfl | omega | trivial))
                  · have : s = (gl (cyc (faceP b w n) n) i).length := by omega
                    subst this
                    have q3 := tmod_lim (x := sumT (bothT x y b n.toNat) (gl (cyc (faceP b w n) n) i) (gl (cyc (faceP b w n) n) i).length) hm
                    (try simp (disch := first | omega | (simp only [LN]; omega)) only [↓EC, EW, seval, ↓reduceIte, hml, hsv])
                    refine ⟨i + 1, ?_⟩
                    rw [take_gl hi]
                    repeat' (first | (refine And.intro ?_ ?_) | rfl | omega | trivial | (simp [smL]; done))
              · have : i = (cyc (faceP b w n) n).length := by omega
                subst this
                (try simp (disch := first | omega | (simp only [LN]; omega)) only [↓EC, EW, seval, ↓reduceIte, hml, hsv])
                refine ⟨3, ?_⟩
                repeat' (first | (refine And.intro ?_ ?_) | rfl | omega | trivial | (simp [svL, vo, smL]; done))
        · have : k = 3 := by omega
          subst this
          have hs3 : (svL n b w m x y).length = 3 := rfl
          (try simp (disch := first | omega | (simp only [LN]; omega)) only [↓EC, EW, seval, ↓reduceIte, hs3])

/-! ### Unbranched voltages -/
def zeroB (A : List (List Int)) : Bool := A.all fun c => c.all fun a => a == 0
theorem zeroB_no {A : List (List Int)} {v s : Nat} (hv : v < A.length) (hs : s < (gl A v).length) (h : ¬ gi (gl A v) s = 0) : zeroB A = false := by
  cases hc : zeroB A with
  | false => rfl
  | true =>
    have h1 := (all_getD (d := [])).1 hc v hv
    have h2 := (all_getD (d := 0)).1 h1 s hs
    exact absurd (by simpa [gi, gl] using h2) h
theorem zeroB_yes {A : List (List Int)} (h : ∀ v, v < A.length → ∀ s, s < (gl A v).length → gi (gl A v) s = 0) : zeroB A = true :=
  (all_getD (d := [])).2 fun v hv => (all_getD (d := 0)).2 fun s hs => by simpa [gi, gl] using h v hv s hs
noncomputable def iuR (n : Int) (b w : List Int) (m : Int) (x y : List Int) : Bool × Int := if covC n b w m x y = 0 then (zeroB (svL n b w m x y), 0) else (false, covC n b w m x y)
theorem volt_lm {m : Int} {x : List Int} (hm : 1 ≤ m ∧ m ≤ 16) (h : ∀ k, k < x.length → 0 ≤ gi x k ∧ gi x k < m) : ∀ k : Nat, -400 ≤ gi x k ∧ gi x k ≤ 400 := fun k => by
  by_cases hk : k < x.length
  · have := h k hk; omega
  · rw [gi_over (by omega)]; omega
theorem svL_len {n m : Int} {b w x y : List Int} (hn : 1 ≤ n ∧ n ≤ 16) : ∀ l ∈ svL n b w m x y, l.length ≤ 16 := fun l hl => by
  simp only [svL, List.mem_cons, List.not_mem_nil, or_false] at hl
  rcases hl with rfl | rfl | rfl <;> (simp only [smL, List.length_map]; exact cyc_lim hn)
theorem c_impl_IsUnbranched {n m : Int} {b w x y : List Int} (hb : okP b) (hw : okP w) (hx : x.length ≤ 1048576) (hy : y.length ≤ 1048576) :
    PSpec Tryz.prog 8 [vD n b w, .int .i64 m, .sl x.length (vi .i64 x), .sl y.length (vi .i64 y)] fun v => v = .tup [.bool (iuR n b w m x y).1, .int .i64 (iuR n b w m x y).2] := by
  have hl := hb.len
  have hk := hw.len
  refine impl_IsUnbranched_f.f ?_
  have h1 := c_impl_coverCode (n := n) (m := m) hb hw hx hy
  have h2 := fun hd hm hxl hyl lx ly => c_impl_sumsOfVoltages (n := n) (m := m) (x := x) (y := y) hb hw hd hm hxl hyl lx ly
  unfold vD at h1 h2 ⊢
  unfold iuR
  simp (disch := first | omega | (simp only [LN]; omega)) only [↓EC, EW, seval, ↓reduceIte, impl_IsUnbranched_F, hl, hk]
  refine pcd_v h1 ?_
  (try simp (disch := first | omega | (simp only [LN]; omega)) only [↓EC, EW, seval, ↓reduceIte, hl, hk])
  (refine Split.mk (fun h => ?_) (fun h => ?_) <;> (try simp only [SD] at h))
  · (try simp (disch := first | omega | (simp only [LN]; omega)) only [↓EC, EW, seval, ↓reduceIte, hl, hk])
    rw [if_neg h]
  · obtain ⟨hd, hm, ⟨hxl, hxv⟩, hyl, hyv⟩ := covC_0 h
    (try simp (disch := first | omega | (simp only [LN]; omega)) only [↓EC, EW, seval, ↓reduceIte, hl, hk])
    refine pcd_v (h2 hd hm hxl hyl (volt_lm hm hxv) (volt_lm hm hyv)) ?_
    have hll := svL_len (n := n) (m := m) (b := b) (w := w) (x := x) (y := y) hd.pb.1
    have hl3 : (svL n b w m x y).length = 3 := rfl
    rw [if_pos h]
    generalize svL n b w m x y = S at *
    (try simp (disch := first | omega | (simp only [LN]; omega)) only [↓EC, EW, seval, ↓reduceIte, hl, hk])
    refine LP_of (σ := Nat) 100000 [] (fun s => [.int .i64 s]) (fun s => []) (fun s => s ≤ S.length ∧ ∀ v, v < s → ∀ k, k < (gl S v).length → gi (gl S v) k = 0) (fun s => S.length - s) 0 (by simp [frameOk, names, lpz, sclp, scv, scvs, nrfs, nrf, FRB]) ⟨Nat.zero_le _, fun v hv => absurd hv (Nat.not_lt_zero v)⟩ ?_ ?_
    · simp (disch := first | omega | (simp only [LN]; omega)) only [↓EC, EW, seval, ↓reduceIte, ColV_def]
    · rintro v ⟨g1, g2⟩
      simp (disch := first | omega | (simp only [LN]; omega)) only [↓EC, EW, seval, ↓reduceIte, ColV_def, lheap_def]
      (refine Split.mk (fun h => ?_) (fun h => ?_) <;> (try simp only [SD] at h))
      · have hv : v < S.length := by omega
        have hvl := hll _ (gl_mem hv)
        (try simp (disch := first | omega | (simp only [LN]; omega)) only [↓EC, EW, seval, ↓reduceIte])
        refine LP_of (σ := Nat) 200000 [] (fun s => [.int .i64 s]) (fun s => []) (fun s => s ≤ (gl S v).length ∧ ∀ k, k < s → gi (gl S v) k = 0) (fun s => (gl S v).length - s) 0 (by simp [frameOk, names, lpz, sclp, scv, scvs, nrfs, nrf, FRB]) ⟨Nat.zero_le _, fun v hv => absurd hv (Nat.not_lt_zero v)⟩ ?_ ?_
        · simp (disch := first | omega | (simp only [LN]; omega)) only [↓EC, EW, seval, ↓reduceIte, ColV_def]
        · rintro s ⟨q1, q2⟩
          simp (disch := first | omega | (simp only [LN]; omega)) only [↓EC, EW, seval, ↓reduceIte, ColV_def, lheap_def]
          (refine Split.mk (fun h => ?_) (fun h => ?_) <;> (try simp only [SD] at h))
          · have hs : s < (gl S v).length := by omega
            (try simp (disch := first | omega | (simp only [LN]; omega)) only [↓EC, EW, seval, ↓reduceIte])
            (refine Split.mk (fun h => ?_) (fun h => ?_) <;> (try simp only [SD] at h))
            · (try simp (disch := first | omega | (simp only [LN]; omega)) only [↓EC, EW, seval, ↓reduceIte])
              rw [zeroB_no hv hs h]
            · (try simp (disch := first | omega | (simp only [LN]; omega)) only [↓EC, EW, seval, ↓reduceIte])
              refine ⟨s + 1, rfl, ⟨by omega, fun j hj => ?_⟩, by omega⟩
              by_cases e : j = s
              · subst e; exact h
              · exact q2 j (by omega)
          · (try simp (disch := first | omega | (simp only [LN]; omega)) only [↓EC, EW, seval, ↓reduceIte])
            refine ⟨v + 1, rfl, ⟨by omega, fun j hj => ?_⟩, by omega⟩
            by_cases e : j = v
            · subst e; exact fun k hk => q2 k (by omega)
            · exact g2 j (by omega)
      · (try simp (disch := first | omega | (simp only [LN]; omega)) only [↓EC, EW, seval, ↓reduceIte])
        rw [zeroB_yes fun v hv => g2 v (by omega)]
theorem c_spec_IsUnbranched {n m : Int} {b w x y : List Int} (hb : okP b) (hw : okP w) (hx : x.length ≤ 1048576) (hy : y.length ≤ 1048576) :
    PSpec Tryz.prog 9 [vD n b w, .int .i64 m, .sl x.length (vi .i64 x), .sl y.length (vi .i64 y)] fun v => v = .tup [.bool (iuR n b w m x y).1, .int .i64 (iuR n b w m x y).2] := by
  have hl := hb.len
  have hk := hw.len
  refine spec_IsUnbranched_f.f ?_
  have h1 := c_spec_l09Code (n := n) (m := m) hb hw hx hy
  have h2 := fun hd hm hxl hyl lx ly => c_spec_l09Sums (n := n) (m := m) (x := x) (y := y) hb hw hd hm hxl hyl lx ly
  unfold vD at h1 h2 ⊢
  unfold iuR
  simp (disch := first | omega | (simp only [LN]; omega)) only [↓EC, EW, seval, ↓reduceIte, spec_IsUnbranched_F, hl, hk]
  refine pcd_v h1 ?_
  (try simp (disch := first | omega | (simp only [LN]; omega)) only [↓EC, EW, seval, ↓reduceIte, hl, hk])
  (refine Split.mk (fun h => ?_) (fun h => ?_) <;> (try simp only [SD] at h))
  · (try simp (disch := first | omega | (simp only [LN]; omega)) only [↓EC, EW, seval, ↓reduceIte, hl, hk])
    rw [if_neg h]
  · obtain ⟨hd, hm, ⟨hxl, hxv⟩, hyl, hyv⟩ := covC_0 h
    (try simp (disch := first | omega | (simp only [LN]; omega)) only [↓EC, EW, seval, ↓reduceIte, hl, hk])
    refine pcd_v (h2 hd hm hxl hyl (volt_lm hm hxv) (volt_lm hm hyv)) ?_
    have hll := svL_len (n := n) (m := m) (b := b) (w := w) (x := x) (y := y) hd.pb.1
    have hl3 : (svL n b w m x y).length = 3 := rfl
    rw [if_pos h]
    generalize svL n b w m x y = S at *
    (try simp (disch := first | omega | (simp only [LN]; omega)) only [↓EC, EW, seval, ↓reduceIte, hl, hk])
    refine LP_of (σ := Nat) 100000 [] (fun s => [.int .i64 s]) (fun s => []) (fun s => s ≤ 3 ∧ ∀ v, v < s → ∀ k, k < (gl S v).length → gi (gl S v) k = 0) (fun s => 3 - s) 0 (by simp [frameOk, names, lpz, sclp, scv, scvs, nrfs, nrf, FRB]) ⟨Nat.zero_le _, fun v hv => absurd hv (Nat.not_lt_zero v)⟩ ?_ ?_
    · simp (disch := first | omega | (simp only [LN]; omega)) only [↓EC, EW, seval, ↓reduceIte, ColV_def]
    · rintro v ⟨g1, g2⟩
      simp (disch := first | omega | (simp only [LN]; omega)) only [↓EC, EW, seval, ↓reduceIte, ColV_def, lheap_def]
      (refine Split.mk (fun h => ?_) (fun h => ?_) <;> (try simp only [SD] at h))
      · have hv : v < S.length := by omega
        have hvl := hll _ (gl_mem hv)
        (try simp (disch := first | omega | (simp only [LN]; omega)) only [↓EC, EW, seval, ↓reduceIte])
        refine LP_of (σ := Nat) 200000 [] (fun s => [.int .i64 s]) (fun s => []) (fun s => s ≤ (gl S v).length ∧ ∀ k, k < s → gi (gl S v) k = 0) (fun s => (gl S v).length - s) 0 (by simp [frameOk, names, lpz, sclp, scv, scvs, nrfs, nrf, FRB]) ⟨Nat.zero_le _, fun v hv => absurd hv (Nat.not_lt_zero v)⟩ ?_ ?_
        · simp (disch := first | omega | (simp only [LN]; omega)) only [↓EC, EW, seval, ↓reduceIte, ColV_def]
        · rintro s ⟨q1, q2⟩
          simp (disch := first | omega | (simp only [LN]; omega)) only [↓EC, EW, seval, ↓reduceIte, ColV_def, lheap_def, hl3]
          (refine Split.mk (fun h => ?_) (fun h => ?_) <;> (try simp only [SD] at h))
          · have hs : s < (gl S v).length := by omega
            (try simp (disch := first | omega | (simp only [LN]; omega)) only [↓EC, EW, seval, ↓reduceIte, hl3])
            (refine Split.mk (fun h => ?_) (fun h => ?_) <;> (try simp only [SD] at h))
            · (try simp (disch := first | omega | (simp only [LN]; omega)) only [↓EC, EW, seval, ↓reduceIte])
              rw [zeroB_no hv hs h]
            · (try simp (disch := first | omega | (simp only [LN]; omega)) only [↓EC, EW, seval, ↓reduceIte])
              refine ⟨s + 1, rfl, ⟨by omega, fun j hj => ?_⟩, by omega⟩
              by_cases e : j = s
              · subst e; exact h
              · exact q2 j (by omega)
          · (try simp (disch := first | omega | (simp only [LN]; omega)) only [↓EC, EW, seval, ↓reduceIte])
            refine ⟨v + 1, rfl, ⟨by omega, fun j hj => ?_⟩, by omega⟩
            by_cases e : j = v
            · subst e; exact fun k hk => q2 k (by omega)
            · exact g2 j (by omega)
      · (try simp (disch := first | omega | (simp only [LN]; omega)) only [↓EC, EW, seval, ↓reduceIte])
        rw [zeroB_yes fun v hv => g2 v (by omega)]
end Go.Proofs.YtjklebickfcddaaGreatDoor.Sep
end
section
/- Coverings: their Euler numbers, what leads where in them (plain laws). -/
namespace Go.Proofs.YtjklebickfcddaaGreatDoor.Sep
open Go.RowKit
set_option linter.unusedVariables false
set_option linter.unusedSimpArgs false
set_option maxRecDepth 20000
set_option maxHeartbeats 1000000

/-! ### Places that are put one by one -/
theorem putL_atC {f : Nat → Nat × Int} : ∀ k : Nat, (∀ i, i < k → (f i).1 < 16) → (∀ i j, i < j → j < k → (f i).1 ≠ (f j).1) → ∀ i, i < k → gi (putL f k) (f i).1 = (f i).2
  | 0, _, _, i, hi => absurd hi (Nat.not_lt_zero i)
  | k + 1, h1, h2, i, hi => by
    simp only [putL]
    rw [gi_set]
    by_cases h : (f k).1 = (f i).1
    · rw [if_pos ⟨h, by rw [putL_len]; exact h1 i hi⟩]
      by_cases hk : i = k
      · rw [hk]
      · exact absurd h.symm (h2 i k (by omega) (by omega))
    · rw [if_neg fun h' => h h'.1]
      refine putL_atC k (fun i hi => h1 i (by omega)) (fun i j a b => h2 i j a (by omega)) i ?_
      by_cases hk : i = k
      · exact absurd (by rw [hk]) h
      · omega
variable {p q : List Int} {n : Int}
theorem thenP_fp (hn : 1 ≤ n ∧ n ≤ 16) {x : Nat} (hx : x < n.toNat) : fp (thenP p q n) x = fp q (fp p x) := by
  unfold fp
  have := putL_atC (f := thenF p q) n.toNat (fun i hi => by simp only [thenF]; omega) (fun i j a b => by simp only [thenF]; omega) x hx
  simp only [thenF] at this
  unfold thenP; rw [this]
theorem backP_fp (h : Pf p n.toNat) {x : Nat} (hx : x < n.toNat) : fp (backP p n) (fp p x) = x := by
  have hle := h.le
  have := putL_atC (f := backF p) n.toNat (fun i hi => by have := h.lt i hi; simp only [backF]; unfold fp at this; omega) (fun i j a b => by
    simp only [backF]
    intro e
    have := h.inj i j (by omega) b e
    omega) x hx
  simp only [backF] at this
  unfold backP fp; rw [this]; rfl
theorem backP_fp' (h : Pf p n.toNat) {y : Nat} (hy : y < n.toNat) : fp p (fp (backP p n) y) = y := by
  obtain ⟨x, hx, rfl⟩ := h.surj hy
  rw [backP_fp h hx]
theorem thenP_pf (hn : 1 ≤ n ∧ n ≤ 16) (h1 : Pf p n.toNat) (h2 : Pf q n.toNat) : Pf (thenP p q n) n.toNat := by
  refine ⟨fun x hx => ?_, fun x y hx hy e => ?_, h1.le⟩
  · rw [thenP_fp hn hx]; exact h2.lt _ (h1.lt _ hx)
  · rw [thenP_fp hn hx, thenP_fp hn hy] at e
    exact h1.inj _ _ hx hy (h2.inj _ _ (h1.lt _ hx) (h1.lt _ hy) e)
theorem backP_pf (hn : 1 ≤ n ∧ n ≤ 16) (h : Pf p n.toNat) : Pf (backP p n) n.toNat := by
  refine ⟨fun x hx => ?_, fun x y hx hy e => ?_, h.le⟩
  · have := backP_lt (p := p) hn x (by omega); unfold fp; omega
  · rw [← backP_fp' h hx, ← backP_fp' h hy, e]
theorem lo_nn {p : List Int} (hp : lo16 p) : ∀ x : Nat, 0 ≤ gi p x := fun x => by
  by_cases h : x < 16
  · exact (hp.2 x h).1
  · rw [gi_over (by rw [hp.1]; omega)]; exact Int.le_refl _
/-! ### The covering's places -/
theorem cvI_in {m : Nat} {x : Nat} {f : Nat → Int} : ∀ k {l : List Int} {i : Nat}, i < k → m * x + i < l.length → gi (cvI m x f k l) (m * x + i) = f i
  | 0, l, i, h, _ => absurd h (Nat.not_lt_zero i)
  | k + 1, l, i, h, hl => by
    have hlen : ∀ k, (cvI m x f k l).length = l.length := fun k => by induction k with
      | zero => rfl
      | succ k ih => simp [cvI, ih]
    have e : ((m : Int) * x + k).toNat = m * x + k := by rw [← Int.natCast_mul]; omega
    simp only [cvI]
    rw [gi_set, hlen, e]
    by_cases hk : i = k
    · subst hk; rw [if_pos ⟨rfl, hl⟩]
    · rw [if_neg (by omega)]; exact cvI_in k (by omega) hl
theorem cvI_out {m : Nat} {x : Nat} {f : Nat → Int} {j : Nat} : ∀ k {l : List Int}, (∀ i, i < k → j ≠ m * x + i) → gi (cvI m x f k l) j = gi l j
  | 0, l, _ => rfl
  | k + 1, l, h => by
    have e : ((m : Int) * x + k).toNat = m * x + k := by rw [← Int.natCast_mul]; omega
    simp only [cvI]
    rw [gi_set, e, if_neg fun h' => h k (by omega) h'.1.symm]
    exact cvI_out k fun i hi => h i (by omega)
theorem cvO_lenC {m : Int} {b a : List Int} : ∀ s, (cvO m b a s).length = 16
  | 0 => by simp [cvO]
  | s + 1 => by
    have hlen : ∀ k l, (cvI m s (cvV m b a s) k l).length = l.length := fun k l => by induction k with
      | zero => rfl
      | succ k ih => simp [cvI, ih]
    simp only [cvO]
    rw [hlen, cvO_lenC s]
theorem cvO_at {m : Nat} (hm : 1 ≤ m) {b a : List Int} {x i : Nat} (hi : i < m) : ∀ s, x < s → m * s ≤ 16 → gi (cvO m b a s) (m * x + i) = cvV m b a x i
  | 0, h, _ => absurd h (Nat.not_lt_zero x)
  | s + 1, h, hs => by
    rw [Nat.mul_succ] at hs
    simp only [cvO, Int.toNat_natCast]
    by_cases e : x = s
    · subst e
      exact cvI_in m hi (by rw [cvO_lenC]; omega)
    · rw [cvI_out m fun j hj e' => e (idx_div hi hj e').1]
      exact cvO_at hm hi s (by omega) (by omega)
/-- A covering that is a dessin. -/
structure CvF (n : Int) (m : Nat) (b w a c : List Int) : Prop where
  D : isD n b w
  ob : okP b
  ow : okP w
  m1 : 1 ≤ m ∧ m ≤ 16
  al : (a.length : Int) = n
  av : ∀ k, k < a.length → 0 ≤ gi a k ∧ gi a k < m
  cl : (c.length : Int) = n
  cv : ∀ k, k < c.length → 0 ≤ gi c k ∧ gi c k < m
  nm : n.toNat * m ≤ 16
  oB : okP (cvO m b a n.toNat)
  oW : okP (cvO m w c n.toNat)
  E : isDB (n * m) (cvO m b a n.toNat) (cvO m w c n.toNat) = true
theorem covR_0 {n m : Int} {b w a c : List Int} (hb : okP b) (hw : okP w) (h : (covR n b w m a c).2 = 0) : covC n b w m a c = 0 ∧ CvF n m.toNat b w a c ∧ ((m.toNat : Nat) : Int) = m ∧ covR n b w m a c = ((n * m, cvO m b a n.toNat, cvO m w c n.toNat), 0) := by
  unfold covR at h ⊢
  split at h
  · exact absurd h (by assumption)
  · rename_i h0
    have h0 : covC n b w m a c = 0 := by simpa using h0
    obtain ⟨hd, hm, ⟨hal, hav⟩, hcl, hcv⟩ := covC_0 h0
    have hn := hd.pb.1
    have e : ((m.toNat : Nat) : Int) = m := by omega
    rw [if_neg (by simpa using h0)]
    split at h
    · cases h
    · rename_i h1
      rw [if_neg h1]
      split at h
      · rename_i h2
        rw [if_pos h2]
        have hnm : ((n.toNat * m.toNat : Nat) : Int) = n * m := by rw [Int.natCast_mul, show ((n.toNat : Nat) : Int) = n by omega, e]
        refine ⟨h0, ⟨hd, hb, hw, by omega, hal, by rw [e]; exact hav, hcl, by rw [e]; exact hcv, by omega, ?_, ?_, by rw [e]; exact h2⟩, e, rfl⟩
        · rw [e]
          exact cvO_ok hm.1 (by omega) hn.2 (fun x hx => ⟨(hb.2 x (by omega)).1, ((hd.pb.2 x (by omega)).1 hx).1⟩) (fun x hx => (hav x (by omega)).1) _ (by omega)
        · rw [e]
          exact cvO_ok hm.1 (by omega) hn.2 (fun x hx => ⟨(hw.2 x (by omega)).1, ((hd.pw.2 x (by omega)).1 hx).1⟩) (fun x hx => (hcv x (by omega)).1) _ (by omega)
      · cases h
section
variable {m : Nat} {b w a c : List Int}
/-- Voltages as numbers. -/
def vN (a : List Int) (x : Nat) : Nat := (gi a x).toNat
theorem cov_of (h : CvF n m b w a c) {b' a' : List Int} (ob : okP b') (pb : isPm b' n) (al : (a'.length : Int) = n) (av : ∀ k, k < a'.length → 0 ≤ gi a' k ∧ gi a' k < m) (oB : okP (cvO m b' a' n.toNat)) (pB : isPm (cvO m b' a' n.toNat) (n * m)) :
    Cov b' (cvO m b' a' n.toNat) n.toNat m (vN a') := by
  have hn := pb.1
  have e : (n * (m : Int)).toNat = n.toNat * m := by
    have : ((n.toNat * m : Nat) : Int) = n * m := by rw [Int.natCast_mul, show ((n.toNat : Nat) : Int) = n by omega]
    omega
  have hq := Pf.of oB pB
  rw [e] at hq
  have lb := pb.lo ob
  refine ⟨Pf.of ob pb, hq, lo_nn lb, lo_nn (pB.lo oB), h.m1.1, fun x i hx hi => ?_⟩
  have ha := av x (by omega)
  have hnm := h.nm
  unfold fp
  rw [cvO_at h.m1.1 hi n.toNat hx (by rw [Nat.mul_comm]; exact hnm)]
  unfold cvV vN
  have h1 := pb.ltP ob x (by omega)
  obtain ⟨y, hy⟩ : ∃ y : Nat, gi b' x = y := ⟨(gi b' x).toNat, by omega⟩
  obtain ⟨z, hz⟩ : ∃ z : Nat, gi a' x = z := ⟨(gi a' x).toNat, by omega⟩
  rw [hy, hz, Int.toNat_natCast, Int.toNat_natCast, ← Int.natCast_add, ← Int.ofNat_tmod, ← Int.natCast_mul, ← Int.natCast_add, Int.toNat_natCast]
theorem CvF.cb (h : CvF n m b w a c) : Cov b (cvO m b a n.toNat) n.toNat m (vN a) := cov_of h h.ob h.D.pb h.al h.av h.oB (isDB_iff.1 h.E).pb
theorem CvF.cw (h : CvF n m b w a c) : Cov w (cvO m w c n.toNat) n.toNat m (vN c) := cov_of h h.ow h.D.pw h.cl h.cv h.oW (isDB_iff.1 h.E).pw
theorem Cov.fib {p q : List Int} {N m : Nat} {v : Nat → Nat} (h : Cov p q N m v) : Fib q p N m := by
  refine ⟨h.hq, h.hp, h.m0, fun t ht => ?_⟩
  have hm := h.m0
  have h1 := (Nat.div_lt_iff_lt_mul (y := N) hm).2 ht
  have h2 := Nat.div_add_mod t m
  have h3 := Nat.mod_lt t hm
  have h4 := h.at_ (t / m) (t % m) h1 h3
  rw [h2] at h4
  rw [h4, Nat.mul_add_div (by omega), Nat.div_eq_of_lt (Nat.mod_lt _ hm), Nat.add_zero]
/-- The faces' voltages. -/
def uF (b a c : List Int) (x : Nat) : Nat := vN a x + vN c (fp b x)
def vF (m : Nat) (b w a c : List Int) (n : Int) (y : Nat) : Nat := 2 * m - uF b a c (fp (faceP b w n) y)
theorem CvF.eN (h : CvF n m b w a c) : (n * (m : Int)).toNat = n.toNat * m := by
  have hn := h.D.pb.1
  have : ((n.toNat * m : Nat) : Int) = n * m := by rw [Int.natCast_mul, show ((n.toNat : Nat) : Int) = n by omega]
  omega
theorem CvF.hN (h : CvF n m b w a c) : 1 ≤ n * (m : Int) ∧ n * (m : Int) ≤ 16 := (isDB_iff.1 h.E).pb.1
theorem CvF.u_lt (h : CvF n m b w a c) {x : Nat} (hx : x < n.toNat) : uF b a c x < 2 * m := by
  have h1 := h.av x (by have := h.al; omega)
  have hb := h.cb.hp.lt x hx
  have h2 := h.cv (fp b x) (by have := h.cl; omega)
  unfold uF vN; omega
theorem CvF.cf (h : CvF n m b w a c) : Cov (faceP b w n) (faceP (cvO m b a n.toNat) (cvO m w c n.toNat) (n * m)) n.toNat m (vF m b w a c n) := by
  have hn := h.D.pb.1
  have hN := h.hN
  have eN := h.eN
  have cb := h.cb
  have cw := h.cw
  have hm := h.m1.1
  have qb := cb.hq
  have qw := cw.hq
  rw [← eN] at qb qw
  have tp := thenP_pf hn cb.hp cw.hp
  have Tp := thenP_pf hN qb qw
  have fpf := backP_pf hn tp
  have Fpf := backP_pf hN Tp
  have Fpf' := Fpf
  rw [eN] at Fpf'
  refine ⟨fpf, Fpf', lo_nn (backP_lo hn), lo_nn (backP_lo hN), hm, fun y j hy hj => ?_⟩
  have hx : fp (faceP b w n) y < n.toNat := fpf.lt y hy
  have hu := h.u_lt hx
  have ht : fp (thenP b w n) (fp (faceP b w n) y) = y := backP_fp' tp hy
  rw [thenP_fp (x := fp (faceP b w n) y) hn hx] at ht
  have hi : (j + vF m b w a c n y) % m < m := Nat.mod_lt _ hm
  have hz : m * fp (faceP b w n) y + (j + vF m b w a c n y) % m < (n * (m : Int)).toNat := by rw [eN]; exact idx_lt hx hi
  have key : fp (thenP (cvO m b a n.toNat) (cvO m w c n.toNat) (n * m)) (m * fp (faceP b w n) y + (j + vF m b w a c n y) % m) = m * y + j := by
    rw [thenP_fp hN hz, cb.at_ (fp (faceP b w n) y) _ hx hi, cw.at_ _ _ (cb.hp.lt _ hx) (Nat.mod_lt _ hm), ht]
    have e1 : (((j + vF m b w a c n y) % m + vN a (fp (faceP b w n) y)) % m + vN c (fp b (fp (faceP b w n) y))) % m = (j + vF m b w a c n y + uF b a c (fp (faceP b w n) y)) % m := by
      rw [Nat.mod_add_mod, Nat.add_assoc, Nat.mod_add_mod]
      rfl
    rw [e1]
    have e2 : j + vF m b w a c n y + uF b a c (fp (faceP b w n) y) = j + m * 2 := by unfold vF; omega
    rw [e2, Nat.add_mul_mod_self_left, Nat.mod_eq_of_lt hj]
  have := backP_fp Tp hz
  rw [key] at this
  exact this

/-! ### Sums along cycles -/
theorem Per.uniq {p : List Int} {x L L' : Nat} (h : Per p x L) (h' : Per p x L') : L = L' := by
  rcases Nat.lt_trichotomy L L' with e | e | e
  · exact absurd h.ret (h'.min L h.pos e)
  · exact e
  · exact absurd h'.ret (h.min L' h'.pos e)
theorem sumT_orb {p a : List Int} {N x L : Nat} (hp : Pf p N) (hx : x < N) (ha : ∀ y, y < N → 0 ≤ gi a y) : ∀ j, j ≤ L → sumT a (orb p x L) j = (Vs p (vN a) x j : Int)
  | 0, _ => rfl
  | j + 1, hj => by
    have ih := sumT_orb (L := L) hp hx ha j (by omega)
    have e : gi (orb p x L) j = (it p j x : Int) := by
      have : j < (orb p x L).length := by simp [orb]; omega
      rw [gi_of this]; simp [orb]
    have := ha _ (it_lt hp hx j)
    simp only [sumT, Vs]
    rw [ih, e, Int.toNat_natCast, Int.natCast_add]
    unfold vN
    omega
/-- All cycles have sums that m divides. -/
def Zs (p : List Int) (v : Nat → Nat) (N m : Nat) : Prop := ∀ x, x < N → nwB p x = true → ∀ L, Per p x L → Vs p v x L % m = 0
theorem smZ {p a : List Int} (hp : Pf p n.toNat) (np : ∀ x : Nat, 0 ≤ gi p x) (ha : ∀ y, y < n.toNat → 0 ≤ gi a y) : ((smL a m (cyc p n)).all fun s => s == 0) = true ↔ Zs p (vN a) n.toNat m := by
  unfold smL cyc
  rw [cycO_list, List.all_map, List.all_map, List.all_eq_true]
  have key : ∀ x, x < n.toNat → nwB p x = true → ∀ L, Per p x L → ((sumT a (cyF p x) (cyF p x).length).tmod m = 0 ↔ Vs p (vN a) x L % m = 0) := fun x hx hn L hL => by
    obtain ⟨L', h', e⟩ := cyF_orb hp np hx hn
    obtain rfl := hL.uniq h'
    have hl : (orb p x L).length = L := by simp [orb]
    rw [e, hl, sumT_orb hp hx ha L (Nat.le_refl _), ← Int.ofNat_tmod]
    omega
  constructor
  · intro h x hx hn L hL
    have := h x (List.mem_filter.2 ⟨List.mem_range.2 hx, hn⟩)
    simp only [Function.comp_apply, beq_iff_eq] at this
    exact (key x hx hn L hL).1 this
  · intro h x hx
    obtain ⟨h1, h2⟩ := List.mem_filter.1 hx
    have h1 := List.mem_range.1 h1
    obtain ⟨L, hL, _⟩ := cyF_orb hp np h1 h2
    simp only [Function.comp_apply, beq_iff_eq]
    exact (key x h1 h2 L hL).2 (h x h1 h2 L hL)
theorem Vs_cong {p : List Int} {N x : Nat} {u v : Nat → Nat} (hp : Pf p N) (hx : x < N) (h : ∀ y, y < N → u y = v y) : ∀ k, Vs p u x k = Vs p v x k
  | 0 => rfl
  | k + 1 => by simp only [Vs]; rw [Vs_cong hp hx h k, h _ (it_lt hp hx k)]
theorem Vs_turn {p : List Int} {N x M : Nat} {u : Nat → Nat} (hp : Pf p N) (hx : x < N) (hu : ∀ y, y < N → u y ≤ M) : ∀ k, Vs p (fun y => M - u (fp p y)) x k + Vs p u x k + u (it p k x) = M * k + u x
  | 0 => by simp [Vs, it]
  | k + 1 => by
    have ih := Vs_turn hp hx hu k
    have h1 := hu _ (hp.lt _ (it_lt hp hx k))
    simp only [Vs, it, Nat.mul_succ] at ih ⊢
    omega
theorem CvF.face_vN (h : CvF n m b w a c) {y : Nat} (hy : y < n.toNat) : 0 ≤ gi (bothT a c b n.toNat) y ∧ vN (bothT a c b n.toNat) y = uF b a c y := by
  have h1 := h.av y (by have := h.al; omega)
  have hb := h.cb.hp.lt y hy
  have h2 := h.cv (fp b y) (by have := h.cl; omega)
  unfold vN uF
  rw [bothT_at hy]
  unfold vN
  change 0 ≤ gi a y + gi c (fp b y) ∧ (gi a y + gi c (fp b y)).toNat = _
  omega
theorem CvF.zF (h : CvF n m b w a c) : Zs (faceP b w n) (vN (bothT a c b n.toNat)) n.toNat m ↔ Zs (faceP b w n) (vF m b w a c n) n.toNat m := by
  have hp := h.cf.hp
  have key : ∀ x, x < n.toNat → ∀ L, Per (faceP b w n) x L → (Vs (faceP b w n) (vN (bothT a c b n.toNat)) x L % m = 0 ↔ Vs (faceP b w n) (vF m b w a c n) x L % m = 0) := fun x hx L hL => by
    rw [Vs_cong hp hx (fun y hy => (h.face_vN hy).2) L]
    have e := Vs_turn (u := uF b a c) (M := 2 * m) hp hx (fun y hy => Nat.le_of_lt (h.u_lt hy)) L
    rw [hL.ret] at e
    have e : Vs (faceP b w n) (vF m b w a c n) x L + Vs (faceP b w n) (uF b a c) x L = m * (2 * L) := by
      have : 2 * m * L = m * (2 * L) := by rw [Nat.mul_comm 2 m, Nat.mul_assoc]
      unfold vF; omega
    have d1 : m ∣ Vs (faceP b w n) (vF m b w a c n) x L + Vs (faceP b w n) (uF b a c) x L := ⟨_, e⟩
    rw [← Nat.dvd_iff_mod_eq_zero, ← Nat.dvd_iff_mod_eq_zero]
    exact ⟨fun q => (Nat.dvd_add_iff_left q).2 d1, fun q => (Nat.dvd_add_iff_right q).2 d1⟩
  exact ⟨fun q x hx hn L hL => (key x hx L hL).1 (q x hx hn L hL), fun q x hx hn L hL => (key x hx L hL).2 (q x hx hn L hL)⟩
theorem CvF.zero (h : CvF n m b w a c) : zeroB (svL n b w m a c) = true ↔ Zs b (vN a) n.toNat m ∧ Zs w (vN c) n.toNat m ∧ Zs (faceP b w n) (vF m b w a c n) n.toNat m := by
  have cb := h.cb
  have cw := h.cw
  have cf := h.cf
  rw [← h.zF, ← smZ cb.hp cb.np (fun y hy => (h.av y (by have := h.al; omega)).1), ← smZ cw.hp cw.np (fun y hy => (h.cv y (by have := h.cl; omega)).1), ← smZ cf.hp cf.np (fun y hy => (h.face_vN hy).1)]
  unfold zeroB svL
  simp only [List.all_cons, List.all_nil, Bool.and_true, Bool.and_eq_true]
theorem CvF.eul (h : CvF n m b w a c) {B W : List Int} (eB : B = cvO m b a n.toNat) (eW : W = cvO m w c n.toNat) : (zeroB (svL n b w m a c) = true → eulN (n * m) B W = m * eulN n b w) ∧ (¬ zeroB (svL n b w m a c) = true → eulN (n * m) B W < m * eulN n b w) := by
  subst eB; subst eW
  have cb := h.cb
  have cw := h.cw
  have cf := h.cf
  have hn := h.D.pb.1
  rw [h.zero]
  unfold eulN
  rw [cyc_cN, cyc_cN, cyc_cN, cyc_cN, cyc_cN, cyc_cN, h.eN, Nat.mul_comm n.toNat m]
  have hnm : (n * (m : Int)) = m * n := Int.mul_comm _ _
  rw [Int.mul_sub, Int.mul_add, Int.mul_add, ← Int.natCast_mul, ← Int.natCast_mul, ← Int.natCast_mul]
  have l1 := cb.le n.toNat (Nat.le_refl _)
  have l2 := cw.le n.toNat (Nat.le_refl _)
  have l3 := cf.le n.toNat (Nat.le_refl _)
  constructor
  · rintro ⟨z1, z2, z3⟩
    have e1 := cb.eq z1 n.toNat (Nat.le_refl _)
    have e2 := cw.eq z2 n.toNat (Nat.le_refl _)
    have e3 := cf.eq z3 n.toNat (Nat.le_refl _)
    omega
  · intro hz
    have hor : ¬ Zs b (vN a) n.toNat m ∨ ¬ Zs w (vN c) n.toNat m ∨ ¬ Zs (faceP b w n) (vF m b w a c n) n.toNat m := by
      by_cases z1 : Zs b (vN a) n.toNat m
      · by_cases z2 : Zs w (vN c) n.toNat m
        · exact .inr (.inr fun z3 => hz ⟨z1, z2, z3⟩)
        · exact .inr (.inl z2)
      · exact .inl z1
    have strict : ∀ {p q : List Int} {v : Nat → Nat}, Cov p q n.toNat m v → ¬ Zs p v n.toNat m → cN q (m * n.toNat) < m * cN p n.toNat := fun {p q v} hc hz => by
      refine Classical.byContradiction fun hge => hz fun x hx hnw L hL => ?_
      exact Classical.byContradiction fun hS => hge (hc.lt hx hnw hL hS n.toNat hx (Nat.le_refl _))
    rcases hor with z | z | z
    · have := strict cb z; omega
    · have := strict cw z; omega
    · have := strict cf z; omega

/-! ### Walks -/
def enc (m : Nat) (s : Int × Int) : Nat := m * s.1.toNat + s.2.toNat
theorem enc_lt {s : Int × Int} (h : StOk n m s) : enc m s < n.toNat * m := by
  obtain ⟨⟨h1, h2⟩, h3, h4⟩ := h
  exact idx_lt (by omega) (by omega)
theorem cov_F {p q l : List Int} (hc : Cov p q n.toNat m (vN l)) (hl : ∀ k : Nat, (k : Int) < n → 0 ≤ gi l k ∧ gi l k < m) {s : Int × Int} (h : StOk n m s) : fp q (enc m s) = enc m (stF p l m s) := by
  obtain ⟨x, i⟩ := s
  obtain ⟨⟨h1, h2⟩, h3, h4⟩ := h
  simp only at h1 h2 h3 h4
  have h5 := hl x.toNat (by omega)
  have h6 := hc.np x.toNat
  unfold enc stF
  simp only
  rw [hc.at_ _ _ (by omega) (by omega)]
  unfold vN
  obtain ⟨i, rfl⟩ : ∃ k : Nat, i = k := ⟨i.toNat, by omega⟩
  obtain ⟨z, hz⟩ : ∃ z : Nat, gi l x.toNat = z := ⟨(gi l x.toNat).toNat, by omega⟩
  rw [hz, Int.toNat_natCast, Int.toNat_natCast, ← Int.natCast_add, ← Int.ofNat_tmod, Int.toNat_natCast]
  rfl
theorem cov_B {p q l : List Int} (hn : 1 ≤ n ∧ n ≤ 16) (hc : Cov p q n.toNat m (vN l)) (hl : ∀ k : Nat, (k : Int) < n → 0 ≤ gi l k ∧ gi l k < m) {s : Int × Int} (h : StOk n m s) : fp q (enc m (stB p l n m s)) = enc m s := by
  have hok := stB_ok (p := p) (l := l) hn (by have := hc.m0; omega) hl h
  rw [cov_F hc hl hok]
  obtain ⟨x, i⟩ := s
  obtain ⟨⟨h1, h2⟩, h3, h4⟩ := h
  simp only at h1 h2 h3 h4
  obtain ⟨x, rfl⟩ : ∃ k : Nat, x = k := ⟨x.toNat, by omega⟩
  have hx : x < n.toNat := by omega
  have e1 := backP_fp' hc.hp hx
  have hy := backP_lt (p := p) hn x (by omega)
  have h5 := hl (gi (backP p n) x).toNat (by omega)
  have h6 := hc.np (fp (backP p n) x)
  have e2 : gi p (fp (backP p n) x) = x := by have := e1; unfold fp at this h6 ⊢; omega
  unfold stF stB enc
  simp only [Int.toNat_natCast]
  change m * (gi p (fp (backP p n) x)).toNat + _ = _
  rw [e2, Int.toNat_natCast]
  congr 1
  generalize gi l (gi (backP p n) x).toNat = z at *
  have hm := hc.m0
  have e3 : ((i - z + m).tmod m + z).tmod m = i := by
    have w : ∀ y : Int, 0 ≤ y → (y + m).tmod m = y.tmod m := fun y hy => by
      rw [Int.tmod_eq_emod_of_nonneg (by omega), Int.tmod_eq_emod_of_nonneg hy, Int.add_emod_right]
    have w1 : ∀ y : Int, 0 ≤ y → y < m → y.tmod m = y := fun y h1 h2 => Int.tmod_eq_of_lt h1 h2
    by_cases hlt : i < z
    · rw [w1 (i - z + m) (by omega) (by omega), show i - z + m + z = i + m by omega, w i h3, w1 i h3 h4]
    · rw [w (i - z) (by omega), w1 (i - z) (by omega) (by omega), show i - z + z = i by omega, w1 i h3 h4]
  rw [e3]
theorem CvF.ok (h : CvF n m b w a c) : CvOk n m b w a c := by
  have h1 := h.D.pb
  exact ⟨h1.1, by have := h.m1; omega, h1.lo h.ob, h.D.pw.lo h.ow, h1.ltP h.ob, h.D.pw.ltP h.ow, h.al, fun k hk => h.av k (by have := h.al; omega), h.cl, fun k hk => h.cv k (by have := h.cl; omega)⟩
theorem sameP_fp {x : Nat} (hx : x < 16) : ∀ {k : Nat}, x < k → k ≤ 16 → gi (putL sameF k) x = x := fun {k} h h' => by
  have := putL_atC (f := sameF) k (fun i hi => by simp only [sameF]; omega) (fun i j a b => by simp only [sameF]; omega) x h
  simpa only [sameF] using this
theorem CvF.vl1 (h : CvF n m b w a c) {L : Int} (hL : sprt L) {t : List Int} {k : Nat} (e : gi t k = L) {s0 : Int × Int} (h0 : StOk n m s0) : fp (vlP (n * m) (cvO m b a n.toNat) (cvO m w c n.toNat) L) (enc m (wkT n m b w a c s0 t k)) = enc m (wkT n m b w a c s0 t (k + 1)) := by
  have ok := h.ok
  have hs := wkT_ok ok (t := t) h0 k
  have hn := h.D.pb.1
  have hN := h.hN
  have eN := h.eN
  have cb := h.cb
  have cw := h.cw
  have qb := cb.hq
  have qw := cw.hq
  rw [← eN] at qb qw
  have Tp := thenP_pf hN qb qw
  have Fp := backP_pf hN Tp
  have hlt : ∀ {s}, StOk n m s → enc m s < (n * (m : Int)).toNat := fun h => by rw [eN]; exact enc_lt h
  generalize hS : wkT n m b w a c s0 t k = S at *
  have fwb : ∀ {s}, StOk n m s → fp (cvO m b a n.toNat) (enc m s) = enc m (stF b a m s) := fun h => cov_F cb ok.av h
  have fww : ∀ {s}, StOk n m s → fp (cvO m w c n.toNat) (enc m s) = enc m (stF w c m s) := fun h => cov_F cw ok.cv h
  have bwb : ∀ {s}, StOk n m s → fp (cvO m b a n.toNat) (enc m (stB b a n m s)) = enc m s := fun h => cov_B hn cb ok.av h
  have bww : ∀ {s}, StOk n m s → fp (cvO m w c n.toNat) (enc m (stB w c n m s)) = enc m s := fun h => cov_B hn cw ok.cv h
  have okF : ∀ {s}, StOk n m s → StOk n m (stF b a m s) := fun h => stF_ok ok.hm.1 ok.bt ok.av h
  have okb : ∀ {s}, StOk n m s → StOk n m (stB b a n m s) := fun h => stB_ok hn ok.hm.1 ok.av h
  have okw : ∀ {s}, StOk n m s → StOk n m (stB w c n m s) := fun h => stB_ok hn ok.hm.1 ok.cv h
  have hthen : ∀ {s}, StOk n m s → fp (thenP (cvO m b a n.toNat) (cvO m w c n.toNat) (n * m)) (enc m s) = enc m (stF w c m (stF b a m s)) := fun h => by
    rw [thenP_fp hN (hlt h), fwb h, fww (okF h)]
  rcases hL with rfl | rfl | rfl | rfl | rfl | rfl
  · rw [wkT_98 e, hS]; exact fwb hs
  · rw [wkT_119 e, hS]; exact fww hs
  · rw [wkT_102 e, hS]
    change fp (faceP (cvO m b a n.toNat) (cvO m w c n.toNat) (n * m)) _ = _
    have e1 : fp (thenP (cvO m b a n.toNat) (cvO m w c n.toNat) (n * m)) (enc m (stB b a n m (stB w c n m S))) = enc m S := by
      rw [thenP_fp hN (hlt (okb (okw hs))), bwb (okw hs), bww hs]
    have e2 := backP_fp Tp (hlt (okb (okw hs)))
    rw [e1] at e2
    exact e2
  · rw [wkT_66 e, hS]
    change fp (backP (cvO m b a n.toNat) (n * m)) _ = _
    have e2 := backP_fp qb (hlt (okb hs))
    rw [bwb hs] at e2
    exact e2
  · rw [wkT_87 e, hS]
    change fp (backP (cvO m w c n.toNat) (n * m)) _ = _
    have e2 := backP_fp qw (hlt (okw hs))
    rw [bww hs] at e2
    exact e2
  · rw [wkT_70 e, hS]
    change fp (backP (faceP (cvO m b a n.toNat) (cvO m w c n.toNat) (n * m)) (n * m)) _ = _
    have e1 := backP_fp Tp (hlt hs)
    have e2 := backP_fp Fp (Tp.lt _ (hlt hs))
    rw [e1, hthen hs] at e2
    exact e2
theorem CvF.walk (h : CvF n m b w a c) {t : List Int} {s0 : Int × Int} (h0 : StOk n m s0) : ∀ k : Nat, (∀ i, i < k → sprt (gi t i)) → fp (vlT (n * m) (cvO m b a n.toNat) (cvO m w c n.toNat) t k) (enc m s0) = enc m (wkT n m b w a c s0 t k)
  | 0, _ => by
    have hlt : enc m s0 < (n * (m : Int)).toNat := by rw [h.eN]; exact enc_lt h0
    have hN := h.hN
    simp only [vlT, wkT]
    unfold fp sameP
    rw [sameP_fp (by omega) hlt (by omega), Int.toNat_natCast]
  | k + 1, hk => by
    have ih := CvF.walk h h0 k fun i hi => hk i (by omega)
    have hlt : enc m s0 < (n * (m : Int)).toNat := by rw [h.eN]; exact enc_lt h0
    have hN := h.hN
    have e : vlT (n * m) (cvO m b a n.toNat) (cvO m w c n.toNat) t (k + 1) = thenP (vlT (n * m) (cvO m b a n.toNat) (cvO m w c n.toNat) t k) (vlP (n * m) (cvO m b a n.toNat) (cvO m w c n.toNat) (gi t k)) (n * m) := rfl
    rw [e, thenP_fp hN hlt, ih]
    exact h.vl1 (hk k (by omega)) rfl h0
end
end Go.Proofs.YtjklebickfcddaaGreatDoor.Sep
end
section
/- Draws of dessins and of words. -/
namespace Go.Proofs.YtjklebickfcddaaGreatDoor.Sep
open Go.RowKit
set_option linter.unusedVariables false
set_option linter.unusedSimpArgs false
set_option maxRecDepth 20000
set_option maxHeartbeats 4000000

theorem lo16_set {p : List Int} (h : lo16 p) {i : Nat} {y : Int} (hy : 0 ≤ y ∧ y < 16) : lo16 (p.set i y) := ⟨by simp [h.1], fun j hj => by
  rw [gi_set]; split
  · exact hy
  · exact h.2 j hj⟩
theorem lo16_okP {p : List Int} (h : lo16 p) : okP p := ⟨h.1, fun i hi => by have := h.2 i hi; omega⟩
theorem lo16_zero : lo16 (List.replicate 16 0) := ⟨by simp, fun i hi => by rw [gi_rep]; split <;> omega⟩
theorem c_spec_l01DrawPlaces {x : Value} {l : List Int} {a z n : Int} (hn : 1 ≤ n ∧ n ≤ 16) (hs : okS l a) : PSpecM Tryz.prog 73 [.ptr 0 0, .int .i64 n] [(0, 99, 1)] [srcC x l a z] fun v c =>
    ∃ p a' z', v = .agg (vi .u8 p) ∧ c = [srcC x l a' z'] ∧ okS l a' ∧ lo16 p := by
  refine spec_l01DrawPlaces_f.m rfl rfl ?_
  unfold srcC
  dsimp only [spec_l01DrawPlaces_F, pcal_B, pcalp_B, pcala_B, pcond_B, pgk_B, JN_B, LP_B]
  (refine blkP.ini ?_; repeat (refine blkP.mk ?_; (try simp (disch := first | omega | (simp only [LN]; omega)) only [↓EC, EW, seval, ↓reduceIte, ↓EBD, EBE])))
  refine pcd_v (c_spec_l01Same hn) ?_
  have hl0 := sameP_lo hn
  have hlf := putL_len sameF n.toNat
  (refine blkP.ini ?_; repeat (refine blkP.mk ?_; (try simp (disch := first | omega | (simp only [LN]; omega)) only [↓EC, EW, seval, ↓reduceIte, ↓EBD, EBE])))
  (refine pcm [0] rfl ?_; (refine blkP.ini ?_; repeat (refine blkP.mk ?_; (try simp (disch := first | omega | (simp only [LN]; omega)) only [↓EC, EW, seval, ↓reduceIte, ↓EBD, EBE]))); refine callM_d (c_spec_l01Next (by assumption) (by omega)) ?_; rintro _ _ ⟨r1, _, _, rfl, rfl, hs_, hr_⟩; (refine blkP.ini ?_; repeat (refine blkP.mk ?_; (try simp (disch := first | omega | (simp only [LN]; omega)) only [↓EC, EW, seval, ↓reduceIte, ↓EBD, EBE, srcC]))))
  rename_i a1 z1
  (refine Split.mkB (fun h => ?_) (fun h => ?_) <;> (try simp only [SD] at h))
  · (refine blkP.ini ?_; repeat (refine blkP.mk ?_; (try simp (disch := first | omega | (simp only [LN]; omega)) only [↓EC, EW, seval, ↓reduceIte, ↓EBD, EBE])))
    exact ⟨_, _, _, rfl, rfl, by assumption, hl0⟩
  · (refine blkP.ini ?_; repeat (refine blkP.mk ?_; (try simp (disch := first | omega | (simp only [LN]; omega)) only [↓EC, EW, seval, ↓reduceIte, ↓EBD, EBE])))
    refine LPx_of (σ := List Int × Int × Int × Int) 100000 [(0, 99, 1), (68, 25, 1), (69, 25, 1)] (fun s => [.int .i64 s.2.1]) (fun s => [srcC x l s.2.2.1 s.2.2.2, vi .u8 (List.replicate 16 0), vi .u8 s.1])
      (fun s => okS l s.2.2.1 ∧ lo16 s.1 ∧ s.2.1 < 16) (fun s => s.2.1.toNat) (putL sameF n.toNat, n - 1, a1, z1) (by simp [frameOk, names, lpz, sclp, scv, scvs, nrfs, nrf, FRB]) ⟨by assumption, hl0, by simp only; omega⟩ ?_ ?_
    · (refine blkP.ini ?_; repeat (refine blkP.mk ?_; simp (disch := first | omega | (simp only [LN]; omega)) only [↓EC, EW, seval, ↓reduceIte, ↓EBD, EBE, ColV_def, srcC]))
    · rintro ⟨p, i, a, z⟩ ⟨h1, h2, h3⟩
      simp only at h1 h2 h3
      have hpl := h2.1
      (refine blkP.ini ?_; repeat (refine blkP.mk ?_; simp (disch := first | omega | (simp only [LN]; omega)) only [↓EC, EW, seval, ↓reduceIte, ↓EBD, EBE, ColV_def, lheap_def, srcC]))
      (refine Split.mkB (fun h => ?_) (fun h => ?_) <;> (try simp only [SD] at h))
      · (refine blkP.ini ?_; repeat (refine blkP.mk ?_; (try simp (disch := first | omega | (simp only [LN]; omega)) only [↓EC, EW, seval, ↓reduceIte, ↓EBD, EBE])))
        (refine pcm [0] rfl ?_; (refine blkP.ini ?_; repeat (refine blkP.mk ?_; (try simp (disch := first | omega | (simp only [LN]; omega)) only [↓EC, EW, seval, ↓reduceIte, ↓EBD, EBE]))); refine callM_d (c_spec_l01Next (by assumption) (by omega)) ?_; rintro _ _ ⟨r2, _, _, rfl, rfl, hs_, hr_⟩; (refine blkP.ini ?_; repeat (refine blkP.mk ?_; (try simp (disch := first | omega | (simp only [LN]; omega)) only [↓EC, EW, seval, ↓reduceIte, ↓EBD, EBE, srcC]))))
        rename_i a2 z2
        have b1 := h2.2 i.toNat (by omega)
        have b2 := h2.2 r2.toNat (by omega)
        (refine blkP.ini ?_; repeat (refine blkP.mk ?_; (try simp (disch := first | omega | (simp only [LN]; omega)) only [↓EC, EW, seval, ↓reduceIte, ↓EBD, EBE])))
        exact ⟨(_, i - 1, a2, z2), rfl, rfl, ⟨by assumption, lo16_set (lo16_set h2 b2) b1, by simp only; omega⟩, by simp only; omega⟩
      · (refine blkP.ini ?_; repeat (refine blkP.mk ?_; (try simp (disch := first | omega | (simp only [LN]; omega)) only [↓EC, EW, seval, ↓reduceIte, ↓EBD, EBE])))
        exact ⟨p, a, z, rfl, rfl, h1, h2⟩
theorem c_spec_l01Pairs {x : Value} {l : List Int} {a z n m : Int} (hn : 1 ≤ n ∧ n ≤ 16) (hm : m ≤ 1000) (hs : okS l a) : PSpecM Tryz.prog 93 [.ptr 0 0, .int .i64 n, .int .i64 m] [(0, 99, 1)] [srcC x l a z] fun v c =>
    ∃ p a' z', v = .agg (vi .u8 p) ∧ c = [srcC x l a' z'] ∧ okS l a' ∧ lo16 p := by
  refine spec_l01Pairs_f.m rfl rfl ?_
  unfold srcC
  dsimp only [spec_l01Pairs_F, pcal_B, pcalp_B, pcala_B, pcond_B, pgk_B, JN_B, LP_B]
  (refine blkP.ini ?_; repeat (refine blkP.mk ?_; (try simp (disch := first | omega | (simp only [LN]; omega)) only [↓EC, EW, seval, ↓reduceIte, ↓EBD, EBE])))
  (refine pcm [0] rfl ?_; (refine blkP.ini ?_; repeat (refine blkP.mk ?_; (try simp (disch := first | omega | (simp only [LN]; omega)) only [↓EC, EW, seval, ↓reduceIte, ↓EBD, EBE]))); refine callM_d (c_spec_l01DrawPlaces hn (by assumption)) ?_; rintro _ _ ⟨o, a1, z1, rfl, rfl, hs_, ho⟩; (refine blkP.ini ?_; repeat (refine blkP.mk ?_; (try simp (disch := first | omega | (simp only [LN]; omega)) only [↓EC, EW, seval, ↓reduceIte, ↓EBD, EBE, srcC]))))
  refine pcd_v (c_spec_l01Same hn) ?_
  have hl0 := sameP_lo hn
  have hlf := putL_len sameF n.toNat
  have hol := ho.1
  (refine blkP.ini ?_; repeat (refine blkP.mk ?_; (try simp (disch := first | omega | (simp only [LN]; omega)) only [↓EC, EW, seval, ↓reduceIte, ↓EBD, EBE])))
  refine LPx_of (σ := List Int × Int × Int × Int) 100000 [(0, 99, 1), (70, 25, 1), (71, 25, 1), (72, 25, 1)] (fun s => [.int .i64 s.2.1]) (fun s => [srcC x l s.2.2.1 s.2.2.2, vi .u8 (List.replicate 16 0), vi .u8 o, vi .u8 s.1])
    (fun s => okS l s.2.2.1 ∧ lo16 s.1 ∧ 0 ≤ s.2.1 ∧ s.2.1 ≤ n) (fun s => (n - s.2.1).toNat) (putL sameF n.toNat, 0, a1, z1) (by simp [frameOk, names, lpz, sclp, scv, scvs, nrfs, nrf, FRB]) ⟨by assumption, hl0, by simp only; omega⟩ ?_ ?_
  · (refine blkP.ini ?_; repeat (refine blkP.mk ?_; simp (disch := first | omega | (simp only [LN]; omega)) only [↓EC, EW, seval, ↓reduceIte, ↓EBD, EBE, ColV_def, srcC]))
  · rintro ⟨p, t, a, z⟩ ⟨h1, h2, h3, h4⟩
    simp only at h1 h2 h3 h4
    have hpl := h2.1
    (refine blkP.ini ?_; repeat (refine blkP.mk ?_; simp (disch := first | omega | (simp only [LN]; omega)) only [↓EC, EW, seval, ↓reduceIte, ↓EBD, EBE, ColV_def, lheap_def, srcC]))
    (refine Split.mkB (fun h => ?_) (fun h => ?_) <;> (try simp only [SD] at h))
    · (refine blkP.ini ?_; repeat (refine blkP.mk ?_; (try simp (disch := first | omega | (simp only [LN]; omega)) only [↓EC, EW, seval, ↓reduceIte, ↓EBD, EBE])))
      (refine pcm [0] rfl ?_; (refine blkP.ini ?_; repeat (refine blkP.mk ?_; (try simp (disch := first | omega | (simp only [LN]; omega)) only [↓EC, EW, seval, ↓reduceIte, ↓EBD, EBE]))); refine callM_d (c_spec_l01Next (by assumption) (by omega)) ?_; rintro _ _ ⟨r2, _, _, rfl, rfl, hs_, hr_⟩; (refine blkP.ini ?_; repeat (refine blkP.mk ?_; (try simp (disch := first | omega | (simp only [LN]; omega)) only [↓EC, EW, seval, ↓reduceIte, ↓EBD, EBE, srcC]))))
      rename_i a2 z2
      (refine blkP.ini ?_; repeat (refine blkP.mk ?_; (try simp (disch := first | omega | (simp only [LN]; omega)) only [↓EC, EW, seval, ↓reduceIte, ↓EBD, EBE])))
      generalize hmn : (if n - t < 1 + r2 then n - t else 1 + r2) = k at *
      have hk : 1 ≤ k ∧ k ≤ n - t := by rw [← hmn]; split <;> omega
      refine LPx_of (σ := List Int × Int) 200000 [(0, 99, 1), (70, 25, 1), (71, 25, 1), (72, 25, 1)] (fun s => [.int .i64 s.2]) (fun s => [srcC x l a2 z2, vi .u8 (List.replicate 16 0), vi .u8 o, vi .u8 s.1])
        (fun s => lo16 s.1 ∧ 0 ≤ s.2 ∧ s.2 ≤ k) (fun s => (k - s.2).toNat) (p, 0) (by simp [frameOk, names, lpz, sclp, scv, scvs, nrfs, nrf, FRB]) ⟨h2, by simp only; omega⟩ ?_ ?_
      · (refine blkP.ini ?_; repeat (refine blkP.mk ?_; simp (disch := first | omega | (simp only [LN]; omega)) only [↓EC, EW, seval, ↓reduceIte, ↓EBD, EBE, ColV_def, srcC]))
      · rintro ⟨p, i⟩ ⟨h5, h6, h7⟩
        simp only at h5 h6 h7
        have hpl := h5.1
        (refine blkP.ini ?_; repeat (refine blkP.mk ?_; simp (disch := first | omega | (simp only [LN]; omega)) only [↓EC, EW, seval, ↓reduceIte, ↓EBD, EBE, ColV_def, lheap_def, srcC]))
        (refine Split.mkB (fun h => ?_) (fun h => ?_) <;> (try simp only [SD] at h))
        · have hr : 0 ≤ (i + 1).tmod k ∧ (i + 1).tmod k < k := ⟨Int.tmod_nonneg _ (by omega), Int.tmod_lt_of_pos _ (by omega)⟩
          generalize hq : (i + 1).tmod k = q at *
          have b1 := ho.2 (t + i).toNat (by omega)
          have b2 := ho.2 (t + q).toNat (by omega)
          (refine blkP.ini ?_; repeat (refine blkP.mk ?_; (try simp (disch := first | omega | (simp only [LN]; omega)) only [↓EC, EW, seval, ↓reduceIte, ↓EBD, EBE, hq])))
          exact ⟨(_, i + 1), rfl, rfl, ⟨lo16_set h5 b2, by simp only; omega⟩, by simp only; omega⟩
        · (refine blkP.ini ?_; repeat (refine blkP.mk ?_; (try simp (disch := first | omega | (simp only [LN]; omega)) only [↓EC, EW, seval, ↓reduceIte, ↓EBD, EBE])))
          exact ⟨(p, t + k, a2, z2), rfl, rfl, ⟨by assumption, h5, by simp only; omega⟩, by simp only; omega⟩
    · (refine blkP.ini ?_; repeat (refine blkP.mk ?_; (try simp (disch := first | omega | (simp only [LN]; omega)) only [↓EC, EW, seval, ↓reduceIte, ↓EBD, EBE])))
      exact ⟨p, a, z, rfl, rfl, h1, h2⟩
theorem c_spec_l01Turn {n : Int} (hn : 1 ≤ n ∧ n ≤ 16) : PSpec Tryz.prog 72 [.int .i64 n] fun v => ∃ p, v = .agg (vi .u8 p) ∧ lo16 p := by
  refine spec_l01Turn_f.f ?_
  simp (disch := first | omega | (simp only [LN]; omega)) only [↓EC, EW, seval, ↓reduceIte, spec_l01Turn_F]
  refine LP_of (σ := List Int × Nat) 100000 [(66, 25, 1), (67, 25, 1)] (fun s => [.int .i64 s.2]) (fun s => [vi .u8 (List.replicate 16 0), vi .u8 s.1])
    (fun s => lo16 s.1 ∧ (s.2 : Int) ≤ n) (fun s => (n - s.2).toNat) (List.replicate 16 0, 0) (by simp [frameOk, names, lpz, sclp, scv, scvs, nrfs, nrf, FRB]) ⟨lo16_zero, by simp only [Int.natCast_zero]; omega⟩ ?_ ?_
  · simp (disch := first | omega | (simp only [LN]; omega)) only [↓EC, EW, seval, ↓reduceIte, ColV_def]
    trace_state
  · rintro ⟨p, i⟩ ⟨h1, h2⟩
    simp only at h1 h2
    have hpl := h1.1
    simp (disch := first | omega | (simp only [LN]; omega)) only [↓EC, EW, seval, ↓reduceIte, ColV_def, lheap_def]
    (refine Split.mk (fun h => ?_) (fun h => ?_) <;> (try simp only [SD] at h))
    · have hr : 0 ≤ ((i : Int) + 1).tmod n ∧ ((i : Int) + 1).tmod n < n := ⟨Int.tmod_nonneg _ (by omega), Int.tmod_lt_of_pos _ (by omega)⟩
      generalize hq : ((i : Int) + 1).tmod n = q at *
      (try simp (disch := first | omega | (simp only [LN]; omega)) only [↓EC, EW, seval, ↓reduceIte, hq])
      exact ⟨(_, i + 1), rfl, rfl, ⟨lo16_set h1 (by omega), by simp only; omega⟩, by simp only; omega⟩
    · (try simp (disch := first | omega | (simp only [LN]; omega)) only [↓EC, EW, seval, ↓reduceIte])
      exact ⟨p, rfl, h1⟩
theorem c_spec_l01Star {n : Int} (hn : 1 ≤ n ∧ n ≤ 16) : PSpec Tryz.prog 46 [.int .i64 n] fun v => ∃ p q, v = vD n p q ∧ lo16 p ∧ lo16 q := by
  refine spec_l01Star_f.f ?_
  simp (disch := first | omega | (simp only [LN]; omega)) only [↓EC, EW, seval, ↓reduceIte, spec_l01Star_F]
  refine pcd_r (c_spec_l01Turn hn) ?_
  rintro v ⟨p, rfl, hp⟩
  have hpl := hp.1
  (try simp (disch := first | omega | (simp only [LN]; omega)) only [↓EC, EW, seval, ↓reduceIte])
  (refine pcd_v (c_spec_l01Same hn) ?_; (try simp (disch := first | omega | (simp only [LN]; omega)) only [↓EC, EW, seval, ↓reduceIte]))
  have hq := sameP_lo hn
  have hlf := putL_len sameF n.toNat
  (try simp (disch := first | omega | (simp only [LN]; omega)) only [↓EC, EW, seval, ↓reduceIte])
  exact ⟨p, putL sameF n.toNat, rfl, hp, hq⟩
/-- The places of a dessin, told together. -/
def okL (L : List Int) : Prop := L.length = 32 ∧ ∀ i, i < 32 → 0 ≤ gi L i ∧ gi L i ≤ 255
theorem okL_of {p q : List Int} (hp : okP p) (hq : okP q) : okL (p ++ q) := ⟨by simp [hp.1, hq.1], fun i hi => by
  have := hp.1
  rw [gi_app]; split
  · exact hp.2 i (by omega)
  · exact hq.2 _ (by omega)⟩
theorem okL_set {L : List Int} (h : okL L) {i : Nat} {y : Int} (hy : 0 ≤ y ∧ y ≤ 255) : okL (L.set i y) := ⟨by simp [h.1], fun j hj => by
  rw [gi_set]; split
  · exact hy
  · exact h.2 j hj⟩
theorem okL_vD {n : Int} {L : List Int} (h : okL L) : ∃ b w, V.agg (.int .i64 n :: vi .u8 L) = vD n b w ∧ okP b ∧ okP w := by
  have h1 := h.1
  refine ⟨L.take 16, L.drop 16, by unfold vD; rw [List.take_append_drop], ⟨by simp [h1], fun i hi => ?_⟩, ⟨by simp [h1], fun i hi => ?_⟩⟩
  · have e : gi (L.take 16) i = gi L i := by simp only [gi, List.getD, List.getElem?_take, if_pos hi]
    rw [e]; exact h.2 i (by omega)
  · have e : gi (L.drop 16) i = gi L (16 + i) := by simp only [gi, List.getD, List.getElem?_drop]
    rw [e]; exact h.2 _ (by omega)
theorem okL_tk {L : List Int} (h : okL L) : okP (L.take 16) := ⟨by simp [h.1], fun i hi => by
  have e : gi (L.take 16) i = gi L i := by simp only [gi, List.getD, List.getElem?_take, if_pos hi]
  rw [e]; exact h.2 i (by omega)⟩
theorem c_spec_l01Draw {x : Value} {l : List Int} {a z m : Int} (hm : 1 ≤ m ∧ m ≤ 16) (hs : okS l a) : PSpecM Tryz.prog 86 [.ptr 0 0, .int .i64 m] [(0, 99, 1)] [srcC x l a z] fun v c =>
    ∃ n p q a' z', v = vD n p q ∧ c = [srcC x l a' z'] ∧ okS l a' ∧ lo16 p ∧ lo16 q ∧ 1 ≤ n ∧ n ≤ m := by
  refine spec_l01Draw_f.m rfl rfl ?_
  unfold srcC
  dsimp only [spec_l01Draw_F, pcal_B, pcalp_B, pcala_B, pcond_B, pgk_B, JN_B, LP_B]
  (refine blkP.ini ?_; repeat (refine blkP.mk ?_; (try simp (disch := first | omega | (simp only [LN]; omega)) only [↓EC, EW, seval, ↓reduceIte, ↓EBD, EBE])))
  (refine pcm [0] rfl ?_; (refine blkP.ini ?_; repeat (refine blkP.mk ?_; (try simp (disch := first | omega | (simp only [LN]; omega)) only [↓EC, EW, seval, ↓reduceIte, ↓EBD, EBE]))); refine callM_d (c_spec_l01Next (by assumption) (by omega)) ?_; rintro _ _ ⟨r1, _, _, rfl, rfl, hs_, hr_⟩; (refine blkP.ini ?_; repeat (refine blkP.mk ?_; (try simp (disch := first | omega | (simp only [LN]; omega)) only [↓EC, EW, seval, ↓reduceIte, ↓EBD, EBE, srcC]))))
  rename_i a1 z1
  have hn : 1 ≤ 1 + r1 ∧ 1 + r1 ≤ 16 := by omega
  have hnm : 1 + r1 ≤ m := by omega
  generalize 1 + r1 = n at *
  refine LPx_of (σ := Int × Int × Int) 100000 [(0, 99, 1), (68, 27, 1)] (fun s => [.int .i64 s.1]) (fun s => [srcC x l s.2.1 s.2.2, .int .i64 0 :: vi .u8 (List.replicate 32 0)])
    (fun s => okS l s.2.1 ∧ 0 ≤ s.1 ∧ s.1 ≤ 8) (fun s => (8 - s.1).toNat) (0, a1, z1) (by simp [frameOk, names, lpz, sclp, scv, scvs, nrfs, nrf, FRB]) ⟨by assumption, by simp only; omega⟩ ?_ ?_
  · (refine blkP.ini ?_; repeat (refine blkP.mk ?_; simp (disch := first | omega | (simp only [LN]; omega)) only [↓EC, EW, seval, ↓reduceIte, ↓EBD, EBE, ColV_def, srcC]))
  · rintro ⟨k, a, z⟩ ⟨h1, h2, h3⟩
    simp only at h1 h2 h3
    (refine blkP.ini ?_; repeat (refine blkP.mk ?_; simp (disch := first | omega | (simp only [LN]; omega)) only [↓EC, EW, seval, ↓reduceIte, ↓EBD, EBE, ColV_def, lheap_def, srcC]))
    (refine Split.mkB (fun h => ?_) (fun h => ?_) <;> (try simp only [SD] at h))
    · (refine blkP.ini ?_; repeat (refine blkP.mk ?_; (try simp (disch := first | omega | (simp only [LN]; omega)) only [↓EC, EW, seval, ↓reduceIte, ↓EBD, EBE])))
      (refine pcm [0] rfl ?_; (refine blkP.ini ?_; repeat (refine blkP.mk ?_; (try simp (disch := first | omega | (simp only [LN]; omega)) only [↓EC, EW, seval, ↓reduceIte, ↓EBD, EBE]))); refine callM_d (c_spec_l01Pick (m := [2, 3, 4, n]) (by assumption) (by simp) (by simp)) ?_; rintro _ _ ⟨y1, _, _, hy_, rfl, rfl, hs_⟩; simp only [List.mem_cons, List.not_mem_nil, or_false] at hy_; (refine blkP.ini ?_; repeat (refine blkP.mk ?_; (try simp (disch := first | omega | (simp only [LN]; omega)) only [↓EC, EW, seval, ↓reduceIte, ↓EBD, EBE, srcC]))))
      (refine pcm [0] rfl ?_; (refine blkP.ini ?_; repeat (refine blkP.mk ?_; (try simp (disch := first | omega | (simp only [LN]; omega)) only [↓EC, EW, seval, ↓reduceIte, ↓EBD, EBE]))); refine callM_d (c_spec_l01Pairs (n := n) (m := y1) (by omega) (by omega) (by assumption)) ?_; rintro _ _ ⟨p, a2, z2, rfl, rfl, hs_, hp⟩; (refine blkP.ini ?_; repeat (refine blkP.mk ?_; (try simp (disch := first | omega | (simp only [LN]; omega)) only [↓EC, EW, seval, ↓reduceIte, ↓EBD, EBE, srcC]))))
      (refine pcm [0] rfl ?_; (refine blkP.ini ?_; repeat (refine blkP.mk ?_; (try simp (disch := first | omega | (simp only [LN]; omega)) only [↓EC, EW, seval, ↓reduceIte, ↓EBD, EBE]))); refine callM_d (c_spec_l01Pick (m := [2, 2, 3, n]) (by assumption) (by simp) (by simp)) ?_; rintro _ _ ⟨y2, _, _, hy_, rfl, rfl, hs_⟩; simp only [List.mem_cons, List.not_mem_nil, or_false] at hy_; (refine blkP.ini ?_; repeat (refine blkP.mk ?_; (try simp (disch := first | omega | (simp only [LN]; omega)) only [↓EC, EW, seval, ↓reduceIte, ↓EBD, EBE, srcC]))))
      (refine pcm [0] rfl ?_; (refine blkP.ini ?_; repeat (refine blkP.mk ?_; (try simp (disch := first | omega | (simp only [LN]; omega)) only [↓EC, EW, seval, ↓reduceIte, ↓EBD, EBE]))); refine callM_d (c_spec_l01Pairs (n := n) (m := y2) (by omega) (by omega) (by assumption)) ?_; rintro _ _ ⟨q, a3, z3, rfl, rfl, hs_, hq⟩; (refine blkP.ini ?_; repeat (refine blkP.mk ?_; (try simp (disch := first | omega | (simp only [LN]; omega)) only [↓EC, EW, seval, ↓reduceIte, ↓EBD, EBE, srcC]))))
      have hpl := hp.1
      have hql := hq.1
      (refine blkP.ini ?_; repeat (refine blkP.mk ?_; (try simp (disch := first | omega | (simp only [LN]; omega)) only [↓EC, EW, seval, ↓reduceIte, ↓EBD, EBE])))
      refine pcd_v (c_spec_l01Is (n := n) (b := p) (w := q) (lo16_okP hp) (lo16_okP hq)) ?_
      (refine blkP.ini ?_; repeat (refine blkP.mk ?_; (try simp (disch := first | omega | (simp only [LN]; omega)) only [↓EC, EW, seval, ↓reduceIte, ↓EBD, EBE])))
      (refine Split.mkB (fun h => ?_) (fun h => ?_) <;> (try simp only [SD] at h))
      · (refine blkP.ini ?_; repeat (refine blkP.mk ?_; (try simp (disch := first | omega | (simp only [LN]; omega)) only [↓EC, EW, seval, ↓reduceIte, ↓EBD, EBE])))
        exact ⟨n, p, q, _, _, rfl, rfl, by assumption, hp, hq, by omega, by omega⟩
      · (refine blkP.ini ?_; repeat (refine blkP.mk ?_; (try simp (disch := first | omega | (simp only [LN]; omega)) only [↓EC, EW, seval, ↓reduceIte, ↓EBD, EBE])))
        exact ⟨(k + 1, a3, z3), rfl, rfl, ⟨by assumption, by simp only; omega⟩, by simp only; omega⟩
    · (refine blkP.ini ?_; repeat (refine blkP.mk ?_; (try simp (disch := first | omega | (simp only [LN]; omega)) only [↓EC, EW, seval, ↓reduceIte, ↓EBD, EBE])))
      refine pcd_r (c_spec_l01Star (n := n) (by omega)) ?_
      rintro v ⟨p, q, rfl, hp, hq⟩
      have hpl := hp.1
      have hql := hq.1
      (refine blkP.ini ?_; repeat (refine blkP.mk ?_; (try simp (disch := first | omega | (simp only [LN]; omega)) only [↓EC, EW, seval, ↓reduceIte, ↓EBD, EBE, vD])))
      (refine pcm [0] rfl ?_; (refine blkP.ini ?_; repeat (refine blkP.mk ?_; (try simp (disch := first | omega | (simp only [LN]; omega)) only [↓EC, EW, seval, ↓reduceIte, ↓EBD, EBE]))); refine callM_d (c_spec_l01DrawPlaces (n := n) (by omega) (by assumption)) ?_; rintro _ _ ⟨q', a3, z3, rfl, rfl, hs_, hq'⟩; (refine blkP.ini ?_; repeat (refine blkP.mk ?_; (try simp (disch := first | omega | (simp only [LN]; omega)) only [↓EC, EW, seval, ↓reduceIte, ↓EBD, EBE, srcC]))))
      have hql' := hq'.1
      (refine blkP.ini ?_; repeat (refine blkP.mk ?_; (try simp (disch := first | omega | (simp only [LN]; omega)) only [↓EC, EW, seval, ↓reduceIte, ↓EBD, EBE])))
      exact ⟨n, p, q', _, _, rfl, rfl, by assumption, hp, hq', by omega, by omega⟩
theorem c_spec_l01Spoil {x : Value} {l : List Int} {a z m : Int} (hm : 1 ≤ m ∧ m ≤ 16) (hs : okS l a) : PSpecM Tryz.prog 74 [.ptr 0 0, .int .i64 m] [(0, 99, 1)] [srcC x l a z] fun v c =>
    ∃ n p q a' z', v = vD n p q ∧ c = [srcC x l a' z'] ∧ okS l a' ∧ okP p ∧ okP q ∧ -1 ≤ n ∧ n ≤ 17 := by
  refine spec_l01Spoil_f.m rfl rfl ?_
  unfold srcC
  dsimp only [spec_l01Spoil_F, pcal_B, pcalp_B, pcala_B, pcond_B, pgk_B, JN_B, LP_B]
  (refine blkP.ini ?_; repeat (refine blkP.mk ?_; (try simp (disch := first | omega | (simp only [LN]; omega)) only [↓EC, EW, seval, ↓reduceIte, ↓EBD, EBE])))
  (refine pcm [0] rfl ?_; (refine blkP.ini ?_; repeat (refine blkP.mk ?_; (try simp (disch := first | omega | (simp only [LN]; omega)) only [↓EC, EW, seval, ↓reduceIte, ↓EBD, EBE]))); refine callM_d (c_spec_l01Draw hm (by assumption)) ?_; rintro _ _ ⟨n, p, q, a1, z1, rfl, rfl, hs_, hp, hq, hn, hnm⟩; (refine blkP.ini ?_; repeat (refine blkP.mk ?_; (try simp (disch := first | omega | (simp only [LN]; omega)) only [↓EC, EW, seval, ↓reduceIte, ↓EBD, EBE, srcC]))))
  have hpl := hp.1
  have hql := hq.1
  have hL := okL_of (lo16_okP hp) (lo16_okP hq)
  have hb0 := hp.2 0 (by omega)
  (refine blkP.ini ?_; repeat (refine blkP.mk ?_; (try simp (disch := first | omega | (simp only [LN]; omega)) only [↓EC, EW, seval, ↓reduceIte, ↓EBD, EBE, vD])))
  generalize p ++ q = L at *
  refine JNx_un ?_
  (refine blkP.ini ?_; repeat (refine blkP.mk ?_; (try simp (disch := first | omega | (simp only [LN]; omega)) only [↓EC, EW, seval, ↓reduceIte, ↓EBD, EBE])))
  (refine pcm [0] rfl ?_; (refine blkP.ini ?_; repeat (refine blkP.mk ?_; (try simp (disch := first | omega | (simp only [LN]; omega)) only [↓EC, EW, seval, ↓reduceIte, ↓EBD, EBE]))); refine callM_d (c_spec_l01Next (by assumption) (by omega)) ?_; rintro _ _ ⟨r1, _, _, rfl, rfl, hs_, hr_⟩; (refine blkP.ini ?_; repeat (refine blkP.mk ?_; (try simp (disch := first | omega | (simp only [LN]; omega)) only [↓EC, EW, seval, ↓reduceIte, ↓EBD, EBE, srcC]))))
  have hLl := hL.1
  have fin : ∀ {n' : Int} {L' : List Int} {a' z' : Int}, okS l a' → okL L' → -1 ≤ n' ∧ n' ≤ 17 → ∃ n p q a'' z'', V.agg (V.int IntKind.i64 n' :: vi IntKind.u8 L') = V.agg (V.int IntKind.i64 n :: vi IntKind.u8 (p ++ q)) ∧
      [[V.fz x l, V.int IntKind.i64 a', V.int IntKind.u64 z']] = [[V.fz x l, V.int IntKind.i64 a'', V.int IntKind.u64 z'']] ∧ okS l a'' ∧ okP p ∧ okP q ∧ -1 ≤ n ∧ n ≤ 17 := by
    intro n' L' a' z' h1 h2 h3
    obtain ⟨b, w, e, ob, ow⟩ := okL_vD (n := n') h2
    exact ⟨n', b, w, a', z', e, rfl, h1, ob, ow, h3⟩
  (refine Split.mkB (fun h => ?_) (fun h => ?_) <;> (try simp only [SD] at h))
  · (refine blkP.ini ?_; repeat (refine blkP.mk ?_; (try simp (disch := first | omega | (simp only [LN]; omega)) only [↓EC, EW, seval, ↓reduceIte, ↓EBD, EBE])))
    exact fin (by assumption) (okL_set hL (by simp [IntKind.wrap, IntKind.signed, IntKind.bits]; omega)) (by omega)
  · (refine blkP.ini ?_; repeat (refine blkP.mk ?_; (try simp (disch := first | omega | (simp only [LN]; omega)) only [↓EC, EW, seval, ↓reduceIte, ↓EBD, EBE])))
    (refine Split.mkB (fun h => ?_) (fun h => ?_) <;> (try simp only [SD] at h))
    · (refine blkP.ini ?_; repeat (refine blkP.mk ?_; (try simp (disch := first | omega | (simp only [LN]; omega)) only [↓EC, EW, seval, ↓reduceIte, ↓EBD, EBE])))
      (refine pcm [0] rfl ?_; (refine blkP.ini ?_; repeat (refine blkP.mk ?_; (try simp (disch := first | omega | (simp only [LN]; omega)) only [↓EC, EW, seval, ↓reduceIte, ↓EBD, EBE]))); refine callM_d (c_spec_l01Pick (m := [0, 17, -1, n + 1, n - 1]) (by assumption) (by simp) (by simp)) ?_; rintro _ _ ⟨y1, _, _, hy_, rfl, rfl, hs_⟩; simp only [List.mem_cons, List.not_mem_nil, or_false] at hy_; (refine blkP.ini ?_; repeat (refine blkP.mk ?_; (try simp (disch := first | omega | (simp only [LN]; omega)) only [↓EC, EW, seval, ↓reduceIte, ↓EBD, EBE, srcC]))))
      (refine blkP.ini ?_; repeat (refine blkP.mk ?_; (try simp (disch := first | omega | (simp only [LN]; omega)) only [↓EC, EW, seval, ↓reduceIte, ↓EBD, EBE])))
      exact fin (by assumption) hL (by omega)
    · (refine blkP.ini ?_; repeat (refine blkP.mk ?_; (try simp (disch := first | omega | (simp only [LN]; omega)) only [↓EC, EW, seval, ↓reduceIte, ↓EBD, EBE])))
      (refine Split.mkB (fun h => ?_) (fun h => ?_) <;> (try simp only [SD] at h))
      · (refine blkP.ini ?_; repeat (refine blkP.mk ?_; (try simp (disch := first | omega | (simp only [LN]; omega)) only [↓EC, EW, seval, ↓reduceIte, ↓EBD, EBE])))
        rw [if_neg (show ¬ 16 < n by omega)]
        refine pcd_v (c_spec_l01Same (n := n) (by omega)) ?_
        have hq := sameP_lo (n := n) (by omega)
        have hlf := putL_len sameF n.toNat
        (refine blkP.ini ?_; repeat (refine blkP.mk ?_; (try simp (disch := first | omega | (simp only [LN]; omega)) only [↓EC, EW, seval, ↓reduceIte, ↓EBD, EBE])))
        exact fin (by assumption) (okL_of (okL_tk hL) (lo16_okP hq)) (by omega)
      · (refine blkP.ini ?_; repeat (refine blkP.mk ?_; (try simp (disch := first | omega | (simp only [LN]; omega)) only [↓EC, EW, seval, ↓reduceIte, ↓EBD, EBE])))
        (refine Split.mkB (fun h => ?_) (fun h => ?_) <;> (try simp only [SD] at h))
        · (refine blkP.ini ?_; repeat (refine blkP.mk ?_; (try simp (disch := first | omega | (simp only [LN]; omega)) only [↓EC, EW, seval, ↓reduceIte, ↓EBD, EBE])))
          (refine pcm [0] rfl ?_; (refine blkP.ini ?_; repeat (refine blkP.mk ?_; (try simp (disch := first | omega | (simp only [LN]; omega)) only [↓EC, EW, seval, ↓reduceIte, ↓EBD, EBE]))); refine callM_d (c_spec_l01Pick (m := [1, 255]) (by assumption) (by simp) (by simp)) ?_; rintro _ _ ⟨y1, _, _, hy_, rfl, rfl, hs_⟩; simp only [List.mem_cons, List.not_mem_nil, or_false] at hy_; (refine blkP.ini ?_; repeat (refine blkP.mk ?_; (try simp (disch := first | omega | (simp only [LN]; omega)) only [↓EC, EW, seval, ↓reduceIte, ↓EBD, EBE, srcC]))))
          (refine blkP.ini ?_; repeat (refine blkP.mk ?_; (try simp (disch := first | omega | (simp only [LN]; omega)) only [↓EC, EW, seval, ↓reduceIte, ↓EBD, EBE])))
          exact fin (by assumption) (okL_set hL (by omega)) (by omega)
        · (refine blkP.ini ?_; repeat (refine blkP.mk ?_; (try simp (disch := first | omega | (simp only [LN]; omega)) only [↓EC, EW, seval, ↓reduceIte, ↓EBD, EBE])))
          exact fin (by assumption) hL (by omega)
end Go.Proofs.YtjklebickfcddaaGreatDoor.Sep
end
section
/- Draws of coverings and of walks. -/
namespace Go.Proofs.YtjklebickfcddaaGreatDoor.Sep
open Go.RowKit
set_option linter.unusedVariables false
set_option linter.unusedSimpArgs false
set_option maxRecDepth 20000
set_option maxHeartbeats 4000000

/-- A call whose result is one's own, told by a relation. -/
theorem pcd_ro {P : Program} {f : FuncId} {d : Nat} {h : Hp} {K : V → Hp → Prop} {ws o : List V} {m : Bool} {Φ : V → Prop} (hs : PSpec P f ws Φ) (hK : ∀ v, Φ v → Rq (allFree h (mat v d).2.1) (K (mat v d).1 (hputs h (mat v d).2.1))) : pcd P f d h K ws m o :=
  .inl (.inl ⟨_, hs, .inr hK⟩)
theorem pcnf' {P : Program} {f : FuncId} {d : Nat} {h : Hp} {K : V → Hp → Prop} {ws : List V} {b n : Nat} {e : TypeId} {l : List Int} {Φ : Value → TypeId → List V → Prop} (hn : n = l.length) (hs : ∀ x, PSpecB P f [.fz x l] (Φ x)) (hb : h b = .row e 1 (l.map (V.int .u8)))
    (hK : ∀ x e' c, Φ x e' c → Rq (h d = .free) (K (.ptr d 0) (hput (hput h b .dead) d (.row e' 1 c)))) : pcd P f d h K ws true [.rf b 0 n] := by
  subst hn; exact pcnf hs hb hK
theorem mats_vi {k : IntKind} {c : Nat} : ∀ {l : List Int}, mats (vi k l) c = (vi k l, [], c)
  | [] => by simp [vi, mats]
  | a :: l => by
    have ih := mats_vi (k := k) (c := c) (l := l)
    simp only [vi, List.map_cons] at ih ⊢
    rw [mats_cons, mat_int, ih]; rfl
theorem c_spec_l09Draw {x : Value} {l : List Int} {a z m : Int} (hm : 1 ≤ m ∧ m ≤ 16) (hs : okS l a) : PSpecM Tryz.prog 47 [.ptr 0 0, .int .i64 m] [(0, 99, 1)] [srcC x l a z] fun v c =>
    ∃ n p q a' z', v = vD n p q ∧ c = [srcC x l a' z'] ∧ okS l a' ∧ okP p ∧ okP q ∧ -1 ≤ n ∧ n ≤ 17 := by
  refine spec_l09Draw_f.m rfl rfl ?_
  unfold srcC
  dsimp only [spec_l09Draw_F, pcal_B, pcalp_B, pcala_B, pcond_B, pgk_B, JN_B, LP_B]
  (refine blkP.ini ?_; repeat (refine blkP.mk ?_; (try simp (disch := first | omega | (simp only [LN]; omega)) only [↓EC, EW, seval, ↓reduceIte, ↓EBD, EBE])))
  (refine pcm [0] rfl ?_; (refine blkP.ini ?_; repeat (refine blkP.mk ?_; (try simp (disch := first | omega | (simp only [LN]; omega)) only [↓EC, EW, seval, ↓reduceIte, ↓EBD, EBE]))); refine callM_d (c_spec_l01Next (by assumption) (by omega)) ?_; rintro _ _ ⟨r1, _, _, rfl, rfl, hs_, hr_⟩; (refine blkP.ini ?_; repeat (refine blkP.mk ?_; (try simp (disch := first | omega | (simp only [LN]; omega)) only [↓EC, EW, seval, ↓reduceIte, ↓EBD, EBE, srcC]))))
  (refine pcm [0] rfl ?_; (refine blkP.ini ?_; repeat (refine blkP.mk ?_; (try simp (disch := first | omega | (simp only [LN]; omega)) only [↓EC, EW, seval, ↓reduceIte, ↓EBD, EBE]))); refine callM_d (c_spec_l01Next (by assumption) (by omega)) ?_; rintro _ _ ⟨r2, _, _, rfl, rfl, hs_, hr_⟩; (refine blkP.ini ?_; repeat (refine blkP.mk ?_; (try simp (disch := first | omega | (simp only [LN]; omega)) only [↓EC, EW, seval, ↓reduceIte, ↓EBD, EBE, srcC]))))
  rename_i a1 z1
  (refine Split.mkB (fun h => ?_) (fun h => ?_) <;> (try simp only [SD] at h))
  · (refine blkP.ini ?_; repeat (refine blkP.mk ?_; (try simp (disch := first | omega | (simp only [LN]; omega)) only [↓EC, EW, seval, ↓reduceIte, ↓EBD, EBE])))
    refine pcd_r (c_spec_l01Star (n := 1 + r1) (by omega)) ?_
    rintro v ⟨p, q, rfl, hp, hq⟩
    have hpl := hp.1
    have hql := hq.1
    (refine blkP.ini ?_; repeat (refine blkP.mk ?_; (try simp (disch := first | omega | (simp only [LN]; omega)) only [↓EC, EW, seval, ↓reduceIte, ↓EBD, EBE, vD])))
    (refine pcm [0] rfl ?_; (refine blkP.ini ?_; repeat (refine blkP.mk ?_; (try simp (disch := first | omega | (simp only [LN]; omega)) only [↓EC, EW, seval, ↓reduceIte, ↓EBD, EBE]))); refine callM_d (c_spec_l01DrawPlaces (n := 1 + r1) (by omega) (by assumption)) ?_; rintro _ _ ⟨q', a3, z3, rfl, rfl, hs_, hq'⟩; (refine blkP.ini ?_; repeat (refine blkP.mk ?_; (try simp (disch := first | omega | (simp only [LN]; omega)) only [↓EC, EW, seval, ↓reduceIte, ↓EBD, EBE, srcC]))))
    have hql' := hq'.1
    (refine blkP.ini ?_; repeat (refine blkP.mk ?_; (try simp (disch := first | omega | (simp only [LN]; omega)) only [↓EC, EW, seval, ↓reduceIte, ↓EBD, EBE])))
    exact ⟨_, p, q', _, _, rfl, rfl, by assumption, lo16_okP hp, lo16_okP hq', by omega, by omega⟩
  · (refine blkP.ini ?_; repeat (refine blkP.mk ?_; (try simp (disch := first | omega | (simp only [LN]; omega)) only [↓EC, EW, seval, ↓reduceIte, ↓EBD, EBE])))
    (refine pcm [0] rfl ?_; (refine blkP.ini ?_; repeat (refine blkP.mk ?_; (try simp (disch := first | omega | (simp only [LN]; omega)) only [↓EC, EW, seval, ↓reduceIte, ↓EBD, EBE]))); refine callM_d (c_spec_l01Spoil hm (by assumption)) ?_; rintro _ _ ⟨n, p, q, a3, z3, rfl, rfl, hs_, hp, hq, hn, hn'⟩; (refine blkP.ini ?_; repeat (refine blkP.mk ?_; (try simp (disch := first | omega | (simp only [LN]; omega)) only [↓EC, EW, seval, ↓reduceIte, ↓EBD, EBE, srcC]))))
    have hpl := hp.1
    have hql := hq.1
    (refine blkP.ini ?_; repeat (refine blkP.mk ?_; (try simp (disch := first | omega | (simp only [LN]; omega)) only [↓EC, EW, seval, ↓reduceIte, ↓EBD, EBE, vD])))
    exact ⟨_, p, q, _, _, rfl, rfl, by assumption, hp, hq, hn, hn'⟩
theorem c_spec_l09Voltages {x : Value} {l : List Int} {a z : Int} (hs : okS l a) : PSpecM Tryz.prog 48 [.ptr 0 0] [(0, 99, 1)] [srcC x l a z] fun v c =>
    ∃ n p q m u w a' z', v = .tup [vD n p q, .int .i64 m, .own 2 1 u.length (vi .i64 u), .own 2 1 w.length (vi .i64 w)] ∧ c = [srcC x l a' z'] ∧ okS l a' ∧ okP p ∧ okP q ∧ (-1 ≤ n ∧ n ≤ 17) ∧ (0 ≤ m ∧ m ≤ 17) ∧ u.length ≤ 100 ∧ w.length ≤ 100 := by
  refine spec_l09Voltages_f.m rfl rfl ?_
  unfold srcC
  dsimp only [spec_l09Voltages_F, pcal_B, pcalp_B, pcala_B, pcond_B, pgk_B, JN_B, LP_B]
  (refine blkP.ini ?_; repeat (refine blkP.mk ?_; (try simp (disch := first | omega | (simp only [LN]; omega)) only [↓EC, EW, seval, ↓reduceIte, ↓EBD, EBE])))
  (refine pcm [0] rfl ?_; (refine blkP.ini ?_; repeat (refine blkP.mk ?_; (try simp (disch := first | omega | (simp only [LN]; omega)) only [↓EC, EW, seval, ↓reduceIte, ↓EBD, EBE]))); refine callM_d (c_spec_l01Pick (m := [4, 8, 8, 16]) (by assumption) (by simp) (by simp)) ?_; rintro _ _ ⟨y1, _, _, hy_, rfl, rfl, hs_⟩; simp only [List.mem_cons, List.not_mem_nil, or_false] at hy_; (refine blkP.ini ?_; repeat (refine blkP.mk ?_; (try simp (disch := first | omega | (simp only [LN]; omega)) only [↓EC, EW, seval, ↓reduceIte, ↓EBD, EBE, srcC]))))
  (refine pcm [0] rfl ?_; (refine blkP.ini ?_; repeat (refine blkP.mk ?_; (try simp (disch := first | omega | (simp only [LN]; omega)) only [↓EC, EW, seval, ↓reduceIte, ↓EBD, EBE]))); refine callM_d (c_spec_l09Draw (m := y1) (by omega) (by assumption)) ?_; rintro _ _ ⟨n, p, q, a1, z1, rfl, rfl, hs_, hp, hq, hn, hn'⟩; (refine blkP.ini ?_; repeat (refine blkP.mk ?_; (try simp (disch := first | omega | (simp only [LN]; omega)) only [↓EC, EW, seval, ↓reduceIte, ↓EBD, EBE, srcC]))))
  have hpl := hp.1
  have hql := hq.1
  (refine blkP.ini ?_; repeat (refine blkP.mk ?_; (try simp (disch := first | omega | (simp only [LN]; omega)) only [↓EC, EW, seval, ↓reduceIte, ↓EBD, EBE, vD])))
  (refine pcm [0] rfl ?_; (refine blkP.ini ?_; repeat (refine blkP.mk ?_; (try simp (disch := first | omega | (simp only [LN]; omega)) only [↓EC, EW, seval, ↓reduceIte, ↓EBD, EBE]))); refine callM_d (c_spec_l01Next (by assumption) (by omega)) ?_; rintro _ _ ⟨r1, _, _, rfl, rfl, hs_, hr_⟩; (refine blkP.ini ?_; repeat (refine blkP.mk ?_; (try simp (disch := first | omega | (simp only [LN]; omega)) only [↓EC, EW, seval, ↓reduceIte, ↓EBD, EBE, srcC]))))
  (refine pcm [0] rfl ?_; (refine blkP.ini ?_; repeat (refine blkP.mk ?_; (try simp (disch := first | omega | (simp only [LN]; omega)) only [↓EC, EW, seval, ↓reduceIte, ↓EBD, EBE]))); refine callM_d (c_spec_l01Pick (m := [1, 2, 2, 3, 4, 1 + r1]) (by assumption) (by simp) (by simp)) ?_; rintro _ _ ⟨m, _, _, hy_, rfl, rfl, hs_⟩; simp only [List.mem_cons, List.not_mem_nil, or_false] at hy_; (refine blkP.ini ?_; repeat (refine blkP.mk ?_; (try simp (disch := first | omega | (simp only [LN]; omega)) only [↓EC, EW, seval, ↓reduceIte, ↓EBD, EBE, srcC]))))
  have hm : 1 ≤ m ∧ m ≤ 16 := by omega
  rename_i a2 z2
  have hkk : ∀ h : isDB n p q = true, (if 16 < if n < 1 then 1 else n then 16 else if n < 1 then 1 else n) = n := fun h => by
    have := (isDB_iff.1 h).pb.1
    rw [if_neg (show ¬ n < 1 by omega), if_neg (by omega)]
  have hk1 : 1 ≤ (if 16 < if n < 1 then 1 else n then 16 else if n < 1 then 1 else n) ∧ (if 16 < if n < 1 then 1 else n then 16 else if n < 1 then 1 else n) ≤ 16 := by (repeat' split) <;> omega
  generalize (if 16 < if n < 1 then 1 else n then 16 else if n < 1 then 1 else n) = k at *
  refine JNx_un ?_
  (refine blkP.ini ?_; repeat (refine blkP.mk ?_; (try simp (disch := first | omega | (simp only [LN]; omega)) only [↓EC, EW, seval, ↓reduceIte, ↓EBD, EBE])))
  (refine pcm [0] rfl ?_; (refine blkP.ini ?_; repeat (refine blkP.mk ?_; (try simp (disch := first | omega | (simp only [LN]; omega)) only [↓EC, EW, seval, ↓reduceIte, ↓EBD, EBE]))); refine callM_d (c_spec_l01Next (by assumption) (by omega)) ?_; rintro _ _ ⟨r2, _, _, rfl, rfl, hs_, hr_⟩; (refine blkP.ini ?_; repeat (refine blkP.mk ?_; (try simp (disch := first | omega | (simp only [LN]; omega)) only [↓EC, EW, seval, ↓reduceIte, ↓EBD, EBE, srcC]))))
  rename_i a3 z3
  have hz : (List.replicate k.toNat (0 : Int)).length = k.toNat := by simp
  (refine Split.mkB (fun h => ?_) (fun h => ?_) <;> (try simp only [SD] at h))
  · (refine blkP.ini ?_; repeat (refine blkP.mk ?_; (try simp (disch := first | omega | (simp only [LN]; omega)) only [↓EC, EW, seval, ↓reduceIte, ↓EBD, EBE])))
    refine pcd_v (c_spec_l01Is (n := n) (b := p) (w := q) hp hq) ?_
    (refine blkP.ini ?_; repeat (refine blkP.mk ?_; (try simp (disch := first | omega | (simp only [LN]; omega)) only [↓EC, EW, seval, ↓reduceIte, ↓EBD, EBE])))
    (refine Split.mkB (fun h => ?_) (fun h => ?_) <;> (try simp only [SD] at h))
    · (refine blkP.ini ?_; repeat (refine blkP.mk ?_; (try simp (disch := first | omega | (simp only [LN]; omega)) only [↓EC, EW, seval, ↓reduceIte, ↓EBD, EBE])))
      have hkn := hkk (by assumption)
      refine LPx_of (σ := List Int × List Int × Int) 100000 [(0, 99, 1), (66, 27, 1), (70, 27, 1), (93, 2, 1), (95, 2, 1)] (fun s => [.int .i64 s.2.2]) (fun s => [srcC x l a3 z3, .int .i64 0 :: vi .u8 (List.replicate 32 0), .int .i64 n :: vi .u8 (p ++ q), vi .i64 s.1, vi .i64 s.2.1])
        (fun s => s.1.length = k.toNat ∧ s.2.1.length = k.toNat ∧ 0 ≤ s.2.2) (fun s => (k - s.2.2).toNat) (List.replicate k.toNat 0, List.replicate k.toNat 0, 0) (by simp [frameOk, names, lpz, sclp, scv, scvs, nrfs, nrf, FRB]) ⟨hz, hz, Int.le_refl _⟩ ?_ ?_
      · (refine blkP.ini ?_; repeat (refine blkP.mk ?_; simp (disch := first | omega | (simp only [LN]; omega)) only [↓EC, EW, seval, ↓reduceIte, ↓EBD, EBE, ColV_def, srcC]))
      · rintro ⟨u, w, i⟩ ⟨hu, hw, hi⟩
        simp only at hu hw hi
        (refine blkP.ini ?_; repeat (refine blkP.mk ?_; simp (disch := first | omega | (simp only [LN]; omega)) only [↓EC, EW, seval, ↓reduceIte, ↓EBD, EBE, ColV_def, lheap_def, srcC]))
        (refine Split.mkB (fun h => ?_) (fun h => ?_) <;> (try simp only [SD] at h))
        · have bp := hp.2 i.toNat (by omega)
          have bq := hq.2 i.toNat (by omega)
          have e1 : gi (p ++ q) i.toNat = gi p i.toNat := gi_appl (by omega)
          (refine blkP.ini ?_; repeat (refine blkP.mk ?_; (try simp (disch := first | omega | (simp only [LN]; omega)) only [↓EC, EW, seval, ↓reduceIte, ↓EBD, EBE, e1])))
          exact ⟨(_, _, i + 1), rfl, rfl, ⟨by simp [hu], by simp [hw], by simp only; omega⟩, by simp only; omega⟩
        · (refine blkP.ini ?_; repeat (refine blkP.mk ?_; (try simp (disch := first | omega | (simp only [LN]; omega)) only [↓EC, EW, seval, ↓reduceIte, ↓EBD, EBE])))
          refine JNx_un ?_
          (refine blkP.ini ?_; repeat (refine blkP.mk ?_; (try simp (disch := first | omega | (simp only [LN]; omega)) only [↓EC, EW, seval, ↓reduceIte, ↓EBD, EBE, hu, hw])))
          (refine pcm [0] rfl ?_; (refine blkP.ini ?_; repeat (refine blkP.mk ?_; (try simp (disch := first | omega | (simp only [LN]; omega)) only [↓EC, EW, seval, ↓reduceIte, ↓EBD, EBE]))); refine callM_d (c_spec_l01Next (by assumption) (by omega)) ?_; rintro _ _ ⟨r9, _, _, rfl, rfl, hs_, hr_⟩; (refine blkP.ini ?_; repeat (refine blkP.mk ?_; (try simp (disch := first | omega | (simp only [LN]; omega)) only [↓EC, EW, seval, ↓reduceIte, ↓EBD, EBE, srcC]))))
          rename_i a9 z9
          (refine Split.mkB (fun h => ?_) (fun h => ?_) <;> (try simp only [SD] at h))
          · (refine blkP.ini ?_; repeat (refine blkP.mk ?_; (try simp (disch := first | omega | (simp only [LN]; omega)) only [↓EC, EW, seval, ↓reduceIte, ↓EBD, EBE, hu, hw])))
            (refine pcm [0] rfl ?_; (refine blkP.ini ?_; repeat (refine blkP.mk ?_; (try simp (disch := first | omega | (simp only [LN]; omega)) only [↓EC, EW, seval, ↓reduceIte, ↓EBD, EBE]))); refine callM_d (c_spec_l01Pick (m := [0, 17, 1]) (by assumption) (by simp) (by simp)) ?_; rintro _ _ ⟨m9, _, _, hy_, rfl, rfl, hs_⟩; simp only [List.mem_cons, List.not_mem_nil, or_false] at hy_; (refine blkP.ini ?_; repeat (refine blkP.mk ?_; (try simp (disch := first | omega | (simp only [LN]; omega)) only [↓EC, EW, seval, ↓reduceIte, ↓EBD, EBE, srcC]))))
            (refine blkP.ini ?_; repeat (refine blkP.mk ?_; (try simp (disch := first | omega | (simp only [LN]; omega)) only [↓EC, EW, seval, ↓reduceIte, ↓EBD, EBE, hu, hw])))
            exact ⟨n, p, q, m9, u, w, _, _, by simp only [hu, hw], rfl, by assumption, hp, hq, ⟨hn, hn'⟩, by omega, by omega, by omega⟩
          · (refine blkP.ini ?_; repeat (refine blkP.mk ?_; (try simp (disch := first | omega | (simp only [LN]; omega)) only [↓EC, EW, seval, ↓reduceIte, ↓EBD, EBE, hu, hw])))
            (refine Split.mkB (fun h => ?_) (fun h => ?_) <;> (try simp only [SD] at h))
            · (refine blkP.ini ?_; repeat (refine blkP.mk ?_; (try simp (disch := first | omega | (simp only [LN]; omega)) only [↓EC, EW, seval, ↓reduceIte, ↓EBD, EBE, hu, hw])))
              exact ⟨n, p, q, m, u ++ [0], w, _, _, by simp only [List.length_append, List.length_cons, List.length_nil, hu, hw], rfl, by assumption, hp, hq, ⟨hn, hn'⟩, by omega, by simp; omega, by omega⟩
            · (refine blkP.ini ?_; repeat (refine blkP.mk ?_; (try simp (disch := first | omega | (simp only [LN]; omega)) only [↓EC, EW, seval, ↓reduceIte, ↓EBD, EBE, hu, hw])))
              exact ⟨n, p, q, m, u, w, _, _, by simp only [hu, hw], rfl, by assumption, hp, hq, ⟨hn, hn'⟩, by omega, by omega, by omega⟩
    · (refine blkP.ini ?_; repeat (refine blkP.mk ?_; (try simp (disch := first | omega | (simp only [LN]; omega)) only [↓EC, EW, seval, ↓reduceIte, ↓EBD, EBE])))
      refine JNx_un ?_
      (refine blkP.ini ?_; repeat (refine blkP.mk ?_; (try simp (disch := first | omega | (simp only [LN]; omega)) only [↓EC, EW, seval, ↓reduceIte, ↓EBD, EBE, hz, hz])))
      (refine pcm [0] rfl ?_; (refine blkP.ini ?_; repeat (refine blkP.mk ?_; (try simp (disch := first | omega | (simp only [LN]; omega)) only [↓EC, EW, seval, ↓reduceIte, ↓EBD, EBE]))); refine callM_d (c_spec_l01Next (by assumption) (by omega)) ?_; rintro _ _ ⟨r9, _, _, rfl, rfl, hs_, hr_⟩; (refine blkP.ini ?_; repeat (refine blkP.mk ?_; (try simp (disch := first | omega | (simp only [LN]; omega)) only [↓EC, EW, seval, ↓reduceIte, ↓EBD, EBE, srcC]))))
      rename_i a9 z9
      (refine Split.mkB (fun h => ?_) (fun h => ?_) <;> (try simp only [SD] at h))
      · (refine blkP.ini ?_; repeat (refine blkP.mk ?_; (try simp (disch := first | omega | (simp only [LN]; omega)) only [↓EC, EW, seval, ↓reduceIte, ↓EBD, EBE, hz, hz])))
        (refine pcm [0] rfl ?_; (refine blkP.ini ?_; repeat (refine blkP.mk ?_; (try simp (disch := first | omega | (simp only [LN]; omega)) only [↓EC, EW, seval, ↓reduceIte, ↓EBD, EBE]))); refine callM_d (c_spec_l01Pick (m := [0, 17, 1]) (by assumption) (by simp) (by simp)) ?_; rintro _ _ ⟨m9, _, _, hy_, rfl, rfl, hs_⟩; simp only [List.mem_cons, List.not_mem_nil, or_false] at hy_; (refine blkP.ini ?_; repeat (refine blkP.mk ?_; (try simp (disch := first | omega | (simp only [LN]; omega)) only [↓EC, EW, seval, ↓reduceIte, ↓EBD, EBE, srcC]))))
        (refine blkP.ini ?_; repeat (refine blkP.mk ?_; (try simp (disch := first | omega | (simp only [LN]; omega)) only [↓EC, EW, seval, ↓reduceIte, ↓EBD, EBE, hz, hz])))
        exact ⟨n, p, q, m9, (List.replicate k.toNat 0), (List.replicate k.toNat 0), _, _, by simp only [hz, hz], rfl, by assumption, hp, hq, ⟨hn, hn'⟩, by omega, by omega, by omega⟩
      · (refine blkP.ini ?_; repeat (refine blkP.mk ?_; (try simp (disch := first | omega | (simp only [LN]; omega)) only [↓EC, EW, seval, ↓reduceIte, ↓EBD, EBE, hz, hz])))
        (refine Split.mkB (fun h => ?_) (fun h => ?_) <;> (try simp only [SD] at h))
        · (refine blkP.ini ?_; repeat (refine blkP.mk ?_; (try simp (disch := first | omega | (simp only [LN]; omega)) only [↓EC, EW, seval, ↓reduceIte, ↓EBD, EBE, hz, hz])))
          exact ⟨n, p, q, m, (List.replicate k.toNat 0) ++ [0], (List.replicate k.toNat 0), _, _, by simp only [List.length_append, List.length_cons, List.length_nil, hz, hz], rfl, by assumption, hp, hq, ⟨hn, hn'⟩, by omega, by simp; omega, by omega⟩
        · (refine blkP.ini ?_; repeat (refine blkP.mk ?_; (try simp (disch := first | omega | (simp only [LN]; omega)) only [↓EC, EW, seval, ↓reduceIte, ↓EBD, EBE, hz, hz])))
          exact ⟨n, p, q, m, (List.replicate k.toNat 0), (List.replicate k.toNat 0), _, _, by simp only [hz, hz], rfl, by assumption, hp, hq, ⟨hn, hn'⟩, by omega, by omega, by omega⟩
  · (refine blkP.ini ?_; repeat (refine blkP.mk ?_; (try simp (disch := first | omega | (simp only [LN]; omega)) only [↓EC, EW, seval, ↓reduceIte, ↓EBD, EBE])))
    (refine Split.mkB (fun h => ?_) (fun h => ?_) <;> (try simp only [SD] at h))
    · (refine blkP.ini ?_; repeat (refine blkP.mk ?_; (try simp (disch := first | omega | (simp only [LN]; omega)) only [↓EC, EW, seval, ↓reduceIte, ↓EBD, EBE])))
      (refine pcm [0] rfl ?_; (refine blkP.ini ?_; repeat (refine blkP.mk ?_; (try simp (disch := first | omega | (simp only [LN]; omega)) only [↓EC, EW, seval, ↓reduceIte, ↓EBD, EBE]))); refine callM_d (c_spec_l01Next (by assumption) (by omega)) ?_; rintro _ _ ⟨r3, _, _, rfl, rfl, hs_, hr_⟩; (refine blkP.ini ?_; repeat (refine blkP.mk ?_; (try simp (disch := first | omega | (simp only [LN]; omega)) only [↓EC, EW, seval, ↓reduceIte, ↓EBD, EBE, srcC]))))
      (refine pcm [0] rfl ?_; (refine blkP.ini ?_; repeat (refine blkP.mk ?_; (try simp (disch := first | omega | (simp only [LN]; omega)) only [↓EC, EW, seval, ↓reduceIte, ↓EBD, EBE]))); refine callM_d (c_spec_l01Next (by assumption) (by omega)) ?_; rintro _ _ ⟨r4, _, _, rfl, rfl, hs_, hr_⟩; (refine blkP.ini ?_; repeat (refine blkP.mk ?_; (try simp (disch := first | omega | (simp only [LN]; omega)) only [↓EC, EW, seval, ↓reduceIte, ↓EBD, EBE, srcC]))))
      have b3 : r3.toNat < k.toNat := by omega
      (refine pcm [0] rfl ?_; (refine blkP.ini ?_; repeat (refine blkP.mk ?_; (try simp (disch := first | omega | (simp only [LN]; omega)) only [↓EC, EW, seval, ↓reduceIte, ↓EBD, EBE]))); refine callM_d (c_spec_l01Next (by assumption) (by omega)) ?_; rintro _ _ ⟨r5, _, _, rfl, rfl, hs_, hr_⟩; (refine blkP.ini ?_; repeat (refine blkP.mk ?_; (try simp (disch := first | omega | (simp only [LN]; omega)) only [↓EC, EW, seval, ↓reduceIte, ↓EBD, EBE, srcC]))))
      rename_i a5 z5
      have hu : ((List.replicate k.toNat (0 : Int)).set r3.toNat r4).length = k.toNat := by simp
      have hw : ((List.replicate k.toNat (0 : Int)).set 0 r5).length = k.toNat := by simp
      (refine blkP.ini ?_; repeat (refine blkP.mk ?_; (try simp (disch := first | omega | (simp only [LN]; omega)) only [↓EC, EW, seval, ↓reduceIte, ↓EBD, EBE, hu, hw])))
      refine JNx_un ?_
      (refine blkP.ini ?_; repeat (refine blkP.mk ?_; (try simp (disch := first | omega | (simp only [LN]; omega)) only [↓EC, EW, seval, ↓reduceIte, ↓EBD, EBE, hu, hw])))
      (refine pcm [0] rfl ?_; (refine blkP.ini ?_; repeat (refine blkP.mk ?_; (try simp (disch := first | omega | (simp only [LN]; omega)) only [↓EC, EW, seval, ↓reduceIte, ↓EBD, EBE]))); refine callM_d (c_spec_l01Next (by assumption) (by omega)) ?_; rintro _ _ ⟨r9, _, _, rfl, rfl, hs_, hr_⟩; (refine blkP.ini ?_; repeat (refine blkP.mk ?_; (try simp (disch := first | omega | (simp only [LN]; omega)) only [↓EC, EW, seval, ↓reduceIte, ↓EBD, EBE, srcC]))))
      rename_i a9 z9
      (refine Split.mkB (fun h => ?_) (fun h => ?_) <;> (try simp only [SD] at h))
      · (refine blkP.ini ?_; repeat (refine blkP.mk ?_; (try simp (disch := first | omega | (simp only [LN]; omega)) only [↓EC, EW, seval, ↓reduceIte, ↓EBD, EBE, hu, hw])))
        (refine pcm [0] rfl ?_; (refine blkP.ini ?_; repeat (refine blkP.mk ?_; (try simp (disch := first | omega | (simp only [LN]; omega)) only [↓EC, EW, seval, ↓reduceIte, ↓EBD, EBE]))); refine callM_d (c_spec_l01Pick (m := [0, 17, 1]) (by assumption) (by simp) (by simp)) ?_; rintro _ _ ⟨m9, _, _, hy_, rfl, rfl, hs_⟩; simp only [List.mem_cons, List.not_mem_nil, or_false] at hy_; (refine blkP.ini ?_; repeat (refine blkP.mk ?_; (try simp (disch := first | omega | (simp only [LN]; omega)) only [↓EC, EW, seval, ↓reduceIte, ↓EBD, EBE, srcC]))))
        (refine blkP.ini ?_; repeat (refine blkP.mk ?_; (try simp (disch := first | omega | (simp only [LN]; omega)) only [↓EC, EW, seval, ↓reduceIte, ↓EBD, EBE, hu, hw])))
        exact ⟨n, p, q, m9, ((List.replicate k.toNat 0).set r3.toNat r4), ((List.replicate k.toNat 0).set 0 r5), _, _, by simp only [hu, hw], rfl, by assumption, hp, hq, ⟨hn, hn'⟩, by omega, by omega, by omega⟩
      · (refine blkP.ini ?_; repeat (refine blkP.mk ?_; (try simp (disch := first | omega | (simp only [LN]; omega)) only [↓EC, EW, seval, ↓reduceIte, ↓EBD, EBE, hu, hw])))
        (refine Split.mkB (fun h => ?_) (fun h => ?_) <;> (try simp only [SD] at h))
        · (refine blkP.ini ?_; repeat (refine blkP.mk ?_; (try simp (disch := first | omega | (simp only [LN]; omega)) only [↓EC, EW, seval, ↓reduceIte, ↓EBD, EBE, hu, hw])))
          exact ⟨n, p, q, m, ((List.replicate k.toNat 0).set r3.toNat r4) ++ [0], ((List.replicate k.toNat 0).set 0 r5), _, _, by simp only [List.length_append, List.length_cons, List.length_nil, hu, hw], rfl, by assumption, hp, hq, ⟨hn, hn'⟩, by omega, by simp; omega, by omega⟩
        · (refine blkP.ini ?_; repeat (refine blkP.mk ?_; (try simp (disch := first | omega | (simp only [LN]; omega)) only [↓EC, EW, seval, ↓reduceIte, ↓EBD, EBE, hu, hw])))
          exact ⟨n, p, q, m, ((List.replicate k.toNat 0).set r3.toNat r4), ((List.replicate k.toNat 0).set 0 r5), _, _, by simp only [hu, hw], rfl, by assumption, hp, hq, ⟨hn, hn'⟩, by omega, by omega, by omega⟩
    · (refine blkP.ini ?_; repeat (refine blkP.mk ?_; (try simp (disch := first | omega | (simp only [LN]; omega)) only [↓EC, EW, seval, ↓reduceIte, ↓EBD, EBE])))
      refine LPx_of (σ := (List Int × List Int × Int) × Int × Int) 100000 [(0, 99, 1), (66, 27, 1), (70, 27, 1), (93, 2, 1), (95, 2, 1)] (fun s => [.int .i64 s.1.2.2]) (fun s => [srcC x l s.2.1 s.2.2, .int .i64 0 :: vi .u8 (List.replicate 32 0), .int .i64 n :: vi .u8 (p ++ q), vi .i64 s.1.1, vi .i64 s.1.2.1])
        (fun s => okS l s.2.1 ∧ s.1.1.length = k.toNat ∧ s.1.2.1.length = k.toNat ∧ 0 ≤ s.1.2.2) (fun s => (k - s.1.2.2).toNat) ((List.replicate k.toNat 0, List.replicate k.toNat 0, 0), a3, z3) (by simp [frameOk, names, lpz, sclp, scv, scvs, nrfs, nrf, FRB]) ⟨by assumption, hz, hz, Int.le_refl _⟩ ?_ ?_
      · (refine blkP.ini ?_; repeat (refine blkP.mk ?_; simp (disch := first | omega | (simp only [LN]; omega)) only [↓EC, EW, seval, ↓reduceIte, ↓EBD, EBE, ColV_def, srcC]))
      · rintro ⟨⟨u, w, i⟩, a5, z5⟩ ⟨h5, hu, hw, hi⟩
        simp only at h5 hu hw hi
        (refine blkP.ini ?_; repeat (refine blkP.mk ?_; simp (disch := first | omega | (simp only [LN]; omega)) only [↓EC, EW, seval, ↓reduceIte, ↓EBD, EBE, ColV_def, lheap_def, srcC]))
        (refine Split.mkB (fun h => ?_) (fun h => ?_) <;> (try simp only [SD] at h))
        · (refine blkP.ini ?_; repeat (refine blkP.mk ?_; (try simp (disch := first | omega | (simp only [LN]; omega)) only [↓EC, EW, seval, ↓reduceIte, ↓EBD, EBE])))
          (refine pcm [0] rfl ?_; (refine blkP.ini ?_; repeat (refine blkP.mk ?_; (try simp (disch := first | omega | (simp only [LN]; omega)) only [↓EC, EW, seval, ↓reduceIte, ↓EBD, EBE]))); refine callM_d (c_spec_l01Next (by assumption) (by omega)) ?_; rintro _ _ ⟨r3, _, _, rfl, rfl, hs_, hr_⟩; (refine blkP.ini ?_; repeat (refine blkP.mk ?_; (try simp (disch := first | omega | (simp only [LN]; omega)) only [↓EC, EW, seval, ↓reduceIte, ↓EBD, EBE, srcC]))))
          (refine pcm [0] rfl ?_; (refine blkP.ini ?_; repeat (refine blkP.mk ?_; (try simp (disch := first | omega | (simp only [LN]; omega)) only [↓EC, EW, seval, ↓reduceIte, ↓EBD, EBE]))); refine callM_d (c_spec_l01Next (by assumption) (by omega)) ?_; rintro _ _ ⟨r4, _, _, rfl, rfl, hs_, hr_⟩; (refine blkP.ini ?_; repeat (refine blkP.mk ?_; (try simp (disch := first | omega | (simp only [LN]; omega)) only [↓EC, EW, seval, ↓reduceIte, ↓EBD, EBE, srcC]))))
          rename_i a6 z6
          (refine blkP.ini ?_; repeat (refine blkP.mk ?_; (try simp (disch := first | omega | (simp only [LN]; omega)) only [↓EC, EW, seval, ↓reduceIte, ↓EBD, EBE])))
          exact ⟨((_, _, i + 1), a6, z6), rfl, rfl, ⟨by assumption, by simp [hu], by simp [hw], by simp only; omega⟩, by simp only; omega⟩
        · (refine blkP.ini ?_; repeat (refine blkP.mk ?_; (try simp (disch := first | omega | (simp only [LN]; omega)) only [↓EC, EW, seval, ↓reduceIte, ↓EBD, EBE])))
          refine JNx_un ?_
          (refine blkP.ini ?_; repeat (refine blkP.mk ?_; (try simp (disch := first | omega | (simp only [LN]; omega)) only [↓EC, EW, seval, ↓reduceIte, ↓EBD, EBE, hu, hw])))
          (refine pcm [0] rfl ?_; (refine blkP.ini ?_; repeat (refine blkP.mk ?_; (try simp (disch := first | omega | (simp only [LN]; omega)) only [↓EC, EW, seval, ↓reduceIte, ↓EBD, EBE]))); refine callM_d (c_spec_l01Next (by assumption) (by omega)) ?_; rintro _ _ ⟨r9, _, _, rfl, rfl, hs_, hr_⟩; (refine blkP.ini ?_; repeat (refine blkP.mk ?_; (try simp (disch := first | omega | (simp only [LN]; omega)) only [↓EC, EW, seval, ↓reduceIte, ↓EBD, EBE, srcC]))))
          rename_i a9 z9
          (refine Split.mkB (fun h => ?_) (fun h => ?_) <;> (try simp only [SD] at h))
          · (refine blkP.ini ?_; repeat (refine blkP.mk ?_; (try simp (disch := first | omega | (simp only [LN]; omega)) only [↓EC, EW, seval, ↓reduceIte, ↓EBD, EBE, hu, hw])))
            (refine pcm [0] rfl ?_; (refine blkP.ini ?_; repeat (refine blkP.mk ?_; (try simp (disch := first | omega | (simp only [LN]; omega)) only [↓EC, EW, seval, ↓reduceIte, ↓EBD, EBE]))); refine callM_d (c_spec_l01Pick (m := [0, 17, 1]) (by assumption) (by simp) (by simp)) ?_; rintro _ _ ⟨m9, _, _, hy_, rfl, rfl, hs_⟩; simp only [List.mem_cons, List.not_mem_nil, or_false] at hy_; (refine blkP.ini ?_; repeat (refine blkP.mk ?_; (try simp (disch := first | omega | (simp only [LN]; omega)) only [↓EC, EW, seval, ↓reduceIte, ↓EBD, EBE, srcC]))))
            (refine blkP.ini ?_; repeat (refine blkP.mk ?_; (try simp (disch := first | omega | (simp only [LN]; omega)) only [↓EC, EW, seval, ↓reduceIte, ↓EBD, EBE, hu, hw])))
            exact ⟨n, p, q, m9, u, w, _, _, by simp only [hu, hw], rfl, by assumption, hp, hq, ⟨hn, hn'⟩, by omega, by omega, by omega⟩
          · (refine blkP.ini ?_; repeat (refine blkP.mk ?_; (try simp (disch := first | omega | (simp only [LN]; omega)) only [↓EC, EW, seval, ↓reduceIte, ↓EBD, EBE, hu, hw])))
            (refine Split.mkB (fun h => ?_) (fun h => ?_) <;> (try simp only [SD] at h))
            · (refine blkP.ini ?_; repeat (refine blkP.mk ?_; (try simp (disch := first | omega | (simp only [LN]; omega)) only [↓EC, EW, seval, ↓reduceIte, ↓EBD, EBE, hu, hw])))
              exact ⟨n, p, q, m, u ++ [0], w, _, _, by simp only [List.length_append, List.length_cons, List.length_nil, hu, hw], rfl, by assumption, hp, hq, ⟨hn, hn'⟩, by omega, by simp; omega, by omega⟩
            · (refine blkP.ini ?_; repeat (refine blkP.mk ?_; (try simp (disch := first | omega | (simp only [LN]; omega)) only [↓EC, EW, seval, ↓reduceIte, ↓EBD, EBE, hu, hw])))
              exact ⟨n, p, q, m, u, w, _, _, by simp only [hu, hw], rfl, by assumption, hp, hq, ⟨hn, hn'⟩, by omega, by omega, by omega⟩
theorem c_spec_l09Safe {x : Value} {l : List Int} (hB : okB l) : PSpec Tryz.prog 22 [.fz x l] fun v =>
    ∃ n p q m u w, v = .tup [vD n p q, .int .i64 m, .own 2 1 u.length (vi .i64 u), .own 2 1 w.length (vi .i64 w)] ∧ okP p ∧ okP q ∧ (-1 ≤ n ∧ n ≤ 17) ∧ (0 ≤ m ∧ m ≤ 17) ∧ u.length ≤ 100 ∧ w.length ≤ 100 := by
  refine spec_l09Safe_f.f ?_
  dsimp only [spec_l09Safe_F, pcal_B, pcalp_B, pcala_B, pcond_B, pgk_B, JN_B, LP_B]
  (refine blkP.ini ?_; repeat (refine blkP.mk ?_; (try simp (disch := first | omega | (simp only [LN]; omega)) only [↓EC, EW, seval, ↓reduceIte, ↓EBD, EBE])))
  refine pcn_q (c_spec_l01From hB) rfl ?_; rintro _ _ ⟨rfl, z, rfl⟩; have hs_ := okS_0 hB; (refine blkP.ini ?_; repeat (refine blkP.mk ?_; (try simp (disch := first | omega | (simp only [LN]; omega)) only [↓EC, EW, seval, ↓reduceIte, ↓EBD, EBE, srcC])))
  refine pcd_r (c_spec_l01Star (n := 3) (by omega)) ?_
  rintro v ⟨p0, q0, rfl, hp0, hq0⟩
  have hpl0 := hp0.1
  have hql0 := hq0.1
  (refine blkP.ini ?_; repeat (refine blkP.mk ?_; (try simp (disch := first | omega | (simp only [LN]; omega)) only [↓EC, EW, seval, ↓reduceIte, ↓EBD, EBE, vD])))
  refine JNx_un ?_
  (refine blkP.ini ?_; repeat (refine blkP.mk ?_; (try simp (disch := first | omega | (simp only [LN]; omega)) only [↓EC, EW, seval, ↓reduceIte, ↓EBD, EBE])))
  refine LPx_of (σ := Int × Int × Int) 100000 [(66, 27, 1), (78, 99, 1), (71, 27, 1)] (fun s => [.int .i64 2, .own 2 1 3 (vi .i64 [0, 1, 1]), .own 2 1 3 (vi .i64 [0, 0, 1]), .int .i64 s.1])
    (fun s => [.int .i64 0 :: vi .u8 (List.replicate 32 0), srcC x l s.2.1 s.2.2, .int .i64 3 :: vi .u8 (p0 ++ q0)])
    (fun s => okS l s.2.1 ∧ 0 ≤ s.1 ∧ s.1 ≤ 4) (fun s => (4 - s.1).toNat) (0, 0, z) (by simp [frameOk, names, lpz, sclp, scv, scvs, nrfs, nrf, FRB]) ⟨hs_, by simp only; omega⟩ ?_ ?_
  · (refine blkP.ini ?_; repeat (refine blkP.mk ?_; simp (disch := first | omega | (simp only [LN]; omega)) only [↓EC, EW, seval, ↓reduceIte, ↓EBD, EBE, ColV_def, srcC]))
    rfl
  · rintro ⟨k, a, z⟩ ⟨h1, h2, h3⟩
    simp only at h1 h2 h3
    (refine blkP.ini ?_; repeat (refine blkP.mk ?_; simp (disch := first | omega | (simp only [LN]; omega)) only [↓EC, EW, seval, ↓reduceIte, ↓EBD, EBE, ColV_def, lheap_def, srcC]))
    (refine Split.mkB (fun h => ?_) (fun h => ?_) <;> (try simp only [SD] at h))
    · (refine blkP.ini ?_; repeat (refine blkP.mk ?_; (try simp (disch := first | omega | (simp only [LN]; omega)) only [↓EC, EW, seval, ↓reduceIte, ↓EBD, EBE])))
      (refine pcm [78] rfl ?_; (refine blkP.ini ?_; repeat (refine blkP.mk ?_; (try simp (disch := first | omega | (simp only [LN]; omega)) only [↓EC, EW, seval, ↓reduceIte, ↓EBD, EBE]))); refine callM_d (c_spec_l09Draw (m := 3) (by omega) (by assumption)) ?_; rintro _ _ ⟨n, p, q, a1, z1, rfl, rfl, hs_, hp, hq, hn, hn'⟩; (refine blkP.ini ?_; repeat (refine blkP.mk ?_; (try simp (disch := first | omega | (simp only [LN]; omega)) only [↓EC, EW, seval, ↓reduceIte, ↓EBD, EBE, srcC]))))
      have hpl := hp.1
      have hql := hq.1
      (refine blkP.ini ?_; repeat (refine blkP.mk ?_; (try simp (disch := first | omega | (simp only [LN]; omega)) only [↓EC, EW, seval, ↓reduceIte, ↓EBD, EBE, vD])))
      (refine Split.mkB (fun h => ?_) (fun h => ?_) <;> (try simp only [SD] at h))
      · (refine blkP.ini ?_; repeat (refine blkP.mk ?_; (try simp (disch := first | omega | (simp only [LN]; omega)) only [↓EC, EW, seval, ↓reduceIte, ↓EBD, EBE])))
        refine pcm [78] rfl ?_
        (refine blkP.ini ?_; repeat (refine blkP.mk ?_; (try simp (disch := first | omega | (simp only [LN]; omega)) only [↓EC, EW, seval, ↓reduceIte, ↓EBD, EBE])))
        refine callM_do (c_spec_l09Voltages (by assumption)) ?_
        rintro _ _ ⟨n, p, q, m, u, w, a2, z2, rfl, rfl, hs_, hp, hq, hn, hm, hu, hw⟩
        have hpl := hp.1
        have hql := hq.1
        (refine blkP.ini ?_; repeat (refine blkP.mk ?_; (try simp (disch := first | omega | (simp only [LN]; omega)) only [↓EC, EW, seval, ↓reduceIte, ↓EBD, EBE, srcC, vD, mats_vi])))
        exact ⟨n, p, q, m, u, w, rfl, hp, hq, hn, hm, hu, hw⟩
      · (refine blkP.ini ?_; repeat (refine blkP.mk ?_; (try simp (disch := first | omega | (simp only [LN]; omega)) only [↓EC, EW, seval, ↓reduceIte, ↓EBD, EBE])))
        exact ⟨(k + 1, a1, z1), rfl, rfl, ⟨hs_, by simp only; omega⟩, by simp only; omega⟩
    · (refine blkP.ini ?_; repeat (refine blkP.mk ?_; (try simp (disch := first | omega | (simp only [LN]; omega)) only [↓EC, EW, seval, ↓reduceIte, ↓EBD, EBE])))
      exact ⟨3, p0, q0, 2, [0, 1, 1], [0, 0, 1], rfl, lo16_okP hp0, lo16_okP hq0, by omega, by omega, by simp, by simp⟩
theorem c_spec_DrawCoverOf {x : Value} {l : List Int} (hB : okB l) : PSpec Tryz.prog 5 [.fz x l] fun v =>
    ∃ n p q m u w, v = .tup [vD n p q, .int .i64 m, .own 2 1 u.length (vi .i64 u), .own 2 1 w.length (vi .i64 w)] ∧ okP p ∧ okP q ∧ (-1 ≤ n ∧ n ≤ 17) ∧ (0 ≤ m ∧ m ≤ 17) ∧ u.length ≤ 100 ∧ w.length ≤ 100 := by
  refine spec_DrawCoverOf_f.f ?_
  dsimp only [spec_DrawCoverOf_F, pcal_B, pcalp_B, pcala_B, pcond_B, pgk_B, JN_B, LP_B]
  (refine blkP.ini ?_; repeat (refine blkP.mk ?_; (try simp (disch := first | omega | (simp only [LN]; omega)) only [↓EC, EW, seval, ↓reduceIte, ↓EBD, EBE])))
  refine pcd_ro (c_spec_l09Safe hB) ?_
  rintro v ⟨n, p, q, m, u, w, rfl, hp, hq, hn, hm, hu, hw⟩
  have hpl := hp.1
  have hql := hq.1
  (refine blkP.ini ?_; repeat (refine blkP.mk ?_; (try simp (disch := first | omega | (simp only [LN]; omega)) only [↓EC, EW, seval, ↓reduceIte, ↓EBD, EBE, vD, mats_vi])))
  exact ⟨n, p, q, m, u, w, rfl, hp, hq, hn, hm, hu, hw⟩
theorem c_spec_l03Word {x : Value} {l : List Int} {a z : Int} (hs : okS l a) : PSpecM Tryz.prog 42 [.ptr 0 0] [(0, 99, 1)] [srcC x l a z] fun v c =>
    ∃ s a' z', v = .str s ∧ c = [srcC x l a' z'] ∧ okS l a' ∧ s.length ≤ 2000 := by
  refine spec_l03Word_f.m rfl rfl ?_
  unfold srcC
  dsimp only [spec_l03Word_F, pcal_B, pcalp_B, pcala_B, pcond_B, pgk_B, JN_B, LP_B]
  ((try simp (disch := first | omega | (simp only [LN]; omega)) only [↓EC, EW, seval, ↓reduceIte, ↓EBD, EBE]); repeat (refine blkP.mk ?_; (try simp (disch := first | omega | (simp only [LN]; omega)) only [↓EC, EW, seval, ↓reduceIte, ↓EBD, EBE])))
  (refine pcm [0] rfl ?_; ((try simp (disch := first | omega | (simp only [LN]; omega)) only [↓EC, EW, seval, ↓reduceIte, ↓EBD, EBE]); repeat (refine blkP.mk ?_; (try simp (disch := first | omega | (simp only [LN]; omega)) only [↓EC, EW, seval, ↓reduceIte, ↓EBD, EBE]))); refine callM_d (c_spec_l01Next (by assumption) (by omega)) ?_; rintro _ _ ⟨r1, _, _, rfl, rfl, hs_, hr_⟩; ((try simp (disch := first | omega | (simp only [LN]; omega)) only [↓EC, EW, seval, ↓reduceIte, ↓EBD, EBE, srcC]); repeat (refine blkP.mk ?_; (try simp (disch := first | omega | (simp only [LN]; omega)) only [↓EC, EW, seval, ↓reduceIte, ↓EBD, EBE, srcC]))))
  (refine pcm [0] rfl ?_; ((try simp (disch := first | omega | (simp only [LN]; omega)) only [↓EC, EW, seval, ↓reduceIte, ↓EBD, EBE]); repeat (refine blkP.mk ?_; (try simp (disch := first | omega | (simp only [LN]; omega)) only [↓EC, EW, seval, ↓reduceIte, ↓EBD, EBE]))); refine callM_d (c_spec_l01Next (by assumption) (by omega)) ?_; rintro _ _ ⟨r2, _, _, rfl, rfl, hs_, hr_⟩; ((try simp (disch := first | omega | (simp only [LN]; omega)) only [↓EC, EW, seval, ↓reduceIte, ↓EBD, EBE, srcC]); repeat (refine blkP.mk ?_; (try simp (disch := first | omega | (simp only [LN]; omega)) only [↓EC, EW, seval, ↓reduceIte, ↓EBD, EBE, srcC]))))
  (refine pcm [0] rfl ?_; ((try simp (disch := first | omega | (simp only [LN]; omega)) only [↓EC, EW, seval, ↓reduceIte, ↓EBD, EBE]); repeat (refine blkP.mk ?_; (try simp (disch := first | omega | (simp only [LN]; omega)) only [↓EC, EW, seval, ↓reduceIte, ↓EBD, EBE]))); refine callM_d (c_spec_l01Next (by assumption) (by omega)) ?_; rintro _ _ ⟨r3, _, _, rfl, rfl, hs_, hr_⟩; ((try simp (disch := first | omega | (simp only [LN]; omega)) only [↓EC, EW, seval, ↓reduceIte, ↓EBD, EBE, srcC]); repeat (refine blkP.mk ?_; (try simp (disch := first | omega | (simp only [LN]; omega)) only [↓EC, EW, seval, ↓reduceIte, ↓EBD, EBE, srcC]))))
  (refine pcm [0] rfl ?_; ((try simp (disch := first | omega | (simp only [LN]; omega)) only [↓EC, EW, seval, ↓reduceIte, ↓EBD, EBE]); repeat (refine blkP.mk ?_; (try simp (disch := first | omega | (simp only [LN]; omega)) only [↓EC, EW, seval, ↓reduceIte, ↓EBD, EBE]))); refine callM_d (c_spec_l01Pick (m := [r1, r2, r3]) (by assumption) (by simp) (by simp)) ?_; rintro _ _ ⟨k0, _, _, hy_, rfl, rfl, hs_⟩; simp only [List.mem_cons, List.not_mem_nil, or_false] at hy_; ((try simp (disch := first | omega | (simp only [LN]; omega)) only [↓EC, EW, seval, ↓reduceIte, ↓EBD, EBE, srcC]); repeat (refine blkP.mk ?_; (try simp (disch := first | omega | (simp only [LN]; omega)) only [↓EC, EW, seval, ↓reduceIte, ↓EBD, EBE, srcC]))))
  rename_i a1 z1
  have hk0 : 0 ≤ k0 ∧ k0 ≤ 62 := by omega
  refine LPx_of (σ := List UInt8 × Int × Int × Int) 100000 [(0, 99, 1)] (fun s => [.str s.1, .int .i64 s.2.1]) (fun s => [srcC x l s.2.2.1 s.2.2.2])
    (fun s => okS l s.2.2.1 ∧ s.1.length + s.2.1 ≤ 1000 ∧ 0 ≤ s.2.1) (fun s => s.2.1.toNat) ([], k0, a1, z1) (by simp [frameOk, names, lpz, sclp, scv, scvs, nrfs, nrf, FRB]) ⟨by assumption, by simp only [List.length_nil]; omega, by simp only; omega⟩ ?_ ?_
  · (simp (disch := first | omega | (simp only [LN]; omega)) only [↓EC, EW, seval, ↓reduceIte, ↓EBD, EBE, ColV_def, srcC]; repeat (refine blkP.mk ?_; simp (disch := first | omega | (simp only [LN]; omega)) only [↓EC, EW, seval, ↓reduceIte, ↓EBD, EBE, ColV_def, srcC]))
  · rintro ⟨s, k, a, z⟩ ⟨h1, h2, h3⟩
    simp only at h1 h2 h3
    (simp (disch := first | omega | (simp only [LN]; omega)) only [↓EC, EW, seval, ↓reduceIte, ↓EBD, EBE, ColV_def, lheap_def, srcC]; repeat (refine blkP.mk ?_; simp (disch := first | omega | (simp only [LN]; omega)) only [↓EC, EW, seval, ↓reduceIte, ↓EBD, EBE, ColV_def, lheap_def, srcC]))
    (refine Split.mkB (fun h => ?_) (fun h => ?_) <;> (try simp only [SD] at h))
    · ((try simp (disch := first | omega | (simp only [LN]; omega)) only [↓EC, EW, seval, ↓reduceIte, ↓EBD, EBE]); repeat (refine blkP.mk ?_; (try simp (disch := first | omega | (simp only [LN]; omega)) only [↓EC, EW, seval, ↓reduceIte, ↓EBD, EBE])))
      (refine pcm [0] rfl ?_; ((try simp (disch := first | omega | (simp only [LN]; omega)) only [↓EC, EW, seval, ↓reduceIte, ↓EBD, EBE]); repeat (refine blkP.mk ?_; (try simp (disch := first | omega | (simp only [LN]; omega)) only [↓EC, EW, seval, ↓reduceIte, ↓EBD, EBE]))); refine callM_d (c_spec_l01Next (by assumption) (by omega)) ?_; rintro _ _ ⟨r4, _, _, rfl, rfl, hs_, hr_⟩; ((try simp (disch := first | omega | (simp only [LN]; omega)) only [↓EC, EW, seval, ↓reduceIte, ↓EBD, EBE, srcC]); repeat (refine blkP.mk ?_; (try simp (disch := first | omega | (simp only [LN]; omega)) only [↓EC, EW, seval, ↓reduceIte, ↓EBD, EBE, srcC]))))
      rename_i a2 z2
      have e5 : ∀ c : UInt8, ∃ s' : List UInt8 × Int × Int × Int, [V.str (s ++ [c]), V.int .i64 (k - 1)] = [V.str s'.1, V.int .i64 s'.2.1] ∧ [[V.fz x l, V.int .i64 a2, V.int .u64 z2]] = [[V.fz x l, V.int .i64 s'.2.2.1, V.int .u64 s'.2.2.2]] ∧
          (okS l s'.2.2.1 ∧ (s'.1.length : Int) + s'.2.1 ≤ 1000 ∧ 0 ≤ s'.2.1) ∧ s'.2.1.toNat < k.toNat := fun c =>
        ⟨(s ++ [c], k - 1, a2, z2), rfl, rfl, ⟨hs_, by simp only [List.length_append, List.length_cons, List.length_nil]; omega, by simp only; omega⟩, by simp only; omega⟩
      rcases (by omega : r4 = 0 ∨ r4 = 1 ∨ r4 = 2 ∨ r4 = 3 ∨ r4 = 4 ∨ r4 = 5) with rfl | rfl | rfl | rfl | rfl | rfl
      all_goals
        ((try simp (disch := first | omega | (simp only [LN]; omega)) only [↓EC, EW, seval, ↓reduceIte, ↓EBD, EBE]); repeat (refine blkP.mk ?_; (try simp (disch := first | omega | (simp only [LN]; omega)) only [↓EC, EW, seval, ↓reduceIte, ↓EBD, EBE])))
        exact e5 _
    · ((try simp (disch := first | omega | (simp only [LN]; omega)) only [↓EC, EW, seval, ↓reduceIte, ↓EBD, EBE]); repeat (refine blkP.mk ?_; (try simp (disch := first | omega | (simp only [LN]; omega)) only [↓EC, EW, seval, ↓reduceIte, ↓EBD, EBE])))
      (refine pcm [0] rfl ?_; ((try simp (disch := first | omega | (simp only [LN]; omega)) only [↓EC, EW, seval, ↓reduceIte, ↓EBD, EBE]); repeat (refine blkP.mk ?_; (try simp (disch := first | omega | (simp only [LN]; omega)) only [↓EC, EW, seval, ↓reduceIte, ↓EBD, EBE]))); refine callM_d (c_spec_l01Next (by assumption) (by omega)) ?_; rintro _ _ ⟨r5, _, _, rfl, rfl, hs_, hr_⟩; ((try simp (disch := first | omega | (simp only [LN]; omega)) only [↓EC, EW, seval, ↓reduceIte, ↓EBD, EBE, srcC]); repeat (refine blkP.mk ?_; (try simp (disch := first | omega | (simp only [LN]; omega)) only [↓EC, EW, seval, ↓reduceIte, ↓EBD, EBE, srcC]))))
      (refine Split.mkB (fun h => ?_) (fun h => ?_) <;> (try simp only [SD] at h))
      · ((try simp (disch := first | omega | (simp only [LN]; omega)) only [↓EC, EW, seval, ↓reduceIte, ↓EBD, EBE]); repeat (refine blkP.mk ?_; (try simp (disch := first | omega | (simp only [LN]; omega)) only [↓EC, EW, seval, ↓reduceIte, ↓EBD, EBE])))
        exact ⟨_, _, _, rfl, rfl, by assumption, by simp; omega⟩
      · ((try simp (disch := first | omega | (simp only [LN]; omega)) only [↓EC, EW, seval, ↓reduceIte, ↓EBD, EBE]); repeat (refine blkP.mk ?_; (try simp (disch := first | omega | (simp only [LN]; omega)) only [↓EC, EW, seval, ↓reduceIte, ↓EBD, EBE])))
        exact ⟨_, _, _, rfl, rfl, by assumption, by omega⟩
theorem c_spec_DrawWalkOf {x : Value} {l : List Int} (hB : okB l) (hl : l.length ≤ 4096) : PSpec Tryz.prog 19 [.fz x l] fun v =>
    ∃ n p q m u w e i s, v = .tup [vD n p q, .int .i64 m, .own 2 1 u.length (vi .i64 u), .own 2 1 w.length (vi .i64 w), .int .i64 e, .int .i64 i, .str s] ∧ okP p ∧ okP q ∧ (-1 ≤ n ∧ n ≤ 17) ∧ (0 ≤ m ∧ m ≤ 17) ∧ u.length ≤ 100 ∧ w.length ≤ 100 ∧ s.length ≤ 2000 := by
  refine spec_DrawWalkOf_f.f ?_
  dsimp only [spec_DrawWalkOf_F, pcal_B, pcalp_B, pcala_B, pcond_B, pgk_B, JN_B, LP_B]
  (refine blkP.ini ?_; repeat (refine blkP.mk ?_; (try simp (disch := first | omega | (simp only [LN]; omega)) only [↓EC, EW, seval, ↓reduceIte, ↓EBD, EBE])))
  refine ⟨by simp [cell1], ?_⟩
  have hB' : okB (3 :: l) := ⟨by simp; omega, fun a ha => by
    rcases List.mem_cons.1 ha with rfl | ha
    · omega
    · exact hB.2 a ha⟩
  refine pcnf' (l := 3 :: l) (Φ := fun x e c => e = 99 ∧ ∃ z, c = srcC x (3 :: l) 0 z) (by simp; omega) (fun x => c_spec_l01From hB') rfl ?_
  rintro y _ _ ⟨rfl, z, rfl⟩
  have hs_ := okS_0 hB'
  (refine blkP.ini ?_; repeat (refine blkP.mk ?_; (try simp (disch := first | omega | (simp only [LN]; omega)) only [↓EC, EW, seval, ↓reduceIte, ↓EBD, EBE, srcC])))
  refine pcd_ro (c_spec_l09Safe hB) ?_
  rintro v ⟨n, p, q, m, u, w, rfl, hp, hq, hn, hm, hu, hw⟩
  have hpl := hp.1
  have hql := hq.1
  (refine blkP.ini ?_; repeat (refine blkP.mk ?_; (try simp (disch := first | omega | (simp only [LN]; omega)) only [↓EC, EW, seval, ↓reduceIte, ↓EBD, EBE, vD, mats_vi])))
  (refine pcma [81] rfl ?_; (refine blkP.ini ?_; repeat (refine blkP.mk ?_; (try simp (disch := first | omega | (simp only [LN]; omega)) only [↓EC, EW, seval, ↓reduceIte, ↓EBD, EBE]))); refine callM_d (c_spec_l01Next (by assumption) (by omega)) ?_; rintro _ _ ⟨r1, _, _, rfl, rfl, hs_, hr_⟩; (refine blkP.ini ?_; repeat (refine blkP.mk ?_; (try simp (disch := first | omega | (simp only [LN]; omega)) only [↓EC, EW, seval, ↓reduceIte, ↓EBD, EBE, srcC]))))
  have t1 : 0 ≤ r1.tdiv 23 ∧ r1.tdiv 23 ≤ 1 := by
    have h1 : 0 ≤ r1.tdiv 23 := Int.tdiv_nonneg (by omega) (by omega)
    have h2 : r1.tdiv 23 ≤ r1 := Int.tdiv_le_self _ (by omega)
    have h3 := Int.mul_tdiv_add_tmod r1 23
    have h4 := Int.tmod_nonneg 23 (show 0 ≤ r1 by omega)
    exact ⟨h1, by omega⟩
  generalize hd1 : r1.tdiv 23 = q1 at *
  (refine blkP.ini ?_; repeat (refine blkP.mk ?_; (try simp (disch := first | omega | (simp only [LN]; omega)) only [↓EC, EW, seval, ↓reduceIte, ↓EBD, EBE, hd1])))
  (refine pcma [81] rfl ?_; (refine blkP.ini ?_; repeat (refine blkP.mk ?_; (try simp (disch := first | omega | (simp only [LN]; omega)) only [↓EC, EW, seval, ↓reduceIte, ↓EBD, EBE]))); refine callM_d (c_spec_l01Next (by assumption) (by omega)) ?_; rintro _ _ ⟨r2, _, _, rfl, rfl, hs_, hr_⟩; (refine blkP.ini ?_; repeat (refine blkP.mk ?_; (try simp (disch := first | omega | (simp only [LN]; omega)) only [↓EC, EW, seval, ↓reduceIte, ↓EBD, EBE, srcC]))))
  (refine pcma [81] rfl ?_; (refine blkP.ini ?_; repeat (refine blkP.mk ?_; (try simp (disch := first | omega | (simp only [LN]; omega)) only [↓EC, EW, seval, ↓reduceIte, ↓EBD, EBE]))); refine callM_d (c_spec_l01Next (by assumption) (by omega)) ?_; rintro _ _ ⟨r3, _, _, rfl, rfl, hs_, hr_⟩; (refine blkP.ini ?_; repeat (refine blkP.mk ?_; (try simp (disch := first | omega | (simp only [LN]; omega)) only [↓EC, EW, seval, ↓reduceIte, ↓EBD, EBE, srcC]))))
  have t3 : 0 ≤ r3.tdiv 23 ∧ r3.tdiv 23 ≤ 1 := by
    have h1 : 0 ≤ r3.tdiv 23 := Int.tdiv_nonneg (by omega) (by omega)
    have h3 := Int.mul_tdiv_add_tmod r3 23
    have h4 := Int.tmod_nonneg 23 (show 0 ≤ r3 by omega)
    exact ⟨h1, by omega⟩
  generalize hd3 : r3.tdiv 23 = q3 at *
  (refine blkP.ini ?_; repeat (refine blkP.mk ?_; (try simp (disch := first | omega | (simp only [LN]; omega)) only [↓EC, EW, seval, ↓reduceIte, ↓EBD, EBE, hd3])))
  (refine pcma [81] rfl ?_; (refine blkP.ini ?_; repeat (refine blkP.mk ?_; (try simp (disch := first | omega | (simp only [LN]; omega)) only [↓EC, EW, seval, ↓reduceIte, ↓EBD, EBE]))); refine callM_d (c_spec_l01Next (by assumption) (by omega)) ?_; rintro _ _ ⟨r4, _, _, rfl, rfl, hs_, hr_⟩; (refine blkP.ini ?_; repeat (refine blkP.mk ?_; (try simp (disch := first | omega | (simp only [LN]; omega)) only [↓EC, EW, seval, ↓reduceIte, ↓EBD, EBE, srcC]))))
  (refine pcma [81] rfl ?_; (refine blkP.ini ?_; repeat (refine blkP.mk ?_; (try simp (disch := first | omega | (simp only [LN]; omega)) only [↓EC, EW, seval, ↓reduceIte, ↓EBD, EBE]))); refine callM_d (c_spec_l03Word (by assumption)) ?_; rintro _ _ ⟨s, a9, z9, rfl, rfl, hs_, hsl⟩; (refine blkP.ini ?_; repeat (refine blkP.mk ?_; (try simp (disch := first | omega | (simp only [LN]; omega)) only [↓EC, EW, seval, ↓reduceIte, ↓EBD, EBE, srcC]))))
  exact ⟨n, p, q, m, u, w, r2, r4, s, rfl, hp, hq, hn, hm, hu, hw, hsl⟩
end Go.Proofs.YtjklebickfcddaaGreatDoor.Sep
end
section
/- The laws' dice. -/
namespace Go.Proofs.YtjklebickfcddaaGreatDoor.Sep
open Go.RowKit
set_option linter.unusedVariables false
set_option linter.unusedSimpArgs false
set_option maxRecDepth 20000
set_option maxHeartbeats 4000000

theorem finB_dice {x : Value} {l : List Int} {z k : Int} : FINB [.fz x l, .int .u64 k] (hput hnil 79 (Slot.row 67 1 [.fz x l, .int .i64 0, .int .u64 z])) (fun e c => e = 67 ∧ ∃ z, c = [.fz x l, .int .i64 0, .int .u64 z]) (.ptr 79 0) := by
  simp only [FINB, hput, ↓reduceIte]
  refine ⟨?_, trivial, z, rfl⟩
  intro v hv
  simp only [List.mem_cons, List.not_mem_nil, or_false] at hv
  rcases hv with rfl | rfl | rfl
  · exact .inr ⟨x, l, rfl, by simp⟩
  · exact .inl ⟨by simp [clo], rfl⟩
  · exact .inl ⟨by simp [clo], rfl⟩
theorem c_laws_roll {x : Value} {l : List Int} {k : Int} (hB : okB l) : PSpecB Tryz.prog 15 [.fz x l, .int .u64 k] fun e c => e = 67 ∧ ∃ z, c = srcC x l 0 z := by
  refine laws_roll_f.b ?_
  unfold srcC
  simp (disch := first | omega | (simp only [LN]; omega)) only [↓EC, EW, seval, ↓reduceIte, laws_roll_F]
  generalize IntKind.u64.wrap (IntKind.u64.wrap (k * 6257) + IntKind.u64.wrap l.length) = z0
  refine LP_of (σ := Nat × Int) 100000 [(79, 67, 1)] (fun s => [.int .i64 s.1]) (fun s => [[.fz x l, .int .i64 0, .int .u64 s.2]]) (fun s => s.1 ≤ l.length) (fun s => l.length - s.1) (0, z0) (by simp [frameOk, names, lpz, sclp, scv, scvs, nrfs, nrf, FRB]) (Nat.zero_le _) ?_ ?_
  · simp (disch := first | omega | (simp only [LN]; omega)) only [↓EC, EW, seval, ↓reduceIte, ColV_def]
  · rintro ⟨i, z⟩ h1
    simp only at h1
    have hB1 := hB.1
    simp (disch := first | omega | (simp only [LN]; omega)) only [↓EC, EW, seval, ↓reduceIte, ColV_def, lheap_def]
    (refine Split.mk (fun h => ?_) (fun h => ?_) <;> (try simp only [SD] at h))
    · have hlt : i < l.length := by omega
      (try simp (disch := first | omega | (simp only [LN]; omega)) only [↓EC, EW, seval, ↓reduceIte, map_u8 hlt])
      exact ⟨by simpa using hlt, (i + 1, _), rfl, rfl, by simp only; omega, by simp only; omega⟩
    · exact finB_dice
theorem c_below {x : Value} {l : List Int} {a z n : Int} (hs : okS l a) (hn : n ≤ 2000000000) : PSpecM Tryz.prog 16 [.ptr 0 0, .int .i64 n] [(0, 67, 1)] [srcC x l a z] fun v c =>
    ∃ r a' h', v = .int .i64 r ∧ c = [srcC x l a' h'] ∧ okS l a' ∧ (0 ≤ r ∧ (r < n ∨ r = 0)) := by
  refine laws_dice_below_f.m rfl rfl ?_
  unfold srcC
  obtain ⟨hB, ha1, ha2⟩ := hs
  simp (disch := first | omega | (simp only [LN]; omega)) only [↓EC, EW, seval, ↓reduceIte, laws_dice_below_F]
  (refine Split.mk (fun h => ?_) (fun h => ?_) <;> (try simp only [SD] at h))
  · exact ⟨0, a, z, rfl, rfl, ⟨hB, ha1, ha2⟩, by omega, .inr rfl⟩
  · generalize IntKind.u64.wrap (IntKind.u64.wrap (z * 6364136223846793005) + 1442695040888963407) = hh
    obtain ⟨q, hq, e⟩ := and24 (BitVec.ofInt IntKind.u64.bits (hh.fdiv (2 ^ Nat.min 33 IntKind.u64.bits)))
    rw [e]
    have m0 : ∀ y : Int, 0 ≤ y → 0 ≤ y.tmod n ∧ (y.tmod n < n ∨ y.tmod n = 0) := fun y hy => ⟨Int.tmod_nonneg _ hy, .inl (Int.tmod_lt_of_pos _ (by omega))⟩
    (try simp (disch := first | omega | (simp only [LN]; omega)) only [↓EC, EW, seval, ↓reduceIte])
    (refine Split.mk (fun h => ?_) (fun h => ?_) <;> (try simp only [SD] at h))
    · have hB1 := hB.1
      have hlt : a.toNat < l.length := by omega
      have hg := okB_gi hB hlt
      (try simp (disch := first | omega | (simp only [LN]; omega)) only [↓EC, EW, seval, ↓reduceIte, map_u8 hlt])
      have := m0 (q + gi l a.toNat) (by omega)
      exact ⟨by simpa using hlt, _, a + 1, hh, rfl, rfl, ⟨hB, by omega, by omega⟩, this⟩
    · have := m0 q (by omega)
      exact ⟨_, a, hh, rfl, rfl, ⟨hB, ha1, ha2⟩, this⟩
end Go.Proofs.YtjklebickfcddaaGreatDoor.Sep
end
section
/- The sums of voltages: the row. -/
namespace Go.Proofs.YtjklebickfcddaaGreatDoor.Sep
open Go.RowKit
set_option linter.unusedVariables false
set_option linter.unusedSimpArgs false
set_option maxRecDepth 20000
set_option maxHeartbeats 1000000

theorem c_impl_SumsOfVoltages {n m : Int} {b w x y : List Int} (hb : okP b) (hw : okP w) (hx : x.length ≤ 1048576) (hy : y.length ≤ 1048576) (h0 : covC n b w m x y = 0) :
    PSpec Tryz.prog 10 [vD n b w, .int .i64 m, .sl x.length (vi .i64 x), .sl y.length (vi .i64 y)] fun v => v = .tup [.own 28 1 3 (vo 2 (svL n b w m x y)), .int .i64 0] := by
  have hl := hb.len
  have hk := hw.len
  refine impl_SumsOfVoltages_f.f ?_
  have h1 := c_impl_coverCode (n := n) (m := m) hb hw hx hy
  have h2 := fun hd hm hxl hyl lx ly => c_impl_sumsOfVoltages (n := n) (m := m) (x := x) (y := y) hb hw hd hm hxl hyl lx ly
  obtain ⟨hd, hm, ⟨hxl, hxv⟩, hyl, hyv⟩ := covC_0 h0
  unfold vD at h1 h2 ⊢
  simp (disch := first | omega | (simp only [LN]; omega)) only [↓EC, EW, seval, ↓reduceIte, impl_SumsOfVoltages_F, hl, hk]
  refine pcd_v h1 ?_
  (try simp (disch := first | omega | (simp only [LN]; omega)) only [↓EC, EW, seval, ↓reduceIte, hl, hk, h0])
  refine pcd_o (h2 hd hm hxl hyl (volt_lm hm hxv) (volt_lm hm hyv)) ?_
  have hl3 : (svL n b w m x y).length = 3 := rfl
  generalize svL n b w m x y = S at *
  (try simp (disch := first | omega | (simp only [LN]; omega)) only [↓EC, EW, seval, ↓reduceIte, hl, hk, hl3])
theorem c_impl_SumsOfVoltages_no {n m : Int} {b w x y : List Int} (hb : okP b) (hw : okP w) (hx : x.length ≤ 1048576) (hy : y.length ≤ 1048576) (h0 : ¬ covC n b w m x y = 0) :
    PSpec Tryz.prog 10 [vD n b w, .int .i64 m, .sl x.length (vi .i64 x), .sl y.length (vi .i64 y)] fun v => v = .tup [.nils, .int .i64 (covC n b w m x y)] := by
  have hl := hb.len
  have hk := hw.len
  refine impl_SumsOfVoltages_f.f ?_
  have h1 := c_impl_coverCode (n := n) (m := m) hb hw hx hy
  unfold vD at h1 ⊢
  simp (disch := first | omega | (simp only [LN]; omega)) only [↓EC, EW, seval, ↓reduceIte, impl_SumsOfVoltages_F, hl, hk]
  refine pcd_v h1 ?_
  (try simp (disch := first | omega | (simp only [LN]; omega)) only [↓EC, EW, seval, ↓reduceIte, hl, hk])
  (refine Split.mk (fun h => ?_) (fun h => ?_) <;> (try simp only [SD] at h))
  · (try simp (disch := first | omega | (simp only [LN]; omega)) only [↓EC, EW, seval, ↓reduceIte, hl, hk])
  · exact absurd h h0
theorem c_spec_SumsOfVoltages {n m : Int} {b w x y : List Int} (hb : okP b) (hw : okP w) (hx : x.length ≤ 1048576) (hy : y.length ≤ 1048576) (h0 : covC n b w m x y = 0) :
    PSpec Tryz.prog 11 [vD n b w, .int .i64 m, .sl x.length (vi .i64 x), .sl y.length (vi .i64 y)] fun v => v = .tup [.own 28 1 3 (vo 2 (svL n b w m x y)), .int .i64 0] := by
  have hl := hb.len
  have hk := hw.len
  refine spec_SumsOfVoltages_f.f ?_
  have h1 := c_spec_l09Code (n := n) (m := m) hb hw hx hy
  have h2 := fun hd hm hxl hyl lx ly => c_spec_l09Sums (n := n) (m := m) (x := x) (y := y) hb hw hd hm hxl hyl lx ly
  obtain ⟨hd, hm, ⟨hxl, hxv⟩, hyl, hyv⟩ := covC_0 h0
  unfold vD at h1 h2 ⊢
  simp (disch := first | omega | (simp only [LN]; omega)) only [↓EC, EW, seval, ↓reduceIte, spec_SumsOfVoltages_F, hl, hk]
  refine pcd_v h1 ?_
  (try simp (disch := first | omega | (simp only [LN]; omega)) only [↓EC, EW, seval, ↓reduceIte, hl, hk, h0])
  refine pcd_o (h2 hd hm hxl hyl (volt_lm hm hxv) (volt_lm hm hyv)) ?_
  have hl3 : (svL n b w m x y).length = 3 := rfl
  generalize svL n b w m x y = S at *
  (try simp (disch := first | omega | (simp only [LN]; omega)) only [↓EC, EW, seval, ↓reduceIte, hl, hk, hl3])
theorem c_spec_SumsOfVoltages_no {n m : Int} {b w x y : List Int} (hb : okP b) (hw : okP w) (hx : x.length ≤ 1048576) (hy : y.length ≤ 1048576) (h0 : ¬ covC n b w m x y = 0) :
    PSpec Tryz.prog 11 [vD n b w, .int .i64 m, .sl x.length (vi .i64 x), .sl y.length (vi .i64 y)] fun v => v = .tup [.nils, .int .i64 (covC n b w m x y)] := by
  have hl := hb.len
  have hk := hw.len
  refine spec_SumsOfVoltages_f.f ?_
  have h1 := c_spec_l09Code (n := n) (m := m) hb hw hx hy
  unfold vD at h1 ⊢
  simp (disch := first | omega | (simp only [LN]; omega)) only [↓EC, EW, seval, ↓reduceIte, spec_SumsOfVoltages_F, hl, hk]
  refine pcd_v h1 ?_
  (try simp (disch := first | omega | (simp only [LN]; omega)) only [↓EC, EW, seval, ↓reduceIte, hl, hk])
  (refine Split.mk (fun h => ?_) (fun h => ?_) <;> (try simp only [SD] at h))
  · (try simp (disch := first | omega | (simp only [LN]; omega)) only [↓EC, EW, seval, ↓reduceIte, hl, hk])
  · exact absurd h h0

end Go.Proofs.YtjklebickfcddaaGreatDoor.Sep
end

/- Texts put together: C26, C27, C90, C10, C11, C12, C13, C29, C15, C75, C80, C92, C93, C94, C50, C52, C22, C40, C53, C95, C28. -/
import Derived.Test.YtjklebickfcddaaGreatDoorK4
section
/- What the functions on permutations make. -/
namespace Go.Proofs.YtjklebickfcddaaGreatDoor.Sep
open Go.RowKit
set_option linter.unusedVariables false
set_option linter.unusedSimpArgs false
set_option maxRecDepth 20000

/-- Numbers that are put in their places, one after another. -/
def putL (f : Nat → Nat × Int) : Nat → List Int
  | 0 => List.replicate 16 0
  | i + 1 => (putL f i).set (f i).1 (f i).2
theorem putL_len (f : Nat → Nat × Int) : ∀ i, (putL f i).length = 16
  | 0 => by simp [putL]
  | i + 1 => by simp [putL, putL_len f i]
def sameF (i : Nat) : Nat × Int := (i, i)
def thenF (p q : List Int) (i : Nat) : Nat × Int := (i, gi q (gi p i).toNat)
def backF (p : List Int) (i : Nat) : Nat × Int := ((gi p i).toNat, i)
theorem c_impl_same {n : Int}  (hn : 1 ≤ n ∧ n ≤ 16) : PSpec Tryz.prog 67 [.int .i64 n] fun v => v = .agg (vi .u8 (putL (sameF) n.toNat)) := by
  refine impl_same_f.f ?_
  simp (disch := first | omega | (simp only [LN]; omega)) only [↓EC, EW, seval, ↓reduceIte, impl_same_F]
  refine LP_of (σ := Nat) 100000 [(66, 25, 1), (67, 25, 1)] (fun s => [.int .i64 s]) (fun s => [vi .u8 (List.replicate 16 0), vi .u8 (putL (sameF) s)])
    (fun s => (s : Int) ≤ n) (fun s => (n - s).toNat) 0 (by simp [frameOk, names, lpz, sclp, scv, scvs, nrfs, nrf, FRB]) (by simp only [Int.natCast_zero]; omega) ?_ ?_
  · simp (disch := first | omega | (simp only [LN]; omega)) only [↓EC, EW, seval, ↓reduceIte, ColV_def]
    rfl
  · rintro i h1
    have hlf := putL_len (sameF) i
    simp (disch := first | omega | (simp only [LN]; omega)) only [↓EC, EW, seval, ↓reduceIte, ColV_def, lheap_def]
    (refine Split.mk (fun h => ?_) (fun h => ?_) <;> (try simp only [SD] at h))
    · skip
      (try simp (disch := first | omega | (simp only [LN]; omega)) only [↓EC, EW, seval, ↓reduceIte])
      exact ⟨i + 1, rfl, rfl, by omega, by omega⟩
    · (try simp (disch := first | omega | (simp only [LN]; omega)) only [↓EC, EW, seval, ↓reduceIte])
      rw [show i = n.toNat from by omega]
theorem c_spec_l01Same {n : Int}  (hn : 1 ≤ n ∧ n ≤ 16) : PSpec Tryz.prog 70 [.int .i64 n] fun v => v = .agg (vi .u8 (putL (sameF) n.toNat)) := by
  refine spec_l01Same_f.f ?_
  simp (disch := first | omega | (simp only [LN]; omega)) only [↓EC, EW, seval, ↓reduceIte, spec_l01Same_F]
  refine LP_of (σ := Nat) 100000 [(66, 25, 1), (67, 25, 1)] (fun s => [.int .i64 s]) (fun s => [vi .u8 (List.replicate 16 0), vi .u8 (putL (sameF) s)])
    (fun s => (s : Int) ≤ n) (fun s => (n - s).toNat) 0 (by simp [frameOk, names, lpz, sclp, scv, scvs, nrfs, nrf, FRB]) (by simp only [Int.natCast_zero]; omega) ?_ ?_
  · simp (disch := first | omega | (simp only [LN]; omega)) only [↓EC, EW, seval, ↓reduceIte, ColV_def]
    rfl
  · rintro i h1
    have hlf := putL_len (sameF) i
    simp (disch := first | omega | (simp only [LN]; omega)) only [↓EC, EW, seval, ↓reduceIte, ColV_def, lheap_def]
    (refine Split.mk (fun h => ?_) (fun h => ?_) <;> (try simp only [SD] at h))
    · skip
      (try simp (disch := first | omega | (simp only [LN]; omega)) only [↓EC, EW, seval, ↓reduceIte])
      exact ⟨i + 1, rfl, rfl, by omega, by omega⟩
    · (try simp (disch := first | omega | (simp only [LN]; omega)) only [↓EC, EW, seval, ↓reduceIte])
      rw [show i = n.toNat from by omega]
theorem c_impl_then {p q : List Int} {n : Int} (hp : lo16 p) (hq : lo16 q) (hn : 1 ≤ n ∧ n ≤ 16) : PSpec Tryz.prog 68 [.agg (vi .u8 p), .agg (vi .u8 q), .int .i64 n] fun v => v = .agg (vi .u8 (putL (thenF p q) n.toNat)) := by
  refine impl_then_f.f ?_
  simp (disch := first | omega | (simp only [LN]; omega)) only [↓EC, EW, seval, ↓reduceIte, impl_then_F]
  refine LP_of (σ := Nat) 100000 [(67, 25, 1), (68, 25, 1), (70, 25, 1), (71, 25, 1)] (fun s => [.int .i64 s]) (fun s => [vi .u8 p, vi .u8 q, vi .u8 (List.replicate 16 0), vi .u8 (putL (thenF p q) s)])
    (fun s => (s : Int) ≤ n) (fun s => (n - s).toNat) 0 (by simp [frameOk, names, lpz, sclp, scv, scvs, nrfs, nrf, FRB]) (by simp only [Int.natCast_zero]; omega) ?_ ?_
  · simp (disch := first | omega | (simp only [LN]; omega)) only [↓EC, EW, seval, ↓reduceIte, ColV_def]
    rfl
  · rintro i h1
    have hlf := putL_len (thenF p q) i
    simp (disch := first | omega | (simp only [LN]; omega)) only [↓EC, EW, seval, ↓reduceIte, ColV_def, lheap_def]
    (refine Split.mk (fun h => ?_) (fun h => ?_) <;> (try simp only [SD] at h))
    · have a1 := hp.2 i (by omega)
      have a2 := hp.1
      have a3 := hq.1
      have a4 := hq.2 (gi p i).toNat (by omega)
      (try simp (disch := first | omega | (simp only [LN]; omega)) only [↓EC, EW, seval, ↓reduceIte])
      exact ⟨i + 1, rfl, rfl, by omega, by omega⟩
    · (try simp (disch := first | omega | (simp only [LN]; omega)) only [↓EC, EW, seval, ↓reduceIte])
      rw [show i = n.toNat from by omega]
theorem c_spec_l01Then {p q : List Int} {n : Int} (hp : lo16 p) (hq : lo16 q) (hn : 1 ≤ n ∧ n ≤ 16) : PSpec Tryz.prog 71 [.agg (vi .u8 p), .agg (vi .u8 q), .int .i64 n] fun v => v = .agg (vi .u8 (putL (thenF p q) n.toNat)) := by
  refine spec_l01Then_f.f ?_
  simp (disch := first | omega | (simp only [LN]; omega)) only [↓EC, EW, seval, ↓reduceIte, spec_l01Then_F]
  refine LP_of (σ := Nat) 100000 [(67, 25, 1), (68, 25, 1), (70, 25, 1), (71, 25, 1)] (fun s => [.int .i64 s]) (fun s => [vi .u8 p, vi .u8 q, vi .u8 (List.replicate 16 0), vi .u8 (putL (thenF p q) s)])
    (fun s => (s : Int) ≤ n) (fun s => (n - s).toNat) 0 (by simp [frameOk, names, lpz, sclp, scv, scvs, nrfs, nrf, FRB]) (by simp only [Int.natCast_zero]; omega) ?_ ?_
  · simp (disch := first | omega | (simp only [LN]; omega)) only [↓EC, EW, seval, ↓reduceIte, ColV_def]
    rfl
  · rintro i h1
    have hlf := putL_len (thenF p q) i
    simp (disch := first | omega | (simp only [LN]; omega)) only [↓EC, EW, seval, ↓reduceIte, ColV_def, lheap_def]
    (refine Split.mk (fun h => ?_) (fun h => ?_) <;> (try simp only [SD] at h))
    · have a1 := hp.2 i (by omega)
      have a2 := hp.1
      have a3 := hq.1
      have a4 := hq.2 (gi p i).toNat (by omega)
      (try simp (disch := first | omega | (simp only [LN]; omega)) only [↓EC, EW, seval, ↓reduceIte])
      exact ⟨i + 1, rfl, rfl, by omega, by omega⟩
    · (try simp (disch := first | omega | (simp only [LN]; omega)) only [↓EC, EW, seval, ↓reduceIte])
      rw [show i = n.toNat from by omega]
theorem c_impl_back {p : List Int} {n : Int} (hp : lo16 p) (hn : 1 ≤ n ∧ n ≤ 16) : PSpec Tryz.prog 38 [.agg (vi .u8 p), .int .i64 n] fun v => v = .agg (vi .u8 (putL (backF p) n.toNat)) := by
  refine impl_back_f.f ?_
  simp (disch := first | omega | (simp only [LN]; omega)) only [↓EC, EW, seval, ↓reduceIte, impl_back_F]
  refine LP_of (σ := Nat) 100000 [(66, 25, 1), (68, 25, 1), (69, 25, 1)] (fun s => [.int .i64 s]) (fun s => [vi .u8 p, vi .u8 (List.replicate 16 0), vi .u8 (putL (backF p) s)])
    (fun s => (s : Int) ≤ n) (fun s => (n - s).toNat) 0 (by simp [frameOk, names, lpz, sclp, scv, scvs, nrfs, nrf, FRB]) (by simp only [Int.natCast_zero]; omega) ?_ ?_
  · simp (disch := first | omega | (simp only [LN]; omega)) only [↓EC, EW, seval, ↓reduceIte, ColV_def]
    rfl
  · rintro i h1
    have hlf := putL_len (backF p) i
    simp (disch := first | omega | (simp only [LN]; omega)) only [↓EC, EW, seval, ↓reduceIte, ColV_def, lheap_def]
    (refine Split.mk (fun h => ?_) (fun h => ?_) <;> (try simp only [SD] at h))
    · have a1 := hp.2 i (by omega)
      have a2 := hp.1
      (try simp (disch := first | omega | (simp only [LN]; omega)) only [↓EC, EW, seval, ↓reduceIte])
      exact ⟨i + 1, rfl, rfl, by omega, by omega⟩
    · (try simp (disch := first | omega | (simp only [LN]; omega)) only [↓EC, EW, seval, ↓reduceIte])
      rw [show i = n.toNat from by omega]
theorem c_spec_l01Back {p : List Int} {n : Int} (hp : lo16 p) (hn : 1 ≤ n ∧ n ≤ 16) : PSpec Tryz.prog 45 [.agg (vi .u8 p), .int .i64 n] fun v => v = .agg (vi .u8 (putL (backF p) n.toNat)) := by
  refine spec_l01Back_f.f ?_
  simp (disch := first | omega | (simp only [LN]; omega)) only [↓EC, EW, seval, ↓reduceIte, spec_l01Back_F]
  refine LP_of (σ := Nat) 100000 [(66, 25, 1), (68, 25, 1), (69, 25, 1)] (fun s => [.int .i64 s]) (fun s => [vi .u8 p, vi .u8 (List.replicate 16 0), vi .u8 (putL (backF p) s)])
    (fun s => (s : Int) ≤ n) (fun s => (n - s).toNat) 0 (by simp [frameOk, names, lpz, sclp, scv, scvs, nrfs, nrf, FRB]) (by simp only [Int.natCast_zero]; omega) ?_ ?_
  · simp (disch := first | omega | (simp only [LN]; omega)) only [↓EC, EW, seval, ↓reduceIte, ColV_def]
    rfl
  · rintro i h1
    have hlf := putL_len (backF p) i
    simp (disch := first | omega | (simp only [LN]; omega)) only [↓EC, EW, seval, ↓reduceIte, ColV_def, lheap_def]
    (refine Split.mk (fun h => ?_) (fun h => ?_) <;> (try simp only [SD] at h))
    · have a1 := hp.2 i (by omega)
      have a2 := hp.1
      (try simp (disch := first | omega | (simp only [LN]; omega)) only [↓EC, EW, seval, ↓reduceIte])
      exact ⟨i + 1, rfl, rfl, by omega, by omega⟩
    · (try simp (disch := first | omega | (simp only [LN]; omega)) only [↓EC, EW, seval, ↓reduceIte])
      rw [show i = n.toNat from by omega]

theorem putL_lo {f : Nat → Nat × Int} : ∀ (k : Nat), (∀ i, i < k → 0 ≤ (f i).2 ∧ (f i).2 < 16) → lo16 (putL f k)
  | 0, _ => ⟨by simp [putL], fun i hi => by simp only [putL]; rw [gi_rep]; split <;> omega⟩
  | k + 1, h => by
    have ih := putL_lo (f := f) k fun i hi => h i (by omega)
    refine ⟨by simp [putL, putL_len], fun i hi => ?_⟩
    simp only [putL]
    rw [gi_set]
    split
    · exact h k (by omega)
    · exact ih.2 i hi
def thenP (p q : List Int) (n : Int) : List Int := putL (thenF p q) n.toNat
def backP (p : List Int) (n : Int) : List Int := putL (backF p) n.toNat
def sameP (n : Int) : List Int := putL sameF n.toNat
def faceP (b w : List Int) (n : Int) : List Int := backP (thenP b w n) n
theorem thenP_lo {p q : List Int} {n : Int} (hp : lo16 p) (hq : lo16 q) (hn : 1 ≤ n ∧ n ≤ 16) : lo16 (thenP p q n) := putL_lo _ fun i hi => by
  have := hp.2 i (by omega)
  exact hq.2 _ (by omega)
theorem backP_lo {p : List Int} {n : Int} (hn : 1 ≤ n ∧ n ≤ 16) : lo16 (backP p n) := putL_lo _ fun i hi => by simp only [backF]; omega
theorem sameP_lo {n : Int} (hn : 1 ≤ n ∧ n ≤ 16) : lo16 (sameP n) := putL_lo _ fun i hi => by simp only [sameF]; omega
theorem c_impl_face {b w : List Int} {n : Int} (hb : lo16 b) (hw : lo16 w) (hn : 1 ≤ n ∧ n ≤ 16) : PSpec Tryz.prog 59 [vD n b w] fun v => v = .agg (vi .u8 (faceP b w n)) := by
  have hl := hb.1
  have hk := hw.1
  refine impl_face_f.f ?_
  unfold vD
  simp (disch := first | omega | (simp only [LN]; omega)) only [↓EC, EW, seval, ↓reduceIte, impl_face_F, hl, hk]
  have hy := putL_len (thenF b w) n.toNat
  refine pcd_v (c_impl_then hb hw hn) ?_
  (try simp (disch := first | omega | (simp only [LN]; omega)) only [↓EC, EW, seval, ↓reduceIte, hl, hk, hy])
  refine pcd_v (c_impl_back (thenP_lo hb hw hn) hn) ?_
  have hx := putL_len (backF (putL (thenF b w) n.toNat)) n.toNat
  (try simp (disch := first | omega | (simp only [LN]; omega)) only [↓EC, EW, seval, ↓reduceIte, hl, hk, hx])
  rfl
theorem c_spec_l01Face {b w : List Int} {n : Int} (hb : lo16 b) (hw : lo16 w) (hn : 1 ≤ n ∧ n ≤ 16) : PSpec Tryz.prog 61 [vD n b w] fun v => v = .agg (vi .u8 (faceP b w n)) := by
  have hl := hb.1
  have hk := hw.1
  refine spec_l01Face_f.f ?_
  unfold vD
  simp (disch := first | omega | (simp only [LN]; omega)) only [↓EC, EW, seval, ↓reduceIte, spec_l01Face_F, hl, hk]
  have hy := putL_len (thenF b w) n.toNat
  refine pcd_v (c_spec_l01Then hb hw hn) ?_
  (try simp (disch := first | omega | (simp only [LN]; omega)) only [↓EC, EW, seval, ↓reduceIte, hl, hk, hy])
  refine pcd_v (c_spec_l01Back (thenP_lo hb hw hn) hn) ?_
  have hx := putL_len (backF (putL (thenF b w) n.toNat)) n.toNat
  (try simp (disch := first | omega | (simp only [LN]; omega)) only [↓EC, EW, seval, ↓reduceIte, hl, hk, hx])
  rfl
end Go.Proofs.YtjklebickfcddaaGreatDoor.Sep
end
section
/- What BoundariesOf computes. -/
namespace Go.Proofs.YtjklebickfcddaaGreatDoor.Sep
open Go.RowKit
set_option linter.unusedVariables false
set_option linter.unusedSimpArgs false
set_option maxRecDepth 20000

/-- Numbers below n lead to numbers below n. -/
def ltP (p : List Int) (n : Int) : Prop := ∀ x : Nat, (x : Int) < n → 0 ≤ gi p x ∧ gi p x < n
theorem isPm.ltP {p : List Int} {n : Int} (hp : okP p) (h : isPm p n) : ltP p n := fun x hx => ⟨(hp.2 x (by have := h.1; omega)).1, ((h.2 x (by have := h.1; omega)).1 hx).1⟩
theorem putL_lt {n : Int} {f : Nat → Nat × Int} : ∀ (k : Nat), (∀ i, i < k → 0 ≤ (f i).2 ∧ (f i).2 < n) → 1 ≤ n → ltP (putL f k) n
  | 0, _, hn => fun x hx => by simp only [putL]; rw [gi_rep]; split <;> omega
  | k + 1, h, hn => fun x hx => by
    simp only [putL]
    rw [gi_set]
    split
    · exact h k (by omega)
    · exact putL_lt k (fun i hi => h i (by omega)) hn x hx
theorem backP_lt {p : List Int} {n : Int} (hn : 1 ≤ n ∧ n ≤ 16) : ltP (backP p n) n := putL_lt _ (fun i hi => by simp only [backF]; omega) hn.1
theorem cycF_lt {p : List Int} {n : Int} (hp : ltP p n) : ∀ (c : Nat) {k : Int} {m : List Bool} {acc : List Int}, m.count false = c → (0 ≤ k ∧ k < n) → (∀ y ∈ acc, 0 ≤ y ∧ y < n) → ∀ y ∈ (cycF p k m acc).2, 0 ≤ y ∧ y < n := by
  intro c
  induction c using Nat.strongRecOn with
  | ind c ih =>
    intro k m acc hc hk hacc
    by_cases h : gb m k.toNat = false ∧ k.toNat < m.length
    · rw [cycF_go h.1 h.2]
      have hlt := count_false_lt h.1 h.2
      refine @ih _ (by omega) (gi p k.toNat) (m.set k.toNat true) (acc ++ [k]) rfl (hp _ (by omega)) fun y hy => ?_
      simp only [List.mem_append, List.mem_singleton] at hy
      rcases hy with hy | rfl
      · exact hacc y hy
      · exact hk
    · rw [cycF, dif_neg h]; exact hacc
theorem cycO_lt {p : List Int} {n : Int} (hp : ltP p n) : ∀ i : Nat, (i : Int) ≤ n → ∀ l ∈ (cycO p i).2, (∀ y ∈ l, 0 ≤ y ∧ y < n) ∧ l.length ≤ 16
  | 0, _ => by simp [cycO]
  | i + 1, hi => by
    have ih := cycO_lt hp i (by omega)
    simp only [cycO]
    split
    · exact ih
    · intro l hl
      simp only [List.mem_append, List.mem_singleton] at hl
      rcases hl with hl | rfl
      · exact ih l hl
      · refine ⟨cycF_lt hp _ rfl ⟨by omega, by omega⟩ (by simp), ?_⟩
        have h1 := (cycF_len (p := p) _ (k := (i : Int)) (m := (cycO p i).1) (acc := []) rfl).2.2
        have h2 := List.count_le_length (a := false) (l := (cycO p i).1)
        rw [(cycO_len i).1] at h2
        simp at h1
        omega

/-! ### Chains -/
end Go.Proofs.YtjklebickfcddaaGreatDoor.Sep
end
section
/- Orbits of permutations: how many cycles, what they are. -/
namespace Go.Proofs.YtjklebickfcddaaGreatDoor.Sep
open Go.RowKit
set_option linter.unusedVariables false
set_option linter.unusedSimpArgs false
set_option maxRecDepth 20000
set_option maxHeartbeats 1000000

def fp (p : List Int) (x : Nat) : Nat := (gi p x).toNat
def it (p : List Int) : Nat → Nat → Nat
  | 0, x => x
  | k + 1, x => fp p (it p k x)
theorem it_add {p : List Int} {k x : Nat} : ∀ j, it p (j + k) x = it p j (it p k x)
  | 0 => by rw [Nat.zero_add]; rfl
  | j + 1 => by rw [Nat.add_right_comm]; simp only [it]; rw [it_add j]
/-- A permutation of the numbers below N. -/
structure Pf (p : List Int) (N : Nat) : Prop where
  lt : ∀ x, x < N → fp p x < N
  inj : ∀ x y, x < N → y < N → fp p x = fp p y → x = y
  le : N ≤ 16
variable {p : List Int} {N : Nat}
theorem it_lt (h : Pf p N) {x : Nat} (hx : x < N) : ∀ k, it p k x < N
  | 0 => hx
  | k + 1 => h.lt _ (it_lt h hx k)
theorem it_inj (h : Pf p N) {x y : Nat} (hx : x < N) (hy : y < N) : ∀ k, it p k x = it p k y → x = y
  | 0, e => e
  | k + 1, e => it_inj h hx hy k (h.inj _ _ (it_lt h hx k) (it_lt h hy k) e)
theorem it_ret (h : Pf p N) {x : Nat} (hx : x < N) : ∃ k, 1 ≤ k ∧ it p k x = x := by
  refine Classical.byContradiction fun hno => ?_
  have hnd : ((List.range (N + 1)).map fun k => it p k x).Nodup := by
    refine List.pairwise_map.2 (List.Pairwise.imp_of_mem ?_ List.pairwise_lt_range)
    intro a b _ _ hab e
    have e2 : it p a x = it p a (it p (b - a) x) := by rw [← it_add, show a + (b - a) = b from by omega]; exact e
    exact hno ⟨b - a, by omega, (it_inj h hx (it_lt h hx _) a e2).symm⟩
  have := nodup_len N _ hnd fun y hy => by
    obtain ⟨k, _, rfl⟩ := List.mem_map.1 hy
    exact it_lt h hx k
  simp at this
  omega
theorem it_mul {K x : Nat} (hK : it p K x = x) : ∀ k, it p (K * k) x = x
  | 0 => rfl
  | k + 1 => by rw [Nat.mul_succ, it_add, hK, it_mul hK k]
/-- y is met from x. -/
def Rch (p : List Int) (x y : Nat) : Prop := ∃ k, it p k x = y
theorem Rch.trans {x y z : Nat} : Rch p x y → Rch p y z → Rch p x z
  | ⟨j, e⟩, ⟨k, e'⟩ => ⟨k + j, by rw [it_add, e, e']⟩
theorem Rch.symm (h : Pf p N) {x y : Nat} (hx : x < N) : Rch p x y → Rch p y x := by
  rintro ⟨k, rfl⟩
  obtain ⟨K, h1, h2⟩ := it_ret h hx
  refine ⟨K * k - k, ?_⟩
  have : k ≤ K * k := Nat.le_mul_of_pos_left k h1
  rw [← it_add, show K * k - k + k = K * k from by omega, it_mul h2]
/-- The cycle of x, from x. -/
def orb (p : List Int) (x L : Nat) : List Int := (List.range L).map fun j => (it p j x : Int)
structure Per (p : List Int) (x L : Nat) : Prop where
  pos : 1 ≤ L
  ret : it p L x = x
  min : ∀ j, 0 < j → j < L → it p j x ≠ x
theorem gbs {m : List Bool} {k x : Nat} (hk : k < m.length) : gb (m.set k true) x = true ↔ x = k ∨ gb m x = true := by
  rw [gb_set]
  by_cases e : k = x
  · subst e; rw [if_pos ⟨rfl, hk⟩]; simp
  · rw [if_neg fun h' => e h'.1]; simp [Ne.symm e]
theorem cycF_orb (h : Pf p N) (hnn : ∀ x : Nat, 0 ≤ gi p x) {x : Nat} (hx : x < N) {C : Nat → Prop} (hC : ∀ k, ¬ C (it p k x)) : ∀ (c t : Nat) {m : List Bool}, m.count false = c → m.length = 16 → (∀ j, 0 < j → j < t → it p j x ≠ x) →
    (∀ y, y < 16 → (gb m y = true ↔ C y ∨ ∃ j, j < t ∧ it p j x = y)) →
    ∃ L, Per p x L ∧ (cycF p (it p t x : Int) m (orb p x t)).2 = orb p x L ∧ (cycF p (it p t x : Int) m (orb p x t)).1.length = 16 ∧ ∀ y, y < 16 → (gb (cycF p (it p t x : Int) m (orb p x t)).1 y = true ↔ C y ∨ ∃ j, j < L ∧ it p j x = y) := by
  intro c
  induction c using Nat.strongRecOn with
  | ind c ih =>
    intro t m hc hl hmin hm
    have hlt := it_lt h hx t
    have hN := h.le
    cases hg : gb m (it p t x) with
    | false =>
      have hcl := count_false_lt hg (by omega)
      rw [cycF_go (by rw [Int.toNat_natCast]; exact hg) (by rw [Int.toNat_natCast]; omega)]
      simp only [Int.toNat_natCast]
      have e1 : gi p (it p t x) = (it p (t + 1) x : Int) := by simp only [it, fp]; have := hnn (it p t x); omega
      have e2 : orb p x t ++ [(it p t x : Int)] = orb p x (t + 1) := by simp [orb, List.range_succ]
      rw [e1, e2]
      refine ih _ (by omega) (t + 1) rfl (by simp [hl]) (fun j h0 hj => ?_) (fun y hy => ?_)
      · by_cases hjt : j = t
        · subst hjt
          intro e
          have := (hm x (by omega)).2 (.inr ⟨0, h0, rfl⟩)
          rw [e] at hg; rw [hg] at this; cases this
        · exact hmin j h0 (by omega)
      · rw [gbs (by omega), hm y hy]
        constructor
        · rintro (rfl | h | ⟨j, h1, h2⟩)
          · exact .inr ⟨t, by omega, rfl⟩
          · exact .inl h
          · exact .inr ⟨j, by omega, h2⟩
        · rintro (h | ⟨j, h1, h2⟩)
          · exact .inr (.inl h)
          · by_cases hjt : j = t
            · subst hjt; exact .inl h2.symm
            · exact .inr (.inr ⟨j, by omega, h2⟩)
    | true =>
      rw [cycF_end (by rw [Int.toNat_natCast]; exact hg)]
      rcases (hm _ (by omega)).1 hg with h1 | ⟨j, h1, h2⟩
      · exact absurd h1 (hC t)
      · have e : it p j x = it p j (it p (t - j) x) := by rw [← it_add, show j + (t - j) = t from by omega]; exact h2
        have e3 := (it_inj h hx (it_lt h hx _) j e).symm
        by_cases hj : j = 0
        · subst hj
          exact ⟨t, ⟨by omega, by simpa using e3, hmin⟩, rfl, hl, hm⟩
        · exact absurd e3 (hmin (t - j) (by omega) (by omega))
/-- Is x the least of its cycle? -/
def nwB (p : List Int) (x : Nat) : Bool := !gb (cycO p x).1 x
def cyF (p : List Int) (x : Nat) : List Int := (cycF p x (cycO p x).1 []).2
theorem cycO_list : ∀ i : Nat, (cycO p i).2 = ((List.range i).filter (nwB p)).map (cyF p)
  | 0 => rfl
  | i + 1 => by
    rw [List.range_succ, List.filter_append, List.map_append, ← cycO_list i]
    cases hg : gb (cycO p i).1 i with
    | true => rw [cycO_yes hg]; simp [nwB, hg]
    | false => rw [cycO_no hg]; simp [nwB, hg, cyF]
theorem cycO_orb (h : Pf p N) (hnn : ∀ x : Nat, 0 ≤ gi p x) : ∀ i : Nat, i ≤ N → (cycO p i).1.length = 16 ∧ ∀ y, y < 16 → (gb (cycO p i).1 y = true ↔ ∃ j, j < i ∧ Rch p j y)
  | 0, _ => ⟨by simp [cycO], fun y hy => by
    have e : gb (cycO p 0).1 y = false := by simp only [cycO]; rw [gb_rep]; split <;> rfl
    rw [e]; simp⟩
  | i + 1, hi => by
    obtain ⟨h1, h2⟩ := cycO_orb h hnn i (by omega)
    have hN := h.le
    cases hg : gb (cycO p i).1 i with
    | true =>
      rw [cycO_yes hg]
      refine ⟨h1, fun y hy => ?_⟩
      rw [h2 y hy]
      constructor
      · rintro ⟨j, a, b⟩; exact ⟨j, by omega, b⟩
      · rintro ⟨j, a, b⟩
        by_cases hj : j = i
        · subst hj
          obtain ⟨j', a', b'⟩ := (h2 j (by omega)).1 hg
          exact ⟨j', a', b'.trans b⟩
        · exact ⟨j, by omega, b⟩
    | false =>
      rw [cycO_no hg]
      have hno : ¬ ∃ j, j < i ∧ Rch p j i := fun hh => by rw [(h2 i (by omega)).2 hh] at hg; cases hg
      obtain ⟨L, p1, p2, p3, p4⟩ := cycF_orb h hnn (x := i) (by omega) (C := fun y => ∃ j, j < i ∧ Rch p j y)
        (fun k ⟨j, a, b⟩ => hno ⟨j, a, b.trans (Rch.symm h (x := i) (by omega) ⟨k, rfl⟩)⟩) _ 0 (m := (cycO p i).1) rfl h1 (fun j a b => absurd b (Nat.not_lt_zero j)) (fun y hy => by rw [h2 y hy]; simp)
      refine ⟨p3, fun y hy => ?_⟩
      have := p4 y hy
      simp only [it, orb, List.range_zero, List.map_nil] at this
      show gb (cycF p (i : Int) (cycO p i).1 []).1 y = true ↔ _
      rw [this]
      constructor
      · rintro (⟨j, a, b⟩ | ⟨j, a, b⟩)
        · exact ⟨j, by omega, b⟩
        · exact ⟨i, by omega, j, b⟩
      · rintro ⟨j, a, k, b⟩
        by_cases hj : j = i
        · subst hj
          right
          refine ⟨k % L, Nat.mod_lt _ p1.pos, ?_⟩
          rw [← b]
          conv => rhs; rw [← Nat.mod_add_div k L, it_add, it_mul p1.ret]
        · exact .inl ⟨j, by omega, k, b⟩
/-- x is the least of its cycle. -/
theorem nwB_iff (h : Pf p N) (hnn : ∀ x : Nat, 0 ≤ gi p x) {x : Nat} (hx : x < N) : nwB p x = true ↔ ∀ j, j < x → ¬ Rch p j x := by
  have hN := h.le
  have := (cycO_orb h hnn x (by omega)).2 x (by omega)
  unfold nwB
  rw [Bool.not_eq_true', ← Bool.not_eq_true, this]
  exact ⟨fun h j a b => h ⟨j, a, b⟩, fun h ⟨j, a, b⟩ => h j a b⟩
theorem cyF_orb (h : Pf p N) (hnn : ∀ x : Nat, 0 ≤ gi p x) {x : Nat} (hx : x < N) (hn : nwB p x = true) : ∃ L, Per p x L ∧ cyF p x = orb p x L := by
  obtain ⟨h1, h2⟩ := cycO_orb h hnn x (by omega)
  have hno := (nwB_iff h hnn hx).1 hn
  obtain ⟨L, p1, p2, _⟩ := cycF_orb h hnn hx (C := fun y => ∃ j, j < x ∧ Rch p j y) (fun k ⟨j, a, b⟩ => hno j a (b.trans (Rch.symm h hx ⟨k, rfl⟩))) _ 0 (m := (cycO p x).1) rfl h1 (fun j a b => absurd b (Nat.not_lt_zero j)) (fun y hy => by rw [h2 y hy]; simp)
  exact ⟨L, p1, p2⟩
/-- How many of the numbers below i are the least of their cycles. -/
def cN (p : List Int) : Nat → Nat
  | 0 => 0
  | i + 1 => cN p i + if nwB p i = true then 1 else 0
theorem cyc_cN {n : Int} : (cyc p n).length = cN p n.toNat := by
  unfold cyc
  rw [cycO_list, List.length_map]
  generalize n.toNat = k
  induction k with
  | zero => rfl
  | succ k ih =>
    rw [List.range_succ, List.filter_append, List.length_append, ih]
    simp only [cN, List.filter_cons, List.filter_nil]
    cases nwB p k <;> simp
/-! ### Sums along a cycle, coverings -/
def Vs (p : List Int) (v : Nat → Nat) (x : Nat) : Nat → Nat
  | 0 => 0
  | k + 1 => Vs p v x k + v (it p k x)
theorem Vs_add {v : Nat → Nat} {x L : Nat} : ∀ k, Vs p v x (k + L) = Vs p v x L + Vs p v (it p L x) k
  | 0 => by simp [Vs]
  | k + 1 => by
    rw [Nat.add_right_comm]
    simp only [Vs]
    rw [Vs_add k, it_add]; omega
/-- The covering of a permutation, with voltages. -/
structure Cov (p q : List Int) (N m : Nat) (v : Nat → Nat) : Prop where
  hp : Pf p N
  hq : Pf q (N * m)
  np : ∀ x : Nat, 0 ≤ gi p x
  nq : ∀ x : Nat, 0 ≤ gi q x
  m0 : 1 ≤ m
  at_ : ∀ x i, x < N → i < m → fp q (m * x + i) = m * fp p x + (i + v x) % m
variable {q : List Int} {m : Nat} {v : Nat → Nat}
theorem Cov.it (h : Cov p q N m v) {x i : Nat} (hx : x < N) (hi : i < m) : ∀ k, it q k (m * x + i) = m * Sep.it p k x + (i + Vs p v x k) % m
  | 0 => by simp only [Sep.it, Vs, Nat.add_zero]; rw [Nat.mod_eq_of_lt hi]
  | k + 1 => by
    simp only [Sep.it, Vs]
    rw [Cov.it h hx hi k, h.at_ _ _ (it_lt h.hp hx k) (Nat.mod_lt _ h.m0), Nat.mod_add_mod, Nat.add_assoc]
theorem idx_lt {x i : Nat} (hx : x < N) (hi : i < m) : m * x + i < N * m := by
  have : m * (x + 1) ≤ m * N := Nat.mul_le_mul_left m hx
  rw [Nat.mul_succ] at this
  rw [Nat.mul_comm N m]; omega
theorem idx_div {x i y j : Nat} (hi : i < m) (hj : j < m) (e : m * x + i = m * y + j) : x = y ∧ i = j := by
  have h1 : (m * x + i) / m = x := by rw [Nat.mul_add_div (by omega), Nat.div_eq_of_lt hi, Nat.add_zero]
  have h2 : (m * y + j) / m = y := by rw [Nat.mul_add_div (by omega), Nat.div_eq_of_lt hj, Nat.add_zero]
  have : x = y := by rw [← h1, e, h2]
  subst this
  exact ⟨rfl, by omega⟩
theorem Cov.nw_no (h : Cov p q N m v) {x i : Nat} (hx : x < N) (hi : i < m) (hn : ¬ nwB p x = true) : ¬ nwB q (m * x + i) = true := by
  rw [nwB_iff h.hp h.np hx] at hn
  rw [nwB_iff h.hq h.nq (idx_lt hx hi)]
  intro hall
  refine hn fun j hj ⟨k, e⟩ => ?_
  -- from (j, i') with the right i' one comes to (x, i)
  have hm := h.m0
  refine hall (m * j + (i + (m - Vs p v j k % m)) % m) ?_ ⟨k, ?_⟩
  · have h1 := Nat.mod_lt (i + (m - Vs p v j k % m)) hm
    have h2 : m * (j + 1) ≤ m * x := Nat.mul_le_mul_left m hj
    rw [Nat.mul_succ] at h2
    omega
  · rw [h.it (by omega) (Nat.mod_lt _ hm), e, Nat.mod_add_mod]
    congr 1
    have h1 := Nat.mod_lt (Vs p v j k) hm
    have h2 := Nat.mod_add_div (Vs p v j k) m
    rw [show i + (m - Vs p v j k % m) + Vs p v j k = i + m * (1 + Vs p v j k / m) from by rw [Nat.mul_add]; omega, Nat.add_mul_mod_self_left, Nat.mod_eq_of_lt hi]
/-- How many of a row of numbers are the least of their cycles. -/
def rw_ (q : List Int) (a : Nat) : Nat → Nat
  | 0 => 0
  | j + 1 => rw_ q a j + if nwB q (a + j) = true then 1 else 0
theorem cN_row {a : Nat} : ∀ j, cN q (a + j) = cN q a + rw_ q a j
  | 0 => rfl
  | j + 1 => by rw [← Nat.add_assoc]; simp only [cN, rw_]; rw [cN_row j]; omega
theorem rw_le {a : Nat} : ∀ j, rw_ q a j ≤ j
  | 0 => Nat.le_refl _
  | j + 1 => by have := rw_le (a := a) j; simp only [rw_]; split <;> omega
theorem rw_zero {a : Nat} : ∀ j, (∀ i, i < j → ¬ nwB q (a + i) = true) → rw_ q a j = 0
  | 0, _ => rfl
  | j + 1, h => by simp only [rw_]; rw [rw_zero j fun i hi => h i (by omega), if_neg (h j (by omega))]
theorem rw_all {a : Nat} : ∀ j, (∀ i, i < j → nwB q (a + i) = true) → rw_ q a j = j
  | 0, _ => rfl
  | j + 1, h => by simp only [rw_]; rw [rw_all j fun i hi => h i (by omega), if_pos (h j (by omega))]
theorem rw_lt {a i : Nat} : ∀ j, i < j → ¬ nwB q (a + i) = true → rw_ q a j < j
  | 0, h, _ => absurd h (Nat.not_lt_zero i)
  | j + 1, h, hn => by
    simp only [rw_]
    by_cases e : i = j
    · subst e; rw [if_neg hn]; have := rw_le (q := q) (a := a) i; omega
    · have := rw_lt (a := a) j (by omega) hn
      split <;> omega
theorem Vs_mul {x L : Nat} (hL : Per p x L) (hS : Vs p v x L % m = 0) : ∀ k, it p k x = x → Vs p v x k % m = 0 := by
  intro k
  induction k using Nat.strongRecOn with
  | ind k ih =>
    intro e
    by_cases h0 : k = 0
    · subst h0; simp [Vs]
    · by_cases hk : k < L
      · exact absurd e (hL.min k (by omega) hk)
      · have hpos := hL.pos
        have e1 : it p (k - L) x = x := by
          have := e
          rw [show k = (k - L) + L from by omega, it_add, hL.ret] at this; exact this
        have := ih (k - L) (by omega) e1
        rw [show k = (k - L) + L from by omega, Vs_add, hL.ret, Nat.add_mod, hS, this]; simp
theorem Cov.row (h : Cov p q N m v) {x L : Nat} (hx : x < N) (hn : nwB p x = true) (hL : Per p x L) : (Vs p v x L % m = 0 → rw_ q (m * x) m = m) ∧ (Vs p v x L % m ≠ 0 → rw_ q (m * x) m < m) := by
  have hm := h.m0
  have hnew := (nwB_iff h.hp h.np hx).1 hn
  constructor
  · intro hS
    refine rw_all m fun i hi => ?_
    rw [nwB_iff h.hq h.nq (idx_lt hx hi)]
    rintro j hj ⟨k, e⟩
    have hjd := Nat.div_add_mod j m
    have hjm := Nat.mod_lt j hm
    have hyx : j / m ≤ x := by
      have := Nat.div_le_div_right (c := m) (Nat.le_of_lt hj)
      rwa [Nat.mul_add_div (by omega), Nat.div_eq_of_lt hi, Nat.add_zero] at this
    rw [← hjd, h.it (by omega) hjm] at e
    obtain ⟨e1, e2⟩ := idx_div (Nat.mod_lt _ hm) hi e
    by_cases hlt : j / m < x
    · exact hnew _ hlt ⟨k, e1⟩
    · have hyx' : j / m = x := by omega
      rw [hyx'] at e1 e2
      have := Vs_mul (m := m) hL hS k e1
      rw [Nat.add_mod, this, Nat.add_zero, Nat.mod_mod, Nat.mod_mod] at e2
      rw [hyx'] at hjd
      omega
  · intro hS
    have hSl := Nat.mod_lt (Vs p v x L) hm
    refine rw_lt (i := Vs p v x L % m) m hSl ?_
    rw [nwB_iff h.hq h.nq (idx_lt hx hSl)]
    intro hall
    refine hall (m * x + 0) (by omega) ⟨L, ?_⟩
    rw [h.it hx (by omega), hL.ret, Nat.zero_add]
theorem Cov.row0 (h : Cov p q N m v) {x : Nat} (hx : x < N) (hn : ¬ nwB p x = true) : rw_ q (m * x) m = 0 := rw_zero m fun i hi => h.nw_no hx hi hn
/-- The cycles of a covering: as many for each cycle as the sum of its voltages tells. -/
theorem Cov.le (h : Cov p q N m v) : ∀ k, k ≤ N → cN q (m * k) ≤ m * cN p k
  | 0, _ => Nat.le_refl _
  | k + 1, hk => by
    have ih := Cov.le h k (by omega)
    rw [Nat.mul_succ, cN_row]
    simp only [cN]
    by_cases hn : nwB p k = true
    · rw [if_pos hn, Nat.mul_add]
      have := rw_le (q := q) (a := m * k) m
      omega
    · rw [if_neg hn, h.row0 (by omega) hn]; omega
theorem Cov.eq (h : Cov p q N m v) (hS : ∀ x, x < N → nwB p x = true → ∀ L, Per p x L → Vs p v x L % m = 0) : ∀ k, k ≤ N → cN q (m * k) = m * cN p k
  | 0, _ => rfl
  | k + 1, hk => by
    have ih := Cov.eq h hS k (by omega)
    rw [Nat.mul_succ, cN_row]
    simp only [cN]
    by_cases hn : nwB p k = true
    · obtain ⟨L, hL, _⟩ := cyF_orb h.hp h.np (x := k) (by omega) hn
      rw [if_pos hn, Nat.mul_add, (h.row (by omega) hn hL).1 (hS k (by omega) hn L hL), ih]; omega
    · rw [if_neg hn, h.row0 (by omega) hn, ih, Nat.add_zero, Nat.add_zero]
theorem Cov.lt (h : Cov p q N m v) {x L : Nat} (hx : x < N) (hn : nwB p x = true) (hL : Per p x L) (hS : Vs p v x L % m ≠ 0) : ∀ k, x < k → k ≤ N → cN q (m * k) < m * cN p k
  | 0, hk, _ => absurd hk (Nat.not_lt_zero x)
  | k + 1, hk, hkN => by
    rw [Nat.mul_succ, cN_row]
    simp only [cN]
    by_cases hxk : x = k
    · subst hxk
      have ih := Cov.le h x (by omega)
      have := (h.row hx hn hL).2 hS
      rw [if_pos hn, Nat.mul_add]; omega
    · have ih := Cov.lt h hx hn hL hS k (by omega) (by omega)
      by_cases hn' : nwB p k = true
      · rw [if_pos hn', Nat.mul_add]
        have := rw_le (q := q) (a := m * k) m
        omega
      · rw [if_neg hn', h.row0 (by omega) hn']; omega
end Go.Proofs.YtjklebickfcddaaGreatDoor.Sep
end
section
/- What the functions on fractions and moves compute. -/
namespace Go.Proofs.YtjklebickfcddaaGreatDoor.Sep
open Go.RowKit
set_option linter.unusedVariables false
set_option linter.unusedSimpArgs false
set_option maxRecDepth 20000

/-! ### Moves -/
end Go.Proofs.YtjklebickfcddaaGreatDoor.Sep
end
section
/- What the functions on fractions compute. -/
namespace Go.Proofs.YtjklebickfcddaaGreatDoor.Sep
open Go.RowKit
set_option linter.unusedVariables false
set_option linter.unusedSimpArgs false
set_option maxRecDepth 20000

end Go.Proofs.YtjklebickfcddaaGreatDoor.Sep
end
section
/- What the functions that make and compare fractions compute. -/
namespace Go.Proofs.YtjklebickfcddaaGreatDoor.Sep
open Go.RowKit
set_option linter.unusedVariables false
set_option linter.unusedSimpArgs false
set_option maxRecDepth 20000

end Go.Proofs.YtjklebickfcddaaGreatDoor.Sep
end
section
/- What the functions on rows of moves and fractions compute. -/
namespace Go.Proofs.YtjklebickfcddaaGreatDoor.Sep
open Go.RowKit
set_option linter.unusedVariables false
set_option linter.unusedSimpArgs false
set_option maxRecDepth 20000

/-! ### Moves in a row -/
/-! ### Sets -/
end Go.Proofs.YtjklebickfcddaaGreatDoor.Sep
end
section
/- What the laws' functions on rows compute where there are none. -/
namespace Go.Proofs.YtjklebickfcddaaGreatDoor.Sep
open Go.RowKit
set_option linter.unusedVariables false
set_option linter.unusedSimpArgs false
set_option maxRecDepth 20000

end Go.Proofs.YtjklebickfcddaaGreatDoor.Sep
end
section
/- Passports of moves. -/
namespace Go.Proofs.YtjklebickfcddaaGreatDoor.Sep
open Go.RowKit
set_option linter.unusedVariables false
set_option linter.unusedSimpArgs false
set_option maxRecDepth 20000
set_option maxHeartbeats 1000000

/-! ### Two numbers in order -/
theorem c_isNaN {x : Int} : PSpec Tryz.prog 119 [.int .i64 x] fun v => v = .bool false := by
  refine cmp_isNaN_int64_f.f ?_
  simp (disch := first | omega | (simp only [LN]; omega)) only [↓EC, EW, seval, ↓reduceIte, cmp_isNaN_int64_F]
  simp
theorem c_less {x y : Int} : PSpec Tryz.prog 105 [.int .i64 x, .int .i64 y] fun v => v = .bool (decide (x < y)) := by
  refine cmp_Less_int64_f.f ?_
  simp (disch := first | omega | (simp only [LN]; omega)) only [↓EC, EW, seval, ↓reduceIte, cmp_Less_int64_F]
  refine pcd_v c_isNaN ?_
  (try simp (disch := first | omega | (simp only [LN]; omega)) only [↓EC, EW, seval, ↓reduceIte])
/-! ### Ones -/
theorem setV_gen {cs vs : List V} {off : Nat} (h : off + vs.length ≤ cs.length) : setV cs off vs = cs.take off ++ vs ++ cs.drop (off + vs.length) := by
  unfold setV
  split
  · rename_i v
    rw [List.set_eq_take_append_cons_drop, if_pos (by simp at h; omega)]
    simp
  · rfl
end Go.Proofs.YtjklebickfcddaaGreatDoor.Sep
end
section
/- Draws: the source of a code, its numbers. -/
namespace Go.Proofs.YtjklebickfcddaaGreatDoor.Sep
open Go.RowKit
set_option linter.unusedVariables false
set_option linter.unusedSimpArgs false
set_option maxRecDepth 20000
set_option maxHeartbeats 1000000

theorem callM_d {P : Program} {f : FuncId} {d : Nat} {h : Hp} {K : V → Hp → Prop} {bs : List Nat} {bx : List (Nat × TypeId × Nat)} {cells : List (List V)} {ws : List V} {Φ : V → List (List V) → Prop}
    (hs : PSpecM P f ws bx cells Φ) (hK : ∀ v cs, Φ v cs → K (vw v) (hputs2 h bs bx cs)) : CallM P f d h K bs bx cells ws := ⟨Φ, hs, .inl hK⟩
theorem pcn_q {P : Program} {f : FuncId} {d : Nat} {h : Hp} {K : V → Hp → Prop} {ws vs : List V} {Φ : TypeId → List V → Prop} (hs : PSpecB P f vs Φ) (hn : nrfs vs = true) (hK : ∀ e c, Φ e c → Rq (h d = .free) (K (.ptr d 0) (hput h d (.row e 1 c)))) : pcd P f d h K ws true vs :=
  .inr ⟨rfl, .inr (.inl ⟨hn, _, hs, hK⟩)⟩
/-- The bytes of a code. -/
def okB (l : List Int) : Prop := l.length ≤ 5000 ∧ ∀ a ∈ l, 0 ≤ a ∧ a ≤ 255
def srcC (x : Value) (l : List Int) (a h : Int) : List V := [.fz x l, .int .i64 a, .int .u64 h]
def okS (l : List Int) (a : Int) : Prop := okB l ∧ 0 ≤ a ∧ a ≤ 5000
theorem okS_0 {l : List Int} (h : okB l) : okS l 0 := ⟨h, by omega, by omega⟩
theorem and24 (A : BitVec IntKind.u64.bits) : ∃ q : Nat, q ≤ 16777215 ∧ IntKind.i64.wrap (IntKind.u64.wrap ((A &&& BitVec.ofInt IntKind.u64.bits 16777215).toNat : Int)) = (q : Int) := by
  refine ⟨(A &&& BitVec.ofInt IntKind.u64.bits 16777215).toNat, ?_, ?_⟩
  · rw [BitVec.toNat_and]
    exact Nat.le_trans Nat.and_le_right (by decide)
  · have h : (A &&& BitVec.ofInt IntKind.u64.bits 16777215).toNat ≤ 16777215 := by
      rw [BitVec.toNat_and]
      exact Nat.le_trans Nat.and_le_right (by decide)
    generalize (A &&& BitVec.ofInt IntKind.u64.bits 16777215).toNat = q at *
    simp [IntKind.wrap, IntKind.signed, IntKind.bits]
    omega
theorem map_u8 {l : List Int} {i : Nat} (h : i < l.length) : (l.map (V.int .u8)).getD i .und = .int .u8 (gi l i) := by simp [List.getD, gi, h]
theorem okB_gi {l : List Int} (h : okB l) {i : Nat} (hi : i < l.length) : 0 ≤ gi l i ∧ gi l i ≤ 255 := by
  apply h.2
  rw [gi, List.getD, List.getElem?_eq_getElem hi]; exact List.getElem_mem hi
theorem c_spec_l01Next {x : Value} {l : List Int} {a z n : Int} (hs : okS l a) (hn : n ≤ 2000000000) : PSpecM Tryz.prog 41 [.ptr 0 0, .int .i64 n] [(0, 99, 1)] [srcC x l a z] fun v c =>
    ∃ r a' h', v = .int .i64 r ∧ c = [srcC x l a' h'] ∧ okS l a' ∧ (0 ≤ r ∧ (r < n ∨ r = 0)) := by
  refine spec_l01Next_f.m rfl rfl ?_
  unfold srcC
  obtain ⟨hB, ha1, ha2⟩ := hs
  simp (disch := first | omega | (simp only [LN]; omega)) only [↓EC, EW, seval, ↓reduceIte, spec_l01Next_F]
  (refine Split.mk (fun h => ?_) (fun h => ?_) <;> (try simp only [SD] at h))
  · exact ⟨0, a, z, rfl, rfl, ⟨hB, ha1, ha2⟩, by omega, .inr rfl⟩
  · generalize IntKind.u64.wrap (IntKind.u64.wrap (z * 6364136223846793005) + 1442695040888963407) = hh
    obtain ⟨q, hq, e⟩ := and24 (BitVec.ofInt IntKind.u64.bits (hh.fdiv (2 ^ Nat.min 33 IntKind.u64.bits)))
    rw [e]
    have m0 : ∀ y : Int, 0 ≤ y → 0 ≤ y.tmod n ∧ (y.tmod n < n ∨ y.tmod n = 0) := fun y hy => ⟨Int.tmod_nonneg _ hy, .inl (Int.tmod_lt_of_pos _ (by omega))⟩
    (try simp (disch := first | omega | (simp only [LN]; omega)) only [↓EC, EW, seval, ↓reduceIte])
    (refine Split.mk (fun h => ?_) (fun h => ?_) <;> (try simp only [SD] at h))
    · have hB1 := hB.1
      have hlt : a.toNat < l.length := by omega
      have hg := okB_gi hB hlt
      (try simp (disch := first | omega | (simp only [LN]; omega)) only [↓EC, EW, seval, ↓reduceIte, map_u8 hlt])
      have := m0 (q + gi l a.toNat) (by omega)
      exact ⟨by simpa using hlt, _, a + 1, hh, rfl, rfl, ⟨hB, by omega, by omega⟩, this⟩
    · have := m0 q (by omega)
      exact ⟨_, a, hh, rfl, rfl, ⟨hB, ha1, ha2⟩, this⟩
theorem c_spec_l01Pick {x : Value} {l m : List Int} {a z : Int} (hs : okS l a) (h0 : 0 < m.length) (hn : m.length ≤ 1000) : PSpecM Tryz.prog 69 [.ptr 0 0, .sl m.length (vi .i64 m)] [(0, 99, 1)] [srcC x l a z] fun v c =>
    ∃ y a' z', y ∈ m ∧ v = .int .i64 y ∧ c = [srcC x l a' z'] ∧ okS l a' := by
  refine spec_l01Pick_f.m rfl rfl ?_
  have hnx := c_spec_l01Next (x := x) (z := z) hs (n := m.length) (by omega)
  unfold srcC at hnx ⊢
  simp (disch := first | omega | (simp only [LN]; omega)) only [↓EC, EW, seval, ↓reduceIte, spec_l01Pick_F]
  refine pcm [0] rfl ?_
  (try simp (disch := first | omega | (simp only [LN]; omega)) only [↓EC, EW, seval, ↓reduceIte])
  refine callM_d hnx ?_
  rintro v c ⟨r, a', z', rfl, rfl, hs', hr⟩
  (try simp (disch := first | omega | (simp only [LN]; omega)) only [↓EC, EW, seval, ↓reduceIte])
  refine ⟨gi m r.toNat, a', z', ?_, rfl, rfl, hs'⟩
  rw [gi, List.getD, List.getElem?_eq_getElem (by omega)]; exact List.getElem_mem _
theorem finB_src {x : Value} {l : List Int} {z : Int} : FINB [.fz x l] (hput hnil 75 (Slot.row 99 1 [.fz x l, .int .i64 0, .int .u64 z])) (fun e c => e = 99 ∧ ∃ z, c = [.fz x l, .int .i64 0, .int .u64 z]) (.ptr 75 0) := by
  simp only [FINB, hput, ↓reduceIte]
  refine ⟨?_, trivial, z, rfl⟩
  intro v hv
  simp only [List.mem_cons, List.not_mem_nil, or_false] at hv
  rcases hv with rfl | rfl | rfl
  · exact .inr ⟨x, l, rfl, by simp⟩
  · exact .inl ⟨by simp [clo], rfl⟩
  · exact .inl ⟨by simp [clo], rfl⟩
theorem c_spec_l01From {x : Value} {l : List Int} (hB : okB l) : PSpecB Tryz.prog 40 [.fz x l] fun e c => e = 99 ∧ ∃ z, c = srcC x l 0 z := by
  refine spec_l01From_f.b ?_
  unfold srcC
  simp (disch := first | omega | (simp only [LN]; omega)) only [↓EC, EW, seval, ↓reduceIte, spec_l01From_F]
  refine LP_of (σ := Nat × Int) 100000 [(75, 99, 1)] (fun s => [.int .i64 s.1]) (fun s => [[.fz x l, .int .i64 0, .int .u64 s.2]]) (fun s => s.1 ≤ l.length) (fun s => l.length - s.1) (0, IntKind.u64.wrap (8117 + IntKind.u64.wrap l.length)) (by simp [frameOk, names, lpz, sclp, scv, scvs, nrfs, nrf, FRB]) (Nat.zero_le _) ?_ ?_
  · simp (disch := first | omega | (simp only [LN]; omega)) only [↓EC, EW, seval, ↓reduceIte, ColV_def]
  · rintro ⟨i, z⟩ h1
    simp only at h1
    have hB1 := hB.1
    simp (disch := first | omega | (simp only [LN]; omega)) only [↓EC, EW, seval, ↓reduceIte, ColV_def, lheap_def]
    (refine Split.mk (fun h => ?_) (fun h => ?_) <;> (try simp only [SD] at h))
    · have hlt : i < l.length := by omega
      (try simp (disch := first | omega | (simp only [LN]; omega)) only [↓EC, EW, seval, ↓reduceIte, map_u8 hlt])
      (refine Split.mk (fun h => ?_) (fun h => ?_) <;> (try simp only [SD] at h))
      · (try simp (disch := first | omega | (simp only [LN]; omega)) only [↓EC, EW, seval, ↓reduceIte])
        exact ⟨by simpa using hlt, (i + 1, _), rfl, rfl, by simp only; omega, by simp only; omega⟩
      · exact finB_src
    · exact finB_src
end Go.Proofs.YtjklebickfcddaaGreatDoor.Sep
end
section
/- Evaluation of long functions: what follows a call or a test is not looked at before it is its turn. -/
namespace Go.Proofs.YtjklebickfcddaaGreatDoor.Sep
open Go.RowKit
set_option linter.unusedVariables false
set_option linter.unusedSimpArgs false

structure Hide {α : Type} (a : α) : Type where mk ::
def blk {α : Type} (a : α) (u : Hide a) : α := a
structure blkP (a : Prop) (u : Hide a) : Prop where
  out : a
theorem blkP_iff {a : Prop} {u : Hide a} : blkP a u = a := propext ⟨fun h => h.out, fun h => ⟨h⟩⟩
theorem blk_eq {K : V → Hp → Prop} {u : Hide K} {v : V} {h : Hp} : blk K u v h = K v h := by simp only [blk]
theorem SplitB_t {A B : Prop} {u : Hide A} : Split true (blkP A u) B = A := by rw [Split_true, blkP_iff]
theorem SplitB_f {A B : Prop} {u : Hide B} : Split false A (blkP B u) = B := by rw [Split_false, blkP_iff]
theorem Split.mkB {b : Bool} {A B : Prop} {u : Hide A} {v : Hide B} (h1 : b = true → A) (h2 : b = false → B) : Split b (blkP A u) (blkP B v) := ⟨fun h => ⟨h1 h⟩, fun h => ⟨h2 h⟩⟩
section
variable {P : Program} {h : Hp} {f : FuncId} {d : Nat} {vs : List V} {K : V → Hp → Prop}
def pcalB (P : Program) (f : FuncId) (d : Nat) (h : Hp) (K : V → Hp → Prop) (vs : List V) : Prop := pcal P f d h K vs
def pcalpB (P : Program) (f : FuncId) (d : Nat) (h : Hp) (K : V → Hp → Prop) (vs : List V) : Prop := pcalp P f d h K vs
def pcalaB (P : Program) (f : FuncId) (d : Nat) (h : Hp) (K : V → Hp → Prop) (avs vs : List V) : Prop := pcala P f d h K avs vs
def pcondB (A B : Prop) (v : V) : Prop := pcond A B v
def pgkB (w : Bool) (h : Hp) (op : V → (V → Hp → Prop) → Prop) (k : V → V → Hp → Prop) (v : V) : Prop := pgk w h op k v
def JNx (F : (List V → Hp → Prop) → Prop) (G : List V → Hp → Prop) (u : Hide F) (v : Hide G) : Prop := F G
theorem pcal_B : pcal P f d h K vs = pcalB P f d h K vs := rfl
theorem pcalp_B : pcalp P f d h K vs = pcalpB P f d h K vs := rfl
theorem pcala_B {avs : List V} : pcala P f d h K avs vs = pcalaB P f d h K avs vs := rfl
theorem pcond_B {A B : Prop} {v : V} : pcond A B v = pcondB A B v := rfl
theorem pgk_B {w : Bool} {op : V → (V → Hp → Prop) → Prop} {k : V → V → Hp → Prop} {v : V} : pgk w h op k v = pgkB w h op k v := rfl
theorem JN_B {F : (List V → Hp → Prop) → Prop} {G : List V → Hp → Prop} : JN F G = JNx F G ⟨⟩ ⟨⟩ := rfl
theorem pcalB_eq : pcalB P f d h K vs = pcd P f d h (blk K ⟨⟩) (dvs h vs) true vs := pcal_def
theorem pcalpB_eq : pcalpB P f d h K vs = pcd P f d h (blk K ⟨⟩) (dvs h vs) false vs := pcalp_def
theorem pcalaB_eq {avs : List V} : pcalaB P f d h K avs vs = pcda P f d h (blk K ⟨⟩) (dvs h vs) vs avs := pcala_def
theorem pcondB_eq {A B : Prop} {b : Bool} : pcondB A B (.bool b) = Split b (blkP A ⟨⟩) (blkP B ⟨⟩) := by simp only [pcondB, pcond_sym, blkP_iff]
theorem pgkB_eq {w : Bool} {op : V → (V → Hp → Prop) → Prop} {k : V → V → Hp → Prop} {b : Bool} : pgkB w h op k (.bool b) =
    Split b (blkP (cond w (op (.bool true) (k (.bool true))) (k (.bool true) (.tup []) h)) ⟨⟩) (blkP (cond w (k (.bool false) (.tup []) h) (op (.bool false) (k (.bool false)))) ⟨⟩) := by simp only [pgkB, pgk_sym, blkP_iff]
theorem pgkB_skip {w : Bool} {op : V → (V → Hp → Prop) → Prop} {k : V → V → Hp → Prop} : pgkB w h op k (.tup []) = k (.tup []) (.tup []) h := by simp only [pgkB, pgk_skip]
theorem JNx_un {F : (List V → Hp → Prop) → Prop} {G : List V → Hp → Prop} {u : Hide F} {v : Hide G} (h : F G) : JNx F G u v := h
/-- A call that turns blocks, its result one's own, told by a relation. -/
theorem callM_do {bs : List Nat} {bx : List (Nat × TypeId × Nat)} {cells : List (List V)} {ws : List V} {Φ : V → List (List V) → Prop}
    (hs : PSpecM P f ws bx cells Φ) (hK : ∀ v cs, Φ v cs → Rq (allFree (hputs2 h bs bx cs) (mat v d).2.1) (K (mat v d).1 (hputs (hputs2 h bs bx cs) (mat v d).2.1))) : CallM P f d h K bs bx cells ws := ⟨Φ, hs, .inr hK⟩
/-- A loop, its body hidden. -/
def LPx (vs ls : List Nat) (B : List V → List V → Hp → (List V → List V → Hp → Prop) → Prop) (u : Hide B) (wv lv : List V) (h : Hp) : Prop := LP vs ls B wv lv h
theorem LP_B {vs ls : List Nat} {B : List V → List V → Hp → (List V → List V → Hp → Prop) → Prop} {wv lv : List V} : LP vs ls B wv lv h = LPx vs ls B ⟨⟩ wv lv h := rfl
theorem LPx_ofE {σ : Type} (ss : List Nat) (c0 : Nat) (bx : List (Nat × TypeId × Nat)) (vals : σ → List V) (cells : σ → List (List V)) (J : σ → Prop) (μ : σ → Nat) (s0 : σ) {vs ls : List Nat}
    {B : List V → List V → Hp → (List V → List V → Hp → Prop) → Prop} {u : Hide B} {wv lv : List V} (hf : frameOk c0 (lpz ls lv) bx = true) (h0 : J s0)
    (he : ColV bx wv lv lv h fun v c => rts ss v = vals s0 ∧ c = cells s0)
    (hr : ∀ s, J s → B (mats (vals s) c0).1 lv (lheap c0 bx (vals s) (cells s)) fun wv' lv' h' => ColV bx wv' lv' lv h' fun v c => ∃ s', v = vals s' ∧ c = cells s' ∧ J s' ∧ μ s' < μ s) :
    LPx vs ls B u wv lv h := LP_ofE ss c0 bx vals cells J μ s0 hf h0 he hr
theorem LPx_of {σ : Type} (c0 : Nat) (bx : List (Nat × TypeId × Nat)) (vals : σ → List V) (cells : σ → List (List V)) (J : σ → Prop) (μ : σ → Nat) (s0 : σ) {vs ls : List Nat}
    {B : List V → List V → Hp → (List V → List V → Hp → Prop) → Prop} {u : Hide B} {wv lv : List V} (hf : frameOk c0 (lpz ls lv) bx = true) (h0 : J s0)
    (he : ColV bx wv lv lv h fun v c => v = vals s0 ∧ c = cells s0)
    (hr : ∀ s, J s → B (mats (vals s) c0).1 lv (lheap c0 bx (vals s) (cells s)) fun wv' lv' h' => ColV bx wv' lv' lv h' fun v c => ∃ s', v = vals s' ∧ c = cells s' ∧ J s' ∧ μ s' < μ s) :
    LPx vs ls B u wv lv h := LP_of c0 bx vals cells J μ s0 hf h0 he hr
end
end Go.Proofs.YtjklebickfcddaaGreatDoor.Sep

namespace Go.Proofs.YtjklebickfcddaaGreatDoor.Sep
set_option linter.defProp false in
def EBD := And.intro @pcalB_eq <| And.intro @pcalpB_eq <| And.intro @pcalaB_eq <| And.intro @pcondB_eq <| And.intro @pgkB_eq <| And.intro @pgkB_skip <| And.intro @blk_eq <| And.intro @SplitB_t @SplitB_f
set_option linter.defProp false in
def EBE := And.intro @bne_self_eq_false.{0} <| And.intro @beq_self_eq_true.{0} <| And.intro Bool.and_self <| And.intro Bool.not_true Bool.not_false
theorem blkP.ini {a : Prop} (h : blkP a ⟨⟩) : a := h.out
end Go.Proofs.YtjklebickfcddaaGreatDoor.Sep
end
section
/- slices.Sort of at most sixteen numbers: it comes to its end, and the list keeps its length. -/
namespace Go.Proofs.YtjklebickfcddaaGreatDoor.Sep
open Go.RowKit
set_option linter.unusedVariables false
set_option linter.unusedSimpArgs false
set_option maxRecDepth 20000
set_option maxHeartbeats 4000000

/-- A list of as many numbers. -/
def kp (n : Nat) (c : List (List V)) : Prop := ∃ m : List Int, c = [vi .i64 m] ∧ m.length = n
theorem c_insertionSortN {l : List Int} {n : Nat} {a b : Int} (hn : l.length = n) (h0 : 0 ≤ a ∧ a ≤ 1000) (hb : b ≤ n) (hl : n ≤ 1000) : PSpecM Tryz.prog 99 [.rf 0 0 n, .int .i64 a, .int .i64 b] [(0, 2, 1)] [vi .i64 l] fun v c => v = .tup [] ∧ kp n c := by
  refine slices_insertionSortOrdered_int64_f.m rfl rfl ?_
  dsimp only [slices_insertionSortOrdered_int64_F, pcal_B, pcalp_B, pcala_B, pcond_B, pgk_B, JN_B, LP_B]
  (refine blkP.ini ?_; repeat (refine blkP.mk ?_; (try simp (disch := first | omega | (simp only [LN]; omega)) only [↓EC, EW, seval, ↓reduceIte, ↓EBD, EBE])))
  refine LPx_of (σ := List Int × Int) 100000 [(0, 2, 1)] (fun s => [.int .i64 s.2]) (fun s => [vi .i64 s.1])
    (fun s => s.1.length = n ∧ a + 1 ≤ s.2) (fun s => (b - s.2).toNat) (l, a + 1) (by simp [frameOk, names, lpz, sclp, scv, scvs, nrfs, nrf, FRB]) ⟨hn, Int.le_refl _⟩ ?_ ?_
  · (refine blkP.ini ?_; repeat (refine blkP.mk ?_; simp (disch := first | omega | (simp only [LN]; omega)) only [↓EC, EW, seval, ↓reduceIte, ↓EBD, EBE, ColV_def]))
  · rintro ⟨m, i⟩ ⟨h1, h2⟩
    simp only at h1 h2
    (refine blkP.ini ?_; repeat (refine blkP.mk ?_; simp (disch := first | omega | (simp only [LN]; omega)) only [↓EC, EW, seval, ↓reduceIte, ↓EBD, EBE, ColV_def, lheap_def]))
    (refine Split.mkB (fun h => ?_) (fun h => ?_) <;> (try simp only [SD] at h))
    · (refine blkP.ini ?_; repeat (refine blkP.mk ?_; (try simp (disch := first | omega | (simp only [LN]; omega)) only [↓EC, EW, seval, ↓reduceIte, ↓EBD, EBE])))
      refine LPx_of (σ := List Int × Int) 200000 [(0, 2, 1)] (fun s => [.int .i64 s.2]) (fun s => [vi .i64 s.1])
        (fun s => s.1.length = n ∧ a ≤ s.2 ∧ s.2 ≤ i) (fun s => s.2.toNat) (m, i) (by simp [frameOk, names, lpz, sclp, scv, scvs, nrfs, nrf, FRB]) ⟨h1, by simp only; omega, Int.le_refl _⟩ ?_ ?_
      · (refine blkP.ini ?_; repeat (refine blkP.mk ?_; simp (disch := first | omega | (simp only [LN]; omega)) only [↓EC, EW, seval, ↓reduceIte, ↓EBD, EBE, ColV_def]))
      · rintro ⟨m, j⟩ ⟨h3, h4, h5⟩
        simp only at h3 h4 h5
        (refine blkP.ini ?_; repeat (refine blkP.mk ?_; simp (disch := first | omega | (simp only [LN]; omega)) only [↓EC, EW, seval, ↓reduceIte, ↓EBD, EBE, ColV_def, lheap_def]))
        (refine Split.mkB (fun h => ?_) (fun h => ?_) <;> (try simp only [SD] at h))
        · (refine blkP.ini ?_; repeat (refine blkP.mk ?_; (try simp (disch := first | omega | (simp only [LN]; omega)) only [↓EC, EW, seval, ↓reduceIte, ↓EBD, EBE])))
          refine pcd_v c_less ?_
          (refine blkP.ini ?_; repeat (refine blkP.mk ?_; (try simp (disch := first | omega | (simp only [LN]; omega)) only [↓EC, EW, seval, ↓reduceIte, ↓EBD, EBE])))
          (refine Split.mkB (fun h => ?_) (fun h => ?_) <;> (try simp only [SD] at h))
          · (refine blkP.ini ?_; repeat (refine blkP.mk ?_; (try simp (disch := first | omega | (simp only [LN]; omega)) only [↓EC, EW, seval, ↓reduceIte, ↓EBD, EBE])))
            exact ⟨(_, j - 1), rfl, rfl, ⟨by simp [h3], by simp only; omega, by simp only; omega⟩, by simp only; omega⟩
          · (refine blkP.ini ?_; repeat (refine blkP.mk ?_; (try simp (disch := first | omega | (simp only [LN]; omega)) only [↓EC, EW, seval, ↓reduceIte, ↓EBD, EBE])))
            exact ⟨(m, i + 1), rfl, rfl, ⟨h3, by simp only; omega⟩, by simp only; omega⟩
        · (refine blkP.ini ?_; repeat (refine blkP.mk ?_; (try simp (disch := first | omega | (simp only [LN]; omega)) only [↓EC, EW, seval, ↓reduceIte, ↓EBD, EBE])))
          exact ⟨(m, i + 1), rfl, rfl, ⟨h3, by simp only; omega⟩, by simp only; omega⟩
    · (refine blkP.ini ?_; repeat (refine blkP.mk ?_; (try simp (disch := first | omega | (simp only [LN]; omega)) only [↓EC, EW, seval, ↓reduceIte, ↓EBD, EBE])))
      exact ⟨m, rfl, h1⟩
theorem c_siftDown {l : List Int} {n : Nat} {lo hi f : Int} (hn : l.length = n) (h0 : 0 ≤ lo ∧ lo ≤ 1000) (hf : 0 ≤ f) (hh : f + hi ≤ n) (hl : n ≤ 1000) : PSpecM Tryz.prog 114 [.rf 0 0 n, .int .i64 lo, .int .i64 hi, .int .i64 f] [(0, 2, 1)] [vi .i64 l] fun v c => v = .tup [] ∧ kp n c := by
  refine slices_siftDownOrdered_int64_f.m rfl rfl ?_
  dsimp only [slices_siftDownOrdered_int64_F, pcal_B, pcalp_B, pcala_B, pcond_B, pgk_B, JN_B, LP_B]
  (refine blkP.ini ?_; repeat (refine blkP.mk ?_; (try simp (disch := first | omega | (simp only [LN]; omega)) only [↓EC, EW, seval, ↓reduceIte, ↓EBD, EBE])))
  refine LPx_of (σ := List Int × Int) 100000 [(0, 2, 1)] (fun s => [.int .i64 s.2]) (fun s => [vi .i64 s.1])
    (fun s => s.1.length = n ∧ 0 ≤ s.2 ∧ s.2 ≤ 1000) (fun s => (1000 - s.2).toNat) (l, lo) (by simp [frameOk, names, lpz, sclp, scv, scvs, nrfs, nrf, FRB]) ⟨hn, h0⟩ ?_ ?_
  · (refine blkP.ini ?_; repeat (refine blkP.mk ?_; simp (disch := first | omega | (simp only [LN]; omega)) only [↓EC, EW, seval, ↓reduceIte, ↓EBD, EBE, ColV_def]))
  · rintro ⟨m, r⟩ ⟨h1, h2, h3⟩
    simp only at h1 h2 h3
    (refine blkP.ini ?_; repeat (refine blkP.mk ?_; simp (disch := first | omega | (simp only [LN]; omega)) only [↓EC, EW, seval, ↓reduceIte, ↓EBD, EBE, ColV_def, lheap_def]))
    (refine Split.mkB (fun h => ?_) (fun h => ?_) <;> (try simp only [SD] at h))
    · (refine blkP.ini ?_; repeat (refine blkP.mk ?_; (try simp (disch := first | omega | (simp only [LN]; omega)) only [↓EC, EW, seval, ↓reduceIte, ↓EBD, EBE])))
      exact ⟨m, rfl, h1⟩
    · (refine blkP.ini ?_; repeat (refine blkP.mk ?_; (try simp (disch := first | omega | (simp only [LN]; omega)) only [↓EC, EW, seval, ↓reduceIte, ↓EBD, EBE])))
      refine JNx_un ?_
      (refine blkP.ini ?_; repeat (refine blkP.mk ?_; (try simp (disch := first | omega | (simp only [LN]; omega)) only [↓EC, EW, seval, ↓reduceIte, ↓EBD, EBE])))
      (refine Split.mkB (fun h => ?_) (fun h => ?_) <;> (try simp only [SD] at h))
      · (refine blkP.ini ?_; repeat (refine blkP.mk ?_; (try simp (disch := first | omega | (simp only [LN]; omega)) only [↓EC, EW, seval, ↓reduceIte, ↓EBD, EBE])))
        refine pcd_v c_less ?_
        (refine blkP.ini ?_; repeat (refine blkP.mk ?_; (try simp (disch := first | omega | (simp only [LN]; omega)) only [↓EC, EW, seval, ↓reduceIte, ↓EBD, EBE])))
        (refine Split.mkB (fun h => ?_) (fun h => ?_) <;> (try simp only [SD] at h))
        · (refine blkP.ini ?_; repeat (refine blkP.mk ?_; (try simp (disch := first | omega | (simp only [LN]; omega)) only [↓EC, EW, seval, ↓reduceIte, ↓EBD, EBE])))
          refine pcd_v c_less ?_
          (refine blkP.ini ?_; repeat (refine blkP.mk ?_; (try simp (disch := first | omega | (simp only [LN]; omega)) only [↓EC, EW, seval, ↓reduceIte, ↓EBD, EBE])))
          (refine Split.mkB (fun h => ?_) (fun h => ?_) <;> (try simp only [SD] at h))
          · (refine blkP.ini ?_; repeat (refine blkP.mk ?_; (try simp (disch := first | omega | (simp only [LN]; omega)) only [↓EC, EW, seval, ↓reduceIte, ↓EBD, EBE])))
            exact ⟨m, rfl, h1⟩
          · (refine blkP.ini ?_; repeat (refine blkP.mk ?_; (try simp (disch := first | omega | (simp only [LN]; omega)) only [↓EC, EW, seval, ↓reduceIte, ↓EBD, EBE])))
            exact ⟨(_, 2 * r + 1 + 1), rfl, rfl, ⟨by simp [h1], by simp only; omega, by simp only; omega⟩, by simp only; omega⟩
        · (refine blkP.ini ?_; repeat (refine blkP.mk ?_; (try simp (disch := first | omega | (simp only [LN]; omega)) only [↓EC, EW, seval, ↓reduceIte, ↓EBD, EBE])))
          refine pcd_v c_less ?_
          (refine blkP.ini ?_; repeat (refine blkP.mk ?_; (try simp (disch := first | omega | (simp only [LN]; omega)) only [↓EC, EW, seval, ↓reduceIte, ↓EBD, EBE])))
          (refine Split.mkB (fun h => ?_) (fun h => ?_) <;> (try simp only [SD] at h))
          · (refine blkP.ini ?_; repeat (refine blkP.mk ?_; (try simp (disch := first | omega | (simp only [LN]; omega)) only [↓EC, EW, seval, ↓reduceIte, ↓EBD, EBE])))
            exact ⟨m, rfl, h1⟩
          · (refine blkP.ini ?_; repeat (refine blkP.mk ?_; (try simp (disch := first | omega | (simp only [LN]; omega)) only [↓EC, EW, seval, ↓reduceIte, ↓EBD, EBE])))
            exact ⟨(_, 2 * r + 1), rfl, rfl, ⟨by simp [h1], by simp only; omega, by simp only; omega⟩, by simp only; omega⟩
      · (refine blkP.ini ?_; repeat (refine blkP.mk ?_; (try simp (disch := first | omega | (simp only [LN]; omega)) only [↓EC, EW, seval, ↓reduceIte, ↓EBD, EBE])))
        refine pcd_v c_less ?_
        (refine blkP.ini ?_; repeat (refine blkP.mk ?_; (try simp (disch := first | omega | (simp only [LN]; omega)) only [↓EC, EW, seval, ↓reduceIte, ↓EBD, EBE])))
        (refine Split.mkB (fun h => ?_) (fun h => ?_) <;> (try simp only [SD] at h))
        · (refine blkP.ini ?_; repeat (refine blkP.mk ?_; (try simp (disch := first | omega | (simp only [LN]; omega)) only [↓EC, EW, seval, ↓reduceIte, ↓EBD, EBE])))
          exact ⟨m, rfl, h1⟩
        · (refine blkP.ini ?_; repeat (refine blkP.mk ?_; (try simp (disch := first | omega | (simp only [LN]; omega)) only [↓EC, EW, seval, ↓reduceIte, ↓EBD, EBE])))
          exact ⟨(_, 2 * r + 1), rfl, rfl, ⟨by simp [h1], by simp only; omega, by simp only; omega⟩, by simp only; omega⟩
theorem c_heapSort {l : List Int} {n : Nat} {a b : Int} (hn : l.length = n) (h0 : 0 ≤ a) (hab : a ≤ b) (hb : b ≤ n) (hl : n ≤ 1000) : PSpecM Tryz.prog 100 [.rf 0 0 n, .int .i64 a, .int .i64 b] [(0, 2, 1)] [vi .i64 l] fun v c => v = .tup [] ∧ kp n c := by
  refine slices_heapSortOrdered_int64_f.m rfl rfl ?_
  dsimp only [slices_heapSortOrdered_int64_F, pcal_B, pcalp_B, pcala_B, pcond_B, pgk_B, JN_B, LP_B]
  (refine blkP.ini ?_; repeat (refine blkP.mk ?_; (try simp (disch := first | omega | (simp only [LN]; omega)) only [↓EC, EW, seval, ↓reduceIte, ↓EBD, EBE])))
  have hd : -1 ≤ (b - a - 1).tdiv 2 ∧ (b - a - 1).tdiv 2 ≤ 1000 := by
    by_cases h : b - a - 1 < 0
    · have : b - a - 1 = -1 := by omega
      rw [this]; decide
    · have h1 := Int.tdiv_nonneg (a := b - a - 1) (b := 2) (by omega) (by omega)
      have h2 := Int.tdiv_le_self (a := b - a - 1) 2 (by omega)
      omega
  generalize (b - a - 1).tdiv 2 = d at *
  refine LPx_of (σ := List Int × Int) 100000 [(0, 2, 1)] (fun s => [.int .i64 s.2]) (fun s => [vi .i64 s.1])
    (fun s => s.1.length = n ∧ -1 ≤ s.2 ∧ s.2 ≤ 1000) (fun s => (s.2 + 1).toNat) (l, d) (by simp [frameOk, names, lpz, sclp, scv, scvs, nrfs, nrf, FRB]) ⟨hn, hd⟩ ?_ ?_
  · (refine blkP.ini ?_; repeat (refine blkP.mk ?_; simp (disch := first | omega | (simp only [LN]; omega)) only [↓EC, EW, seval, ↓reduceIte, ↓EBD, EBE, ColV_def]))
  · rintro ⟨m, i⟩ ⟨h1, h2, h3⟩
    simp only at h1 h2 h3
    (refine blkP.ini ?_; repeat (refine blkP.mk ?_; simp (disch := first | omega | (simp only [LN]; omega)) only [↓EC, EW, seval, ↓reduceIte, ↓EBD, EBE, ColV_def, lheap_def]))
    (refine Split.mkB (fun h => ?_) (fun h => ?_) <;> (try simp only [SD] at h))
    · (refine blkP.ini ?_; repeat (refine blkP.mk ?_; (try simp (disch := first | omega | (simp only [LN]; omega)) only [↓EC, EW, seval, ↓reduceIte, ↓EBD, EBE])))
      refine pcm [0] rfl ?_
      (refine blkP.ini ?_; repeat (refine blkP.mk ?_; (try simp (disch := first | omega | (simp only [LN]; omega)) only [↓EC, EW, seval, ↓reduceIte, ↓EBD, EBE])))
      refine callM_d (c_siftDown (l := m) (lo := i) (hi := b - a) (f := a) h1 (by omega) h0 (by omega) (by omega)) ?_
      rintro _ _ ⟨rfl, m', rfl, hm'⟩
      (refine blkP.ini ?_; repeat (refine blkP.mk ?_; (try simp (disch := first | omega | (simp only [LN]; omega)) only [↓EC, EW, seval, ↓reduceIte, ↓EBD, EBE])))
      exact ⟨(m', i - 1), rfl, rfl, ⟨by simp only; omega, by simp only; omega⟩, by simp only; omega⟩
    · (refine blkP.ini ?_; repeat (refine blkP.mk ?_; (try simp (disch := first | omega | (simp only [LN]; omega)) only [↓EC, EW, seval, ↓reduceIte, ↓EBD, EBE])))
      refine LPx_of (σ := List Int × Int) 200000 [(0, 2, 1)] (fun s => [.int .i64 s.2]) (fun s => [vi .i64 s.1])
        (fun s => s.1.length = n ∧ -1 ≤ s.2 ∧ s.2 ≤ b - a - 1) (fun s => (s.2 + 1).toNat) (m, b - a - 1) (by simp [frameOk, names, lpz, sclp, scv, scvs, nrfs, nrf, FRB]) ⟨h1, by simp only; omega⟩ ?_ ?_
      · (refine blkP.ini ?_; repeat (refine blkP.mk ?_; simp (disch := first | omega | (simp only [LN]; omega)) only [↓EC, EW, seval, ↓reduceIte, ↓EBD, EBE, ColV_def]))
      · rintro ⟨m, i⟩ ⟨h1, h2, h3⟩
        simp only at h1 h2 h3
        (refine blkP.ini ?_; repeat (refine blkP.mk ?_; simp (disch := first | omega | (simp only [LN]; omega)) only [↓EC, EW, seval, ↓reduceIte, ↓EBD, EBE, ColV_def, lheap_def]))
        (refine Split.mkB (fun h => ?_) (fun h => ?_) <;> (try simp only [SD] at h))
        · (refine blkP.ini ?_; repeat (refine blkP.mk ?_; (try simp (disch := first | omega | (simp only [LN]; omega)) only [↓EC, EW, seval, ↓reduceIte, ↓EBD, EBE])))
          refine pcm [0] rfl ?_
          (refine blkP.ini ?_; repeat (refine blkP.mk ?_; (try simp (disch := first | omega | (simp only [LN]; omega)) only [↓EC, EW, seval, ↓reduceIte, ↓EBD, EBE])))
          refine callM_d (c_siftDown (lo := 0) (hi := i) (f := a) (by simp [h1]) (by omega) h0 (by omega) (by omega)) ?_
          rintro _ _ ⟨rfl, m', rfl, hm'⟩
          (refine blkP.ini ?_; repeat (refine blkP.mk ?_; (try simp (disch := first | omega | (simp only [LN]; omega)) only [↓EC, EW, seval, ↓reduceIte, ↓EBD, EBE])))
          exact ⟨(m', i - 1), rfl, rfl, ⟨by simp only; omega, by simp only; omega⟩, by simp only; omega⟩
        · (refine blkP.ini ?_; repeat (refine blkP.mk ?_; (try simp (disch := first | omega | (simp only [LN]; omega)) only [↓EC, EW, seval, ↓reduceIte, ↓EBD, EBE])))
          exact ⟨m, rfl, h1⟩
theorem c_reverseRange {l : List Int} {n : Nat} {a b : Int} (hn : l.length = n) (h0 : 0 ≤ a ∧ a ≤ 1000) (hb : 0 ≤ b ∧ b ≤ n) (hl : n ≤ 1000) : PSpecM Tryz.prog 103 [.rf 0 0 n, .int .i64 a, .int .i64 b] [(0, 2, 1)] [vi .i64 l] fun v c => v = .tup [] ∧ kp n c := by
  refine slices_reverseRangeOrdered_int64_f.m rfl rfl ?_
  dsimp only [slices_reverseRangeOrdered_int64_F, pcal_B, pcalp_B, pcala_B, pcond_B, pgk_B, JN_B, LP_B]
  (refine blkP.ini ?_; repeat (refine blkP.mk ?_; (try simp (disch := first | omega | (simp only [LN]; omega)) only [↓EC, EW, seval, ↓reduceIte, ↓EBD, EBE])))
  refine LPx_of (σ := List Int × Int × Int) 100000 [(0, 2, 1)] (fun s => [.int .i64 s.2.1, .int .i64 s.2.2]) (fun s => [vi .i64 s.1])
    (fun s => s.1.length = n ∧ 0 ≤ s.2.1 ∧ s.2.2 ≤ b - 1 ∧ -1 ≤ s.2.2 ∧ s.2.1 ≤ 1001) (fun s => (s.2.2 + 1).toNat) (l, a, b - 1) (by simp [frameOk, names, lpz, sclp, scv, scvs, nrfs, nrf, FRB]) ⟨hn, by simp only; omega⟩ ?_ ?_
  · (refine blkP.ini ?_; repeat (refine blkP.mk ?_; simp (disch := first | omega | (simp only [LN]; omega)) only [↓EC, EW, seval, ↓reduceIte, ↓EBD, EBE, ColV_def]))
  · rintro ⟨m, i, j⟩ ⟨h1, h2, h3, h4, h5⟩
    simp only at h1 h2 h3 h4 h5
    (refine blkP.ini ?_; repeat (refine blkP.mk ?_; simp (disch := first | omega | (simp only [LN]; omega)) only [↓EC, EW, seval, ↓reduceIte, ↓EBD, EBE, ColV_def, lheap_def]))
    (refine Split.mkB (fun h => ?_) (fun h => ?_) <;> (try simp only [SD] at h))
    · (refine blkP.ini ?_; repeat (refine blkP.mk ?_; (try simp (disch := first | omega | (simp only [LN]; omega)) only [↓EC, EW, seval, ↓reduceIte, ↓EBD, EBE])))
      exact ⟨(_, i + 1, j - 1), rfl, rfl, ⟨by simp [h1], by simp only; omega⟩, by simp only; omega⟩
    · (refine blkP.ini ?_; repeat (refine blkP.mk ?_; (try simp (disch := first | omega | (simp only [LN]; omega)) only [↓EC, EW, seval, ↓reduceIte, ↓EBD, EBE])))
      exact ⟨m, rfl, h1⟩
/-! ### The choice of a pivot -/
theorem c_order2 {l : List Int} {n : Nat} {a b k : Int} (hn : l.length = n) (h0 : 0 ≤ a ∧ a < n) (hb : 0 ≤ b ∧ b < n) (hk : 0 ≤ k ∧ k ≤ 1000) : PSpecM Tryz.prog 121 [.sl n (vi .i64 l), .int .i64 a, .int .i64 b, .ptr 0 0] [(0, 3, 1)] [[.int .i64 k]] fun v c =>
    ∃ x y k', v = .tup [.int .i64 x, .int .i64 y] ∧ (x = a ∨ x = b) ∧ (y = a ∨ y = b) ∧ c = [[.int .i64 k']] ∧ k ≤ k' ∧ k' ≤ k + 1 := by
  refine slices_order2Ordered_int64_f.m rfl rfl ?_
  dsimp only [slices_order2Ordered_int64_F, pcal_B, pcalp_B, pcala_B, pcond_B, pgk_B, JN_B, LP_B]
  (refine blkP.ini ?_; repeat (refine blkP.mk ?_; (try simp (disch := first | omega | (simp only [LN]; omega)) only [↓EC, EW, seval, ↓reduceIte, ↓EBD, EBE])))
  refine pcd_v c_less ?_
  (refine blkP.ini ?_; repeat (refine blkP.mk ?_; (try simp (disch := first | omega | (simp only [LN]; omega)) only [↓EC, EW, seval, ↓reduceIte, ↓EBD, EBE])))
  (refine Split.mkB (fun h => ?_) (fun h => ?_) <;> (try simp only [SD] at h))
  · (refine blkP.ini ?_; repeat (refine blkP.mk ?_; (try simp (disch := first | omega | (simp only [LN]; omega)) only [↓EC, EW, seval, ↓reduceIte, ↓EBD, EBE])))
    exact ⟨b, a, k + 1, rfl, .inr rfl, .inl rfl, rfl, by omega, by omega⟩
  · (refine blkP.ini ?_; repeat (refine blkP.mk ?_; (try simp (disch := first | omega | (simp only [LN]; omega)) only [↓EC, EW, seval, ↓reduceIte, ↓EBD, EBE])))
    exact ⟨a, b, k, rfl, .inl rfl, .inr rfl, rfl, by omega, by omega⟩
theorem c_median {l : List Int} {n : Nat} {a b d k : Int} (hn : l.length = n) (h0 : 0 ≤ a ∧ a < n) (hb : 0 ≤ b ∧ b < n) (hd : 0 ≤ d ∧ d < n) (hk : 0 ≤ k ∧ k ≤ 900) : PSpecM Tryz.prog 118 [.sl n (vi .i64 l), .int .i64 a, .int .i64 b, .int .i64 d, .ptr 0 0] [(0, 3, 1)] [[.int .i64 k]] fun v c =>
    ∃ x k', v = .int .i64 x ∧ (x = a ∨ x = b ∨ x = d) ∧ c = [[.int .i64 k']] ∧ k ≤ k' ∧ k' ≤ k + 3 := by
  refine slices_medianOrdered_int64_f.m rfl rfl ?_
  dsimp only [slices_medianOrdered_int64_F, pcal_B, pcalp_B, pcala_B, pcond_B, pgk_B, JN_B, LP_B]
  (refine blkP.ini ?_; repeat (refine blkP.mk ?_; (try simp (disch := first | omega | (simp only [LN]; omega)) only [↓EC, EW, seval, ↓reduceIte, ↓EBD, EBE])))
  refine pcm [0] rfl ?_; (refine blkP.ini ?_; repeat (refine blkP.mk ?_; (try simp (disch := first | omega | (simp only [LN]; omega)) only [↓EC, EW, seval, ↓reduceIte, ↓EBD, EBE])))
  refine callM_d (c_order2 (a := a) (b := b) (k := k) hn h0 hb (by omega)) ?_
  rintro _ _ ⟨x1, y1, k1, rfl, hx1, hy1, rfl, hk1, hk1'⟩
  (refine blkP.ini ?_; repeat (refine blkP.mk ?_; (try simp (disch := first | omega | (simp only [LN]; omega)) only [↓EC, EW, seval, ↓reduceIte, ↓EBD, EBE])))
  refine pcm [0] rfl ?_; (refine blkP.ini ?_; repeat (refine blkP.mk ?_; (try simp (disch := first | omega | (simp only [LN]; omega)) only [↓EC, EW, seval, ↓reduceIte, ↓EBD, EBE])))
  refine callM_d (c_order2 (a := y1) (b := d) (k := k1) hn (by omega) hd (by omega)) ?_
  rintro _ _ ⟨x2, y2, k2, rfl, hx2, hy2, rfl, hk2, hk2'⟩
  (refine blkP.ini ?_; repeat (refine blkP.mk ?_; (try simp (disch := first | omega | (simp only [LN]; omega)) only [↓EC, EW, seval, ↓reduceIte, ↓EBD, EBE])))
  refine pcm [0] rfl ?_; (refine blkP.ini ?_; repeat (refine blkP.mk ?_; (try simp (disch := first | omega | (simp only [LN]; omega)) only [↓EC, EW, seval, ↓reduceIte, ↓EBD, EBE])))
  refine callM_d (c_order2 (a := x1) (b := x2) (k := k2) hn (by omega) (by omega) (by omega)) ?_
  rintro _ _ ⟨x3, y3, k3, rfl, hx3, hy3, rfl, hk3, hk3'⟩
  (refine blkP.ini ?_; repeat (refine blkP.mk ?_; (try simp (disch := first | omega | (simp only [LN]; omega)) only [↓EC, EW, seval, ↓reduceIte, ↓EBD, EBE])))
  exact ⟨y3, k3, rfl, by omega, rfl, by omega, by omega⟩
theorem c_choosePivot {l : List Int} {n : Nat} {a b : Int} (hn : l.length = n) (h0 : 0 ≤ a) (hab : a + 13 ≤ b) (hb : b ≤ n) (hl : n ≤ 16) : PSpec Tryz.prog 102 [.sl n (vi .i64 l), .int .i64 a, .int .i64 b] fun v =>
    ∃ x y, v = .tup [.int .i64 x, .int .i64 y] ∧ a ≤ x ∧ x < b ∧ 0 ≤ y ∧ y ≤ 2 := by
  refine slices_choosePivotOrdered_int64_f.f ?_
  dsimp only [slices_choosePivotOrdered_int64_F, pcal_B, pcalp_B, pcala_B, pcond_B, pgk_B, JN_B, LP_B]
  (refine blkP.ini ?_; repeat (refine blkP.mk ?_; (try simp (disch := first | omega | (simp only [LN]; omega)) only [↓EC, EW, seval, ↓reduceIte, ↓EBD, EBE])))
  have hd : 3 ≤ (b - a).tdiv 4 ∧ (b - a).tdiv 4 ≤ 4 := by
    have h3 := Int.mul_tdiv_add_tmod (b - a) 4
    have h4 := Int.tmod_nonneg 4 (show 0 ≤ b - a by omega)
    have h5 := Int.tmod_lt_of_pos (b - a) (show (0 : Int) < 4 by omega)
    omega
  have hd4 : 4 * (b - a).tdiv 4 ≤ b - a := by
    have h3 := Int.mul_tdiv_add_tmod (b - a) 4
    have h4 := Int.tmod_nonneg 4 (show 0 ≤ b - a by omega)
    omega
  generalize (b - a).tdiv 4 = d at *
  (refine blkP.ini ?_; repeat (refine blkP.mk ?_; (try simp (disch := first | omega | (simp only [LN]; omega)) only [↓EC, EW, seval, ↓reduceIte, ↓EBD, EBE])))
  refine JNx_un ?_
  (refine blkP.ini ?_; repeat (refine blkP.mk ?_; (try simp (disch := first | omega | (simp only [LN]; omega)) only [↓EC, EW, seval, ↓reduceIte, ↓EBD, EBE])))
  (refine Split.mkB (fun h => ?_) (fun h => ?_) <;> (try simp only [SD] at h))
  rotate_left
  · omega
  (refine blkP.ini ?_; repeat (refine blkP.mk ?_; (try simp (disch := first | omega | (simp only [LN]; omega)) only [↓EC, EW, seval, ↓reduceIte, ↓EBD, EBE])))
  refine JNx_un ?_
  (refine blkP.ini ?_; repeat (refine blkP.mk ?_; (try simp (disch := first | omega | (simp only [LN]; omega)) only [↓EC, EW, seval, ↓reduceIte, ↓EBD, EBE])))
  (refine Split.mkB (fun h => ?_) (fun h => ?_) <;> (try simp only [SD] at h))
  · omega
  (refine blkP.ini ?_; repeat (refine blkP.mk ?_; (try simp (disch := first | omega | (simp only [LN]; omega)) only [↓EC, EW, seval, ↓reduceIte, ↓EBD, EBE])))
  refine pcm [73] rfl ?_; (refine blkP.ini ?_; repeat (refine blkP.mk ?_; (try simp (disch := first | omega | (simp only [LN]; omega)) only [↓EC, EW, seval, ↓reduceIte, ↓EBD, EBE])))
  refine callM_d (c_median (a := a + d * 1) (b := a + d * 2) (d := a + d * 3) (k := 0) hn (by omega) (by omega) (by omega) (by omega)) ?_
  rintro _ _ ⟨x, k, rfl, hx, rfl, hk, hk'⟩
  (refine blkP.ini ?_; repeat (refine blkP.mk ?_; (try simp (disch := first | omega | (simp only [LN]; omega)) only [↓EC, EW, seval, ↓reduceIte, ↓EBD, EBE])))
  (refine Split.mkB (fun h => ?_) (fun h => ?_) <;> (try simp only [SD] at h))
  · (refine blkP.ini ?_; repeat (refine blkP.mk ?_; (try simp (disch := first | omega | (simp only [LN]; omega)) only [↓EC, EW, seval, ↓reduceIte, ↓EBD, EBE])))
    exact ⟨x, 1, rfl, by omega, by omega, by omega, by omega⟩
  · (refine blkP.ini ?_; repeat (refine blkP.mk ?_; (try simp (disch := first | omega | (simp only [LN]; omega)) only [↓EC, EW, seval, ↓reduceIte, ↓EBD, EBE])))
    (refine Split.mkB (fun h => ?_) (fun h => ?_) <;> (try simp only [SD] at h))
    · omega
    · (refine blkP.ini ?_; repeat (refine blkP.mk ?_; (try simp (disch := first | omega | (simp only [LN]; omega)) only [↓EC, EW, seval, ↓reduceIte, ↓EBD, EBE])))
      exact ⟨x, 0, rfl, by omega, by omega, by omega, by omega⟩
/-! ### Partitions -/
theorem c_partialInsertion {l : List Int} {n : Nat} {a b : Int} (hn : l.length = n) (h0 : 0 ≤ a) (hab : a + 13 ≤ b) (hb : b ≤ n) (hl : n ≤ 16) : PSpec Tryz.prog 104 [.sl n (vi .i64 l), .int .i64 a, .int .i64 b] fun v => ∃ r, v = .bool r := by
  refine slices_partialInsertionSortOrdered_int64_f.f ?_
  dsimp only [slices_partialInsertionSortOrdered_int64_F, pcal_B, pcalp_B, pcala_B, pcond_B, pgk_B, JN_B, LP_B]
  (refine blkP.ini ?_; repeat (refine blkP.mk ?_; (try simp (disch := first | omega | (simp only [LN]; omega)) only [↓EC, EW, seval, ↓reduceIte, ↓EBD, EBE])))
  refine LPx_of (σ := Unit) 100000 [] (fun s => [.int .i64 (a + 1), .int .i64 0]) (fun s => []) (fun s => True) (fun s => 0) () (by simp [frameOk, names, lpz, sclp, scv, scvs, nrfs, nrf, FRB]) trivial ?_ ?_
  · (refine blkP.ini ?_; repeat (refine blkP.mk ?_; simp (disch := first | omega | (simp only [LN]; omega)) only [↓EC, EW, seval, ↓reduceIte, ↓EBD, EBE, ColV_def]))
  · intro _ _
    (refine blkP.ini ?_; repeat (refine blkP.mk ?_; simp (disch := first | omega | (simp only [LN]; omega)) only [↓EC, EW, seval, ↓reduceIte, ↓EBD, EBE, ColV_def, lheap_def]))
    (refine blkP.ini ?_; repeat (refine blkP.mk ?_; (try simp (disch := first | omega | (simp only [LN]; omega)) only [↓EC, EW, seval, ↓reduceIte, ↓EBD, EBE])))
    refine JNx_un ?_
    (refine blkP.ini ?_; repeat (refine blkP.mk ?_; (try simp (disch := first | omega | (simp only [LN]; omega)) only [↓EC, EW, seval, ↓reduceIte, ↓EBD, EBE])))
    refine LPx_of (σ := Int) 200000 [] (fun s => [.int .i64 s]) (fun s => []) (fun s => a + 1 ≤ s ∧ s ≤ b) (fun s => (b - s).toNat) (a + 1) (by simp [frameOk, names, lpz, sclp, scv, scvs, nrfs, nrf, FRB]) (by omega) ?_ ?_
    · (refine blkP.ini ?_; repeat (refine blkP.mk ?_; simp (disch := first | omega | (simp only [LN]; omega)) only [↓EC, EW, seval, ↓reduceIte, ↓EBD, EBE, ColV_def]))
    · rintro i ⟨h1, h2⟩
      (refine blkP.ini ?_; repeat (refine blkP.mk ?_; simp (disch := first | omega | (simp only [LN]; omega)) only [↓EC, EW, seval, ↓reduceIte, ↓EBD, EBE, ColV_def, lheap_def]))
      (refine Split.mkB (fun h => ?_) (fun h => ?_) <;> (try simp only [SD] at h))
      · (refine blkP.ini ?_; repeat (refine blkP.mk ?_; (try simp (disch := first | omega | (simp only [LN]; omega)) only [↓EC, EW, seval, ↓reduceIte, ↓EBD, EBE])))
        refine pcd_v c_less ?_
        (refine blkP.ini ?_; repeat (refine blkP.mk ?_; (try simp (disch := first | omega | (simp only [LN]; omega)) only [↓EC, EW, seval, ↓reduceIte, ↓EBD, EBE])))
        (refine Split.mkB (fun h => ?_) (fun h => ?_) <;> (try simp only [SD] at h))
        · (refine blkP.ini ?_; repeat (refine blkP.mk ?_; (try simp (disch := first | omega | (simp only [LN]; omega)) only [↓EC, EW, seval, ↓reduceIte, ↓EBD, EBE])))
          exact ⟨i + 1, rfl, by omega, by omega⟩
        · (refine blkP.ini ?_; repeat (refine blkP.mk ?_; (try simp (disch := first | omega | (simp only [LN]; omega)) only [↓EC, EW, seval, ↓reduceIte, ↓EBD, EBE])))
          (refine Split.mkB (fun h => ?_) (fun h => ?_) <;> (try simp only [SD] at h))
          · (refine blkP.ini ?_; repeat (refine blkP.mk ?_; (try simp (disch := first | omega | (simp only [LN]; omega)) only [↓EC, EW, seval, ↓reduceIte, ↓EBD, EBE])))
            exact ⟨_, rfl⟩
          · (refine blkP.ini ?_; repeat (refine blkP.mk ?_; (try simp (disch := first | omega | (simp only [LN]; omega)) only [↓EC, EW, seval, ↓reduceIte, ↓EBD, EBE])))
            (refine Split.mkB (fun h => ?_) (fun h => ?_) <;> (try simp only [SD] at h))
            · (refine blkP.ini ?_; repeat (refine blkP.mk ?_; (try simp (disch := first | omega | (simp only [LN]; omega)) only [↓EC, EW, seval, ↓reduceIte, ↓EBD, EBE])))
              exact ⟨_, rfl⟩
            · omega
      · (refine blkP.ini ?_; repeat (refine blkP.mk ?_; (try simp (disch := first | omega | (simp only [LN]; omega)) only [↓EC, EW, seval, ↓reduceIte, ↓EBD, EBE])))
        (refine Split.mkB (fun h => ?_) (fun h => ?_) <;> (try simp only [SD] at h))
        · (refine blkP.ini ?_; repeat (refine blkP.mk ?_; (try simp (disch := first | omega | (simp only [LN]; omega)) only [↓EC, EW, seval, ↓reduceIte, ↓EBD, EBE])))
          exact ⟨_, rfl⟩
        · omega
theorem c_partitionEqual {l : List Int} {n : Nat} {a b p : Int} (hn : l.length = n) (h0 : 0 ≤ a) (hab : a + 1 ≤ b) (hb : b ≤ n) (hp : a ≤ p ∧ p < b) (hl : n ≤ 1000) : PSpecM Tryz.prog 106 [.rf 0 0 n, .int .i64 a, .int .i64 b, .int .i64 p] [(0, 2, 1)] [vi .i64 l] fun v c =>
    ∃ x, v = .int .i64 x ∧ a < x ∧ x ≤ b ∧ kp n c := by
  refine slices_partitionEqualOrdered_int64_f.m rfl rfl ?_
  dsimp only [slices_partitionEqualOrdered_int64_F, pcal_B, pcalp_B, pcala_B, pcond_B, pgk_B, JN_B, LP_B]
  (refine blkP.ini ?_; repeat (refine blkP.mk ?_; (try simp (disch := first | omega | (simp only [LN]; omega)) only [↓EC, EW, seval, ↓reduceIte, ↓EBD, EBE])))
  generalize hM : (l.set a.toNat (gi l p.toNat)).set p.toNat (gi l a.toNat) = m
  have h1 : m.length = n := by rw [← hM]; simp [hn]
  refine LPx_of (σ := List Int × Int × Int) 100000 [(0, 2, 1)] (fun s => [.int .i64 s.2.1, .int .i64 s.2.2]) (fun s => [vi .i64 s.1])
    (fun s => s.1.length = n ∧ a + 1 ≤ s.2.1 ∧ s.2.1 ≤ s.2.2 + 2 ∧ s.2.2 ≤ b - 1 ∧ s.2.1 ≤ b ∧ a ≤ s.2.2) (fun s => (s.2.2 + 2 - s.2.1).toNat) (m, a + 1, b - 1) (by simp [frameOk, names, lpz, sclp, scv, scvs, nrfs, nrf, FRB]) ⟨h1, by simp only; omega⟩ ?_ ?_
  · (refine blkP.ini ?_; repeat (refine blkP.mk ?_; simp (disch := first | omega | (simp only [LN]; omega)) only [↓EC, EW, seval, ↓reduceIte, ↓EBD, EBE, ColV_def]))
  · rintro ⟨m, i, j⟩ ⟨h1, h2, h3, h4, h9, h10⟩
    simp only at h1 h2 h3 h4 h9 h10
    (refine blkP.ini ?_; repeat (refine blkP.mk ?_; simp (disch := first | omega | (simp only [LN]; omega)) only [↓EC, EW, seval, ↓reduceIte, ↓EBD, EBE, ColV_def, lheap_def]))
    (refine blkP.ini ?_; repeat (refine blkP.mk ?_; (try simp (disch := first | omega | (simp only [LN]; omega)) only [↓EC, EW, seval, ↓reduceIte, ↓EBD, EBE])))
    refine LPx_of (σ := Int) 200000 [(0, 2, 1)] (fun s => [.int .i64 s]) (fun s => [vi .i64 m]) (fun s => i ≤ s ∧ (s ≤ j + 1 ∨ s = i)) (fun s => (j + 1 - s).toNat) (i) (by simp [frameOk, names, lpz, sclp, scv, scvs, nrfs, nrf, FRB]) (by omega) ?_ ?_
    · (refine blkP.ini ?_; repeat (refine blkP.mk ?_; simp (disch := first | omega | (simp only [LN]; omega)) only [↓EC, EW, seval, ↓reduceIte, ↓EBD, EBE, ColV_def]))
    · rintro i' ⟨h5, h6⟩
      (refine blkP.ini ?_; repeat (refine blkP.mk ?_; simp (disch := first | omega | (simp only [LN]; omega)) only [↓EC, EW, seval, ↓reduceIte, ↓EBD, EBE, ColV_def, lheap_def]))
      (refine Split.mkB (fun h => ?_) (fun h => ?_) <;> (try simp only [SD] at h))
      · (refine blkP.ini ?_; repeat (refine blkP.mk ?_; (try simp (disch := first | omega | (simp only [LN]; omega)) only [↓EC, EW, seval, ↓reduceIte, ↓EBD, EBE])))
        refine pcd_v c_less ?_
        (refine blkP.ini ?_; repeat (refine blkP.mk ?_; (try simp (disch := first | omega | (simp only [LN]; omega)) only [↓EC, EW, seval, ↓reduceIte, ↓EBD, EBE])))
        (refine Split.mkB (fun h => ?_) (fun h => ?_) <;> (try simp only [SD] at h))
        · (refine blkP.ini ?_; repeat (refine blkP.mk ?_; (try simp (disch := first | omega | (simp only [LN]; omega)) only [↓EC, EW, seval, ↓reduceIte, ↓EBD, EBE])))
          exact ⟨i' + 1, rfl, by omega, by omega⟩
        · (refine blkP.ini ?_; repeat (refine blkP.mk ?_; (try simp (disch := first | omega | (simp only [LN]; omega)) only [↓EC, EW, seval, ↓reduceIte, ↓EBD, EBE])))
          refine LPx_of (σ := Int) 300000 [(0, 2, 1)] (fun s => [.int .i64 s]) (fun s => [vi .i64 m]) (fun s => s ≤ j ∧ (i' ≤ s + 1 ∨ s = j)) (fun s => (s + 1 - i').toNat) (j) (by simp [frameOk, names, lpz, sclp, scv, scvs, nrfs, nrf, FRB]) (by omega) ?_ ?_
          · (refine blkP.ini ?_; repeat (refine blkP.mk ?_; simp (disch := first | omega | (simp only [LN]; omega)) only [↓EC, EW, seval, ↓reduceIte, ↓EBD, EBE, ColV_def]))
          · rintro j' ⟨h7, h8⟩
            (refine blkP.ini ?_; repeat (refine blkP.mk ?_; simp (disch := first | omega | (simp only [LN]; omega)) only [↓EC, EW, seval, ↓reduceIte, ↓EBD, EBE, ColV_def, lheap_def]))
            (refine Split.mkB (fun h => ?_) (fun h => ?_) <;> (try simp only [SD] at h))
            · (refine blkP.ini ?_; repeat (refine blkP.mk ?_; (try simp (disch := first | omega | (simp only [LN]; omega)) only [↓EC, EW, seval, ↓reduceIte, ↓EBD, EBE])))
              refine pcd_v c_less ?_
              (refine blkP.ini ?_; repeat (refine blkP.mk ?_; (try simp (disch := first | omega | (simp only [LN]; omega)) only [↓EC, EW, seval, ↓reduceIte, ↓EBD, EBE])))
              (refine Split.mkB (fun h => ?_) (fun h => ?_) <;> (try simp only [SD] at h))
              · (refine blkP.ini ?_; repeat (refine blkP.mk ?_; (try simp (disch := first | omega | (simp only [LN]; omega)) only [↓EC, EW, seval, ↓reduceIte, ↓EBD, EBE])))
                exact ⟨j' - 1, rfl, by omega, by omega⟩
              · (refine blkP.ini ?_; repeat (refine blkP.mk ?_; (try simp (disch := first | omega | (simp only [LN]; omega)) only [↓EC, EW, seval, ↓reduceIte, ↓EBD, EBE])))
                (refine Split.mkB (fun h => ?_) (fun h => ?_) <;> (try simp only [SD] at h))
                · first
                  | omega
                  | ((refine blkP.ini ?_; repeat (refine blkP.mk ?_; (try simp (disch := first | omega | (simp only [LN]; omega)) only [↓EC, EW, seval, ↓reduceIte, ↓EBD, EBE]))); exact ⟨_, rfl, by omega, by omega, m, rfl, h1⟩)
                · first
                  | omega
                  | ((refine blkP.ini ?_; repeat (refine blkP.mk ?_; (try simp (disch := first | omega | (simp only [LN]; omega)) only [↓EC, EW, seval, ↓reduceIte, ↓EBD, EBE]))); exact ⟨(_, i' + 1, j' - 1), rfl, rfl, ⟨by simp [h1], by simp only; omega⟩, by simp only; omega⟩)
            · (refine blkP.ini ?_; repeat (refine blkP.mk ?_; (try simp (disch := first | omega | (simp only [LN]; omega)) only [↓EC, EW, seval, ↓reduceIte, ↓EBD, EBE])))
              (refine Split.mkB (fun h => ?_) (fun h => ?_) <;> (try simp only [SD] at h))
              · first
                | omega
                | ((refine blkP.ini ?_; repeat (refine blkP.mk ?_; (try simp (disch := first | omega | (simp only [LN]; omega)) only [↓EC, EW, seval, ↓reduceIte, ↓EBD, EBE]))); exact ⟨_, rfl, by omega, by omega, m, rfl, h1⟩)
              · first
                | omega
                | ((refine blkP.ini ?_; repeat (refine blkP.mk ?_; (try simp (disch := first | omega | (simp only [LN]; omega)) only [↓EC, EW, seval, ↓reduceIte, ↓EBD, EBE]))); exact ⟨(_, i' + 1, j' - 1), rfl, rfl, ⟨by simp [h1], by simp only; omega⟩, by simp only; omega⟩)
      · (refine blkP.ini ?_; repeat (refine blkP.mk ?_; (try simp (disch := first | omega | (simp only [LN]; omega)) only [↓EC, EW, seval, ↓reduceIte, ↓EBD, EBE])))
        refine LPx_of (σ := Int) 300000 [(0, 2, 1)] (fun s => [.int .i64 s]) (fun s => [vi .i64 m]) (fun s => s ≤ j ∧ (i' ≤ s + 1 ∨ s = j)) (fun s => (s + 1 - i').toNat) (j) (by simp [frameOk, names, lpz, sclp, scv, scvs, nrfs, nrf, FRB]) (by omega) ?_ ?_
        · (refine blkP.ini ?_; repeat (refine blkP.mk ?_; simp (disch := first | omega | (simp only [LN]; omega)) only [↓EC, EW, seval, ↓reduceIte, ↓EBD, EBE, ColV_def]))
        · rintro j' ⟨h7, h8⟩
          (refine blkP.ini ?_; repeat (refine blkP.mk ?_; simp (disch := first | omega | (simp only [LN]; omega)) only [↓EC, EW, seval, ↓reduceIte, ↓EBD, EBE, ColV_def, lheap_def]))
          (refine Split.mkB (fun h => ?_) (fun h => ?_) <;> (try simp only [SD] at h))
          · (refine blkP.ini ?_; repeat (refine blkP.mk ?_; (try simp (disch := first | omega | (simp only [LN]; omega)) only [↓EC, EW, seval, ↓reduceIte, ↓EBD, EBE])))
            refine pcd_v c_less ?_
            (refine blkP.ini ?_; repeat (refine blkP.mk ?_; (try simp (disch := first | omega | (simp only [LN]; omega)) only [↓EC, EW, seval, ↓reduceIte, ↓EBD, EBE])))
            (refine Split.mkB (fun h => ?_) (fun h => ?_) <;> (try simp only [SD] at h))
            · (refine blkP.ini ?_; repeat (refine blkP.mk ?_; (try simp (disch := first | omega | (simp only [LN]; omega)) only [↓EC, EW, seval, ↓reduceIte, ↓EBD, EBE])))
              exact ⟨j' - 1, rfl, by omega, by omega⟩
            · (refine blkP.ini ?_; repeat (refine blkP.mk ?_; (try simp (disch := first | omega | (simp only [LN]; omega)) only [↓EC, EW, seval, ↓reduceIte, ↓EBD, EBE])))
              (refine Split.mkB (fun h => ?_) (fun h => ?_) <;> (try simp only [SD] at h))
              · first
                | omega
                | ((refine blkP.ini ?_; repeat (refine blkP.mk ?_; (try simp (disch := first | omega | (simp only [LN]; omega)) only [↓EC, EW, seval, ↓reduceIte, ↓EBD, EBE]))); exact ⟨_, rfl, by omega, by omega, m, rfl, h1⟩)
              · first
                | omega
                | ((refine blkP.ini ?_; repeat (refine blkP.mk ?_; (try simp (disch := first | omega | (simp only [LN]; omega)) only [↓EC, EW, seval, ↓reduceIte, ↓EBD, EBE]))); exact ⟨(_, i' + 1, j' - 1), rfl, rfl, ⟨by simp [h1], by simp only; omega⟩, by simp only; omega⟩)
          · (refine blkP.ini ?_; repeat (refine blkP.mk ?_; (try simp (disch := first | omega | (simp only [LN]; omega)) only [↓EC, EW, seval, ↓reduceIte, ↓EBD, EBE])))
            (refine Split.mkB (fun h => ?_) (fun h => ?_) <;> (try simp only [SD] at h))
            · first
              | omega
              | ((refine blkP.ini ?_; repeat (refine blkP.mk ?_; (try simp (disch := first | omega | (simp only [LN]; omega)) only [↓EC, EW, seval, ↓reduceIte, ↓EBD, EBE]))); exact ⟨_, rfl, by omega, by omega, m, rfl, h1⟩)
            · first
              | omega
              | ((refine blkP.ini ?_; repeat (refine blkP.mk ?_; (try simp (disch := first | omega | (simp only [LN]; omega)) only [↓EC, EW, seval, ↓reduceIte, ↓EBD, EBE]))); exact ⟨(_, i' + 1, j' - 1), rfl, rfl, ⟨by simp [h1], by simp only; omega⟩, by simp only; omega⟩)
theorem c_partition {l : List Int} {n : Nat} {a b p : Int} (hn : l.length = n) (h0 : 0 ≤ a) (hab : a + 1 ≤ b) (hb : b ≤ n) (hp : a ≤ p ∧ p < b) (hl : n ≤ 1000) : PSpecM Tryz.prog 107 [.rf 0 0 n, .int .i64 a, .int .i64 b, .int .i64 p] [(0, 2, 1)] [vi .i64 l] fun v c =>
    ∃ x r, v = .tup [.int .i64 x, .bool r] ∧ a ≤ x ∧ x < b ∧ kp n c := by
  refine slices_partitionOrdered_int64_f.m rfl rfl ?_
  dsimp only [slices_partitionOrdered_int64_F, pcal_B, pcalp_B, pcala_B, pcond_B, pgk_B, JN_B, LP_B]
  (refine blkP.ini ?_; repeat (refine blkP.mk ?_; (try simp (disch := first | omega | (simp only [LN]; omega)) only [↓EC, EW, seval, ↓reduceIte, ↓EBD, EBE])))
  generalize hM : (l.set a.toNat (gi l p.toNat)).set p.toNat (gi l a.toNat) = m
  have h1 : m.length = n := by rw [← hM]; simp [hn]
  refine LPx_of (σ := Int) 200000 [(0, 2, 1)] (fun s => [.int .i64 s]) (fun s => [vi .i64 m]) (fun s => a + 1 ≤ s ∧ (s ≤ b - 1 + 1 ∨ s = a + 1)) (fun s => (b - 1 + 1 - s).toNat) (a + 1) (by simp [frameOk, names, lpz, sclp, scv, scvs, nrfs, nrf, FRB]) (by omega) ?_ ?_
  · (refine blkP.ini ?_; repeat (refine blkP.mk ?_; simp (disch := first | omega | (simp only [LN]; omega)) only [↓EC, EW, seval, ↓reduceIte, ↓EBD, EBE, ColV_def]))
  · rintro i' ⟨h5, h6⟩
    (refine blkP.ini ?_; repeat (refine blkP.mk ?_; simp (disch := first | omega | (simp only [LN]; omega)) only [↓EC, EW, seval, ↓reduceIte, ↓EBD, EBE, ColV_def, lheap_def]))
    (refine Split.mkB (fun h => ?_) (fun h => ?_) <;> (try simp only [SD] at h))
    · (refine blkP.ini ?_; repeat (refine blkP.mk ?_; (try simp (disch := first | omega | (simp only [LN]; omega)) only [↓EC, EW, seval, ↓reduceIte, ↓EBD, EBE])))
      refine pcd_v c_less ?_
      (refine blkP.ini ?_; repeat (refine blkP.mk ?_; (try simp (disch := first | omega | (simp only [LN]; omega)) only [↓EC, EW, seval, ↓reduceIte, ↓EBD, EBE])))
      (refine Split.mkB (fun h => ?_) (fun h => ?_) <;> (try simp only [SD] at h))
      · (refine blkP.ini ?_; repeat (refine blkP.mk ?_; (try simp (disch := first | omega | (simp only [LN]; omega)) only [↓EC, EW, seval, ↓reduceIte, ↓EBD, EBE])))
        exact ⟨i' + 1, rfl, by omega, by omega⟩
      · (refine blkP.ini ?_; repeat (refine blkP.mk ?_; (try simp (disch := first | omega | (simp only [LN]; omega)) only [↓EC, EW, seval, ↓reduceIte, ↓EBD, EBE])))
        refine LPx_of (σ := Int) 300000 [(0, 2, 1)] (fun s => [.int .i64 s]) (fun s => [vi .i64 m]) (fun s => s ≤ b - 1 ∧ (i' ≤ s + 1 ∨ s = b - 1)) (fun s => (s + 1 - i').toNat) (b - 1) (by simp [frameOk, names, lpz, sclp, scv, scvs, nrfs, nrf, FRB]) (by omega) ?_ ?_
        · (refine blkP.ini ?_; repeat (refine blkP.mk ?_; simp (disch := first | omega | (simp only [LN]; omega)) only [↓EC, EW, seval, ↓reduceIte, ↓EBD, EBE, ColV_def]))
        · rintro j' ⟨h7, h8⟩
          (refine blkP.ini ?_; repeat (refine blkP.mk ?_; simp (disch := first | omega | (simp only [LN]; omega)) only [↓EC, EW, seval, ↓reduceIte, ↓EBD, EBE, ColV_def, lheap_def]))
          (refine Split.mkB (fun h => ?_) (fun h => ?_) <;> (try simp only [SD] at h))
          · (refine blkP.ini ?_; repeat (refine blkP.mk ?_; (try simp (disch := first | omega | (simp only [LN]; omega)) only [↓EC, EW, seval, ↓reduceIte, ↓EBD, EBE])))
            refine pcd_v c_less ?_
            (refine blkP.ini ?_; repeat (refine blkP.mk ?_; (try simp (disch := first | omega | (simp only [LN]; omega)) only [↓EC, EW, seval, ↓reduceIte, ↓EBD, EBE])))
            (refine Split.mkB (fun h => ?_) (fun h => ?_) <;> (try simp only [SD] at h))
            · (refine blkP.ini ?_; repeat (refine blkP.mk ?_; (try simp (disch := first | omega | (simp only [LN]; omega)) only [↓EC, EW, seval, ↓reduceIte, ↓EBD, EBE])))
              exact ⟨j' - 1, rfl, by omega, by omega⟩
            · (refine blkP.ini ?_; repeat (refine blkP.mk ?_; (try simp (disch := first | omega | (simp only [LN]; omega)) only [↓EC, EW, seval, ↓reduceIte, ↓EBD, EBE])))
              (refine Split.mkB (fun h => ?_) (fun h => ?_) <;> (try simp only [SD] at h))
              · first
                | omega
                | ((refine blkP.ini ?_; repeat (refine blkP.mk ?_; (try simp (disch := first | omega | (simp only [LN]; omega)) only [↓EC, EW, seval, ↓reduceIte, ↓EBD, EBE]))); exact ⟨_, _, rfl, by omega, by omega, _, rfl, by simp [h1]⟩)
              · first
                | omega
                | (skip
                   (refine blkP.ini ?_; repeat (refine blkP.mk ?_; (try simp (disch := first | omega | (simp only [LN]; omega)) only [↓EC, EW, seval, ↓reduceIte, ↓EBD, EBE])))
                   refine LPx_of (σ := List Int × Int × Int) 500000 [(0, 2, 1)] (fun s => [.int .i64 s.2.1, .int .i64 s.2.2]) (fun s => [vi .i64 s.1])
                     (fun s => s.1.length = n ∧ a + 1 ≤ s.2.1 ∧ s.2.1 ≤ s.2.2 + 2 ∧ s.2.2 ≤ b - 1 ∧ s.2.1 ≤ b ∧ a ≤ s.2.2) (fun s => (s.2.2 + 2 - s.2.1).toNat) ((m.set i'.toNat (gi m j'.toNat)).set j'.toNat (gi m i'.toNat), i' + 1, j' - 1) (by simp [frameOk, names, lpz, sclp, scv, scvs, nrfs, nrf, FRB]) ⟨by simp [h1], by simp only; omega⟩ ?_ ?_
                   · (refine blkP.ini ?_; repeat (refine blkP.mk ?_; simp (disch := first | omega | (simp only [LN]; omega)) only [↓EC, EW, seval, ↓reduceIte, ↓EBD, EBE, ColV_def]))
                   · rintro ⟨m, i, j⟩ ⟨h1, h2, h3, h4, h9, h10⟩
                     simp only at h1 h2 h3 h4 h9 h10
                     (refine blkP.ini ?_; repeat (refine blkP.mk ?_; simp (disch := first | omega | (simp only [LN]; omega)) only [↓EC, EW, seval, ↓reduceIte, ↓EBD, EBE, ColV_def, lheap_def]))
                     (refine blkP.ini ?_; repeat (refine blkP.mk ?_; (try simp (disch := first | omega | (simp only [LN]; omega)) only [↓EC, EW, seval, ↓reduceIte, ↓EBD, EBE])))
                     refine LPx_of (σ := Int) 600000 [(0, 2, 1)] (fun s => [.int .i64 s]) (fun s => [vi .i64 m]) (fun s => i ≤ s ∧ (s ≤ j + 1 ∨ s = i)) (fun s => (j + 1 - s).toNat) (i) (by simp [frameOk, names, lpz, sclp, scv, scvs, nrfs, nrf, FRB]) (by omega) ?_ ?_
                     · (refine blkP.ini ?_; repeat (refine blkP.mk ?_; simp (disch := first | omega | (simp only [LN]; omega)) only [↓EC, EW, seval, ↓reduceIte, ↓EBD, EBE, ColV_def]))
                     · rintro i' ⟨h5, h6⟩
                       (refine blkP.ini ?_; repeat (refine blkP.mk ?_; simp (disch := first | omega | (simp only [LN]; omega)) only [↓EC, EW, seval, ↓reduceIte, ↓EBD, EBE, ColV_def, lheap_def]))
                       (refine Split.mkB (fun h => ?_) (fun h => ?_) <;> (try simp only [SD] at h))
                       · (refine blkP.ini ?_; repeat (refine blkP.mk ?_; (try simp (disch := first | omega | (simp only [LN]; omega)) only [↓EC, EW, seval, ↓reduceIte, ↓EBD, EBE])))
                         refine pcd_v c_less ?_
                         (refine blkP.ini ?_; repeat (refine blkP.mk ?_; (try simp (disch := first | omega | (simp only [LN]; omega)) only [↓EC, EW, seval, ↓reduceIte, ↓EBD, EBE])))
                         (refine Split.mkB (fun h => ?_) (fun h => ?_) <;> (try simp only [SD] at h))
                         · (refine blkP.ini ?_; repeat (refine blkP.mk ?_; (try simp (disch := first | omega | (simp only [LN]; omega)) only [↓EC, EW, seval, ↓reduceIte, ↓EBD, EBE])))
                           exact ⟨i' + 1, rfl, by omega, by omega⟩
                         · (refine blkP.ini ?_; repeat (refine blkP.mk ?_; (try simp (disch := first | omega | (simp only [LN]; omega)) only [↓EC, EW, seval, ↓reduceIte, ↓EBD, EBE])))
                           refine LPx_of (σ := Int) 700000 [(0, 2, 1)] (fun s => [.int .i64 s]) (fun s => [vi .i64 m]) (fun s => s ≤ j ∧ (i' ≤ s + 1 ∨ s = j)) (fun s => (s + 1 - i').toNat) (j) (by simp [frameOk, names, lpz, sclp, scv, scvs, nrfs, nrf, FRB]) (by omega) ?_ ?_
                           · (refine blkP.ini ?_; repeat (refine blkP.mk ?_; simp (disch := first | omega | (simp only [LN]; omega)) only [↓EC, EW, seval, ↓reduceIte, ↓EBD, EBE, ColV_def]))
                           · rintro j' ⟨h7, h8⟩
                             (refine blkP.ini ?_; repeat (refine blkP.mk ?_; simp (disch := first | omega | (simp only [LN]; omega)) only [↓EC, EW, seval, ↓reduceIte, ↓EBD, EBE, ColV_def, lheap_def]))
                             (refine Split.mkB (fun h => ?_) (fun h => ?_) <;> (try simp only [SD] at h))
                             · (refine blkP.ini ?_; repeat (refine blkP.mk ?_; (try simp (disch := first | omega | (simp only [LN]; omega)) only [↓EC, EW, seval, ↓reduceIte, ↓EBD, EBE])))
                               refine pcd_v c_less ?_
                               (refine blkP.ini ?_; repeat (refine blkP.mk ?_; (try simp (disch := first | omega | (simp only [LN]; omega)) only [↓EC, EW, seval, ↓reduceIte, ↓EBD, EBE])))
                               (refine Split.mkB (fun h => ?_) (fun h => ?_) <;> (try simp only [SD] at h))
                               · (refine blkP.ini ?_; repeat (refine blkP.mk ?_; (try simp (disch := first | omega | (simp only [LN]; omega)) only [↓EC, EW, seval, ↓reduceIte, ↓EBD, EBE])))
                                 exact ⟨j' - 1, rfl, by omega, by omega⟩
                               · (refine blkP.ini ?_; repeat (refine blkP.mk ?_; (try simp (disch := first | omega | (simp only [LN]; omega)) only [↓EC, EW, seval, ↓reduceIte, ↓EBD, EBE])))
                                 (refine Split.mkB (fun h => ?_) (fun h => ?_) <;> (try simp only [SD] at h))
                                 · first
                                   | omega
                                   | ((refine blkP.ini ?_; repeat (refine blkP.mk ?_; (try simp (disch := first | omega | (simp only [LN]; omega)) only [↓EC, EW, seval, ↓reduceIte, ↓EBD, EBE]))); exact ⟨_, _, rfl, by omega, by omega, _, rfl, by simp [h1]⟩)
                                 · first
                                   | omega
                                   | ((refine blkP.ini ?_; repeat (refine blkP.mk ?_; (try simp (disch := first | omega | (simp only [LN]; omega)) only [↓EC, EW, seval, ↓reduceIte, ↓EBD, EBE]))); exact ⟨(_, i' + 1, j' - 1), rfl, rfl, ⟨by simp [h1], by simp only; omega⟩, by simp only; omega⟩)
                             · (refine blkP.ini ?_; repeat (refine blkP.mk ?_; (try simp (disch := first | omega | (simp only [LN]; omega)) only [↓EC, EW, seval, ↓reduceIte, ↓EBD, EBE])))
                               (refine Split.mkB (fun h => ?_) (fun h => ?_) <;> (try simp only [SD] at h))
                               · first
                                 | omega
                                 | ((refine blkP.ini ?_; repeat (refine blkP.mk ?_; (try simp (disch := first | omega | (simp only [LN]; omega)) only [↓EC, EW, seval, ↓reduceIte, ↓EBD, EBE]))); exact ⟨_, _, rfl, by omega, by omega, _, rfl, by simp [h1]⟩)
                               · first
                                 | omega
                                 | ((refine blkP.ini ?_; repeat (refine blkP.mk ?_; (try simp (disch := first | omega | (simp only [LN]; omega)) only [↓EC, EW, seval, ↓reduceIte, ↓EBD, EBE]))); exact ⟨(_, i' + 1, j' - 1), rfl, rfl, ⟨by simp [h1], by simp only; omega⟩, by simp only; omega⟩)
                       · (refine blkP.ini ?_; repeat (refine blkP.mk ?_; (try simp (disch := first | omega | (simp only [LN]; omega)) only [↓EC, EW, seval, ↓reduceIte, ↓EBD, EBE])))
                         refine LPx_of (σ := Int) 700000 [(0, 2, 1)] (fun s => [.int .i64 s]) (fun s => [vi .i64 m]) (fun s => s ≤ j ∧ (i' ≤ s + 1 ∨ s = j)) (fun s => (s + 1 - i').toNat) (j) (by simp [frameOk, names, lpz, sclp, scv, scvs, nrfs, nrf, FRB]) (by omega) ?_ ?_
                         · (refine blkP.ini ?_; repeat (refine blkP.mk ?_; simp (disch := first | omega | (simp only [LN]; omega)) only [↓EC, EW, seval, ↓reduceIte, ↓EBD, EBE, ColV_def]))
                         · rintro j' ⟨h7, h8⟩
                           (refine blkP.ini ?_; repeat (refine blkP.mk ?_; simp (disch := first | omega | (simp only [LN]; omega)) only [↓EC, EW, seval, ↓reduceIte, ↓EBD, EBE, ColV_def, lheap_def]))
                           (refine Split.mkB (fun h => ?_) (fun h => ?_) <;> (try simp only [SD] at h))
                           · (refine blkP.ini ?_; repeat (refine blkP.mk ?_; (try simp (disch := first | omega | (simp only [LN]; omega)) only [↓EC, EW, seval, ↓reduceIte, ↓EBD, EBE])))
                             refine pcd_v c_less ?_
                             (refine blkP.ini ?_; repeat (refine blkP.mk ?_; (try simp (disch := first | omega | (simp only [LN]; omega)) only [↓EC, EW, seval, ↓reduceIte, ↓EBD, EBE])))
                             (refine Split.mkB (fun h => ?_) (fun h => ?_) <;> (try simp only [SD] at h))
                             · (refine blkP.ini ?_; repeat (refine blkP.mk ?_; (try simp (disch := first | omega | (simp only [LN]; omega)) only [↓EC, EW, seval, ↓reduceIte, ↓EBD, EBE])))
                               exact ⟨j' - 1, rfl, by omega, by omega⟩
                             · (refine blkP.ini ?_; repeat (refine blkP.mk ?_; (try simp (disch := first | omega | (simp only [LN]; omega)) only [↓EC, EW, seval, ↓reduceIte, ↓EBD, EBE])))
                               (refine Split.mkB (fun h => ?_) (fun h => ?_) <;> (try simp only [SD] at h))
                               · first
                                 | omega
                                 | ((refine blkP.ini ?_; repeat (refine blkP.mk ?_; (try simp (disch := first | omega | (simp only [LN]; omega)) only [↓EC, EW, seval, ↓reduceIte, ↓EBD, EBE]))); exact ⟨_, _, rfl, by omega, by omega, _, rfl, by simp [h1]⟩)
                               · first
                                 | omega
                                 | ((refine blkP.ini ?_; repeat (refine blkP.mk ?_; (try simp (disch := first | omega | (simp only [LN]; omega)) only [↓EC, EW, seval, ↓reduceIte, ↓EBD, EBE]))); exact ⟨(_, i' + 1, j' - 1), rfl, rfl, ⟨by simp [h1], by simp only; omega⟩, by simp only; omega⟩)
                           · (refine blkP.ini ?_; repeat (refine blkP.mk ?_; (try simp (disch := first | omega | (simp only [LN]; omega)) only [↓EC, EW, seval, ↓reduceIte, ↓EBD, EBE])))
                             (refine Split.mkB (fun h => ?_) (fun h => ?_) <;> (try simp only [SD] at h))
                             · first
                               | omega
                               | ((refine blkP.ini ?_; repeat (refine blkP.mk ?_; (try simp (disch := first | omega | (simp only [LN]; omega)) only [↓EC, EW, seval, ↓reduceIte, ↓EBD, EBE]))); exact ⟨_, _, rfl, by omega, by omega, _, rfl, by simp [h1]⟩)
                             · first
                               | omega
                               | ((refine blkP.ini ?_; repeat (refine blkP.mk ?_; (try simp (disch := first | omega | (simp only [LN]; omega)) only [↓EC, EW, seval, ↓reduceIte, ↓EBD, EBE]))); exact ⟨(_, i' + 1, j' - 1), rfl, rfl, ⟨by simp [h1], by simp only; omega⟩, by simp only; omega⟩))
          · (refine blkP.ini ?_; repeat (refine blkP.mk ?_; (try simp (disch := first | omega | (simp only [LN]; omega)) only [↓EC, EW, seval, ↓reduceIte, ↓EBD, EBE])))
            (refine Split.mkB (fun h => ?_) (fun h => ?_) <;> (try simp only [SD] at h))
            · first
              | omega
              | ((refine blkP.ini ?_; repeat (refine blkP.mk ?_; (try simp (disch := first | omega | (simp only [LN]; omega)) only [↓EC, EW, seval, ↓reduceIte, ↓EBD, EBE]))); exact ⟨_, _, rfl, by omega, by omega, _, rfl, by simp [h1]⟩)
            · first
              | omega
              | (skip
                 (refine blkP.ini ?_; repeat (refine blkP.mk ?_; (try simp (disch := first | omega | (simp only [LN]; omega)) only [↓EC, EW, seval, ↓reduceIte, ↓EBD, EBE])))
                 refine LPx_of (σ := List Int × Int × Int) 500000 [(0, 2, 1)] (fun s => [.int .i64 s.2.1, .int .i64 s.2.2]) (fun s => [vi .i64 s.1])
                   (fun s => s.1.length = n ∧ a + 1 ≤ s.2.1 ∧ s.2.1 ≤ s.2.2 + 2 ∧ s.2.2 ≤ b - 1 ∧ s.2.1 ≤ b ∧ a ≤ s.2.2) (fun s => (s.2.2 + 2 - s.2.1).toNat) ((m.set i'.toNat (gi m j'.toNat)).set j'.toNat (gi m i'.toNat), i' + 1, j' - 1) (by simp [frameOk, names, lpz, sclp, scv, scvs, nrfs, nrf, FRB]) ⟨by simp [h1], by simp only; omega⟩ ?_ ?_
                 · (refine blkP.ini ?_; repeat (refine blkP.mk ?_; simp (disch := first | omega | (simp only [LN]; omega)) only [↓EC, EW, seval, ↓reduceIte, ↓EBD, EBE, ColV_def]))
                 · rintro ⟨m, i, j⟩ ⟨h1, h2, h3, h4, h9, h10⟩
                   simp only at h1 h2 h3 h4 h9 h10
                   (refine blkP.ini ?_; repeat (refine blkP.mk ?_; simp (disch := first | omega | (simp only [LN]; omega)) only [↓EC, EW, seval, ↓reduceIte, ↓EBD, EBE, ColV_def, lheap_def]))
                   (refine blkP.ini ?_; repeat (refine blkP.mk ?_; (try simp (disch := first | omega | (simp only [LN]; omega)) only [↓EC, EW, seval, ↓reduceIte, ↓EBD, EBE])))
                   refine LPx_of (σ := Int) 600000 [(0, 2, 1)] (fun s => [.int .i64 s]) (fun s => [vi .i64 m]) (fun s => i ≤ s ∧ (s ≤ j + 1 ∨ s = i)) (fun s => (j + 1 - s).toNat) (i) (by simp [frameOk, names, lpz, sclp, scv, scvs, nrfs, nrf, FRB]) (by omega) ?_ ?_
                   · (refine blkP.ini ?_; repeat (refine blkP.mk ?_; simp (disch := first | omega | (simp only [LN]; omega)) only [↓EC, EW, seval, ↓reduceIte, ↓EBD, EBE, ColV_def]))
                   · rintro i' ⟨h5, h6⟩
                     (refine blkP.ini ?_; repeat (refine blkP.mk ?_; simp (disch := first | omega | (simp only [LN]; omega)) only [↓EC, EW, seval, ↓reduceIte, ↓EBD, EBE, ColV_def, lheap_def]))
                     (refine Split.mkB (fun h => ?_) (fun h => ?_) <;> (try simp only [SD] at h))
                     · (refine blkP.ini ?_; repeat (refine blkP.mk ?_; (try simp (disch := first | omega | (simp only [LN]; omega)) only [↓EC, EW, seval, ↓reduceIte, ↓EBD, EBE])))
                       refine pcd_v c_less ?_
                       (refine blkP.ini ?_; repeat (refine blkP.mk ?_; (try simp (disch := first | omega | (simp only [LN]; omega)) only [↓EC, EW, seval, ↓reduceIte, ↓EBD, EBE])))
                       (refine Split.mkB (fun h => ?_) (fun h => ?_) <;> (try simp only [SD] at h))
                       · (refine blkP.ini ?_; repeat (refine blkP.mk ?_; (try simp (disch := first | omega | (simp only [LN]; omega)) only [↓EC, EW, seval, ↓reduceIte, ↓EBD, EBE])))
                         exact ⟨i' + 1, rfl, by omega, by omega⟩
                       · (refine blkP.ini ?_; repeat (refine blkP.mk ?_; (try simp (disch := first | omega | (simp only [LN]; omega)) only [↓EC, EW, seval, ↓reduceIte, ↓EBD, EBE])))
                         refine LPx_of (σ := Int) 700000 [(0, 2, 1)] (fun s => [.int .i64 s]) (fun s => [vi .i64 m]) (fun s => s ≤ j ∧ (i' ≤ s + 1 ∨ s = j)) (fun s => (s + 1 - i').toNat) (j) (by simp [frameOk, names, lpz, sclp, scv, scvs, nrfs, nrf, FRB]) (by omega) ?_ ?_
                         · (refine blkP.ini ?_; repeat (refine blkP.mk ?_; simp (disch := first | omega | (simp only [LN]; omega)) only [↓EC, EW, seval, ↓reduceIte, ↓EBD, EBE, ColV_def]))
                         · rintro j' ⟨h7, h8⟩
                           (refine blkP.ini ?_; repeat (refine blkP.mk ?_; simp (disch := first | omega | (simp only [LN]; omega)) only [↓EC, EW, seval, ↓reduceIte, ↓EBD, EBE, ColV_def, lheap_def]))
                           (refine Split.mkB (fun h => ?_) (fun h => ?_) <;> (try simp only [SD] at h))
                           · (refine blkP.ini ?_; repeat (refine blkP.mk ?_; (try simp (disch := first | omega | (simp only [LN]; omega)) only [↓EC, EW, seval, ↓reduceIte, ↓EBD, EBE])))
                             refine pcd_v c_less ?_
                             (refine blkP.ini ?_; repeat (refine blkP.mk ?_; (try simp (disch := first | omega | (simp only [LN]; omega)) only [↓EC, EW, seval, ↓reduceIte, ↓EBD, EBE])))
                             (refine Split.mkB (fun h => ?_) (fun h => ?_) <;> (try simp only [SD] at h))
                             · (refine blkP.ini ?_; repeat (refine blkP.mk ?_; (try simp (disch := first | omega | (simp only [LN]; omega)) only [↓EC, EW, seval, ↓reduceIte, ↓EBD, EBE])))
                               exact ⟨j' - 1, rfl, by omega, by omega⟩
                             · (refine blkP.ini ?_; repeat (refine blkP.mk ?_; (try simp (disch := first | omega | (simp only [LN]; omega)) only [↓EC, EW, seval, ↓reduceIte, ↓EBD, EBE])))
                               (refine Split.mkB (fun h => ?_) (fun h => ?_) <;> (try simp only [SD] at h))
                               · first
                                 | omega
                                 | ((refine blkP.ini ?_; repeat (refine blkP.mk ?_; (try simp (disch := first | omega | (simp only [LN]; omega)) only [↓EC, EW, seval, ↓reduceIte, ↓EBD, EBE]))); exact ⟨_, _, rfl, by omega, by omega, _, rfl, by simp [h1]⟩)
                               · first
                                 | omega
                                 | ((refine blkP.ini ?_; repeat (refine blkP.mk ?_; (try simp (disch := first | omega | (simp only [LN]; omega)) only [↓EC, EW, seval, ↓reduceIte, ↓EBD, EBE]))); exact ⟨(_, i' + 1, j' - 1), rfl, rfl, ⟨by simp [h1], by simp only; omega⟩, by simp only; omega⟩)
                           · (refine blkP.ini ?_; repeat (refine blkP.mk ?_; (try simp (disch := first | omega | (simp only [LN]; omega)) only [↓EC, EW, seval, ↓reduceIte, ↓EBD, EBE])))
                             (refine Split.mkB (fun h => ?_) (fun h => ?_) <;> (try simp only [SD] at h))
                             · first
                               | omega
                               | ((refine blkP.ini ?_; repeat (refine blkP.mk ?_; (try simp (disch := first | omega | (simp only [LN]; omega)) only [↓EC, EW, seval, ↓reduceIte, ↓EBD, EBE]))); exact ⟨_, _, rfl, by omega, by omega, _, rfl, by simp [h1]⟩)
                             · first
                               | omega
                               | ((refine blkP.ini ?_; repeat (refine blkP.mk ?_; (try simp (disch := first | omega | (simp only [LN]; omega)) only [↓EC, EW, seval, ↓reduceIte, ↓EBD, EBE]))); exact ⟨(_, i' + 1, j' - 1), rfl, rfl, ⟨by simp [h1], by simp only; omega⟩, by simp only; omega⟩)
                     · (refine blkP.ini ?_; repeat (refine blkP.mk ?_; (try simp (disch := first | omega | (simp only [LN]; omega)) only [↓EC, EW, seval, ↓reduceIte, ↓EBD, EBE])))
                       refine LPx_of (σ := Int) 700000 [(0, 2, 1)] (fun s => [.int .i64 s]) (fun s => [vi .i64 m]) (fun s => s ≤ j ∧ (i' ≤ s + 1 ∨ s = j)) (fun s => (s + 1 - i').toNat) (j) (by simp [frameOk, names, lpz, sclp, scv, scvs, nrfs, nrf, FRB]) (by omega) ?_ ?_
                       · (refine blkP.ini ?_; repeat (refine blkP.mk ?_; simp (disch := first | omega | (simp only [LN]; omega)) only [↓EC, EW, seval, ↓reduceIte, ↓EBD, EBE, ColV_def]))
                       · rintro j' ⟨h7, h8⟩
                         (refine blkP.ini ?_; repeat (refine blkP.mk ?_; simp (disch := first | omega | (simp only [LN]; omega)) only [↓EC, EW, seval, ↓reduceIte, ↓EBD, EBE, ColV_def, lheap_def]))
                         (refine Split.mkB (fun h => ?_) (fun h => ?_) <;> (try simp only [SD] at h))
                         · (refine blkP.ini ?_; repeat (refine blkP.mk ?_; (try simp (disch := first | omega | (simp only [LN]; omega)) only [↓EC, EW, seval, ↓reduceIte, ↓EBD, EBE])))
                           refine pcd_v c_less ?_
                           (refine blkP.ini ?_; repeat (refine blkP.mk ?_; (try simp (disch := first | omega | (simp only [LN]; omega)) only [↓EC, EW, seval, ↓reduceIte, ↓EBD, EBE])))
                           (refine Split.mkB (fun h => ?_) (fun h => ?_) <;> (try simp only [SD] at h))
                           · (refine blkP.ini ?_; repeat (refine blkP.mk ?_; (try simp (disch := first | omega | (simp only [LN]; omega)) only [↓EC, EW, seval, ↓reduceIte, ↓EBD, EBE])))
                             exact ⟨j' - 1, rfl, by omega, by omega⟩
                           · (refine blkP.ini ?_; repeat (refine blkP.mk ?_; (try simp (disch := first | omega | (simp only [LN]; omega)) only [↓EC, EW, seval, ↓reduceIte, ↓EBD, EBE])))
                             (refine Split.mkB (fun h => ?_) (fun h => ?_) <;> (try simp only [SD] at h))
                             · first
                               | omega
                               | ((refine blkP.ini ?_; repeat (refine blkP.mk ?_; (try simp (disch := first | omega | (simp only [LN]; omega)) only [↓EC, EW, seval, ↓reduceIte, ↓EBD, EBE]))); exact ⟨_, _, rfl, by omega, by omega, _, rfl, by simp [h1]⟩)
                             · first
                               | omega
                               | ((refine blkP.ini ?_; repeat (refine blkP.mk ?_; (try simp (disch := first | omega | (simp only [LN]; omega)) only [↓EC, EW, seval, ↓reduceIte, ↓EBD, EBE]))); exact ⟨(_, i' + 1, j' - 1), rfl, rfl, ⟨by simp [h1], by simp only; omega⟩, by simp only; omega⟩)
                         · (refine blkP.ini ?_; repeat (refine blkP.mk ?_; (try simp (disch := first | omega | (simp only [LN]; omega)) only [↓EC, EW, seval, ↓reduceIte, ↓EBD, EBE])))
                           (refine Split.mkB (fun h => ?_) (fun h => ?_) <;> (try simp only [SD] at h))
                           · first
                             | omega
                             | ((refine blkP.ini ?_; repeat (refine blkP.mk ?_; (try simp (disch := first | omega | (simp only [LN]; omega)) only [↓EC, EW, seval, ↓reduceIte, ↓EBD, EBE]))); exact ⟨_, _, rfl, by omega, by omega, _, rfl, by simp [h1]⟩)
                           · first
                             | omega
                             | ((refine blkP.ini ?_; repeat (refine blkP.mk ?_; (try simp (disch := first | omega | (simp only [LN]; omega)) only [↓EC, EW, seval, ↓reduceIte, ↓EBD, EBE]))); exact ⟨(_, i' + 1, j' - 1), rfl, rfl, ⟨by simp [h1], by simp only; omega⟩, by simp only; omega⟩))
    · (refine blkP.ini ?_; repeat (refine blkP.mk ?_; (try simp (disch := first | omega | (simp only [LN]; omega)) only [↓EC, EW, seval, ↓reduceIte, ↓EBD, EBE])))
      refine LPx_of (σ := Int) 300000 [(0, 2, 1)] (fun s => [.int .i64 s]) (fun s => [vi .i64 m]) (fun s => s ≤ b - 1 ∧ (i' ≤ s + 1 ∨ s = b - 1)) (fun s => (s + 1 - i').toNat) (b - 1) (by simp [frameOk, names, lpz, sclp, scv, scvs, nrfs, nrf, FRB]) (by omega) ?_ ?_
      · (refine blkP.ini ?_; repeat (refine blkP.mk ?_; simp (disch := first | omega | (simp only [LN]; omega)) only [↓EC, EW, seval, ↓reduceIte, ↓EBD, EBE, ColV_def]))
      · rintro j' ⟨h7, h8⟩
        (refine blkP.ini ?_; repeat (refine blkP.mk ?_; simp (disch := first | omega | (simp only [LN]; omega)) only [↓EC, EW, seval, ↓reduceIte, ↓EBD, EBE, ColV_def, lheap_def]))
        (refine Split.mkB (fun h => ?_) (fun h => ?_) <;> (try simp only [SD] at h))
        · (refine blkP.ini ?_; repeat (refine blkP.mk ?_; (try simp (disch := first | omega | (simp only [LN]; omega)) only [↓EC, EW, seval, ↓reduceIte, ↓EBD, EBE])))
          refine pcd_v c_less ?_
          (refine blkP.ini ?_; repeat (refine blkP.mk ?_; (try simp (disch := first | omega | (simp only [LN]; omega)) only [↓EC, EW, seval, ↓reduceIte, ↓EBD, EBE])))
          (refine Split.mkB (fun h => ?_) (fun h => ?_) <;> (try simp only [SD] at h))
          · (refine blkP.ini ?_; repeat (refine blkP.mk ?_; (try simp (disch := first | omega | (simp only [LN]; omega)) only [↓EC, EW, seval, ↓reduceIte, ↓EBD, EBE])))
            exact ⟨j' - 1, rfl, by omega, by omega⟩
          · (refine blkP.ini ?_; repeat (refine blkP.mk ?_; (try simp (disch := first | omega | (simp only [LN]; omega)) only [↓EC, EW, seval, ↓reduceIte, ↓EBD, EBE])))
            (refine Split.mkB (fun h => ?_) (fun h => ?_) <;> (try simp only [SD] at h))
            · first
              | omega
              | ((refine blkP.ini ?_; repeat (refine blkP.mk ?_; (try simp (disch := first | omega | (simp only [LN]; omega)) only [↓EC, EW, seval, ↓reduceIte, ↓EBD, EBE]))); exact ⟨_, _, rfl, by omega, by omega, _, rfl, by simp [h1]⟩)
            · first
              | omega
              | (skip
                 (refine blkP.ini ?_; repeat (refine blkP.mk ?_; (try simp (disch := first | omega | (simp only [LN]; omega)) only [↓EC, EW, seval, ↓reduceIte, ↓EBD, EBE])))
                 refine LPx_of (σ := List Int × Int × Int) 500000 [(0, 2, 1)] (fun s => [.int .i64 s.2.1, .int .i64 s.2.2]) (fun s => [vi .i64 s.1])
                   (fun s => s.1.length = n ∧ a + 1 ≤ s.2.1 ∧ s.2.1 ≤ s.2.2 + 2 ∧ s.2.2 ≤ b - 1 ∧ s.2.1 ≤ b ∧ a ≤ s.2.2) (fun s => (s.2.2 + 2 - s.2.1).toNat) ((m.set i'.toNat (gi m j'.toNat)).set j'.toNat (gi m i'.toNat), i' + 1, j' - 1) (by simp [frameOk, names, lpz, sclp, scv, scvs, nrfs, nrf, FRB]) ⟨by simp [h1], by simp only; omega⟩ ?_ ?_
                 · (refine blkP.ini ?_; repeat (refine blkP.mk ?_; simp (disch := first | omega | (simp only [LN]; omega)) only [↓EC, EW, seval, ↓reduceIte, ↓EBD, EBE, ColV_def]))
                 · rintro ⟨m, i, j⟩ ⟨h1, h2, h3, h4, h9, h10⟩
                   simp only at h1 h2 h3 h4 h9 h10
                   (refine blkP.ini ?_; repeat (refine blkP.mk ?_; simp (disch := first | omega | (simp only [LN]; omega)) only [↓EC, EW, seval, ↓reduceIte, ↓EBD, EBE, ColV_def, lheap_def]))
                   (refine blkP.ini ?_; repeat (refine blkP.mk ?_; (try simp (disch := first | omega | (simp only [LN]; omega)) only [↓EC, EW, seval, ↓reduceIte, ↓EBD, EBE])))
                   refine LPx_of (σ := Int) 600000 [(0, 2, 1)] (fun s => [.int .i64 s]) (fun s => [vi .i64 m]) (fun s => i ≤ s ∧ (s ≤ j + 1 ∨ s = i)) (fun s => (j + 1 - s).toNat) (i) (by simp [frameOk, names, lpz, sclp, scv, scvs, nrfs, nrf, FRB]) (by omega) ?_ ?_
                   · (refine blkP.ini ?_; repeat (refine blkP.mk ?_; simp (disch := first | omega | (simp only [LN]; omega)) only [↓EC, EW, seval, ↓reduceIte, ↓EBD, EBE, ColV_def]))
                   · rintro i' ⟨h5, h6⟩
                     (refine blkP.ini ?_; repeat (refine blkP.mk ?_; simp (disch := first | omega | (simp only [LN]; omega)) only [↓EC, EW, seval, ↓reduceIte, ↓EBD, EBE, ColV_def, lheap_def]))
                     (refine Split.mkB (fun h => ?_) (fun h => ?_) <;> (try simp only [SD] at h))
                     · (refine blkP.ini ?_; repeat (refine blkP.mk ?_; (try simp (disch := first | omega | (simp only [LN]; omega)) only [↓EC, EW, seval, ↓reduceIte, ↓EBD, EBE])))
                       refine pcd_v c_less ?_
                       (refine blkP.ini ?_; repeat (refine blkP.mk ?_; (try simp (disch := first | omega | (simp only [LN]; omega)) only [↓EC, EW, seval, ↓reduceIte, ↓EBD, EBE])))
                       (refine Split.mkB (fun h => ?_) (fun h => ?_) <;> (try simp only [SD] at h))
                       · (refine blkP.ini ?_; repeat (refine blkP.mk ?_; (try simp (disch := first | omega | (simp only [LN]; omega)) only [↓EC, EW, seval, ↓reduceIte, ↓EBD, EBE])))
                         exact ⟨i' + 1, rfl, by omega, by omega⟩
                       · (refine blkP.ini ?_; repeat (refine blkP.mk ?_; (try simp (disch := first | omega | (simp only [LN]; omega)) only [↓EC, EW, seval, ↓reduceIte, ↓EBD, EBE])))
                         refine LPx_of (σ := Int) 700000 [(0, 2, 1)] (fun s => [.int .i64 s]) (fun s => [vi .i64 m]) (fun s => s ≤ j ∧ (i' ≤ s + 1 ∨ s = j)) (fun s => (s + 1 - i').toNat) (j) (by simp [frameOk, names, lpz, sclp, scv, scvs, nrfs, nrf, FRB]) (by omega) ?_ ?_
                         · (refine blkP.ini ?_; repeat (refine blkP.mk ?_; simp (disch := first | omega | (simp only [LN]; omega)) only [↓EC, EW, seval, ↓reduceIte, ↓EBD, EBE, ColV_def]))
                         · rintro j' ⟨h7, h8⟩
                           (refine blkP.ini ?_; repeat (refine blkP.mk ?_; simp (disch := first | omega | (simp only [LN]; omega)) only [↓EC, EW, seval, ↓reduceIte, ↓EBD, EBE, ColV_def, lheap_def]))
                           (refine Split.mkB (fun h => ?_) (fun h => ?_) <;> (try simp only [SD] at h))
                           · (refine blkP.ini ?_; repeat (refine blkP.mk ?_; (try simp (disch := first | omega | (simp only [LN]; omega)) only [↓EC, EW, seval, ↓reduceIte, ↓EBD, EBE])))
                             refine pcd_v c_less ?_
                             (refine blkP.ini ?_; repeat (refine blkP.mk ?_; (try simp (disch := first | omega | (simp only [LN]; omega)) only [↓EC, EW, seval, ↓reduceIte, ↓EBD, EBE])))
                             (refine Split.mkB (fun h => ?_) (fun h => ?_) <;> (try simp only [SD] at h))
                             · (refine blkP.ini ?_; repeat (refine blkP.mk ?_; (try simp (disch := first | omega | (simp only [LN]; omega)) only [↓EC, EW, seval, ↓reduceIte, ↓EBD, EBE])))
                               exact ⟨j' - 1, rfl, by omega, by omega⟩
                             · (refine blkP.ini ?_; repeat (refine blkP.mk ?_; (try simp (disch := first | omega | (simp only [LN]; omega)) only [↓EC, EW, seval, ↓reduceIte, ↓EBD, EBE])))
                               (refine Split.mkB (fun h => ?_) (fun h => ?_) <;> (try simp only [SD] at h))
                               · first
                                 | omega
                                 | ((refine blkP.ini ?_; repeat (refine blkP.mk ?_; (try simp (disch := first | omega | (simp only [LN]; omega)) only [↓EC, EW, seval, ↓reduceIte, ↓EBD, EBE]))); exact ⟨_, _, rfl, by omega, by omega, _, rfl, by simp [h1]⟩)
                               · first
                                 | omega
                                 | ((refine blkP.ini ?_; repeat (refine blkP.mk ?_; (try simp (disch := first | omega | (simp only [LN]; omega)) only [↓EC, EW, seval, ↓reduceIte, ↓EBD, EBE]))); exact ⟨(_, i' + 1, j' - 1), rfl, rfl, ⟨by simp [h1], by simp only; omega⟩, by simp only; omega⟩)
                           · (refine blkP.ini ?_; repeat (refine blkP.mk ?_; (try simp (disch := first | omega | (simp only [LN]; omega)) only [↓EC, EW, seval, ↓reduceIte, ↓EBD, EBE])))
                             (refine Split.mkB (fun h => ?_) (fun h => ?_) <;> (try simp only [SD] at h))
                             · first
                               | omega
                               | ((refine blkP.ini ?_; repeat (refine blkP.mk ?_; (try simp (disch := first | omega | (simp only [LN]; omega)) only [↓EC, EW, seval, ↓reduceIte, ↓EBD, EBE]))); exact ⟨_, _, rfl, by omega, by omega, _, rfl, by simp [h1]⟩)
                             · first
                               | omega
                               | ((refine blkP.ini ?_; repeat (refine blkP.mk ?_; (try simp (disch := first | omega | (simp only [LN]; omega)) only [↓EC, EW, seval, ↓reduceIte, ↓EBD, EBE]))); exact ⟨(_, i' + 1, j' - 1), rfl, rfl, ⟨by simp [h1], by simp only; omega⟩, by simp only; omega⟩)
                     · (refine blkP.ini ?_; repeat (refine blkP.mk ?_; (try simp (disch := first | omega | (simp only [LN]; omega)) only [↓EC, EW, seval, ↓reduceIte, ↓EBD, EBE])))
                       refine LPx_of (σ := Int) 700000 [(0, 2, 1)] (fun s => [.int .i64 s]) (fun s => [vi .i64 m]) (fun s => s ≤ j ∧ (i' ≤ s + 1 ∨ s = j)) (fun s => (s + 1 - i').toNat) (j) (by simp [frameOk, names, lpz, sclp, scv, scvs, nrfs, nrf, FRB]) (by omega) ?_ ?_
                       · (refine blkP.ini ?_; repeat (refine blkP.mk ?_; simp (disch := first | omega | (simp only [LN]; omega)) only [↓EC, EW, seval, ↓reduceIte, ↓EBD, EBE, ColV_def]))
                       · rintro j' ⟨h7, h8⟩
                         (refine blkP.ini ?_; repeat (refine blkP.mk ?_; simp (disch := first | omega | (simp only [LN]; omega)) only [↓EC, EW, seval, ↓reduceIte, ↓EBD, EBE, ColV_def, lheap_def]))
                         (refine Split.mkB (fun h => ?_) (fun h => ?_) <;> (try simp only [SD] at h))
                         · (refine blkP.ini ?_; repeat (refine blkP.mk ?_; (try simp (disch := first | omega | (simp only [LN]; omega)) only [↓EC, EW, seval, ↓reduceIte, ↓EBD, EBE])))
                           refine pcd_v c_less ?_
                           (refine blkP.ini ?_; repeat (refine blkP.mk ?_; (try simp (disch := first | omega | (simp only [LN]; omega)) only [↓EC, EW, seval, ↓reduceIte, ↓EBD, EBE])))
                           (refine Split.mkB (fun h => ?_) (fun h => ?_) <;> (try simp only [SD] at h))
                           · (refine blkP.ini ?_; repeat (refine blkP.mk ?_; (try simp (disch := first | omega | (simp only [LN]; omega)) only [↓EC, EW, seval, ↓reduceIte, ↓EBD, EBE])))
                             exact ⟨j' - 1, rfl, by omega, by omega⟩
                           · (refine blkP.ini ?_; repeat (refine blkP.mk ?_; (try simp (disch := first | omega | (simp only [LN]; omega)) only [↓EC, EW, seval, ↓reduceIte, ↓EBD, EBE])))
                             (refine Split.mkB (fun h => ?_) (fun h => ?_) <;> (try simp only [SD] at h))
                             · first
                               | omega
                               | ((refine blkP.ini ?_; repeat (refine blkP.mk ?_; (try simp (disch := first | omega | (simp only [LN]; omega)) only [↓EC, EW, seval, ↓reduceIte, ↓EBD, EBE]))); exact ⟨_, _, rfl, by omega, by omega, _, rfl, by simp [h1]⟩)
                             · first
                               | omega
                               | ((refine blkP.ini ?_; repeat (refine blkP.mk ?_; (try simp (disch := first | omega | (simp only [LN]; omega)) only [↓EC, EW, seval, ↓reduceIte, ↓EBD, EBE]))); exact ⟨(_, i' + 1, j' - 1), rfl, rfl, ⟨by simp [h1], by simp only; omega⟩, by simp only; omega⟩)
                         · (refine blkP.ini ?_; repeat (refine blkP.mk ?_; (try simp (disch := first | omega | (simp only [LN]; omega)) only [↓EC, EW, seval, ↓reduceIte, ↓EBD, EBE])))
                           (refine Split.mkB (fun h => ?_) (fun h => ?_) <;> (try simp only [SD] at h))
                           · first
                             | omega
                             | ((refine blkP.ini ?_; repeat (refine blkP.mk ?_; (try simp (disch := first | omega | (simp only [LN]; omega)) only [↓EC, EW, seval, ↓reduceIte, ↓EBD, EBE]))); exact ⟨_, _, rfl, by omega, by omega, _, rfl, by simp [h1]⟩)
                           · first
                             | omega
                             | ((refine blkP.ini ?_; repeat (refine blkP.mk ?_; (try simp (disch := first | omega | (simp only [LN]; omega)) only [↓EC, EW, seval, ↓reduceIte, ↓EBD, EBE]))); exact ⟨(_, i' + 1, j' - 1), rfl, rfl, ⟨by simp [h1], by simp only; omega⟩, by simp only; omega⟩))
        · (refine blkP.ini ?_; repeat (refine blkP.mk ?_; (try simp (disch := first | omega | (simp only [LN]; omega)) only [↓EC, EW, seval, ↓reduceIte, ↓EBD, EBE])))
          (refine Split.mkB (fun h => ?_) (fun h => ?_) <;> (try simp only [SD] at h))
          · first
            | omega
            | ((refine blkP.ini ?_; repeat (refine blkP.mk ?_; (try simp (disch := first | omega | (simp only [LN]; omega)) only [↓EC, EW, seval, ↓reduceIte, ↓EBD, EBE]))); exact ⟨_, _, rfl, by omega, by omega, _, rfl, by simp [h1]⟩)
          · first
            | omega
            | (skip
               (refine blkP.ini ?_; repeat (refine blkP.mk ?_; (try simp (disch := first | omega | (simp only [LN]; omega)) only [↓EC, EW, seval, ↓reduceIte, ↓EBD, EBE])))
               refine LPx_of (σ := List Int × Int × Int) 500000 [(0, 2, 1)] (fun s => [.int .i64 s.2.1, .int .i64 s.2.2]) (fun s => [vi .i64 s.1])
                 (fun s => s.1.length = n ∧ a + 1 ≤ s.2.1 ∧ s.2.1 ≤ s.2.2 + 2 ∧ s.2.2 ≤ b - 1 ∧ s.2.1 ≤ b ∧ a ≤ s.2.2) (fun s => (s.2.2 + 2 - s.2.1).toNat) ((m.set i'.toNat (gi m j'.toNat)).set j'.toNat (gi m i'.toNat), i' + 1, j' - 1) (by simp [frameOk, names, lpz, sclp, scv, scvs, nrfs, nrf, FRB]) ⟨by simp [h1], by simp only; omega⟩ ?_ ?_
               · (refine blkP.ini ?_; repeat (refine blkP.mk ?_; simp (disch := first | omega | (simp only [LN]; omega)) only [↓EC, EW, seval, ↓reduceIte, ↓EBD, EBE, ColV_def]))
               · rintro ⟨m, i, j⟩ ⟨h1, h2, h3, h4, h9, h10⟩
                 simp only at h1 h2 h3 h4 h9 h10
                 (refine blkP.ini ?_; repeat (refine blkP.mk ?_; simp (disch := first | omega | (simp only [LN]; omega)) only [↓EC, EW, seval, ↓reduceIte, ↓EBD, EBE, ColV_def, lheap_def]))
                 (refine blkP.ini ?_; repeat (refine blkP.mk ?_; (try simp (disch := first | omega | (simp only [LN]; omega)) only [↓EC, EW, seval, ↓reduceIte, ↓EBD, EBE])))
                 refine LPx_of (σ := Int) 600000 [(0, 2, 1)] (fun s => [.int .i64 s]) (fun s => [vi .i64 m]) (fun s => i ≤ s ∧ (s ≤ j + 1 ∨ s = i)) (fun s => (j + 1 - s).toNat) (i) (by simp [frameOk, names, lpz, sclp, scv, scvs, nrfs, nrf, FRB]) (by omega) ?_ ?_
                 · (refine blkP.ini ?_; repeat (refine blkP.mk ?_; simp (disch := first | omega | (simp only [LN]; omega)) only [↓EC, EW, seval, ↓reduceIte, ↓EBD, EBE, ColV_def]))
                 · rintro i' ⟨h5, h6⟩
                   (refine blkP.ini ?_; repeat (refine blkP.mk ?_; simp (disch := first | omega | (simp only [LN]; omega)) only [↓EC, EW, seval, ↓reduceIte, ↓EBD, EBE, ColV_def, lheap_def]))
                   (refine Split.mkB (fun h => ?_) (fun h => ?_) <;> (try simp only [SD] at h))
                   · (refine blkP.ini ?_; repeat (refine blkP.mk ?_; (try simp (disch := first | omega | (simp only [LN]; omega)) only [↓EC, EW, seval, ↓reduceIte, ↓EBD, EBE])))
                     refine pcd_v c_less ?_
                     (refine blkP.ini ?_; repeat (refine blkP.mk ?_; (try simp (disch := first | omega | (simp only [LN]; omega)) only [↓EC, EW, seval, ↓reduceIte, ↓EBD, EBE])))
                     (refine Split.mkB (fun h => ?_) (fun h => ?_) <;> (try simp only [SD] at h))
                     · (refine blkP.ini ?_; repeat (refine blkP.mk ?_; (try simp (disch := first | omega | (simp only [LN]; omega)) only [↓EC, EW, seval, ↓reduceIte, ↓EBD, EBE])))
                       exact ⟨i' + 1, rfl, by omega, by omega⟩
                     · (refine blkP.ini ?_; repeat (refine blkP.mk ?_; (try simp (disch := first | omega | (simp only [LN]; omega)) only [↓EC, EW, seval, ↓reduceIte, ↓EBD, EBE])))
                       refine LPx_of (σ := Int) 700000 [(0, 2, 1)] (fun s => [.int .i64 s]) (fun s => [vi .i64 m]) (fun s => s ≤ j ∧ (i' ≤ s + 1 ∨ s = j)) (fun s => (s + 1 - i').toNat) (j) (by simp [frameOk, names, lpz, sclp, scv, scvs, nrfs, nrf, FRB]) (by omega) ?_ ?_
                       · (refine blkP.ini ?_; repeat (refine blkP.mk ?_; simp (disch := first | omega | (simp only [LN]; omega)) only [↓EC, EW, seval, ↓reduceIte, ↓EBD, EBE, ColV_def]))
                       · rintro j' ⟨h7, h8⟩
                         (refine blkP.ini ?_; repeat (refine blkP.mk ?_; simp (disch := first | omega | (simp only [LN]; omega)) only [↓EC, EW, seval, ↓reduceIte, ↓EBD, EBE, ColV_def, lheap_def]))
                         (refine Split.mkB (fun h => ?_) (fun h => ?_) <;> (try simp only [SD] at h))
                         · (refine blkP.ini ?_; repeat (refine blkP.mk ?_; (try simp (disch := first | omega | (simp only [LN]; omega)) only [↓EC, EW, seval, ↓reduceIte, ↓EBD, EBE])))
                           refine pcd_v c_less ?_
                           (refine blkP.ini ?_; repeat (refine blkP.mk ?_; (try simp (disch := first | omega | (simp only [LN]; omega)) only [↓EC, EW, seval, ↓reduceIte, ↓EBD, EBE])))
                           (refine Split.mkB (fun h => ?_) (fun h => ?_) <;> (try simp only [SD] at h))
                           · (refine blkP.ini ?_; repeat (refine blkP.mk ?_; (try simp (disch := first | omega | (simp only [LN]; omega)) only [↓EC, EW, seval, ↓reduceIte, ↓EBD, EBE])))
                             exact ⟨j' - 1, rfl, by omega, by omega⟩
                           · (refine blkP.ini ?_; repeat (refine blkP.mk ?_; (try simp (disch := first | omega | (simp only [LN]; omega)) only [↓EC, EW, seval, ↓reduceIte, ↓EBD, EBE])))
                             (refine Split.mkB (fun h => ?_) (fun h => ?_) <;> (try simp only [SD] at h))
                             · first
                               | omega
                               | ((refine blkP.ini ?_; repeat (refine blkP.mk ?_; (try simp (disch := first | omega | (simp only [LN]; omega)) only [↓EC, EW, seval, ↓reduceIte, ↓EBD, EBE]))); exact ⟨_, _, rfl, by omega, by omega, _, rfl, by simp [h1]⟩)
                             · first
                               | omega
                               | ((refine blkP.ini ?_; repeat (refine blkP.mk ?_; (try simp (disch := first | omega | (simp only [LN]; omega)) only [↓EC, EW, seval, ↓reduceIte, ↓EBD, EBE]))); exact ⟨(_, i' + 1, j' - 1), rfl, rfl, ⟨by simp [h1], by simp only; omega⟩, by simp only; omega⟩)
                         · (refine blkP.ini ?_; repeat (refine blkP.mk ?_; (try simp (disch := first | omega | (simp only [LN]; omega)) only [↓EC, EW, seval, ↓reduceIte, ↓EBD, EBE])))
                           (refine Split.mkB (fun h => ?_) (fun h => ?_) <;> (try simp only [SD] at h))
                           · first
                             | omega
                             | ((refine blkP.ini ?_; repeat (refine blkP.mk ?_; (try simp (disch := first | omega | (simp only [LN]; omega)) only [↓EC, EW, seval, ↓reduceIte, ↓EBD, EBE]))); exact ⟨_, _, rfl, by omega, by omega, _, rfl, by simp [h1]⟩)
                           · first
                             | omega
                             | ((refine blkP.ini ?_; repeat (refine blkP.mk ?_; (try simp (disch := first | omega | (simp only [LN]; omega)) only [↓EC, EW, seval, ↓reduceIte, ↓EBD, EBE]))); exact ⟨(_, i' + 1, j' - 1), rfl, rfl, ⟨by simp [h1], by simp only; omega⟩, by simp only; omega⟩)
                   · (refine blkP.ini ?_; repeat (refine blkP.mk ?_; (try simp (disch := first | omega | (simp only [LN]; omega)) only [↓EC, EW, seval, ↓reduceIte, ↓EBD, EBE])))
                     refine LPx_of (σ := Int) 700000 [(0, 2, 1)] (fun s => [.int .i64 s]) (fun s => [vi .i64 m]) (fun s => s ≤ j ∧ (i' ≤ s + 1 ∨ s = j)) (fun s => (s + 1 - i').toNat) (j) (by simp [frameOk, names, lpz, sclp, scv, scvs, nrfs, nrf, FRB]) (by omega) ?_ ?_
                     · (refine blkP.ini ?_; repeat (refine blkP.mk ?_; simp (disch := first | omega | (simp only [LN]; omega)) only [↓EC, EW, seval, ↓reduceIte, ↓EBD, EBE, ColV_def]))
                     · rintro j' ⟨h7, h8⟩
                       (refine blkP.ini ?_; repeat (refine blkP.mk ?_; simp (disch := first | omega | (simp only [LN]; omega)) only [↓EC, EW, seval, ↓reduceIte, ↓EBD, EBE, ColV_def, lheap_def]))
                       (refine Split.mkB (fun h => ?_) (fun h => ?_) <;> (try simp only [SD] at h))
                       · (refine blkP.ini ?_; repeat (refine blkP.mk ?_; (try simp (disch := first | omega | (simp only [LN]; omega)) only [↓EC, EW, seval, ↓reduceIte, ↓EBD, EBE])))
                         refine pcd_v c_less ?_
                         (refine blkP.ini ?_; repeat (refine blkP.mk ?_; (try simp (disch := first | omega | (simp only [LN]; omega)) only [↓EC, EW, seval, ↓reduceIte, ↓EBD, EBE])))
                         (refine Split.mkB (fun h => ?_) (fun h => ?_) <;> (try simp only [SD] at h))
                         · (refine blkP.ini ?_; repeat (refine blkP.mk ?_; (try simp (disch := first | omega | (simp only [LN]; omega)) only [↓EC, EW, seval, ↓reduceIte, ↓EBD, EBE])))
                           exact ⟨j' - 1, rfl, by omega, by omega⟩
                         · (refine blkP.ini ?_; repeat (refine blkP.mk ?_; (try simp (disch := first | omega | (simp only [LN]; omega)) only [↓EC, EW, seval, ↓reduceIte, ↓EBD, EBE])))
                           (refine Split.mkB (fun h => ?_) (fun h => ?_) <;> (try simp only [SD] at h))
                           · first
                             | omega
                             | ((refine blkP.ini ?_; repeat (refine blkP.mk ?_; (try simp (disch := first | omega | (simp only [LN]; omega)) only [↓EC, EW, seval, ↓reduceIte, ↓EBD, EBE]))); exact ⟨_, _, rfl, by omega, by omega, _, rfl, by simp [h1]⟩)
                           · first
                             | omega
                             | ((refine blkP.ini ?_; repeat (refine blkP.mk ?_; (try simp (disch := first | omega | (simp only [LN]; omega)) only [↓EC, EW, seval, ↓reduceIte, ↓EBD, EBE]))); exact ⟨(_, i' + 1, j' - 1), rfl, rfl, ⟨by simp [h1], by simp only; omega⟩, by simp only; omega⟩)
                       · (refine blkP.ini ?_; repeat (refine blkP.mk ?_; (try simp (disch := first | omega | (simp only [LN]; omega)) only [↓EC, EW, seval, ↓reduceIte, ↓EBD, EBE])))
                         (refine Split.mkB (fun h => ?_) (fun h => ?_) <;> (try simp only [SD] at h))
                         · first
                           | omega
                           | ((refine blkP.ini ?_; repeat (refine blkP.mk ?_; (try simp (disch := first | omega | (simp only [LN]; omega)) only [↓EC, EW, seval, ↓reduceIte, ↓EBD, EBE]))); exact ⟨_, _, rfl, by omega, by omega, _, rfl, by simp [h1]⟩)
                         · first
                           | omega
                           | ((refine blkP.ini ?_; repeat (refine blkP.mk ?_; (try simp (disch := first | omega | (simp only [LN]; omega)) only [↓EC, EW, seval, ↓reduceIte, ↓EBD, EBE]))); exact ⟨(_, i' + 1, j' - 1), rfl, rfl, ⟨by simp [h1], by simp only; omega⟩, by simp only; omega⟩))
end Go.Proofs.YtjklebickfcddaaGreatDoor.Sep
end
section
/- slices.Sort of at most sixteen numbers, the whole; descending; types, passports, Euler numbers. -/
namespace Go.Proofs.YtjklebickfcddaaGreatDoor.Sep
open Go.RowKit
set_option linter.unusedVariables false
set_option linter.unusedSimpArgs false
set_option maxRecDepth 20000
set_option maxHeartbeats 8000000

theorem and15 (A : BitVec IntKind.u64.bits) : ∃ q : Nat, q ≤ 15 ∧ IntKind.i64.wrap (IntKind.u64.wrap ((A &&& BitVec.ofInt IntKind.u64.bits 15).toNat : Int)) = (q : Int) := by
  refine ⟨(A &&& BitVec.ofInt IntKind.u64.bits 15).toNat, ?_, ?_⟩
  · rw [BitVec.toNat_and]
    exact Nat.le_trans Nat.and_le_right (by decide)
  · have h : (A &&& BitVec.ofInt IntKind.u64.bits 15).toNat ≤ 15 := by
      rw [BitVec.toNat_and]
      exact Nat.le_trans Nat.and_le_right (by decide)
    generalize (A &&& BitVec.ofInt IntKind.u64.bits 15).toNat = q at *
    simp [IntKind.wrap, IntKind.signed, IntKind.bits]
    omega
theorem and31 (A : BitVec IntKind.u64.bits) : ∃ q : Nat, q ≤ 31 ∧ IntKind.i64.wrap (IntKind.u64.wrap ((A &&& BitVec.ofInt IntKind.u64.bits 31).toNat : Int)) = (q : Int) := by
  refine ⟨(A &&& BitVec.ofInt IntKind.u64.bits 31).toNat, ?_, ?_⟩
  · rw [BitVec.toNat_and]
    exact Nat.le_trans Nat.and_le_right (by decide)
  · have h : (A &&& BitVec.ofInt IntKind.u64.bits 31).toNat ≤ 31 := by
      rw [BitVec.toNat_and]
      exact Nat.le_trans Nat.and_le_right (by decide)
    generalize (A &&& BitVec.ofInt IntKind.u64.bits 31).toNat = q at *
    simp [IntKind.wrap, IntKind.signed, IntKind.bits]
    omega
theorem c_Next {h : Int} : PSpecM Tryz.prog 116 [.ptr 0 0] [(0, 144, 1)] [[.int .u64 h]] fun v c => ∃ r h', v = .int .u64 r ∧ c = [[.int .u64 h']] := by
  refine slices_xorshift_Next_f.m rfl rfl ?_
  simp (disch := first | omega | (simp only [LN]; omega)) only [↓EC, EW, seval, ↓reduceIte, slices_xorshift_Next_F]
  exact ⟨_, _, rfl, rfl⟩
theorem c_Len64N {k : Nat} (hk : k ≤ 16) : PSpec Tryz.prog 109 [.int .u64 k] fun v => ∃ r, v = .int .i64 r ∧ 0 ≤ r ∧ r ≤ 5 ∧ (8 ≤ k → (k < 16 ∧ r = 4 ∨ k = 16 ∧ r = 5)) := by
  refine math_bits_Len64_f.f ?_
  rcases (by omega : k = 0 ∨ k = 1 ∨ k = 2 ∨ k = 3 ∨ k = 4 ∨ k = 5 ∨ k = 6 ∨ k = 7 ∨ k = 8 ∨ k = 9 ∨ k = 10 ∨ k = 11 ∨ k = 12 ∨ k = 13 ∨ k = 14 ∨ k = 15 ∨ k = 16) with
    rfl | rfl | rfl | rfl | rfl | rfl | rfl | rfl | rfl | rfl | rfl | rfl | rfl | rfl | rfl | rfl | rfl
  all_goals
    simp (config := { maxSteps := 10000000 }) (disch := first | omega | (simp only [LN]; omega)) only [↓EC, EW, seval, ↓reduceIte, math_bits_Len64_F]
    first
    | (refine ⟨_, rfl, ?_, ?_, ?_⟩ <;> simp)
    | exact ⟨_, rfl, by decide, by decide⟩
theorem c_LenN {k : Nat} (hk : k ≤ 16) : PSpec Tryz.prog 95 [.int .u64 k] fun v => ∃ r, v = .int .i64 r ∧ 0 ≤ r ∧ r ≤ 5 ∧ (8 ≤ k → (k < 16 ∧ r = 4 ∨ k = 16 ∧ r = 5)) := by
  refine math_bits_Len_f.f ?_
  simp (disch := first | omega | (simp only [LN]; omega)) only [↓EC, EW, seval, ↓reduceIte, math_bits_Len_F]
  refine pcd_r (c_Len64N hk) ?_
  rintro _ ⟨r, rfl, h⟩
  (try simp (disch := first | omega | (simp only [LN]; omega)) only [↓EC, EW, seval, ↓reduceIte])
  exact ⟨r, rfl, h⟩
theorem c_nextPow {k : Nat} (h8 : 8 ≤ k) (hk : k ≤ 16) : PSpec Tryz.prog 115 [.int .i64 k] fun v => k < 16 ∧ v = .int .u64 16 ∨ k = 16 ∧ v = .int .u64 32 := by
  refine slices_nextPowerOfTwo_f.f ?_
  simp (disch := first | omega | (simp only [LN]; omega)) only [↓EC, EW, seval, ↓reduceIte, slices_nextPowerOfTwo_F]
  refine pcd_r (c_LenN hk) ?_
  rintro _ ⟨r, rfl, h1, h2, h3⟩
  rcases h3 h8 with ⟨h4, rfl⟩ | ⟨h4, rfl⟩
  · (try simp (disch := first | omega | (simp only [LN]; omega)) only [↓EC, EW, seval, ↓reduceIte])
    exact .inl ⟨h4, rfl⟩
  · (try simp (disch := first | omega | (simp only [LN]; omega)) only [↓EC, EW, seval, ↓reduceIte])
    exact .inr ⟨h4, rfl⟩
theorem c_breakPatterns {l : List Int} {n : Nat} {a b : Int} (hn : l.length = n) (h0 : 0 ≤ a) (hab : a + 13 ≤ b) (hb : b ≤ n) (hl : n ≤ 16) : PSpecM Tryz.prog 101 [.rf 0 0 n, .int .i64 a, .int .i64 b] [(0, 2, 1)] [vi .i64 l] fun v c => v = .tup [] ∧ kp n c := by
  refine slices_breakPatternsOrdered_int64_f.m rfl rfl ?_
  dsimp only [slices_breakPatternsOrdered_int64_F, pcal_B, pcalp_B, pcala_B, pcond_B, pgk_B, JN_B, LP_B]
  (refine blkP.ini ?_; repeat (refine blkP.mk ?_; (try simp (disch := first | omega | (simp only [LN]; omega)) only [↓EC, EW, seval, ↓reduceIte, ↓EBD, EBE])))
  have hd : (b - a).tdiv 4 * 2 = 6 ∨ (b - a).tdiv 4 * 2 = 8 := by
    have h3 := Int.mul_tdiv_add_tmod (b - a) 4
    have h4 := Int.tmod_nonneg 4 (show 0 ≤ b - a by omega)
    have h5 := Int.tmod_lt_of_pos (b - a) (show (0 : Int) < 4 by omega)
    omega
  have hd' : 3 ≤ (b - a).tdiv 4 ∧ (b - a).tdiv 4 ≤ 4 := by omega
  obtain ⟨d, hdd⟩ : ∃ d, (b - a).tdiv 4 = d := ⟨_, rfl⟩
  rw [hdd] at hd hd'
  (refine Split.mkB (fun h => ?_) (fun h => ?_) <;> (try simp only [SD] at h))
  rotate_left
  · omega
  (refine blkP.ini ?_; repeat (refine blkP.mk ?_; (try simp (disch := first | omega | (simp only [LN]; omega)) only [↓EC, EW, seval, ↓reduceIte, ↓EBD, EBE])))
  obtain ⟨k, hk⟩ : ∃ k : Nat, b - a = (k : Int) := ⟨(b - a).toNat, by omega⟩
  have hk2 : 13 ≤ k ∧ k ≤ 16 := by omega
  have hdk : (k : Int).tdiv 4 = d := by rw [← hk, hdd]
  rw [hk]
  refine pcd_r (c_nextPow (k := k) (by omega) (by omega)) ?_
  rintro _ (⟨hk1, rfl⟩ | ⟨hk1, rfl⟩)
  · (refine blkP.ini ?_; repeat (refine blkP.mk ?_; (try simp (disch := first | omega | (simp only [LN]; omega)) only [↓EC, EW, seval, ↓reduceIte, ↓EBD, EBE, hdk])))
    refine LPx_of (σ := (List Int × Int) × Int) 100000 [(0, 2, 1), (71, 144, 1)] (fun s => [.int .i64 s.2]) (fun s => [vi .i64 s.1.1, [.int .u64 s.1.2]])
      (fun s => s.1.1.length = n ∧ a ≤ s.2) (fun s => (a + d * 2 + 2 - s.2).toNat) ((l, k), a + d * 2 - 1) (by simp [frameOk, names, lpz, sclp, scv, scvs, nrfs, nrf, FRB]) ⟨hn, by simp only; omega⟩ ?_ ?_
    · (refine blkP.ini ?_; repeat (refine blkP.mk ?_; simp (disch := first | omega | (simp only [LN]; omega)) only [↓EC, EW, seval, ↓reduceIte, ↓EBD, EBE, ColV_def]))
    · rintro ⟨⟨m, h⟩, i⟩ ⟨h1, h2⟩
      simp only at h1 h2
      (refine blkP.ini ?_; repeat (refine blkP.mk ?_; simp (disch := first | omega | (simp only [LN]; omega)) only [↓EC, EW, seval, ↓reduceIte, ↓EBD, EBE, ColV_def, lheap_def, hdk]))
      (refine Split.mkB (fun h => ?_) (fun h => ?_) <;> (try simp only [SD] at h))
      · (refine blkP.ini ?_; repeat (refine blkP.mk ?_; (try simp (disch := first | omega | (simp only [LN]; omega)) only [↓EC, EW, seval, ↓reduceIte, ↓EBD, EBE])))
        refine pcm [71] rfl ?_
        (refine blkP.ini ?_; repeat (refine blkP.mk ?_; (try simp (disch := first | omega | (simp only [LN]; omega)) only [↓EC, EW, seval, ↓reduceIte, ↓EBD, EBE])))
        refine callM_d c_Next ?_
        rintro _ _ ⟨r, h', rfl, rfl⟩
        (refine blkP.ini ?_; repeat (refine blkP.mk ?_; (try simp (disch := first | omega | (simp only [LN]; omega)) only [↓EC, EW, seval, ↓reduceIte, ↓EBD, EBE])))
        obtain ⟨q, hq, e⟩ := and15 (BitVec.ofInt IntKind.u64.bits r)
        rw [e]
        refine JNx_un ?_
        (refine blkP.ini ?_; repeat (refine blkP.mk ?_; (try simp (disch := first | omega | (simp only [LN]; omega)) only [↓EC, EW, seval, ↓reduceIte, ↓EBD, EBE])))
        (refine Split.mkB (fun h => ?_) (fun h => ?_) <;> (try simp only [SD] at h))
        · (refine blkP.ini ?_; repeat (refine blkP.mk ?_; (try simp (disch := first | omega | (simp only [LN]; omega)) only [↓EC, EW, seval, ↓reduceIte, ↓EBD, EBE])))
          exact ⟨((_, h'), i + 1), rfl, rfl, ⟨by simp [h1], by simp only; omega⟩, by simp only; omega⟩
        · (refine blkP.ini ?_; repeat (refine blkP.mk ?_; (try simp (disch := first | omega | (simp only [LN]; omega)) only [↓EC, EW, seval, ↓reduceIte, ↓EBD, EBE])))
          exact ⟨((_, h'), i + 1), rfl, rfl, ⟨by simp [h1], by simp only; omega⟩, by simp only; omega⟩
      · (refine blkP.ini ?_; repeat (refine blkP.mk ?_; (try simp (disch := first | omega | (simp only [LN]; omega)) only [↓EC, EW, seval, ↓reduceIte, ↓EBD, EBE])))
        exact ⟨m, rfl, h1⟩
  · (refine blkP.ini ?_; repeat (refine blkP.mk ?_; (try simp (disch := first | omega | (simp only [LN]; omega)) only [↓EC, EW, seval, ↓reduceIte, ↓EBD, EBE, hdk])))
    refine LPx_of (σ := (List Int × Int) × Int) 100000 [(0, 2, 1), (71, 144, 1)] (fun s => [.int .i64 s.2]) (fun s => [vi .i64 s.1.1, [.int .u64 s.1.2]])
      (fun s => s.1.1.length = n ∧ a ≤ s.2) (fun s => (a + d * 2 + 2 - s.2).toNat) ((l, k), a + d * 2 - 1) (by simp [frameOk, names, lpz, sclp, scv, scvs, nrfs, nrf, FRB]) ⟨hn, by simp only; omega⟩ ?_ ?_
    · (refine blkP.ini ?_; repeat (refine blkP.mk ?_; simp (disch := first | omega | (simp only [LN]; omega)) only [↓EC, EW, seval, ↓reduceIte, ↓EBD, EBE, ColV_def]))
    · rintro ⟨⟨m, h⟩, i⟩ ⟨h1, h2⟩
      simp only at h1 h2
      (refine blkP.ini ?_; repeat (refine blkP.mk ?_; simp (disch := first | omega | (simp only [LN]; omega)) only [↓EC, EW, seval, ↓reduceIte, ↓EBD, EBE, ColV_def, lheap_def, hdk]))
      (refine Split.mkB (fun h => ?_) (fun h => ?_) <;> (try simp only [SD] at h))
      · (refine blkP.ini ?_; repeat (refine blkP.mk ?_; (try simp (disch := first | omega | (simp only [LN]; omega)) only [↓EC, EW, seval, ↓reduceIte, ↓EBD, EBE])))
        refine pcm [71] rfl ?_
        (refine blkP.ini ?_; repeat (refine blkP.mk ?_; (try simp (disch := first | omega | (simp only [LN]; omega)) only [↓EC, EW, seval, ↓reduceIte, ↓EBD, EBE])))
        refine callM_d c_Next ?_
        rintro _ _ ⟨r, h', rfl, rfl⟩
        (refine blkP.ini ?_; repeat (refine blkP.mk ?_; (try simp (disch := first | omega | (simp only [LN]; omega)) only [↓EC, EW, seval, ↓reduceIte, ↓EBD, EBE])))
        obtain ⟨q, hq, e⟩ := and31 (BitVec.ofInt IntKind.u64.bits r)
        rw [e]
        refine JNx_un ?_
        (refine blkP.ini ?_; repeat (refine blkP.mk ?_; (try simp (disch := first | omega | (simp only [LN]; omega)) only [↓EC, EW, seval, ↓reduceIte, ↓EBD, EBE])))
        (refine Split.mkB (fun h => ?_) (fun h => ?_) <;> (try simp only [SD] at h))
        · (refine blkP.ini ?_; repeat (refine blkP.mk ?_; (try simp (disch := first | omega | (simp only [LN]; omega)) only [↓EC, EW, seval, ↓reduceIte, ↓EBD, EBE])))
          exact ⟨((_, h'), i + 1), rfl, rfl, ⟨by simp [h1], by simp only; omega⟩, by simp only; omega⟩
        · (refine blkP.ini ?_; repeat (refine blkP.mk ?_; (try simp (disch := first | omega | (simp only [LN]; omega)) only [↓EC, EW, seval, ↓reduceIte, ↓EBD, EBE])))
          exact ⟨((_, h'), i + 1), rfl, rfl, ⟨by simp [h1], by simp only; omega⟩, by simp only; omega⟩
      · (refine blkP.ini ?_; repeat (refine blkP.mk ?_; (try simp (disch := first | omega | (simp only [LN]; omega)) only [↓EC, EW, seval, ↓reduceIte, ↓EBD, EBE])))
        exact ⟨m, rfl, h1⟩
/-- Where ways meet: what is known there. -/
theorem JNx_of {F : (List V → Hp → Prop) → Prop} {G : List V → Hp → Prop} {u : Hide F} {v : Hide G} (I : List V → Hp → Prop) (hF : ∀ K : List V → Hp → Prop, (∀ o h, I o h → K o h) → F K) (hG : ∀ o h, I o h → G o h) : JNx F G u v := hF G hG
theorem c_pdqsortN {n : Nat} (hl : n ≤ 16) : ∀ (c : Nat) {l : List Int} {a b k : Int}, (b - a).toNat = c → l.length = n → 0 ≤ a → a ≤ b → b ≤ n → 0 ≤ k ∧ k ≤ 5 →
    PSpecM Tryz.prog 94 [.rf 0 0 n, .int .i64 a, .int .i64 b, .int .i64 k] [(0, 2, 1)] [vi .i64 l] fun v c => v = .tup [] ∧ kp n c := by
  intro c
  induction c using Nat.strongRecOn with
  | ind c ih =>
  intro l a0 b0 k0 hc hn h0 hab hb hk
  refine slices_pdqsortOrdered_int64_f.m rfl rfl ?_
  dsimp only [slices_pdqsortOrdered_int64_F, pcal_B, pcalp_B, pcala_B, pcond_B, pgk_B, JN_B, LP_B]
  (refine blkP.ini ?_; repeat (refine blkP.mk ?_; (try simp (disch := first | omega | (simp only [LN]; omega)) only [↓EC, EW, seval, ↓reduceIte, ↓EBD, EBE])))
  refine LPx_of (σ := List Int × (Int × Int × Int) × Bool × Bool) 100000 [(0, 2, 1)] (fun s => [.int .i64 s.2.1.1, .int .i64 s.2.1.2.1, .int .i64 s.2.1.2.2, .bool s.2.2.1, .bool s.2.2.2]) (fun s => [vi .i64 s.1])
    (fun s => s.1.length = n ∧ 0 ≤ s.2.1.1 ∧ s.2.1.1 ≤ s.2.1.2.1 ∧ s.2.1.2.1 ≤ n ∧ (s.2.1.2.1 - s.2.1.1).toNat ≤ c ∧ 0 ≤ s.2.1.2.2 ∧ s.2.1.2.2 ≤ 5) (fun s => (s.2.1.2.1 - s.2.1.1).toNat) (l, (a0, b0, k0), true, true) (by simp [frameOk, names, lpz, sclp, scv, scvs, nrfs, nrf, FRB]) ⟨hn, h0, hab, hb, by simp only; omega, hk⟩ ?_ ?_
  · (refine blkP.ini ?_; repeat (refine blkP.mk ?_; simp (disch := first | omega | (simp only [LN]; omega)) only [↓EC, EW, seval, ↓reduceIte, ↓EBD, EBE, ColV_def]))
  · rintro ⟨m, ⟨a, b, k⟩, w, p⟩ ⟨h1, h2, h3, h4, h5, h6, h7⟩
    simp only at h1 h2 h3 h4 h5 h6 h7
    (refine blkP.ini ?_; repeat (refine blkP.mk ?_; simp (disch := first | omega | (simp only [LN]; omega)) only [↓EC, EW, seval, ↓reduceIte, ↓EBD, EBE, ColV_def, lheap_def]))
    (refine Split.mkB (fun h => ?_) (fun h => ?_) <;> (try simp only [SD] at h))
    · (refine blkP.ini ?_; repeat (refine blkP.mk ?_; (try simp (disch := first | omega | (simp only [LN]; omega)) only [↓EC, EW, seval, ↓reduceIte, ↓EBD, EBE])))
      refine pcm [0] rfl ?_; (refine blkP.ini ?_; repeat (refine blkP.mk ?_; (try simp (disch := first | omega | (simp only [LN]; omega)) only [↓EC, EW, seval, ↓reduceIte, ↓EBD, EBE])))
      refine callM_d (c_insertionSortN (a := a) (b := b) h1 (by omega) (by omega) (by omega)) ?_
      rintro _ _ ⟨rfl, m', rfl, hm'⟩
      (refine blkP.ini ?_; repeat (refine blkP.mk ?_; (try simp (disch := first | omega | (simp only [LN]; omega)) only [↓EC, EW, seval, ↓reduceIte, ↓EBD, EBE])))
      exact ⟨m', rfl, hm'⟩
    · (refine blkP.ini ?_; repeat (refine blkP.mk ?_; (try simp (disch := first | omega | (simp only [LN]; omega)) only [↓EC, EW, seval, ↓reduceIte, ↓EBD, EBE])))
      (refine Split.mkB (fun h => ?_) (fun h => ?_) <;> (try simp only [SD] at h))
      · (refine blkP.ini ?_; repeat (refine blkP.mk ?_; (try simp (disch := first | omega | (simp only [LN]; omega)) only [↓EC, EW, seval, ↓reduceIte, ↓EBD, EBE])))
        refine pcm [0] rfl ?_; (refine blkP.ini ?_; repeat (refine blkP.mk ?_; (try simp (disch := first | omega | (simp only [LN]; omega)) only [↓EC, EW, seval, ↓reduceIte, ↓EBD, EBE])))
        refine callM_d (c_heapSort (a := a) (b := b) h1 (by omega) (by omega) (by omega) (by omega)) ?_
        rintro _ _ ⟨rfl, m', rfl, hm'⟩
        (refine blkP.ini ?_; repeat (refine blkP.mk ?_; (try simp (disch := first | omega | (simp only [LN]; omega)) only [↓EC, EW, seval, ↓reduceIte, ↓EBD, EBE])))
        exact ⟨m', rfl, hm'⟩
      · (refine blkP.ini ?_; repeat (refine blkP.mk ?_; (try simp (disch := first | omega | (simp only [LN]; omega)) only [↓EC, EW, seval, ↓reduceIte, ↓EBD, EBE])))
        refine JNx_of (fun o h => ∃ (m : List Int) (k : Int) (h' : Hp), o = [.rf 0 0 n, .int .i64 a, .int .i64 b, .int .i64 k, .bool w, .bool p, .int .i64 (b - a)] ∧ h = hput h' 0 (.row 2 1 (vi .i64 m)) ∧ m.length = n ∧ 0 ≤ k ∧ k ≤ 5) ?_ ?_
        · intro K hK
          (refine blkP.ini ?_; repeat (refine blkP.mk ?_; (try simp (disch := first | omega | (simp only [LN]; omega)) only [↓EC, EW, seval, ↓reduceIte, ↓EBD, EBE])))
          (refine Split.mkB (fun h => ?_) (fun h => ?_) <;> (try simp only [SD] at h))
          · (refine blkP.ini ?_; repeat (refine blkP.mk ?_; (try simp (disch := first | omega | (simp only [LN]; omega)) only [↓EC, EW, seval, ↓reduceIte, ↓EBD, EBE])))
            refine pcm [0] rfl ?_; (refine blkP.ini ?_; repeat (refine blkP.mk ?_; (try simp (disch := first | omega | (simp only [LN]; omega)) only [↓EC, EW, seval, ↓reduceIte, ↓EBD, EBE])))
            refine callM_d (c_breakPatterns (a := a) (b := b) h1 (by omega) (by omega) (by omega) (by omega)) ?_
            rintro _ _ ⟨rfl, m', rfl, hm'⟩
            (refine blkP.ini ?_; repeat (refine blkP.mk ?_; (try simp (disch := first | omega | (simp only [LN]; omega)) only [↓EC, EW, seval, ↓reduceIte, ↓EBD, EBE])))
            exact hK _ _ ⟨m', k - 1, _, rfl, rfl, hm', by omega, by omega⟩
          · (refine blkP.ini ?_; repeat (refine blkP.mk ?_; (try simp (disch := first | omega | (simp only [LN]; omega)) only [↓EC, EW, seval, ↓reduceIte, ↓EBD, EBE])))
            exact hK _ _ ⟨m, k, _, rfl, rfl, h1, by omega, by omega⟩
        · rintro _ _ ⟨m, k, h', rfl, rfl, h1, h6, h7⟩
          (refine blkP.ini ?_; repeat (refine blkP.mk ?_; (try simp (disch := first | omega | (simp only [LN]; omega)) only [↓EC, EW, seval, ↓reduceIte, ↓EBD, EBE])))
          refine pcd_r (c_choosePivot (a := a) (b := b) h1 (by omega) (by omega) (by omega) (by omega)) ?_
          rintro _ ⟨x, y, rfl, hx, hx', hy, hy'⟩
          (refine blkP.ini ?_; repeat (refine blkP.mk ?_; (try simp (disch := first | omega | (simp only [LN]; omega)) only [↓EC, EW, seval, ↓reduceIte, ↓EBD, EBE])))
          refine JNx_of (fun o h => ∃ (m : List Int) (w p : Bool) (x y : Int) (h' : Hp), o = [.rf 0 0 n, .int .i64 a, .int .i64 b, .int .i64 k, .bool w, .bool p, .int .i64 (b - a), .int .i64 x, .int .i64 y] ∧ h = hput h' 0 (.row 2 1 (vi .i64 m)) ∧ m.length = n ∧ a ≤ x ∧ x < b) ?_ ?_
          · intro K hK
            (refine blkP.ini ?_; repeat (refine blkP.mk ?_; (try simp (disch := first | omega | (simp only [LN]; omega)) only [↓EC, EW, seval, ↓reduceIte, ↓EBD, EBE])))
            (refine Split.mkB (fun h => ?_) (fun h => ?_) <;> (try simp only [SD] at h))
            · (refine blkP.ini ?_; repeat (refine blkP.mk ?_; (try simp (disch := first | omega | (simp only [LN]; omega)) only [↓EC, EW, seval, ↓reduceIte, ↓EBD, EBE])))
              refine pcm [0] rfl ?_; (refine blkP.ini ?_; repeat (refine blkP.mk ?_; (try simp (disch := first | omega | (simp only [LN]; omega)) only [↓EC, EW, seval, ↓reduceIte, ↓EBD, EBE])))
              refine callM_d (c_reverseRange (a := a) (b := b) h1 (by omega) (by omega) (by omega)) ?_
              rintro _ _ ⟨rfl, m', rfl, hm'⟩
              (refine blkP.ini ?_; repeat (refine blkP.mk ?_; (try simp (disch := first | omega | (simp only [LN]; omega)) only [↓EC, EW, seval, ↓reduceIte, ↓EBD, EBE])))
              exact hK _ _ ⟨m', w, p, _, _, _, rfl, rfl, hm', by omega, by omega⟩
            · (refine blkP.ini ?_; repeat (refine blkP.mk ?_; (try simp (disch := first | omega | (simp only [LN]; omega)) only [↓EC, EW, seval, ↓reduceIte, ↓EBD, EBE])))
              exact hK _ _ ⟨m, w, p, _, _, _, rfl, rfl, h1, by omega, by omega⟩
          · rintro _ _ ⟨m, w, p, x, y, h', rfl, rfl, h1, hx, hx'⟩
            (refine blkP.ini ?_; repeat (refine blkP.mk ?_; (try simp (disch := first | omega | (simp only [LN]; omega)) only [↓EC, EW, seval, ↓reduceIte, ↓EBD, EBE])))
            refine JNx_of (fun o h => ∃ (m : List Int) (h' : Hp), o = [.rf 0 0 n, .int .i64 a, .int .i64 b, .int .i64 k, .bool w, .bool p, .int .i64 (b - a), .int .i64 x] ∧ h = hput h' 0 (.row 2 1 (vi .i64 m)) ∧ m.length = n) ?_ ?_
            · intro K hK
              cases w
              · (refine blkP.ini ?_; repeat (refine blkP.mk ?_; (try simp (disch := first | omega | (simp only [LN]; omega)) only [↓EC, EW, seval, ↓reduceIte, ↓EBD, EBE])))
                exact hK _ _ ⟨m, _, rfl, rfl, h1⟩
              · cases p
                · (refine blkP.ini ?_; repeat (refine blkP.mk ?_; (try simp (disch := first | omega | (simp only [LN]; omega)) only [↓EC, EW, seval, ↓reduceIte, ↓EBD, EBE])))
                  exact hK _ _ ⟨m, _, rfl, rfl, h1⟩
                · (refine blkP.ini ?_; repeat (refine blkP.mk ?_; (try simp (disch := first | omega | (simp only [LN]; omega)) only [↓EC, EW, seval, ↓reduceIte, ↓EBD, EBE])))
                  (refine Split.mkB (fun h => ?_) (fun h => ?_) <;> (try simp only [SD] at h))
                  · (refine blkP.ini ?_; repeat (refine blkP.mk ?_; (try simp (disch := first | omega | (simp only [LN]; omega)) only [↓EC, EW, seval, ↓reduceIte, ↓EBD, EBE])))
                    refine pcd_r (c_partialInsertion (a := a) (b := b) h1 (by omega) (by omega) (by omega) (by omega)) ?_
                    rintro _ ⟨r, rfl⟩
                    cases r
                    · (refine blkP.ini ?_; repeat (refine blkP.mk ?_; (try simp (disch := first | omega | (simp only [LN]; omega)) only [↓EC, EW, seval, ↓reduceIte, ↓EBD, EBE])))
                      exact hK _ _ ⟨m, _, rfl, rfl, h1⟩
                    · (refine blkP.ini ?_; repeat (refine blkP.mk ?_; (try simp (disch := first | omega | (simp only [LN]; omega)) only [↓EC, EW, seval, ↓reduceIte, ↓EBD, EBE])))
                      exact ⟨m, rfl, h1⟩
                  · (refine blkP.ini ?_; repeat (refine blkP.mk ?_; (try simp (disch := first | omega | (simp only [LN]; omega)) only [↓EC, EW, seval, ↓reduceIte, ↓EBD, EBE])))
                    exact hK _ _ ⟨m, _, rfl, rfl, h1⟩
            · rintro _ _ ⟨m, h', rfl, rfl, h1⟩
              (refine blkP.ini ?_; repeat (refine blkP.mk ?_; (try simp (disch := first | omega | (simp only [LN]; omega)) only [↓EC, EW, seval, ↓reduceIte, ↓EBD, EBE])))
              (refine Split.mkB (fun h => ?_) (fun h => ?_) <;> (try simp only [SD] at h))
              · (refine blkP.ini ?_; repeat (refine blkP.mk ?_; (try simp (disch := first | omega | (simp only [LN]; omega)) only [↓EC, EW, seval, ↓reduceIte, ↓EBD, EBE])))
                refine pcd_v c_less ?_
                (refine blkP.ini ?_; repeat (refine blkP.mk ?_; (try simp (disch := first | omega | (simp only [LN]; omega)) only [↓EC, EW, seval, ↓reduceIte, ↓EBD, EBE])))
                (refine Split.mkB (fun h => ?_) (fun h => ?_) <;> (try simp only [SD] at h))
                · (refine blkP.ini ?_; repeat (refine blkP.mk ?_; (try simp (disch := first | omega | (simp only [LN]; omega)) only [↓EC, EW, seval, ↓reduceIte, ↓EBD, EBE])))
                  refine pcm [0] rfl ?_; (refine blkP.ini ?_; repeat (refine blkP.mk ?_; (try simp (disch := first | omega | (simp only [LN]; omega)) only [↓EC, EW, seval, ↓reduceIte, ↓EBD, EBE])))
                  refine callM_d (c_partitionEqual (a := a) (b := b) (p := x) h1 (by omega) (by omega) (by omega) (by omega) (by omega)) ?_
                  rintro _ _ ⟨x', rfl, hy1, hy2, m', rfl, hm'⟩
                  (refine blkP.ini ?_; repeat (refine blkP.mk ?_; (try simp (disch := first | omega | (simp only [LN]; omega)) only [↓EC, EW, seval, ↓reduceIte, ↓EBD, EBE])))
                  exact ⟨(m', (x', b, k), w, p), rfl, rfl, ⟨hm', by simp only; omega⟩, by simp only; omega⟩
                · (refine blkP.ini ?_; repeat (refine blkP.mk ?_; (try simp (disch := first | omega | (simp only [LN]; omega)) only [↓EC, EW, seval, ↓reduceIte, ↓EBD, EBE])))
                  refine pcm [0] rfl ?_; (refine blkP.ini ?_; repeat (refine blkP.mk ?_; (try simp (disch := first | omega | (simp only [LN]; omega)) only [↓EC, EW, seval, ↓reduceIte, ↓EBD, EBE])))
                  refine callM_d (c_partition (a := a) (b := b) (p := x) h1 (by omega) (by omega) (by omega) (by omega) (by omega)) ?_
                  rintro _ _ ⟨x', r, rfl, hy1, hy2, m', rfl, hm'⟩
                  (refine blkP.ini ?_; repeat (refine blkP.mk ?_; (try simp (disch := first | omega | (simp only [LN]; omega)) only [↓EC, EW, seval, ↓reduceIte, ↓EBD, EBE])))
                  (refine Split.mkB (fun h => ?_) (fun h => ?_) <;> (try simp only [SD] at h))
                  · (refine blkP.ini ?_; repeat (refine blkP.mk ?_; (try simp (disch := first | omega | (simp only [LN]; omega)) only [↓EC, EW, seval, ↓reduceIte, ↓EBD, EBE])))
                    refine pcm [0] rfl ?_; (refine blkP.ini ?_; repeat (refine blkP.mk ?_; (try simp (disch := first | omega | (simp only [LN]; omega)) only [↓EC, EW, seval, ↓reduceIte, ↓EBD, EBE])))
                    refine callM_d (ih (x' - a).toNat (by omega) (l := m') (a := a) (b := x') (k := k) rfl hm' (by omega) (by omega) (by omega) (by omega)) ?_
                    rintro _ _ ⟨rfl, m'', rfl, hm''⟩
                    (refine blkP.ini ?_; repeat (refine blkP.mk ?_; (try simp (disch := first | omega | (simp only [LN]; omega)) only [↓EC, EW, seval, ↓reduceIte, ↓EBD, EBE])))
                    exact ⟨(m'', (x' + 1, b, k), _, r), rfl, rfl, ⟨hm'', by simp only; omega⟩, by simp only; omega⟩
                  · (refine blkP.ini ?_; repeat (refine blkP.mk ?_; (try simp (disch := first | omega | (simp only [LN]; omega)) only [↓EC, EW, seval, ↓reduceIte, ↓EBD, EBE])))
                    refine pcm [0] rfl ?_; (refine blkP.ini ?_; repeat (refine blkP.mk ?_; (try simp (disch := first | omega | (simp only [LN]; omega)) only [↓EC, EW, seval, ↓reduceIte, ↓EBD, EBE])))
                    refine callM_d (ih (b - (x' + 1)).toNat (by omega) (l := m') (a := x' + 1) (b := b) (k := k) rfl hm' (by omega) (by omega) (by omega) (by omega)) ?_
                    rintro _ _ ⟨rfl, m'', rfl, hm''⟩
                    (refine blkP.ini ?_; repeat (refine blkP.mk ?_; (try simp (disch := first | omega | (simp only [LN]; omega)) only [↓EC, EW, seval, ↓reduceIte, ↓EBD, EBE])))
                    exact ⟨(m'', (a, x', k), _, r), rfl, rfl, ⟨hm'', by simp only; omega⟩, by simp only; omega⟩
              · (refine blkP.ini ?_; repeat (refine blkP.mk ?_; (try simp (disch := first | omega | (simp only [LN]; omega)) only [↓EC, EW, seval, ↓reduceIte, ↓EBD, EBE])))
                refine pcm [0] rfl ?_; (refine blkP.ini ?_; repeat (refine blkP.mk ?_; (try simp (disch := first | omega | (simp only [LN]; omega)) only [↓EC, EW, seval, ↓reduceIte, ↓EBD, EBE])))
                refine callM_d (c_partition (a := a) (b := b) (p := x) h1 (by omega) (by omega) (by omega) (by omega) (by omega)) ?_
                rintro _ _ ⟨x', r, rfl, hy1, hy2, m', rfl, hm'⟩
                (refine blkP.ini ?_; repeat (refine blkP.mk ?_; (try simp (disch := first | omega | (simp only [LN]; omega)) only [↓EC, EW, seval, ↓reduceIte, ↓EBD, EBE])))
                (refine Split.mkB (fun h => ?_) (fun h => ?_) <;> (try simp only [SD] at h))
                · (refine blkP.ini ?_; repeat (refine blkP.mk ?_; (try simp (disch := first | omega | (simp only [LN]; omega)) only [↓EC, EW, seval, ↓reduceIte, ↓EBD, EBE])))
                  refine pcm [0] rfl ?_; (refine blkP.ini ?_; repeat (refine blkP.mk ?_; (try simp (disch := first | omega | (simp only [LN]; omega)) only [↓EC, EW, seval, ↓reduceIte, ↓EBD, EBE])))
                  refine callM_d (ih (x' - a).toNat (by omega) (l := m') (a := a) (b := x') (k := k) rfl hm' (by omega) (by omega) (by omega) (by omega)) ?_
                  rintro _ _ ⟨rfl, m'', rfl, hm''⟩
                  (refine blkP.ini ?_; repeat (refine blkP.mk ?_; (try simp (disch := first | omega | (simp only [LN]; omega)) only [↓EC, EW, seval, ↓reduceIte, ↓EBD, EBE])))
                  exact ⟨(m'', (x' + 1, b, k), _, r), rfl, rfl, ⟨hm'', by simp only; omega⟩, by simp only; omega⟩
                · (refine blkP.ini ?_; repeat (refine blkP.mk ?_; (try simp (disch := first | omega | (simp only [LN]; omega)) only [↓EC, EW, seval, ↓reduceIte, ↓EBD, EBE])))
                  refine pcm [0] rfl ?_; (refine blkP.ini ?_; repeat (refine blkP.mk ?_; (try simp (disch := first | omega | (simp only [LN]; omega)) only [↓EC, EW, seval, ↓reduceIte, ↓EBD, EBE])))
                  refine callM_d (ih (b - (x' + 1)).toNat (by omega) (l := m') (a := x' + 1) (b := b) (k := k) rfl hm' (by omega) (by omega) (by omega) (by omega)) ?_
                  rintro _ _ ⟨rfl, m'', rfl, hm''⟩
                  (refine blkP.ini ?_; repeat (refine blkP.mk ?_; (try simp (disch := first | omega | (simp only [LN]; omega)) only [↓EC, EW, seval, ↓reduceIte, ↓EBD, EBE])))
                  exact ⟨(m'', (a, x', k), _, r), rfl, rfl, ⟨hm'', by simp only; omega⟩, by simp only; omega⟩
end Go.Proofs.YtjklebickfcddaaGreatDoor.Sep
end
section
/- Types, passports and Euler numbers of dessins of at most sixteen darts. -/
namespace Go.Proofs.YtjklebickfcddaaGreatDoor.Sep
open Go.RowKit
set_option linter.unusedVariables false
set_option linter.unusedSimpArgs false
set_option maxRecDepth 20000
set_option maxHeartbeats 4000000

theorem callMR_q {P : Program} {f : FuncId} {h : Hp} {K : V → Hp → Prop} {bs : List Nat} {bx : List (Nat × TypeId × Nat)} {cells : List (List V)} {ws : List V} {Φ : Nat → Nat → Nat → List (List V) → Prop}
    (hs : PSpecMR P f ws bx cells Φ) (hK : ∀ j o n cs, Φ j o n cs → ∀ b, bs[j]? = some b → K (.rf b o n) (hputs2 h bs bx cs)) : CallMR P f h K bs bx cells ws := ⟨Φ, hs, hK⟩
theorem pcd_rq {P : Program} {f : FuncId} {d : Nat} {h : Hp} {K : V → Hp → Prop} {ws o : List V} {m : Bool} {Φ : V → Prop} (hs : PSpec P f ws Φ) (hK : ∀ v, Φ v → Rq (allFree h (mat v d).2.1) (K (mat v d).1 (hputs h (mat v d).2.1))) : pcd P f d h K ws m o :=
  .inl (.inl ⟨_, hs, .inr hK⟩)
theorem c_SortN {l : List Int} {n : Nat} (hn : l.length = n) (hl : n ≤ 16) : PSpecM Tryz.prog 87 [.rf 0 0 n] [(0, 2, 1)] [vi .i64 l] fun v c => v = .tup [] ∧ kp n c := by
  refine slices_Sort_int64_int64_i_f.m rfl rfl ?_
  dsimp only [slices_Sort_int64_int64_i_F, pcal_B, pcalp_B, pcala_B, pcond_B, pgk_B, JN_B, LP_B]
  (refine blkP.ini ?_; repeat (refine blkP.mk ?_; (try simp (disch := first | omega | (simp only [LN]; omega)) only [↓EC, EW, seval, ↓reduceIte, ↓EBD, EBE])))
  refine pcd_r (c_LenN (k := n) (by omega)) ?_
  rintro _ ⟨r, rfl, h1, h2, _⟩
  (refine blkP.ini ?_; repeat (refine blkP.mk ?_; (try simp (disch := first | omega | (simp only [LN]; omega)) only [↓EC, EW, seval, ↓reduceIte, ↓EBD, EBE])))
  refine pcm [0] rfl ?_; (refine blkP.ini ?_; repeat (refine blkP.mk ?_; (try simp (disch := first | omega | (simp only [LN]; omega)) only [↓EC, EW, seval, ↓reduceIte, ↓EBD, EBE])))
  refine callM_d (c_pdqsortN hl _ (a := 0) (b := n) (k := r) rfl hn (by omega) (by omega) (by omega) ⟨h1, h2⟩) ?_
  rintro _ _ ⟨rfl, m, rfl, hm⟩
  (refine blkP.ini ?_; repeat (refine blkP.mk ?_; (try simp (disch := first | omega | (simp only [LN]; omega)) only [↓EC, EW, seval, ↓reduceIte, ↓EBD, EBE])))
  exact ⟨m, rfl, hm⟩
theorem c_ReverseN {l : List Int} {n : Nat} (hn : l.length = n) (hl : n ≤ 1000) : PSpecM Tryz.prog 88 [.rf 0 0 n] [(0, 2, 1)] [vi .i64 l] fun v c => v = .tup [] ∧ kp n c := by
  refine slices_Reverse_int64_int64_i_f.m rfl rfl ?_
  dsimp only [slices_Reverse_int64_int64_i_F, pcal_B, pcalp_B, pcala_B, pcond_B, pgk_B, JN_B, LP_B]
  (refine blkP.ini ?_; repeat (refine blkP.mk ?_; (try simp (disch := first | omega | (simp only [LN]; omega)) only [↓EC, EW, seval, ↓reduceIte, ↓EBD, EBE])))
  refine LPx_of (σ := List Int × Int × Int) 100000 [(0, 2, 1)] (fun s => [.int .i64 s.2.1, .int .i64 s.2.2]) (fun s => [vi .i64 s.1])
    (fun s => s.1.length = n ∧ 0 ≤ s.2.1 ∧ s.2.2 ≤ (n : Int) - 1 ∧ -1 ≤ s.2.2 ∧ s.2.1 ≤ 1001) (fun s => (s.2.2 + 1).toNat) (l, 0, (n : Int) - 1) (by simp [frameOk, names, lpz, sclp, scv, scvs, nrfs, nrf, FRB]) ⟨hn, by simp only; omega⟩ ?_ ?_
  · (refine blkP.ini ?_; repeat (refine blkP.mk ?_; simp (disch := first | omega | (simp only [LN]; omega)) only [↓EC, EW, seval, ↓reduceIte, ↓EBD, EBE, ColV_def]))
  · rintro ⟨m, i, j⟩ ⟨h1, h2, h3, h4, h5⟩
    simp only at h1 h2 h3 h4 h5
    (refine blkP.ini ?_; repeat (refine blkP.mk ?_; simp (disch := first | omega | (simp only [LN]; omega)) only [↓EC, EW, seval, ↓reduceIte, ↓EBD, EBE, ColV_def, lheap_def]))
    (refine Split.mkB (fun h => ?_) (fun h => ?_) <;> (try simp only [SD] at h))
    · (refine blkP.ini ?_; repeat (refine blkP.mk ?_; (try simp (disch := first | omega | (simp only [LN]; omega)) only [↓EC, EW, seval, ↓reduceIte, ↓EBD, EBE])))
      exact ⟨(_, i + 1, j - 1), rfl, rfl, ⟨by simp [h1], by simp only; omega⟩, by simp only; omega⟩
    · (refine blkP.ini ?_; repeat (refine blkP.mk ?_; (try simp (disch := first | omega | (simp only [LN]; omega)) only [↓EC, EW, seval, ↓reduceIte, ↓EBD, EBE])))
      exact ⟨m, rfl, h1⟩
theorem c_descendingN {l : List Int} {n : Nat} (hn : l.length = n) (hl : n ≤ 16) : PSpecMR Tryz.prog 76 [.rf 0 0 n] [(0, 2, 1)] [vi .i64 l] fun j o k c => j = 0 ∧ o = 0 ∧ k = n ∧ kp n c := by
  refine impl_descending_f.mr rfl rfl ?_
  dsimp only [impl_descending_F, pcal_B, pcalp_B, pcala_B, pcond_B, pgk_B, JN_B, LP_B]
  (refine blkP.ini ?_; repeat (refine blkP.mk ?_; (try simp (disch := first | omega | (simp only [LN]; omega)) only [↓EC, EW, seval, ↓reduceIte, ↓EBD, EBE])))
  refine pcm [0] rfl ?_; (refine blkP.ini ?_; repeat (refine blkP.mk ?_; (try simp (disch := first | omega | (simp only [LN]; omega)) only [↓EC, EW, seval, ↓reduceIte, ↓EBD, EBE])))
  refine callM_d (c_SortN hn hl) ?_
  rintro _ _ ⟨rfl, m, rfl, hm⟩
  (refine blkP.ini ?_; repeat (refine blkP.mk ?_; (try simp (disch := first | omega | (simp only [LN]; omega)) only [↓EC, EW, seval, ↓reduceIte, ↓EBD, EBE])))
  refine pcm [0] rfl ?_; (refine blkP.ini ?_; repeat (refine blkP.mk ?_; (try simp (disch := first | omega | (simp only [LN]; omega)) only [↓EC, EW, seval, ↓reduceIte, ↓EBD, EBE])))
  refine callM_d (c_ReverseN hm (by omega)) ?_
  rintro _ _ ⟨rfl, m', rfl, hm'⟩
  (refine blkP.ini ?_; repeat (refine blkP.mk ?_; (try simp (disch := first | omega | (simp only [LN]; omega)) only [↓EC, EW, seval, ↓reduceIte, ↓EBD, EBE])))
  exact ⟨rfl, m', rfl, hm'⟩
def lnT (A : List (List Int)) : Nat → List Int
  | 0 => []
  | s + 1 => lnT A s ++ [((gl A s).length : Int)]
theorem lnT_len {A : List (List Int)} : ∀ s, (lnT A s).length = s
  | 0 => rfl
  | s + 1 => by simp [lnT, lnT_len s]
theorem c_impl_typeOf {p : List Int} {n : Int} (hp : lo16 p) (hn : 1 ≤ n ∧ n ≤ 16) : PSpec Tryz.prog 63 [.agg (vi .u8 p), .int .i64 n] fun v => ∃ l : List Int, v = .own 2 1 l.length (vi .i64 l) ∧ l.length = (cyc p n).length := by
  have hpl := hp.1
  have hcl : (cyc p n).length ≤ 16 := by have := (cycO_len (p := p) n.toNat).2; unfold cyc; omega
  refine impl_typeOf_f.f ?_
  dsimp only [impl_typeOf_F, pcal_B, pcalp_B, pcala_B, pcond_B, pgk_B, JN_B, LP_B]
  (refine blkP.ini ?_; repeat (refine blkP.mk ?_; (try simp (disch := first | omega | (simp only [LN]; omega)) only [↓EC, EW, seval, ↓reduceIte, ↓EBD, EBE])))
  refine pcd_v (c_impl_cycles hp hn) ?_
  (refine blkP.ini ?_; repeat (refine blkP.mk ?_; (try simp (disch := first | omega | (simp only [LN]; omega)) only [↓EC, EW, seval, ↓reduceIte, ↓EBD, EBE])))
  generalize cyc p n = A at *
  refine LPx_ofE (σ := Nat) [1, 1] 100000 [] (fun s => [.own 2 1 s (vi .i64 (lnT A s)), .int .i64 s]) (fun s => []) (fun s => s ≤ A.length) (fun s => A.length - s) 0 (by simp [frameOk, names, lpz, sclp, scv, scvs, nrfs, nrf, FRB]) (Nat.zero_le _) ?_ ?_
  · (refine blkP.ini ?_; repeat (refine blkP.mk ?_; simp (disch := first | omega | (simp only [LN]; omega)) only [↓EC, EW, seval, ↓reduceIte, ↓EBD, EBE, ColV_def]))
    exact ⟨fun _ => trivial, rfl⟩
  · intro s hs
    have hls := lnT_len (A := A) s
    (refine blkP.ini ?_; repeat (refine blkP.mk ?_; simp (disch := first | omega | (simp only [LN]; omega)) only [↓EC, EW, seval, ↓reduceIte, ↓EBD, EBE, ColV_def, lheap_def]))
    (refine Split.mkB (fun h => ?_) (fun h => ?_) <;> (try simp only [SD] at h))
    · (refine blkP.ini ?_; repeat (refine blkP.mk ?_; (try simp (disch := first | omega | (simp only [LN]; omega)) only [↓EC, EW, seval, ↓reduceIte, ↓EBD, EBE])))
      exact ⟨s + 1, rfl, by omega, by omega⟩
    · obtain rfl : s = A.length := by omega
      (refine blkP.ini ?_; repeat (refine blkP.mk ?_; (try simp (disch := first | omega | (simp only [LN]; omega)) only [↓EC, EW, seval, ↓reduceIte, ↓EBD, EBE])))
      refine pcmr [100000] rfl ?_
      (refine blkP.ini ?_; repeat (refine blkP.mk ?_; (try simp (disch := first | omega | (simp only [LN]; omega)) only [↓EC, EW, seval, ↓reduceIte, ↓EBD, EBE])))
      refine callMR_q (c_descendingN hls (by omega)) ?_
      rintro j o k c ⟨rfl, rfl, rfl, m, rfl, hm⟩ b hb
      simp at hb
      subst hb
      (refine blkP.ini ?_; repeat (refine blkP.mk ?_; (try simp (disch := first | omega | (simp only [LN]; omega)) only [↓EC, EW, seval, ↓reduceIte, ↓EBD, EBE])))
      exact ⟨m, by rw [hm], hm⟩
theorem c_impl_eulerOfN {a b c : List Int} {n : Int} (ha : a.length ≤ 1000) (hb : b.length ≤ 1000) (hc : c.length ≤ 1000) (hn : 0 ≤ n ∧ n ≤ 1000) : PSpec Tryz.prog 29 [.sl 3 (vl [a, b, c]), .int .i64 n] fun v => v = .int .i64 (a.length + b.length + c.length - n) := by
  have ga : gl [a, b, c] 0 = a := rfl
  have gb : gl [a, b, c] 1 = b := rfl
  have gc : gl [a, b, c] 2 = c := rfl
  refine impl_eulerOf_f.f ?_
  simp (disch := first | omega | (simp only [LN]; omega)) only [↓EC, EW, seval, ↓reduceIte, impl_eulerOf_F, ga, gb, gc]
theorem c_impl_passport {n : Int} {b w : List Int} (hb : lo16 b) (hw : lo16 w) (hn : 1 ≤ n ∧ n ≤ 16) : PSpec Tryz.prog 30 [vD n b w] fun v => ∃ x y z : List Int, v = .own 28 1 3 (vo 2 [x, y, z]) ∧ x.length = (cyc b n).length ∧ y.length = (cyc w n).length ∧ z.length = (cyc (faceP b w n) n).length := by
  have hbl := hb.1
  have hwl := hw.1
  have hfl : lo16 (faceP b w n) := backP_lo hn
  have hfl2 := hfl.1
  refine impl_passport_f.f ?_
  unfold vD
  dsimp only [impl_passport_F, pcal_B, pcalp_B, pcala_B, pcond_B, pgk_B, JN_B, LP_B]
  (refine blkP.ini ?_; repeat (refine blkP.mk ?_; (try simp (disch := first | omega | (simp only [LN]; omega)) only [↓EC, EW, seval, ↓reduceIte, ↓EBD, EBE])))
  refine pcd_rq (c_impl_typeOf (p := b) hb hn) ?_
  rintro _ ⟨x, rfl, hx⟩
  (refine blkP.ini ?_; repeat (refine blkP.mk ?_; (try simp (disch := first | omega | (simp only [LN]; omega)) only [↓EC, EW, seval, ↓reduceIte, ↓EBD, EBE])))
  refine pcd_rq (c_impl_typeOf (p := w) hw hn) ?_
  rintro _ ⟨y, rfl, hy⟩
  (refine blkP.ini ?_; repeat (refine blkP.mk ?_; (try simp (disch := first | omega | (simp only [LN]; omega)) only [↓EC, EW, seval, ↓reduceIte, ↓EBD, EBE])))
  refine pcd_v (c_impl_face hb hw hn) ?_
  (refine blkP.ini ?_; repeat (refine blkP.mk ?_; (try simp (disch := first | omega | (simp only [LN]; omega)) only [↓EC, EW, seval, ↓reduceIte, ↓EBD, EBE])))
  refine pcd_rq (c_impl_typeOf hfl hn) ?_
  rintro _ ⟨z, rfl, hz⟩
  (refine blkP.ini ?_; repeat (refine blkP.mk ?_; (try simp (disch := first | omega | (simp only [LN]; omega)) only [↓EC, EW, seval, ↓reduceIte, ↓EBD, EBE])))
  exact ⟨x, y, z, rfl, hx, hy, hz⟩
def eulN (n : Int) (b w : List Int) : Int := (cyc b n).length + (cyc w n).length + (cyc (faceP b w n) n).length - n
theorem c_impl_EulerOf {n : Int} {b w : List Int} (hb : okP b) (hw : okP w) (hd : isDB n b w = true) : PSpec Tryz.prog 13 [vD n b w] fun v => v = .tup [.int .i64 (eulN n b w), .int .i64 0] := by
  have hbl := hb.1
  have hwl := hw.1
  have h1 := isDB_iff.1 hd
  have lb := h1.pb.lo hb
  have lw := h1.pw.lo hw
  have hn := h1.pb.1
  have c1 : (cyc b n).length ≤ 16 := by have := (cycO_len (p := b) n.toNat).2; unfold cyc; omega
  have c2 : (cyc w n).length ≤ 16 := by have := (cycO_len (p := w) n.toNat).2; unfold cyc; omega
  have c3 : (cyc (faceP b w n) n).length ≤ 16 := by have := (cycO_len (p := faceP b w n) n.toNat).2; unfold cyc; omega
  refine impl_EulerOf_f.f ?_
  unfold vD
  dsimp only [impl_EulerOf_F, pcal_B, pcalp_B, pcala_B, pcond_B, pgk_B, JN_B, LP_B]
  (refine blkP.ini ?_; repeat (refine blkP.mk ?_; (try simp (disch := first | omega | (simp only [LN]; omega)) only [↓EC, EW, seval, ↓reduceIte, ↓EBD, EBE])))
  refine pcd_v (c_impl_IsDessin (n := n) hb hw) ?_
  (refine blkP.ini ?_; repeat (refine blkP.mk ?_; (try simp (disch := first | omega | (simp only [LN]; omega)) only [↓EC, EW, seval, ↓reduceIte, ↓EBD, EBE, hd])))
  refine pcd_r (c_impl_passport (n := n) lb lw hn) ?_
  rintro _ ⟨x, y, z, rfl, hx, hy, hz⟩
  (refine blkP.ini ?_; repeat (refine blkP.mk ?_; (try simp (disch := first | omega | (simp only [LN]; omega)) only [↓EC, EW, seval, ↓reduceIte, ↓EBD, EBE])))
  refine pcd_v (c_impl_eulerOfN (a := x) (b := y) (c := z) (n := n) (by omega) (by omega) (by omega) (by omega)) ?_
  (refine blkP.ini ?_; repeat (refine blkP.mk ?_; (try simp (disch := first | omega | (simp only [LN]; omega)) only [↓EC, EW, seval, ↓reduceIte, ↓EBD, EBE])))
  rw [hx, hy, hz]; rfl
end Go.Proofs.YtjklebickfcddaaGreatDoor.Sep
end
section
/- Words: texts of letters, what the functions on them compute. -/
namespace Go.Proofs.YtjklebickfcddaaGreatDoor.Sep
open Go.RowKit
set_option linter.unusedVariables false
set_option linter.unusedSimpArgs false
set_option maxRecDepth 20000
set_option maxHeartbeats 1000000

/-! ### Texts as bytes -/
def ub (s : List UInt8) : List Int := s.map fun c => (c.toNat : Int)
def sb (l : List Int) : List UInt8 := l.map fun n => UInt8.ofNat n.toNat
theorem ub_len {s : List UInt8} : (ub s).length = s.length := by simp [ub]
theorem sb_len {l : List Int} : (sb l).length = l.length := by simp [sb]
theorem ub_at {s : List UInt8} {i : Nat} : ((s.getD i 0).toNat : Int) = gi (ub s) i := by
  simp only [ub, gi, List.getD, List.getElem?_map]
  cases s[i]? <;> rfl
theorem ub_lim {s : List UInt8} {i : Nat} : 0 ≤ gi (ub s) i ∧ gi (ub s) i ≤ 255 := by
  rw [← ub_at]; have := (s.getD i 0).toNat_lt; omega
theorem ub_sb {l : List Int} (h : ∀ i, i < l.length → 0 ≤ gi l i ∧ gi l i ≤ 255) : ub (sb l) = l := by
  refine gi_ext (by simp [ub, sb]) fun j hj => ?_
  rw [ub_len, sb_len] at hj
  have h1 := h j hj
  rw [gi_of hj] at h1 ⊢
  rw [gi_of (by rw [ub_len, sb_len]; exact hj)]
  simp only [ub, sb, List.getElem_map, UInt8.toNat_ofNat']
  omega
theorem vbytes_vi : ∀ {l : List Int}, vbytes (vi .u8 l) = some (sb l)
  | [] => rfl
  | a :: l => by
    have ih := vbytes_vi (l := l)
    simp only [vi, List.map_cons, vbytes] at ih ⊢
    rw [ih]; rfl
def vb2sB (o n : Nat) : Slot → Option V
  | .row _ _ cs => grd ((0 < n ∨ o = 0) ∧ o + n ≤ cs.length) ((vbytes ((cs.drop o).take n)).bind fun s => some (.str s))
  | _ => none
theorem vb2s_rf {h : Hp} {b o n : Nat} : vb2s h (.rf b o n) = vb2sB o n (h b) := by simp only [vb2s]; cases h b <;> rfl
theorem vb2sB_row {o n : Nat} {e : TypeId} {sz : Nat} {cs : List V} : vb2sB o n (.row e sz cs) = grd ((0 < n ∨ o = 0) ∧ o + n ≤ cs.length) ((vbytes ((cs.drop o).take n)).bind fun s => some (.str s)) := rfl
theorem vb2s_nils {h : Hp} : vb2s h .nils = some (.str []) := rfl
theorem vbytes_one {n : Int} : vbytes [.int .u8 n] = some (sb [n]) := rfl
set_option linter.defProp false in
def EB := And.intro @ub_at <| And.intro @vbytes_vi <| And.intro @vb2s_rf <| And.intro @vb2sB_row <| And.intro @vb2s_nils <| And.intro @vbytes_one <| And.intro @ub_len <| And.intro @sb_len <| And.intro @tk_all @Nat.add_sub_cancel

/-! ### Letters -/
def ltr (x : Int) : Prop := x = 120 ∨ x = 88 ∨ x = 121 ∨ x = 89
/-! ### Reduced forms -/
/-! ### Inverse words -/
end Go.Proofs.YtjklebickfcddaaGreatDoor.Sep
end
section
/- Words: strings.Trim, IsWord, InverseWord, ReduceWord. -/
namespace Go.Proofs.YtjklebickfcddaaGreatDoor.Sep
open Go.RowKit
set_option linter.unusedVariables false
set_option linter.unusedSimpArgs false
set_option maxRecDepth 20000
set_option maxHeartbeats 1000000

/-! ### Texts without letters of a set at their ends -/
def inM (m : List Bool) (c : UInt8) : Bool := gb m c.toNat
def tlT (m : List Bool) (s : List UInt8) : List UInt8 := s.dropWhile (inM m)
def trT (m : List Bool) (s : List UInt8) : List UInt8 := (tlT m s.reverse).reverse
theorem tlT_yes {m : List Bool} {c : UInt8} {r : List UInt8} (h : gb m c.toNat = true) : tlT m (c :: r) = tlT m r := by
  simp [tlT, List.dropWhile_cons, inM, h]
theorem tlT_no {m : List Bool} {c : UInt8} {r : List UInt8} (h : gb m c.toNat = false) : tlT m (c :: r) = c :: r := by
  simp [tlT, List.dropWhile_cons, inM, h]
theorem all_dw {P : UInt8 → Bool} : ∀ {l : List UInt8}, (∀ x ∈ l.dropWhile P, P x = true) ↔ ∀ x ∈ l, P x = true
  | [] => by simp
  | c :: r => by
    by_cases h : P c = true
    · rw [List.dropWhile_cons_of_pos h, all_dw (l := r)]; simp [h]
    · rw [List.dropWhile_cons_of_neg h]
theorem dw_nil {P : UInt8 → Bool} : ∀ {l : List UInt8}, l.dropWhile P = [] ↔ ∀ x ∈ l, P x = true
  | [] => by simp
  | c :: r => by
    by_cases h : P c = true
    · rw [List.dropWhile_cons_of_pos h, dw_nil (l := r)]; simp [h]
    · rw [List.dropWhile_cons_of_neg h]; simp [h]
theorem trim_nil {m : List Bool} {s : List UInt8} : tlT m (trT m s) = [] ↔ ∀ c ∈ s, inM m c = true := by
  unfold trT tlT
  rw [dw_nil]
  simp only [List.mem_reverse]
  rw [all_dw]; simp
theorem ub_get {s : List UInt8} {i : Nat} : (gi (ub s) i).toNat = (s.getD i 0).toNat := by rw [← ub_at]; exact Int.toNat_natCast _
theorem trT_yes {m : List Bool} {t : List UInt8} (h0 : 0 < t.length) (h : gb m (gi (ub t) (t.length - 1)).toNat = true) : trT m (t.take (t.length - 1)) = trT m t := by
  rcases List.eq_nil_or_concat t with rfl | ⟨r, c, rfl⟩
  · simp at h0
  · rw [ub_get] at h
    simp [trT, List.getD] at h ⊢
    rw [tlT_yes h]
theorem trT_no {m : List Bool} {t : List UInt8} (h0 : 0 < t.length) (h : gb m (gi (ub t) (t.length - 1)).toNat = false) : trT m t = t := by
  rcases List.eq_nil_or_concat t with rfl | ⟨r, c, rfl⟩
  · simp at h0
  · rw [ub_get] at h
    simp [trT, List.getD] at h ⊢
    rw [tlT_no h]
    try simp
def asT (cs : List UInt8) : Nat → List Bool
  | 0 => List.replicate 256 false
  | i + 1 => (asT cs i).set (gi (ub cs) i).toNat true
theorem asT_len {cs : List UInt8} : ∀ i, (asT cs i).length = 256
  | 0 => by simp [asT]
  | i + 1 => by simp [asT, asT_len i]
theorem asT_at {cs : List UInt8} {b : Nat} (hb : b < 256) : ∀ i, gb (asT cs i) b = true ↔ ∃ j, j < i ∧ (gi (ub cs) j).toNat = b
  | 0 => by simp only [asT]; rw [gb_rep]; simp
  | i + 1 => by
    simp only [asT]
    rw [gb_set, asT_len]
    by_cases e : (gi (ub cs) i).toNat = b
    · rw [if_pos ⟨e, hb⟩]; simp only [true_iff]; exact ⟨i, by omega, e⟩
    · rw [if_neg (fun h => e h.1), asT_at hb i]
      exact ⟨fun ⟨j, a, c⟩ => ⟨j, by omega, c⟩, fun ⟨j, a, c⟩ => ⟨j, by have : j ≠ i := fun h => e (h ▸ c); omega, c⟩⟩
theorem dv_pfb {h : Hp} {m : List Bool} : dv h (.pf (vb m) 0) = .pf (vb m) 0 := by simp [dv, vb_vws]
theorem c_contains {m : List Bool} (hm : m.length = 256) {x : Int} (hx : 0 ≤ x ∧ x ≤ 255) : PSpec Tryz.prog 89 [.pf (vb m) 0, .int .u8 x] fun v => v = .bool (gb m x.toNat) := by
  refine strings_asciiSet_contains_f.f ?_
  simp (disch := first | omega | (simp only [LN]; omega)) only [↓EC, EW, seval, ↓reduceIte, strings_asciiSet_contains_F, hm]
theorem c_trimL {m : List Bool} (hm : m.length = 256) {s : List UInt8} (hs : s.length ≤ 1048576) : PSpec Tryz.prog 82 [.str s, .pf (vb m) 0] fun v => v = .str (tlT m s) := by
  refine strings_trimLeftASCII_f.f ?_
  simp (disch := first | omega | (simp only [LN]; omega)) only [↓EC, EW, seval, ↓reduceIte, strings_trimLeftASCII_F, hm]
  refine LP_of (σ := List UInt8) 100000 [] (fun t => [.str t]) (fun t => []) (fun t => tlT m t = tlT m s ∧ t.length ≤ s.length) (fun t => t.length) s (by simp [frameOk, names, lpz, sclp, scv, scvs, nrfs, nrf, FRB]) ⟨rfl, Nat.le_refl _⟩ ?_ ?_
  · simp (disch := first | omega | (simp only [LN]; omega)) only [↓EC, EW, seval, ↓reduceIte, ColV_def]
  · rintro t ⟨h1, h2⟩
    simp (disch := first | omega | (simp only [LN]; omega)) only [↓EC, EW, seval, ↓reduceIte, ColV_def, lheap_def]
    (refine Split.mk (fun h => ?_) (fun h => ?_) <;> (try simp only [SD] at h))
    · obtain ⟨c, r, rfl⟩ : ∃ c r, t = c :: r := by
        cases t with
        | nil => simp at h
        | cons c r => exact ⟨c, r, rfl⟩
      have hl := ub_lim (s := c :: r) (i := 0)
      have e0 : gi (ub (c :: r)) 0 = (c.toNat : Int) := rfl
      rw [e0] at hl
      (try simp (disch := first | omega | (simp only [LN]; omega)) only [↓EC, EW, seval, ↓reduceIte, EB, hm, dv_pfb])
      refine pcd_v (c_contains hm hl) ?_
      (try simp (disch := first | omega | (simp only [LN]; omega)) only [↓EC, EW, seval, ↓reduceIte, EB, hm, dv_pfb, Int.toNat_natCast])
      (refine Split.mk (fun h => ?_) (fun h => ?_) <;> (try simp only [SD] at h))
      · (try simp (disch := first | omega | (simp only [LN]; omega)) only [↓EC, EW, seval, ↓reduceIte, EB, hm, dv_pfb])
        rw [← h1, tlT_no h]
      · (try simp (disch := first | omega | (simp only [LN]; omega)) only [↓EC, EW, seval, ↓reduceIte, EB, hm, dv_pfb])
        exact ⟨r, by simp, ⟨by rw [← h1, tlT_yes h], by simp at h2; omega⟩, by simp⟩
    · (try simp (disch := first | omega | (simp only [LN]; omega)) only [↓EC, EW, seval, ↓reduceIte, EB])
      have : t = [] := by cases t with
        | nil => rfl
        | cons c r => simp at h; omega
      subst this
      rw [← h1]; rfl
theorem c_trimR {m : List Bool} (hm : m.length = 256) {s : List UInt8} (hs : s.length ≤ 1048576) : PSpec Tryz.prog 83 [.str s, .pf (vb m) 0] fun v => v = .str (trT m s) := by
  refine strings_trimRightASCII_f.f ?_
  simp (disch := first | omega | (simp only [LN]; omega)) only [↓EC, EW, seval, ↓reduceIte, strings_trimRightASCII_F, hm]
  refine LP_of (σ := List UInt8) 100000 [] (fun t => [.str t]) (fun t => []) (fun t => trT m t = trT m s ∧ t.length ≤ s.length) (fun t => t.length) s (by simp [frameOk, names, lpz, sclp, scv, scvs, nrfs, nrf, FRB]) ⟨rfl, Nat.le_refl _⟩ ?_ ?_
  · simp (disch := first | omega | (simp only [LN]; omega)) only [↓EC, EW, seval, ↓reduceIte, ColV_def]
  · rintro t ⟨h1, h2⟩
    simp (disch := first | omega | (simp only [LN]; omega)) only [↓EC, EW, seval, ↓reduceIte, ColV_def, lheap_def]
    (refine Split.mk (fun h => ?_) (fun h => ?_) <;> (try simp only [SD] at h))
    · have h0 : 0 < t.length := by omega
      have hl := ub_lim (s := t) (i := t.length - 1)
      have e1 : ((t.length : Int) - 1).toNat = t.length - 1 := by omega
      (try simp (disch := first | omega | (simp only [LN]; omega)) only [↓EC, EW, seval, ↓reduceIte, EB, hm, e1, dv_pfb])
      refine pcd_v (c_contains hm hl) ?_
      (try simp (disch := first | omega | (simp only [LN]; omega)) only [↓EC, EW, seval, ↓reduceIte, EB, hm, e1, dv_pfb])
      (refine Split.mk (fun h => ?_) (fun h => ?_) <;> (try simp only [SD] at h))
      · (try simp (disch := first | omega | (simp only [LN]; omega)) only [↓EC, EW, seval, ↓reduceIte, EB, hm, e1, dv_pfb])
        rw [← h1, trT_no h0 h]
      · (try simp (disch := first | omega | (simp only [LN]; omega)) only [↓EC, EW, seval, ↓reduceIte, EB, hm, e1, dv_pfb])
        exact ⟨t.take (t.length - 1), by simp, ⟨by rw [← h1, trT_yes h0 h], by simp; omega⟩, by simp; omega⟩
    · (try simp (disch := first | omega | (simp only [LN]; omega)) only [↓EC, EW, seval, ↓reduceIte, EB])
      have : t = [] := by cases t with
        | nil => rfl
        | cons c r => simp at h; omega
      subst this
      rw [← h1]; rfl
theorem c_makeASCIISet {cs : List UInt8} (hc : ∀ i, i < cs.length → gi (ub cs) i < 128) (hl : cs.length ≤ 100) : PSpec Tryz.prog 81 [.str cs] fun v => v = .tup [.agg (vb (asT cs cs.length)), .bool true] := by
  refine strings_makeASCIISet_f.f ?_
  simp (disch := first | omega | (simp only [LN]; omega)) only [↓EC, EW, seval, ↓reduceIte, strings_makeASCIISet_F]
  refine LP_of (σ := Nat) 100000 [(66, 111, 1)] (fun i => [.int .i64 i]) (fun i => [vb (asT cs i)]) (fun i => i ≤ cs.length) (fun i => cs.length - i) 0 (by simp [frameOk, names, lpz, sclp, scv, scvs, nrfs, nrf, FRB]) (Nat.zero_le _) ?_ ?_
  · simp (disch := first | omega | (simp only [LN]; omega)) only [↓EC, EW, seval, ↓reduceIte, ColV_def]
    rfl
  · rintro i h1
    have hm := asT_len (cs := cs) i
    simp (disch := first | omega | (simp only [LN]; omega)) only [↓EC, EW, seval, ↓reduceIte, ColV_def, lheap_def]
    (refine Split.mk (fun h => ?_) (fun h => ?_) <;> (try simp only [SD] at h))
    · have hx := hc i (by omega)
      have hy := ub_lim (s := cs) (i := i)
      (try simp (disch := first | omega | (simp only [LN]; omega)) only [↓EC, EW, seval, ↓reduceIte, EB, hm, dv_pfb])
      (refine Split.mk (fun h => ?_) (fun h => ?_) <;> (try simp only [SD] at h))
      · omega
      · have e2 := ub_get (s := cs) (i := i)
        rw [← e2]
        (try simp (disch := first | omega | (simp only [LN]; omega)) only [↓EC, EW, seval, ↓reduceIte, EB, hm, dv_pfb])
        exact ⟨i + 1, by simp, by simp [asT], by omega, by omega⟩
    · have : i = cs.length := by omega
      subst this
      (try simp (disch := first | omega | (simp only [LN]; omega)) only [↓EC, EW, seval, ↓reduceIte, EB, hm, dv_pfb])
theorem c_Trim {s cs : List UInt8} (hs : s.length ≤ 1048576) (hc : ∀ i, i < cs.length → gi (ub cs) i < 128) (hl : 2 ≤ cs.length ∧ cs.length ≤ 100) :
    PSpec Tryz.prog 66 [.str s, .str cs] fun v => v = .str (tlT (asT cs cs.length) (trT (asT cs cs.length) s)) := by
  have hm := asT_len (cs := cs) cs.length
  have hn : ¬ cs = [] := by intro e; subst e; simp at hl
  have hn2 : ¬ (cs.length : Int) = 1 := by omega
  refine strings_Trim_f.f ?_
  simp (disch := first | omega | (simp only [LN]; omega)) only [↓EC, EW, seval, ↓reduceIte, strings_Trim_F]
  (refine Split.mk (fun h => ?_) (fun h => ?_) <;> (try simp only [SD] at h))
  · subst h
    (try simp (disch := first | omega | (simp only [LN]; omega)) only [↓EC, EW, seval, ↓reduceIte])
    rfl
  · (try simp (disch := first | omega | (simp only [LN]; omega)) only [↓EC, EW, seval, ↓reduceIte, hn])
    (refine Split.mk (fun h => ?_) (fun h => ?_) <;> (try simp only [SD] at h))
    · exact absurd h hn
    (try simp (disch := first | omega | (simp only [LN]; omega)) only [↓EC, EW, seval, ↓reduceIte, hn2])
    (refine Split.mk (fun h => ?_) (fun h => ?_) <;> (try simp only [SD] at h))
    · omega
    · (try simp (disch := first | omega | (simp only [LN]; omega)) only [↓EC, EW, seval, ↓reduceIte])
      refine pcd_v (c_makeASCIISet hc hl.2) ?_
      (try simp (disch := first | omega | (simp only [LN]; omega)) only [↓EC, EW, seval, ↓reduceIte, hm, dv_pfb])
      have hr : (trT (asT cs cs.length) s).length ≤ s.length := by
        unfold trT tlT
        rw [List.length_reverse]
        exact Nat.le_trans (List.dropWhile_sublist _).length_le (by simp)
      generalize asT cs cs.length = m at *
      refine pcd_v (c_trimR hm hs) ?_
      (try simp (disch := first | omega | (simp only [LN]; omega)) only [↓EC, EW, seval, ↓reduceIte, hm, dv_pfb])
      refine pcd_v (c_trimL hm (by omega)) ?_
      (try simp (disch := first | omega | (simp only [LN]; omega)) only [↓EC, EW, seval, ↓reduceIte])

/-! ### Words of the triangle -/
theorem asT_in {cs : List UInt8} {c : UInt8} : inM (asT cs cs.length) c = true ↔ c ∈ cs := by
  unfold inM
  rw [asT_at (by have := c.toNat_lt; omega)]
  constructor
  · rintro ⟨j, h1, h2⟩
    rw [ub_get] at h2
    have h3 : cs.getD j 0 = c := UInt8.toNat_inj.1 h2
    rw [← h3, List.getD, List.getElem?_eq_getElem h1]
    exact List.getElem_mem h1
  · intro h
    obtain ⟨j, h1, h2⟩ := List.getElem_of_mem h
    refine ⟨j, h1, ?_⟩
    rw [ub_get, List.getD, List.getElem?_eq_getElem h1]
    simp [h2]
instance {x : Int} : Decidable (ltr x) := by unfold ltr; infer_instance
end Go.Proofs.YtjklebickfcddaaGreatDoor.Sep
end
section
/- What CoverOf computes. -/
namespace Go.Proofs.YtjklebickfcddaaGreatDoor.Sep
open Go.RowKit
set_option linter.unusedVariables false
set_option linter.unusedSimpArgs false
set_option maxRecDepth 20000

noncomputable def covC (n : Int) (b w : List Int) (m : Int) (a c : List Int) : Int :=
  if isDB n b w = true then (if (decide (1 ≤ m ∧ m ≤ 16) && voltB n m a && voltB n m c) = true then 0 else 2) else 1
theorem c_impl_coverCode {n m : Int} {b w a c : List Int} (hb : okP b) (hw : okP w) (ha : a.length ≤ 1048576) (hc : c.length ≤ 1048576) :
    PSpec Tryz.prog 23 [vD n b w, .int .i64 m, .sl a.length (vi .i64 a), .sl c.length (vi .i64 c)] fun v => v = .int .i64 (covC n b w m a c) := by
  have hl := hb.len
  have hk := hw.len
  refine impl_coverCode_f.f ?_
  unfold vD
  simp (disch := first | omega | (simp only [LN]; omega)) only [↓EC, EW, seval, ↓reduceIte, impl_coverCode_F, hl, hk]
  refine pcd_v (c_impl_IsDessin hb hw) ?_
  (try simp (disch := first | omega | (simp only [LN]; omega)) only [↓EC, EW, seval, ↓reduceIte, hl, hk])
  (refine Split.mk (fun h => ?_) (fun h => ?_) <;> (try simp only [SD] at h))
  · unfold covC; rw [if_neg (by rw [h]; decide)]
  · (try simp (disch := first | omega | (simp only [LN]; omega)) only [↓EC, EW, seval, ↓reduceIte, hl, hk])
    refine pcd_v (c_impl_areVoltages hl hk ha hc) ?_
    (try simp (disch := first | omega | (simp only [LN]; omega)) only [↓EC, EW, seval, ↓reduceIte, hl, hk])
    unfold covC
    rw [if_pos h]
    (refine Split.mk (fun h => ?_) (fun h => ?_) <;> (try simp only [SD] at h))
    · congr 1; grind
    · congr 1; grind
theorem c_spec_l09Code {n m : Int} {b w a c : List Int} (hb : okP b) (hw : okP w) (ha : a.length ≤ 1048576) (hc : c.length ≤ 1048576) :
    PSpec Tryz.prog 25 [vD n b w, .int .i64 m, .sl a.length (vi .i64 a), .sl c.length (vi .i64 c)] fun v => v = .int .i64 (covC n b w m a c) := by
  have hl := hb.len
  have hk := hw.len
  refine spec_l09Code_f.f ?_
  unfold vD
  simp (disch := first | omega | (simp only [LN]; omega)) only [↓EC, EW, seval, ↓reduceIte, spec_l09Code_F, hl, hk]
  refine pcd_v (c_spec_l01Is hb hw) ?_
  (try simp (disch := first | omega | (simp only [LN]; omega)) only [↓EC, EW, seval, ↓reduceIte, hl, hk])
  (refine Split.mk (fun h => ?_) (fun h => ?_) <;> (try simp only [SD] at h))
  · unfold covC; rw [if_neg (by rw [h]; decide)]
  · (try simp (disch := first | omega | (simp only [LN]; omega)) only [↓EC, EW, seval, ↓reduceIte, hl, hk])
    (refine pcd_v (c_spec_l01In) ?_; (try simp (disch := first | omega | (simp only [LN]; omega)) only [↓EC, EW, seval, ↓reduceIte]))
    unfold covC
    rw [if_pos h, voltB_rng, voltB_rng]
    repeat' first
      | (refine Split.mk (fun h => ?_) (fun h => ?_) <;> (try simp only [SD] at h))
      | (refine pcd_v (c_spec_l09List ha) ?_; (try simp (disch := first | omega | (simp only [LN]; omega)) only [↓EC, EW, seval, ↓reduceIte, hl, hk]))
      | (refine pcd_v (c_spec_l09List hc) ?_; (try simp (disch := first | omega | (simp only [LN]; omega)) only [↓EC, EW, seval, ↓reduceIte, hl, hk]))
    all_goals (congr 1; grind)

/-! ### Coverings -/
theorem covC_0 {n m : Int} {b w a c : List Int} (h : covC n b w m a c = 0) : isD n b w ∧ (1 ≤ m ∧ m ≤ 16) ∧ ((a.length : Int) = n ∧ ∀ k, k < a.length → 0 ≤ gi a k ∧ gi a k < m) ∧ (c.length : Int) = n ∧ ∀ k, k < c.length → 0 ≤ gi c k ∧ gi c k < m := by
  unfold covC at h
  split at h
  · rename_i hd
    split at h
    · rename_i hv
      simp only [Bool.and_eq_true, decide_eq_true_eq] at hv
      exact ⟨isDB_iff.1 hd, hv.1.1, voltB_at hv.1.2, voltB_at hv.2⟩
    · omega
  · omega
def cvV (m : Int) (b a : List Int) (x i : Nat) : Int := m * gi b x + ((i : Int) + gi a x).tmod m
def cvI (m : Int) (x : Nat) (f : Nat → Int) : Nat → List Int → List Int
  | 0, l => l
  | k + 1, l => (cvI m x f k l).set (m * x + k).toNat (f k)
def cvO (m : Int) (b a : List Int) : Nat → List Int
  | 0 => List.replicate 16 0
  | x + 1 => cvI m x (cvV m b a x) m.toNat (cvO m b a x)
theorem okP_set {p : List Int} (h : okP p) {k : Nat} {v : Int} (hv : 0 ≤ v ∧ v ≤ 255) : okP (p.set k v) := ⟨by simp [h.1], fun i hi => by
  rw [gi_set]; split
  · exact hv
  · exact h.2 i hi⟩
theorem cvI_ok {m : Int} {x : Nat} {f : Nat → Int} : ∀ (k : Nat) {l : List Int}, okP l → (∀ i, i < k → 0 ≤ f i ∧ f i ≤ 255) → okP (cvI m x f k l)
  | 0, l, h, hf => h
  | k + 1, l, h, hf => okP_set (cvI_ok k h fun i hi => hf i (by omega)) (hf k (by omega))
theorem cvV_lim {n m : Int} {b a : List Int} {x i : Nat} (hm : 1 ≤ m) (hnm : n * m ≤ 16) (hn : n ≤ 16) (hb : 0 ≤ gi b x ∧ gi b x < n) (ha : 0 ≤ gi a x) :
    (0 ≤ m * gi b x ∧ m * gi b x ≤ 16) ∧ (0 ≤ ((i : Int) + gi a x).tmod m ∧ ((i : Int) + gi a x).tmod m < m) ∧ 0 ≤ cvV m b a x i ∧ cvV m b a x i < 16 := by
  have h1 : m * (gi b x + 1) ≤ m * n := Int.mul_le_mul_of_nonneg_left (by omega) (by omega)
  have h2 : 0 ≤ m * gi b x := Int.mul_nonneg (by omega) hb.1
  have h3 := Int.tmod_nonneg m (a := (i : Int) + gi a x) (by omega)
  have h4 := Int.tmod_lt_of_pos ((i : Int) + gi a x) (show 0 < m by omega)
  rw [Int.mul_add, Int.mul_one, Int.mul_comm m n] at h1
  unfold cvV
  exact ⟨⟨h2, by omega⟩, ⟨h3, h4⟩, by omega, by omega⟩
theorem idx_lim {n m : Int} {x i : Nat} (hm : 1 ≤ m) (hnm : n * m ≤ 16) (hx : (x : Int) < n) (hi : (i : Int) < m) : 0 ≤ m * x ∧ m * x + i < 16 ∧ m * x ≤ 16 := by
  have h1 : m * ((x : Int) + 1) ≤ m * n := Int.mul_le_mul_of_nonneg_left (by omega) (by omega)
  have h2 : 0 ≤ m * (x : Int) := Int.mul_nonneg (by omega) (by omega)
  rw [Int.mul_add, Int.mul_one, Int.mul_comm m n] at h1
  omega
theorem cvO_ok {n m : Int} {b a : List Int} (hm : 1 ≤ m) (hnm : n * m ≤ 16) (hn : n ≤ 16) (hb : ∀ x : Nat, (x : Int) < n → 0 ≤ gi b x ∧ gi b x < n) (ha : ∀ x : Nat, (x : Int) < n → 0 ≤ gi a x) : ∀ x : Nat, (x : Int) ≤ n → okP (cvO m b a x)
  | 0, _ => ⟨by simp [cvO], fun i hi => by simp only [cvO]; rw [gi_rep]; split <;> omega⟩
  | x + 1, hx => cvI_ok _ (cvO_ok hm hnm hn hb ha x (by omega)) fun i hi => by
    have := (cvV_lim (i := i) hm hnm hn (hb x (by omega)) (ha x (by omega))).2.2
    omega
abbrev DCode := (Int × List Int × List Int) × Int
def z16 : List Int := List.replicate 16 0
noncomputable def covR (n : Int) (b w : List Int) (m : Int) (a c : List Int) : DCode :=
  if covC n b w m a c ≠ 0 then ((0, z16, z16), covC n b w m a c) else if 16 < n * m then ((0, z16, z16), 3) else
    if isDB (n * m) (cvO m b a n.toNat) (cvO m w c n.toNat) = true then ((n * m, cvO m b a n.toNat, cvO m w c n.toNat), 0) else ((0, z16, z16), 5)
def vDC (r : DCode) : V := .tup [vD r.1.1 r.1.2.1 r.1.2.2, .int .i64 r.2]
theorem c_impl_CoverOf {n m : Int} {b w a c : List Int} (hb : okP b) (hw : okP w) (ha : a.length ≤ 1048576) (hc : c.length ≤ 1048576) :
    PSpec Tryz.prog 6 [vD n b w, .int .i64 m, .sl a.length (vi .i64 a), .sl c.length (vi .i64 c)] fun v => v = vDC (covR n b w m a c) := by
  have hl := hb.len
  have hk := hw.len
  refine impl_CoverOf_f.f ?_
  unfold vD
  simp (disch := first | omega | (simp only [LN]; omega)) only [↓EC, EW, seval, ↓reduceIte, impl_CoverOf_F, hl, hk]
  refine pcd_v (c_impl_coverCode hb hw ha hc) ?_
  (try simp (disch := first | omega | (simp only [LN]; omega)) only [↓EC, EW, seval, ↓reduceIte, hl, hk])
  (refine Split.mk (fun h => ?_) (fun h => ?_) <;> (try simp only [SD] at h))
  · unfold covR vDC; rw [if_pos h]; rfl
  · have h0 := h
    obtain ⟨hd, hm, ⟨hal, hav⟩, hcl, hcv⟩ := covC_0 h
    have hn := hd.pb.1
    have hmul := mul_lim (x := n) (y := m) 16 16 (by omega) (by omega)
    (try simp (disch := first | omega | (simp only [LN]; omega)) only [↓EC, EW, seval, ↓reduceIte, hl, hk])
    (refine Split.mk (fun h => ?_) (fun h => ?_) <;> (try simp only [SD] at h))
    · (try simp (disch := first | omega | (simp only [LN]; omega)) only [↓EC, EW, seval, ↓reduceIte])
      unfold covR vDC; rw [if_neg (by omega), if_pos h]; rfl
    · have hnm : n * m ≤ 16 := h
      have hbv : ∀ x : Nat, (x : Int) < n → 0 ≤ gi b x ∧ gi b x < n := fun x hx => ⟨(hb.2 x (by omega)).1, ((hd.pb.2 x (by omega)).1 hx).1⟩
      have hwv : ∀ x : Nat, (x : Int) < n → 0 ≤ gi w x ∧ gi w x < n := fun x hx => ⟨(hw.2 x (by omega)).1, ((hd.pw.2 x (by omega)).1 hx).1⟩
      have hav0 : ∀ x : Nat, (x : Int) < n → 0 ≤ gi a x := fun x hx => (hav x (by omega)).1
      have hcv0 : ∀ x : Nat, (x : Int) < n → 0 ≤ gi c x := fun x hx => (hcv x (by omega)).1
      (try simp (disch := first | omega | (simp only [LN]; omega)) only [↓EC, EW, seval, ↓reduceIte, hl, hk])
      refine LP_of (σ := Nat) 100000 [(68, 27, 1), (72, 27, 1), (75, 27, 1)] (fun s => [.int .i64 s])
        (fun s => [.int .i64 n :: vi .u8 (b ++ w), .int .i64 0 :: vi .u8 (List.replicate 32 0), .int .i64 (n * m) :: vi .u8 (cvO m b a s ++ cvO m w c s)])
        (fun s => (s : Int) ≤ n) (fun s => (n - s).toNat) 0 (by simp [frameOk, names, lpz, sclp, scv, scvs, nrfs, nrf, FRB]) (by simp only [Int.natCast_zero]; omega) ?_ ?_
      · simp (disch := first | omega | (simp only [LN]; omega)) only [↓EC, EW, seval, ↓reduceIte, ColV_def]
        rfl
      · rintro x hx
        have okB := cvO_ok hm.1 hnm hn.2 hbv hav0 x hx
        have okW := cvO_ok hm.1 hnm hn.2 hwv hcv0 x hx
        have hlB := okB.len
        have hlW := okW.len
        simp (disch := first | omega | (simp only [LN]; omega)) only [↓EC, EW, seval, ↓reduceIte, ColV_def, lheap_def]
        (refine Split.mk (fun h => ?_) (fun h => ?_) <;> (try simp only [SD] at h))
        · (try simp (disch := first | omega | (simp only [LN]; omega)) only [↓EC, EW, seval, ↓reduceIte, hl, hk])
          refine LP_of (σ := Nat) 200000 [(68, 27, 1), (72, 27, 1), (75, 27, 1)] (fun s => [.int .i64 s])
            (fun s => [.int .i64 n :: vi .u8 (b ++ w), .int .i64 0 :: vi .u8 (List.replicate 32 0), .int .i64 (n * m) :: vi .u8 (cvI m x (cvV m b a x) s (cvO m b a x) ++ cvI m x (cvV m w c x) s (cvO m w c x))])
            (fun s => (s : Int) ≤ m) (fun s => (m - s).toNat) 0 (by simp [frameOk, names, lpz, sclp, scv, scvs, nrfs, nrf, FRB]) (by simp only [Int.natCast_zero]; omega) ?_ ?_
          · simp (disch := first | omega | (simp only [LN]; omega)) only [↓EC, EW, seval, ↓reduceIte, ColV_def]
            rfl
          · rintro i hi
            have okB2 := cvI_ok (m := m) (x := x) (f := cvV m b a x) i okB fun k hk => by have := (cvV_lim (i := k) hm.1 hnm hn.2 (hbv x (by omega)) (hav0 x (by omega))).2.2; omega
            have okW2 := cvI_ok (m := m) (x := x) (f := cvV m w c x) i okW fun k hk => by have := (cvV_lim (i := k) hm.1 hnm hn.2 (hwv x (by omega)) (hcv0 x (by omega))).2.2; omega
            have hlB2 := okB2.len
            have hlW2 := okW2.len
            simp (disch := first | omega | (simp only [LN]; omega)) only [↓EC, EW, seval, ↓reduceIte, ColV_def, lheap_def]
            (refine Split.mk (fun h => ?_) (fun h => ?_) <;> (try simp only [SD] at h))
            · obtain ⟨i1, i2, i3⟩ := idx_lim hm.1 hnm (x := x) (i := i) (by omega) (by omega)
              obtain ⟨⟨u1, u2⟩, ⟨u3, u4⟩, u5, u6⟩ := cvV_lim (i := i) hm.1 hnm hn.2 (hbv x (by omega)) (hav0 x (by omega))
              obtain ⟨⟨w1, w2⟩, ⟨w3, w4⟩, w5, w6⟩ := cvV_lim (i := i) hm.1 hnm hn.2 (hwv x (by omega)) (hcv0 x (by omega))
              have v1 := hav x (by omega)
              have v2 := hcv x (by omega)
              unfold cvV at u5 u6 w5 w6
              have b1 := hbv x (by omega)
              have b2 := hwv x (by omega)
              (try simp (disch := first | omega | (simp only [LN]; omega)) only [↓EC, EW, seval, ↓reduceIte, hl, hk, hlB2, hlW2])
              exact ⟨i + 1, rfl, rfl, by omega, by omega⟩
            · (try simp (disch := first | omega | (simp only [LN]; omega)) only [↓EC, EW, seval, ↓reduceIte])
              have : i = m.toNat := by omega
              subst this
              exact ⟨x + 1, rfl, rfl, by omega, by omega⟩
        · have : x = n.toNat := by omega
          subst this
          (try simp (disch := first | omega | (simp only [LN]; omega)) only [↓EC, EW, seval, ↓reduceIte, hl, hk, hlB, hlW])
          refine pcd_v (c_impl_IsDessin okB okW) ?_
          (try simp (disch := first | omega | (simp only [LN]; omega)) only [↓EC, EW, seval, ↓reduceIte, hl, hk, hlB, hlW])
          unfold covR vDC
          rw [if_neg (by omega), if_neg (by omega)]
          (refine Split.mk (fun h => ?_) (fun h => ?_) <;> (try simp only [SD] at h))
          · (try simp (disch := first | omega | (simp only [LN]; omega)) only [↓EC, EW, seval, ↓reduceIte, hl, hk, hlB, hlW])
            rw [if_neg (by rw [h]; decide)]
            rfl
          · (try simp (disch := first | omega | (simp only [LN]; omega)) only [↓EC, EW, seval, ↓reduceIte, hl, hk, hlB, hlW])
            rw [if_pos h]
            rfl
theorem c_spec_CoverOf {n m : Int} {b w a c : List Int} (hb : okP b) (hw : okP w) (ha : a.length ≤ 1048576) (hc : c.length ≤ 1048576) :
    PSpec Tryz.prog 7 [vD n b w, .int .i64 m, .sl a.length (vi .i64 a), .sl c.length (vi .i64 c)] fun v => v = vDC (covR n b w m a c) := by
  have hl := hb.len
  have hk := hw.len
  refine spec_CoverOf_f.f ?_
  unfold vD
  simp (disch := first | omega | (simp only [LN]; omega)) only [↓EC, EW, seval, ↓reduceIte, spec_CoverOf_F, hl, hk]
  refine pcd_v (c_spec_l09Code hb hw ha hc) ?_
  (try simp (disch := first | omega | (simp only [LN]; omega)) only [↓EC, EW, seval, ↓reduceIte, hl, hk])
  (refine Split.mk (fun h => ?_) (fun h => ?_) <;> (try simp only [SD] at h))
  · unfold covR vDC; rw [if_pos h]; rfl
  · have h0 := h
    obtain ⟨hd, hm, ⟨hal, hav⟩, hcl, hcv⟩ := covC_0 h
    have hn := hd.pb.1
    have hmul := mul_lim (x := n) (y := m) 16 16 (by omega) (by omega)
    (try simp (disch := first | omega | (simp only [LN]; omega)) only [↓EC, EW, seval, ↓reduceIte, hl, hk])
    (refine Split.mk (fun h => ?_) (fun h => ?_) <;> (try simp only [SD] at h))
    · (try simp (disch := first | omega | (simp only [LN]; omega)) only [↓EC, EW, seval, ↓reduceIte])
      unfold covR vDC; rw [if_neg (by omega), if_pos h]; rfl
    · have hnm : n * m ≤ 16 := h
      have hbv : ∀ x : Nat, (x : Int) < n → 0 ≤ gi b x ∧ gi b x < n := fun x hx => ⟨(hb.2 x (by omega)).1, ((hd.pb.2 x (by omega)).1 hx).1⟩
      have hwv : ∀ x : Nat, (x : Int) < n → 0 ≤ gi w x ∧ gi w x < n := fun x hx => ⟨(hw.2 x (by omega)).1, ((hd.pw.2 x (by omega)).1 hx).1⟩
      have hav0 : ∀ x : Nat, (x : Int) < n → 0 ≤ gi a x := fun x hx => (hav x (by omega)).1
      have hcv0 : ∀ x : Nat, (x : Int) < n → 0 ≤ gi c x := fun x hx => (hcv x (by omega)).1
      (try simp (disch := first | omega | (simp only [LN]; omega)) only [↓EC, EW, seval, ↓reduceIte, hl, hk])
      refine LP_of (σ := Nat) 100000 [(68, 27, 1), (72, 27, 1), (75, 27, 1)] (fun s => [.int .i64 s])
        (fun s => [.int .i64 n :: vi .u8 (b ++ w), .int .i64 0 :: vi .u8 (List.replicate 32 0), .int .i64 (n * m) :: vi .u8 (cvO m b a s ++ cvO m w c s)])
        (fun s => (s : Int) ≤ n) (fun s => (n - s).toNat) 0 (by simp [frameOk, names, lpz, sclp, scv, scvs, nrfs, nrf, FRB]) (by simp only [Int.natCast_zero]; omega) ?_ ?_
      · simp (disch := first | omega | (simp only [LN]; omega)) only [↓EC, EW, seval, ↓reduceIte, ColV_def]
        rfl
      · rintro x hx
        have okB := cvO_ok hm.1 hnm hn.2 hbv hav0 x hx
        have okW := cvO_ok hm.1 hnm hn.2 hwv hcv0 x hx
        have hlB := okB.len
        have hlW := okW.len
        simp (disch := first | omega | (simp only [LN]; omega)) only [↓EC, EW, seval, ↓reduceIte, ColV_def, lheap_def]
        (refine Split.mk (fun h => ?_) (fun h => ?_) <;> (try simp only [SD] at h))
        · (try simp (disch := first | omega | (simp only [LN]; omega)) only [↓EC, EW, seval, ↓reduceIte, hl, hk])
          refine LP_of (σ := Nat) 200000 [(68, 27, 1), (72, 27, 1), (75, 27, 1)] (fun s => [.int .i64 s])
            (fun s => [.int .i64 n :: vi .u8 (b ++ w), .int .i64 0 :: vi .u8 (List.replicate 32 0), .int .i64 (n * m) :: vi .u8 (cvI m x (cvV m b a x) s (cvO m b a x) ++ cvI m x (cvV m w c x) s (cvO m w c x))])
            (fun s => (s : Int) ≤ m) (fun s => (m - s).toNat) 0 (by simp [frameOk, names, lpz, sclp, scv, scvs, nrfs, nrf, FRB]) (by simp only [Int.natCast_zero]; omega) ?_ ?_
          · simp (disch := first | omega | (simp only [LN]; omega)) only [↓EC, EW, seval, ↓reduceIte, ColV_def]
            rfl
          · rintro i hi
            have okB2 := cvI_ok (m := m) (x := x) (f := cvV m b a x) i okB fun k hk => by have := (cvV_lim (i := k) hm.1 hnm hn.2 (hbv x (by omega)) (hav0 x (by omega))).2.2; omega
            have okW2 := cvI_ok (m := m) (x := x) (f := cvV m w c x) i okW fun k hk => by have := (cvV_lim (i := k) hm.1 hnm hn.2 (hwv x (by omega)) (hcv0 x (by omega))).2.2; omega
            have hlB2 := okB2.len
            have hlW2 := okW2.len
            simp (disch := first | omega | (simp only [LN]; omega)) only [↓EC, EW, seval, ↓reduceIte, ColV_def, lheap_def]
            (refine Split.mk (fun h => ?_) (fun h => ?_) <;> (try simp only [SD] at h))
            · obtain ⟨i1, i2, i3⟩ := idx_lim hm.1 hnm (x := x) (i := i) (by omega) (by omega)
              obtain ⟨⟨u1, u2⟩, ⟨u3, u4⟩, u5, u6⟩ := cvV_lim (i := i) hm.1 hnm hn.2 (hbv x (by omega)) (hav0 x (by omega))
              obtain ⟨⟨w1, w2⟩, ⟨w3, w4⟩, w5, w6⟩ := cvV_lim (i := i) hm.1 hnm hn.2 (hwv x (by omega)) (hcv0 x (by omega))
              have v1 := hav x (by omega)
              have v2 := hcv x (by omega)
              unfold cvV at u5 u6 w5 w6
              have b1 := hbv x (by omega)
              have b2 := hwv x (by omega)
              (try simp (disch := first | omega | (simp only [LN]; omega)) only [↓EC, EW, seval, ↓reduceIte, hl, hk, hlB2, hlW2])
              exact ⟨i + 1, rfl, rfl, by omega, by omega⟩
            · (try simp (disch := first | omega | (simp only [LN]; omega)) only [↓EC, EW, seval, ↓reduceIte])
              have : i = m.toNat := by omega
              subst this
              exact ⟨x + 1, rfl, rfl, by omega, by omega⟩
        · have : x = n.toNat := by omega
          subst this
          (try simp (disch := first | omega | (simp only [LN]; omega)) only [↓EC, EW, seval, ↓reduceIte, hl, hk, hlB, hlW])
          refine pcd_v (c_spec_l01Is okB okW) ?_
          (try simp (disch := first | omega | (simp only [LN]; omega)) only [↓EC, EW, seval, ↓reduceIte, hl, hk, hlB, hlW])
          unfold covR vDC
          rw [if_neg (by omega), if_neg (by omega)]
          (refine Split.mk (fun h => ?_) (fun h => ?_) <;> (try simp only [SD] at h))
          · (try simp (disch := first | omega | (simp only [LN]; omega)) only [↓EC, EW, seval, ↓reduceIte, hl, hk, hlB, hlW])
            rw [if_neg (by rw [h]; decide)]
            rfl
          · (try simp (disch := first | omega | (simp only [LN]; omega)) only [↓EC, EW, seval, ↓reduceIte, hl, hk, hlB, hlW])
            rw [if_pos h]
            rfl

end Go.Proofs.YtjklebickfcddaaGreatDoor.Sep
end
section
/- Names of darts, renamed dessins, tables of dessins. -/
namespace Go.Proofs.YtjklebickfcddaaGreatDoor.Sep
open Go.RowKit
set_option linter.unusedVariables false
set_option linter.unusedSimpArgs false
set_option maxRecDepth 20000
set_option maxHeartbeats 1000000

/-! ### What is reached from a dart -/
/-! ### Renamed dessins -/
/-! ### Tables -/
theorem c_impl_isDart {n x : Int} {b w : List Int} (hb : b.length = 16) (hw : w.length = 16) : PSpec Tryz.prog 31 [vD n b w, .sl 1 [.int .i64 x]] fun v => v = .bool (decide (0 ≤ x ∧ x < n)) := by
  refine impl_isDart_f.f ?_
  unfold vD
  simp (disch := first | omega | (simp only [LN]; omega)) only [↓EC, EW, seval, ↓reduceIte, impl_isDart_F, hb, hw]
  refine LP_of (σ := Nat) 100000 [(66, 27, 1)] (fun s => [.int .i64 s]) (fun s => [.int .i64 n :: vi .u8 (b ++ w)]) (fun s => s ≤ 1 ∧ (0 < s → 0 ≤ x ∧ x < n)) (fun s => 1 - s) 0 (by simp [frameOk, names, lpz, sclp, scv, scvs, nrfs, nrf, FRB]) ⟨Nat.zero_le _, fun h => absurd h (by decide)⟩ ?_ ?_
  · simp (disch := first | omega | (simp only [LN]; omega)) only [↓EC, EW, seval, ↓reduceIte, ColV_def]
  · rintro s ⟨h1, h2⟩
    simp (disch := first | omega | (simp only [LN]; omega)) only [↓EC, EW, seval, ↓reduceIte, ColV_def, lheap_def]
    (refine Split.mk (fun h => ?_) (fun h => ?_) <;> (try simp only [SD] at h))
    · have : s = 0 := by omega
      subst this
      (try simp (disch := first | omega | (simp only [LN]; omega)) only [↓EC, EW, seval, ↓reduceIte])
      (refine Split.mk (fun h => ?_) (fun h => ?_) <;> (try simp only [SD] at h))
      · (try simp (disch := first | omega | (simp only [LN]; omega)) only [↓EC, EW, seval, ↓reduceIte])
        rw [eq_comm, V.bool.injEq, decide_eq_false_iff_not]; omega
      · (try simp (disch := first | omega | (simp only [LN]; omega)) only [↓EC, EW, seval, ↓reduceIte])
        (refine Split.mk (fun h => ?_) (fun h => ?_) <;> (try simp only [SD] at h))
        · (try simp (disch := first | omega | (simp only [LN]; omega)) only [↓EC, EW, seval, ↓reduceIte])
          rw [eq_comm, V.bool.injEq, decide_eq_false_iff_not]; omega
        · (try simp (disch := first | omega | (simp only [LN]; omega)) only [↓EC, EW, seval, ↓reduceIte])
          exact ⟨1, rfl, ⟨by omega, fun _ => by omega⟩, by omega⟩
    · (try simp (disch := first | omega | (simp only [LN]; omega)) only [↓EC, EW, seval, ↓reduceIte])
      rw [eq_comm, V.bool.injEq, decide_eq_true_eq]
      exact h2 (by omega)
end Go.Proofs.YtjklebickfcddaaGreatDoor.Sep
end
section
/- Walks along words in covers. -/
namespace Go.Proofs.YtjklebickfcddaaGreatDoor.Sep
open Go.RowKit
set_option linter.unusedVariables false
set_option linter.unusedSimpArgs false
set_option maxRecDepth 20000
set_option maxHeartbeats 1000000

/-! ### Steps -/
def stF (p l : List Int) (m : Int) (s : Int × Int) : Int × Int := (gi p s.1.toNat, (s.2 + gi l s.1.toNat).tmod m)
def stB (p l : List Int) (n m : Int) (s : Int × Int) : Int × Int := (gi (backP p n) s.1.toNat, (s.2 - gi l (gi (backP p n) s.1.toNat).toNat + m).tmod m)
def StOk (n m : Int) (s : Int × Int) : Prop := (0 ≤ s.1 ∧ s.1 < n) ∧ (0 ≤ s.2 ∧ s.2 < m)
/-- What a cover's lists are known to be. -/
structure CvOk (n m : Int) (b w a c : List Int) : Prop where
  hn : 1 ≤ n ∧ n ≤ 16
  hm : 1 ≤ m ∧ m ≤ 16
  lb : lo16 b
  lw : lo16 w
  bt : ltP b n
  wt : ltP w n
  al : (a.length : Int) = n
  av : ∀ k : Nat, (k : Int) < n → 0 ≤ gi a k ∧ gi a k < m
  cl : (c.length : Int) = n
  cv : ∀ k : Nat, (k : Int) < n → 0 ≤ gi c k ∧ gi c k < m
theorem CvOk.of {n m : Int} {b w a c : List Int} (hb : okP b) (hw : okP w) (h : covC n b w m a c = 0) : CvOk n m b w a c := by
  obtain ⟨hd, hm, ⟨hal, hav⟩, hcl, hcv⟩ := covC_0 h
  exact ⟨hd.pb.1, hm, hd.pb.lo hb, hd.pw.lo hw, hd.pb.ltP hb, hd.pw.ltP hw, hal, fun k hk => hav k (by omega), hcl, fun k hk => hcv k (by omega)⟩
theorem stF_ok {n m : Int} {p l : List Int} {s : Int × Int} (hm : 1 ≤ m) (hp : ltP p n) (hv : ∀ k : Nat, (k : Int) < n → 0 ≤ gi l k ∧ gi l k < m) (h : StOk n m s) : StOk n m (stF p l m s) := by
  obtain ⟨⟨h1, h2⟩, h3, h4⟩ := h
  have h5 := hv s.1.toNat (by omega)
  exact ⟨hp s.1.toNat (by omega), Int.tmod_nonneg m (by omega), Int.tmod_lt_of_pos _ (by omega)⟩
theorem stB_ok {n m : Int} {p l : List Int} {s : Int × Int} (hn : 1 ≤ n ∧ n ≤ 16) (hm : 1 ≤ m) (hv : ∀ k : Nat, (k : Int) < n → 0 ≤ gi l k ∧ gi l k < m) (h : StOk n m s) : StOk n m (stB p l n m s) := by
  obtain ⟨⟨h1, h2⟩, h3, h4⟩ := h
  have h6 := backP_lt (p := p) hn s.1.toNat (by omega)
  have h5 := hv (gi (backP p n) s.1.toNat).toNat (by omega)
  exact ⟨h6, Int.tmod_nonneg m (by omega), Int.tmod_lt_of_pos _ (by omega)⟩
section
variable (n m : Int) (b w a c : List Int)
def wk1 (L : Int) (s : Int × Int) : Int × Int :=
  if L = 98 then stF b a m s else if L = 119 then stF w c m s else if L = 66 then stB b a n m s else if L = 87 then stB w c n m s else s
def expL (L : Int) : List Int := if L = 102 then [87, 66] else if L = 70 then [98, 119] else [L]
def wkX (s : Int × Int) (u : List Int) : Nat → Int × Int
  | 0 => s
  | k + 1 => wk1 n m b w a c (gi u k) (wkX s u k)
def wkL (L : Int) (s : Int × Int) : Int × Int := wkX n m b w a c s (expL L) (expL L).length
def wkT (s : Int × Int) (t : List Int) : Nat → Int × Int
  | 0 => s
  | i + 1 => wkL n m b w a c (gi t i) (wkT s t i)
end
section
variable {n m : Int} {b w a c : List Int}
theorem wk1_ok (hc : CvOk n m b w a c) {L : Int} {s : Int × Int} (h : StOk n m s) : StOk n m (wk1 n m b w a c L s) := by
  unfold wk1
  have hm := hc.hm.1
  split
  · exact stF_ok hm hc.bt hc.av h
  split
  · exact stF_ok hm hc.wt hc.cv h
  split
  · exact stB_ok hc.hn hm hc.av h
  split
  · exact stB_ok hc.hn hm hc.cv h
  · exact h
theorem wkX_ok (hc : CvOk n m b w a c) {s : Int × Int} {u : List Int} (h : StOk n m s) : ∀ k, StOk n m (wkX n m b w a c s u k)
  | 0 => h
  | k + 1 => wk1_ok hc (wkX_ok hc h k)
theorem wkT_ok (hc : CvOk n m b w a c) {s : Int × Int} {t : List Int} (h : StOk n m s) : ∀ k, StOk n m (wkT n m b w a c s t k)
  | 0 => h
  | k + 1 => wkX_ok hc (wkT_ok hc h k) _
variable {s : Int × Int} {t : List Int} {i : Nat}
theorem wkT_98 (h : gi t i = 98) : wkT n m b w a c s t (i + 1) = stF b a m (wkT n m b w a c s t i) := by simp only [wkT, wkL, h]; rfl
theorem wkT_119 (h : gi t i = 119) : wkT n m b w a c s t (i + 1) = stF w c m (wkT n m b w a c s t i) := by simp only [wkT, wkL, h]; rfl
theorem wkT_66 (h : gi t i = 66) : wkT n m b w a c s t (i + 1) = stB b a n m (wkT n m b w a c s t i) := by simp only [wkT, wkL, h]; rfl
theorem wkT_87 (h : gi t i = 87) : wkT n m b w a c s t (i + 1) = stB w c n m (wkT n m b w a c s t i) := by simp only [wkT, wkL, h]; rfl
theorem wkT_102 (h : gi t i = 102) : wkT n m b w a c s t (i + 1) = stB b a n m (stB w c n m (wkT n m b w a c s t i)) := by simp only [wkT, wkL, h]; rfl
theorem wkT_70 (h : gi t i = 70) : wkT n m b w a c s t (i + 1) = stF w c m (stF b a m (wkT n m b w a c s t i)) := by simp only [wkT, wkL, h]; rfl
theorem wkT_else (h1 : ¬ gi t i = 98) (h2 : ¬ gi t i = 119) (h3 : ¬ gi t i = 102) (h4 : ¬ gi t i = 66) (h5 : ¬ gi t i = 87) (h6 : ¬ gi t i = 70) : wkT n m b w a c s t (i + 1) = wkT n m b w a c s t i := by
  simp only [wkT, wkL, expL, if_neg h3, if_neg h6]
  show wk1 n m b w a c (gi t i) (wkT n m b w a c s t i) = _
  simp only [wk1, if_neg h1, if_neg h2, if_neg h4, if_neg h5]
end

/-! ### The closures -/
theorem mvs_vi {bs : List Nat} {h : Hp} {k : IntKind} {l : List Int} : mvs bs h (vi k l) = vi k l := by induction l <;> simp_all [vi, mvs, mv]
theorem c_fwd {n m x y : Int} {p l : List Int} (hp : p.length = 16) (hpt : ltP p n) (hn : n ≤ 16) (hl : (l.length : Int) = n) (hm : 1 ≤ m ∧ m ≤ 16) (hv : ∀ k : Nat, (k : Int) < n → 0 ≤ gi l k ∧ gi l k < m) (hx : StOk n m (x, y)) :
    PSpecM Tryz.prog 36 [.agg (vi .u8 p), .sl l.length (vi .i64 l), .ptr 0 0, .ptr 1 0, .pf [.int .i64 m] 0] [(0, 2, 1), (1, 2, 1)] [[.int .i64 y], [.int .i64 x]]
      fun v cs => v = .tup [] ∧ cs = [[.int .i64 (stF p l m (x, y)).2], [.int .i64 (stF p l m (x, y)).1]] := by
  obtain ⟨⟨h1, h2⟩, h3, h4⟩ := hx
  simp only at h1 h2 h3 h4
  have h5 := hv x.toNat (by omega)
  have h6 := hpt x.toNat (by omega)
  refine impl_WalkOf_1_f.m rfl rfl ?_
  simp (disch := first | omega | (simp only [LN]; omega)) only [↓EC, EW, seval, ↓reduceIte, impl_WalkOf_1_F, hp]
  rfl
theorem c_bwd {n m x y : Int} {b w p l : List Int} (hb : b.length = 16) (hw : w.length = 16) (hp : lo16 p) (hn : 1 ≤ n ∧ n ≤ 16) (hl : (l.length : Int) = n) (hm : 1 ≤ m ∧ m ≤ 16) (hv : ∀ k : Nat, (k : Int) < n → 0 ≤ gi l k ∧ gi l k < m) (hx : StOk n m (x, y)) :
    PSpecM Tryz.prog 37 [.agg (vi .u8 p), .sl l.length (vi .i64 l), .pf (.int .i64 n :: vi .u8 (b ++ w)) 0, .ptr 1 0, .ptr 0 0, .pf [.int .i64 m] 0] [(0, 2, 1), (1, 2, 1)] [[.int .i64 y], [.int .i64 x]]
      fun v cs => v = .tup [] ∧ cs = [[.int .i64 (stB p l n m (x, y)).2], [.int .i64 (stB p l n m (x, y)).1]] := by
  obtain ⟨⟨h1, h2⟩, h3, h4⟩ := hx
  simp only at h1 h2 h3 h4
  have h6 := backP_lt (p := p) hn x.toNat (by omega)
  have h5 := hv (gi (backP p n) x.toNat).toNat (by omega)
  have hpl := hp.1
  have hk := (backP_lo (p := p) hn).1
  have hcb := c_impl_back hp hn
  change PSpec _ _ _ (fun v => v = .agg (vi .u8 (backP p n))) at hcb
  refine impl_WalkOf_2_f.m rfl rfl ?_
  simp (disch := first | omega | (simp only [LN]; omega)) only [↓EC, EW, seval, ↓reduceIte, impl_WalkOf_2_F, hpl, hb, hw]
  refine pcd_v hcb ?_
  (try simp (disch := first | omega | (simp only [LN]; omega)) only [↓EC, EW, seval, ↓reduceIte, hpl, hb, hw, hk])
  rfl

/-! ### Spellings -/
def bwf : List UInt8 := [98, 119, 102, 66, 87, 70]
def sprt (x : Int) : Prop := x = 98 ∨ x = 119 ∨ x = 102 ∨ x = 66 ∨ x = 87 ∨ x = 70
instance {x : Int} : Decidable (sprt x) := by unfold sprt; infer_instance
def isSp (s : List UInt8) : Bool := decide (s.length ≤ 60 ∧ ∀ c ∈ s, c ∈ bwf)
theorem sprt_mem {c : UInt8} : c ∈ bwf ↔ sprt (c.toNat : Int) := by
  simp only [bwf, List.mem_cons, List.not_mem_nil, or_false, sprt]
  constructor
  · rintro (rfl | rfl | rfl | rfl | rfl | rfl)
    · exact .inl rfl
    · exact .inr (.inl rfl)
    · exact .inr (.inr (.inl rfl))
    · exact .inr (.inr (.inr (.inl rfl)))
    · exact .inr (.inr (.inr (.inr (.inl rfl))))
    · exact .inr (.inr (.inr (.inr (.inr rfl))))
  · intro h
    have : ∀ n : UInt8, (c.toNat : Int) = n.toNat → c = n := fun n h => UInt8.toNat_inj.1 (by omega)
    rcases h with h | h | h | h | h | h
    · exact .inl (this 98 h)
    · exact .inr (.inl (this 119 h))
    · exact .inr (.inr (.inl (this 102 h)))
    · exact .inr (.inr (.inr (.inl (this 66 h))))
    · exact .inr (.inr (.inr (.inr (.inl (this 87 h)))))
    · exact .inr (.inr (.inr (.inr (.inr (this 70 h)))))
theorem sprt_iff {s : List UInt8} : (∀ c ∈ s, c ∈ bwf) ↔ ∀ i, i < s.length → sprt (gi (ub s) i) := by
  constructor
  · intro h i hi
    rw [← ub_at, ← sprt_mem, List.getD, List.getElem?_eq_getElem hi]
    exact h _ (List.getElem_mem hi)
  · intro h c hc
    obtain ⟨j, h1, h2⟩ := List.getElem_of_mem hc
    have h3 := h j h1
    rw [← ub_at, List.getD, List.getElem?_eq_getElem h1] at h3
    rw [sprt_mem, ← h2]; exact h3
theorem c_impl_isSpelled {s : List UInt8} (hs : s.length ≤ 1048576) : PSpec Tryz.prog 35 [.str s] fun v => v = .bool (isSp s) := by
  refine impl_isSpelled_f.f ?_
  simp (disch := first | omega | (simp only [LN]; omega)) only [↓EC, EW, seval, ↓reduceIte, impl_isSpelled_F]
  have ht := c_Trim (s := s) (cs := bwf) hs (by decide) (by decide)
  have hq : (tlT (asT bwf bwf.length) (trT (asT bwf bwf.length) s) = []) ↔ ∀ c ∈ s, c ∈ bwf := by
    rw [trim_nil]; simp only [asT_in]
  generalize tlT (asT bwf bwf.length) (trT (asT bwf bwf.length) s) = t at *
  (refine Split.mk (fun h => ?_) (fun h => ?_) <;> (try simp only [SD] at h))
  · (try simp (disch := first | omega | (simp only [LN]; omega)) only [↓EC, EW, seval, ↓reduceIte])
    refine pcd_v ht ?_
    (try simp (disch := first | omega | (simp only [LN]; omega)) only [↓EC, EW, seval, ↓reduceIte])
    have h' : s.length ≤ 60 := by omega
    simp only [isSp, h', true_and, ← hq]
    cases t <;> rfl
  · (try simp (disch := first | omega | (simp only [LN]; omega)) only [↓EC, EW, seval, ↓reduceIte])
    have h' : ¬ s.length ≤ 60 := by omega
    simp only [isSp, h', false_and, decide_false]

/-! ### The walk -/
theorem c_impl_WalkOf {n m x y : Int} {b w a c : List Int} {s : List UInt8} (hb : okP b) (hw : okP w) (ha : a.length ≤ 1048576) (hc : c.length ≤ 1048576) (hs : s.length ≤ 1048576) (h0 : covC n b w m a c = 0) (hx : StOk n m (x, y)) (hsp : isSp s = true) :
    PSpec Tryz.prog 17 [vD n b w, .int .i64 m, .sl a.length (vi .i64 a), .sl c.length (vi .i64 c), .int .i64 x, .int .i64 y, .str s] fun v =>
      v = .tup [.own 2 1 2 (vi .i64 [(wkT n m b w a c (x, y) (ub s) s.length).1, (wkT n m b w a c (x, y) (ub s) s.length).2]), .int .i64 0] := by
  have hl := hb.len
  have hk := hw.len
  have hcv := CvOk.of hb hw h0
  obtain ⟨⟨x0, x1⟩, y0, y1⟩ := id hx
  simp only at x0 x1 y0 y1
  refine impl_WalkOf_f.f ?_
  have g1 := c_impl_coverCode (n := n) (m := m) hb hw ha hc
  have g2 := c_impl_isDart (n := n) (x := x) (b := b) (w := w) hl hk
  have d1 : decide (0 ≤ x ∧ x < n) = true := by simp only [decide_eq_true_eq]; omega
  rw [d1] at g2
  unfold vD at g1 g2 ⊢
  simp (disch := first | omega | (simp only [LN]; omega)) only [↓EC, EW, seval, ↓reduceIte, impl_WalkOf_F, hl, hk]
  refine pcd_v g1 ?_
  (try simp (disch := first | omega | (simp only [LN]; omega)) only [↓EC, EW, seval, ↓reduceIte, hl, hk, h0])
  refine pcd_v g2 ?_
  (try simp (disch := first | omega | (simp only [LN]; omega)) only [↓EC, EW, seval, ↓reduceIte, hl, hk])
  (refine Split.mk (fun h => ?_) (fun h => ?_) <;> (try simp only [SD] at h))
  · omega
  (refine Split.mk (fun h => ?_) (fun h => ?_) <;> (try simp only [SD] at h))
  · omega
  (try simp (disch := first | omega | (simp only [LN]; omega)) only [↓EC, EW, seval, ↓reduceIte, hl, hk])
  refine pcd_v (c_impl_isSpelled hs) ?_
  (try simp (disch := first | omega | (simp only [LN]; omega)) only [↓EC, EW, seval, ↓reduceIte, hl, hk, hsp])
  have f1 : isFn Tryz.prog 36 = true := by kernel_rfl
  have f2 : isFn Tryz.prog 37 = true := by kernel_rfl
  have hst := fun i => wkT_ok hcv (t := ub s) hx i
  refine LP_of (σ := Nat) 100000 [(71, 27, 1), (72, 2, 1), (75, 2, 1), (76, 2, 1)] (fun i => [.int .i64 i])
    (fun i => [.int .i64 n :: vi .u8 (b ++ w), [.int .i64 m], [.int .i64 (wkT n m b w a c (x, y) (ub s) i).1], [.int .i64 (wkT n m b w a c (x, y) (ub s) i).2]])
    (fun i => i ≤ s.length) (fun i => s.length - i) 0 (by simp [frameOk, names, lpz, sclp, scv, scvs, nrfs, nrf, FRB]) (Nat.zero_le _) ?_ ?_
  · simp (disch := first | omega | (simp only [LN]; omega)) only [↓EC, EW, seval, ↓reduceIte, ColV_def]
    rfl
  · rintro i h1
    have hi := hst i
    have q1 := fun h => wkT_98 (n := n) (m := m) (b := b) (w := w) (a := a) (c := c) (s := (x, y)) (t := ub s) (i := i) h
    have q2 := fun h => wkT_119 (n := n) (m := m) (b := b) (w := w) (a := a) (c := c) (s := (x, y)) (t := ub s) (i := i) h
    have q3 := fun h => wkT_66 (n := n) (m := m) (b := b) (w := w) (a := a) (c := c) (s := (x, y)) (t := ub s) (i := i) h
    have q4 := fun h => wkT_87 (n := n) (m := m) (b := b) (w := w) (a := a) (c := c) (s := (x, y)) (t := ub s) (i := i) h
    have q5 := fun h => wkT_102 (n := n) (m := m) (b := b) (w := w) (a := a) (c := c) (s := (x, y)) (t := ub s) (i := i) h
    have q6 := fun h => wkT_70 (n := n) (m := m) (b := b) (w := w) (a := a) (c := c) (s := (x, y)) (t := ub s) (i := i) h
    have q7 := wkT_else (n := n) (m := m) (b := b) (w := w) (a := a) (c := c) (s := (x, y)) (t := ub s) (i := i)
    have hnx : ∀ S, wkT n m b w a c (x, y) (ub s) (i + 1) = S → S = wkT n m b w a c (x, y) (ub s) (i + 1) := fun S h => h.symm
    simp (disch := first | omega | (simp only [LN]; omega)) only [↓EC, EW, seval, ↓reduceIte, ColV_def, lheap_def]
    (refine Split.mk (fun h => ?_) (fun h => ?_) <;> (try simp only [SD] at h))
    · generalize wkT n m b w a c (x, y) (ub s) i = T at *
      obtain ⟨u, v⟩ := T
      (try simp (disch := first | omega | (simp only [LN]; omega)) only [↓EC, EW, seval, ↓reduceIte, EB, hl, hk, f1, f2, mvs_vi])
      (refine Split.mk (fun h => ?_) (fun h => ?_) <;> (try simp only [SD] at h))
      · (try simp (disch := first | omega | (simp only [LN]; omega)) only [↓EC, EW, seval, ↓reduceIte, EB, hl, hk, f1, f2, mvs_vi])
        refine pcm [76, 75] rfl ?_
        (try simp (disch := first | omega | (simp only [LN]; omega)) only [↓EC, EW, seval, ↓reduceIte, EB, hl, hk, f1, f2, mvs_vi])
        refine callM_v (c_fwd hl hcv.bt hcv.hn.2 hcv.al hcv.hm hcv.av hi) ?_
        (try simp (disch := first | omega | (simp only [LN]; omega)) only [↓EC, EW, seval, ↓reduceIte, EB, hl, hk, f1, f2, mvs_vi])
        exact ⟨i + 1, by simp, by rw [q1 h], by omega, by omega⟩
      (try simp (disch := first | omega | (simp only [LN]; omega)) only [↓EC, EW, seval, ↓reduceIte, EB, hl, hk, f1, f2, mvs_vi])
      (refine Split.mk (fun h => ?_) (fun h => ?_) <;> (try simp only [SD] at h))
      · (try simp (disch := first | omega | (simp only [LN]; omega)) only [↓EC, EW, seval, ↓reduceIte, EB, hl, hk, f1, f2, mvs_vi])
        refine pcm [76, 75] rfl ?_
        (try simp (disch := first | omega | (simp only [LN]; omega)) only [↓EC, EW, seval, ↓reduceIte, EB, hl, hk, f1, f2, mvs_vi])
        refine callM_v (c_fwd hk hcv.wt hcv.hn.2 hcv.cl hcv.hm hcv.cv hi) ?_
        (try simp (disch := first | omega | (simp only [LN]; omega)) only [↓EC, EW, seval, ↓reduceIte, EB, hl, hk, f1, f2, mvs_vi])
        exact ⟨i + 1, by simp, by rw [q2 h], by omega, by omega⟩
      (try simp (disch := first | omega | (simp only [LN]; omega)) only [↓EC, EW, seval, ↓reduceIte, EB, hl, hk, f1, f2, mvs_vi])
      (refine Split.mk (fun h => ?_) (fun h => ?_) <;> (try simp only [SD] at h))
      · (try simp (disch := first | omega | (simp only [LN]; omega)) only [↓EC, EW, seval, ↓reduceIte, EB, hl, hk, f1, f2, mvs_vi])
        refine pcm [76, 75] rfl ?_
        (try simp (disch := first | omega | (simp only [LN]; omega)) only [↓EC, EW, seval, ↓reduceIte, EB, hl, hk, f1, f2, mvs_vi])
        refine callM_v (c_bwd hl hk hcv.lw hcv.hn hcv.cl hcv.hm hcv.cv hi) ?_
        have hi2 := stB_ok (p := w) hcv.hn hcv.hm.1 hcv.cv hi
        rw [h] at q5
        have q5 := q5 rfl
        generalize stB w c n m (u, v) = T2 at *
        obtain ⟨u2, v2⟩ := T2
        (try simp (disch := first | omega | (simp only [LN]; omega)) only [↓EC, EW, seval, ↓reduceIte, EB, hl, hk, f1, f2, mvs_vi])
        refine pcm [76, 75] rfl ?_
        (try simp (disch := first | omega | (simp only [LN]; omega)) only [↓EC, EW, seval, ↓reduceIte, EB, hl, hk, f1, f2, mvs_vi])
        refine callM_v (c_bwd hl hk hcv.lb hcv.hn hcv.al hcv.hm hcv.av hi2) ?_
        (try simp (disch := first | omega | (simp only [LN]; omega)) only [↓EC, EW, seval, ↓reduceIte, EB, hl, hk, f1, f2, mvs_vi])
        exact ⟨i + 1, by simp, by rw [q5], by omega, by omega⟩
      (try simp (disch := first | omega | (simp only [LN]; omega)) only [↓EC, EW, seval, ↓reduceIte, EB, hl, hk, f1, f2, mvs_vi])
      (refine Split.mk (fun h => ?_) (fun h => ?_) <;> (try simp only [SD] at h))
      · (try simp (disch := first | omega | (simp only [LN]; omega)) only [↓EC, EW, seval, ↓reduceIte, EB, hl, hk, f1, f2, mvs_vi])
        refine pcm [76, 75] rfl ?_
        (try simp (disch := first | omega | (simp only [LN]; omega)) only [↓EC, EW, seval, ↓reduceIte, EB, hl, hk, f1, f2, mvs_vi])
        refine callM_v (c_bwd hl hk hcv.lb hcv.hn hcv.al hcv.hm hcv.av hi) ?_
        (try simp (disch := first | omega | (simp only [LN]; omega)) only [↓EC, EW, seval, ↓reduceIte, EB, hl, hk, f1, f2, mvs_vi])
        exact ⟨i + 1, by simp, by rw [q3 h], by omega, by omega⟩
      (try simp (disch := first | omega | (simp only [LN]; omega)) only [↓EC, EW, seval, ↓reduceIte, EB, hl, hk, f1, f2, mvs_vi])
      (refine Split.mk (fun h => ?_) (fun h => ?_) <;> (try simp only [SD] at h))
      · (try simp (disch := first | omega | (simp only [LN]; omega)) only [↓EC, EW, seval, ↓reduceIte, EB, hl, hk, f1, f2, mvs_vi])
        refine pcm [76, 75] rfl ?_
        (try simp (disch := first | omega | (simp only [LN]; omega)) only [↓EC, EW, seval, ↓reduceIte, EB, hl, hk, f1, f2, mvs_vi])
        refine callM_v (c_bwd hl hk hcv.lw hcv.hn hcv.cl hcv.hm hcv.cv hi) ?_
        (try simp (disch := first | omega | (simp only [LN]; omega)) only [↓EC, EW, seval, ↓reduceIte, EB, hl, hk, f1, f2, mvs_vi])
        exact ⟨i + 1, by simp, by rw [q4 h], by omega, by omega⟩
      (try simp (disch := first | omega | (simp only [LN]; omega)) only [↓EC, EW, seval, ↓reduceIte, EB, hl, hk, f1, f2, mvs_vi])
      (refine Split.mk (fun h => ?_) (fun h => ?_) <;> (try simp only [SD] at h))
      · (try simp (disch := first | omega | (simp only [LN]; omega)) only [↓EC, EW, seval, ↓reduceIte, EB, hl, hk, f1, f2, mvs_vi])
        refine pcm [76, 75] rfl ?_
        (try simp (disch := first | omega | (simp only [LN]; omega)) only [↓EC, EW, seval, ↓reduceIte, EB, hl, hk, f1, f2, mvs_vi])
        refine callM_v (c_fwd hl hcv.bt hcv.hn.2 hcv.al hcv.hm hcv.av hi) ?_
        have hi2 := stF_ok (p := b) hcv.hm.1 hcv.bt hcv.av hi
        rw [h] at q6
        have q6 := q6 rfl
        generalize stF b a m (u, v) = T2 at *
        obtain ⟨u2, v2⟩ := T2
        (try simp (disch := first | omega | (simp only [LN]; omega)) only [↓EC, EW, seval, ↓reduceIte, EB, hl, hk, f1, f2, mvs_vi])
        refine pcm [76, 75] rfl ?_
        (try simp (disch := first | omega | (simp only [LN]; omega)) only [↓EC, EW, seval, ↓reduceIte, EB, hl, hk, f1, f2, mvs_vi])
        refine callM_v (c_fwd hk hcv.wt hcv.hn.2 hcv.cl hcv.hm hcv.cv hi2) ?_
        (try simp (disch := first | omega | (simp only [LN]; omega)) only [↓EC, EW, seval, ↓reduceIte, EB, hl, hk, f1, f2, mvs_vi])
        exact ⟨i + 1, by simp, by rw [q6], by omega, by omega⟩
      · (try simp (disch := first | omega | (simp only [LN]; omega)) only [↓EC, EW, seval, ↓reduceIte, EB, hl, hk, f1, f2, mvs_vi])
        exact ⟨i + 1, by simp, by rw [q7 (by assumption) (by assumption) (by assumption) (by assumption) (by assumption) (by assumption)], by omega, by omega⟩
    · have : i = s.length := by omega
      subst this
      (try simp (disch := first | omega | (simp only [LN]; omega)) only [↓EC, EW, seval, ↓reduceIte])
      rfl

/-! ### The reference -/
theorem c_spec_l03Value {n : Int} {b w : List Int} {s : List UInt8} (hb : lo16 b) (hw : lo16 w) (hn : 1 ≤ n ∧ n ≤ 16) (hs : s.length ≤ 1048576) :
    PSpec Tryz.prog 44 [vD n b w, .str s] fun v => ∃ q : List Int, q.length = 16 ∧ v = .tup [.agg (vi .u8 q), .bool (isSp s)] := by
  have hl := hb.1
  have hk := hw.1
  have hrl : (List.replicate 16 (0 : Int)).length = 16 := by simp
  refine spec_l03Value_f.f ?_
  have g1 := c_spec_l01Face hb hw hn
  have g2 := c_spec_l01Same hn
  change PSpec _ _ _ (fun v => v = .agg (vi .u8 (sameP n))) at g2
  have fl := (backP_lo (p := thenP b w n) hn)
  change lo16 (faceP b w n) at fl
  have fl1 := fl.1
  have sl := sameP_lo hn
  have sl1 := sl.1
  unfold vD at g1 ⊢
  simp (config := { maxSteps := 10000000 }) (disch := first | omega | (simp only [LN]; omega)) only [↓EC, EW, seval, ↓reduceIte, spec_l03Value_F, hl, hk]
  (refine Split.mk (fun h => ?_) (fun h => ?_) <;> (try simp only [SD] at h))
  · (try simp (disch := first | omega | (simp only [LN]; omega)) only [↓EC, EW, seval, ↓reduceIte, setV_vv])
    refine ⟨List.replicate 16 0, hrl, ?_⟩
    have : isSp s = false := by
      unfold isSp; rw [decide_eq_false_iff_not]; intro h'; omega
    rw [this]; rfl
  · (try simp (disch := first | omega | (simp only [LN]; omega)) only [↓EC, EW, seval, ↓reduceIte, hl, hk])
    refine pcd_v g1 ?_
    (try simp (disch := first | omega | (simp only [LN]; omega)) only [↓EC, EW, seval, ↓reduceIte, hl, hk, fl1])
    refine pcd_v g2 ?_
    (try simp (disch := first | omega | (simp only [LN]; omega)) only [↓EC, EW, seval, ↓reduceIte, hl, hk, fl1, sl1, setV_vv])
    generalize sameP n = q0 at *
    refine LP_of (σ := Nat × List Int) 100000 [(66, 27, 1), (68, 25, 1), (71, 25, 1), (72, 25, 1)] (fun t => [.int .i64 t.1])
      (fun t => [.int .i64 n :: vi .u8 (b ++ w), vi .u8 (List.replicate 16 0), vi .u8 (faceP b w n), vi .u8 t.2])
      (fun t => t.1 ≤ s.length ∧ lo16 t.2 ∧ ∀ j, j < t.1 → sprt (gi (ub s) j)) (fun t => s.length - t.1) (0, q0) (by simp [frameOk, names, lpz, sclp, scv, scvs, nrfs, nrf, FRB]) ⟨Nat.zero_le _, sl, fun j hj => absurd hj (Nat.not_lt_zero j)⟩ ?_ ?_
    · simp (disch := first | omega | (simp only [LN]; omega)) only [↓EC, EW, seval, ↓reduceIte, ColV_def]
    · rintro ⟨i, q⟩ ⟨h1, h2, h3⟩
      simp only at h1 h2 h3
      have hql := h2.1
      simp (disch := first | omega | (simp only [LN]; omega)) only [↓EC, EW, seval, ↓reduceIte, ColV_def, lheap_def]
      (refine Split.mk (fun h => ?_) (fun h => ?_) <;> (try simp only [SD] at h))
      · have hstep : sprt (gi (ub s) i) → ∀ j, j < i + 1 → sprt (gi (ub s) j) := fun h j hj => by
          by_cases e : j = i
          · subst e; exact h
          · exact h3 j (by omega)
        have key : ∀ p : List Int, lo16 p → PSpec Tryz.prog 71 [.agg (vi .u8 q), .agg (vi .u8 p), .int .i64 n] fun v => v = .agg (vi .u8 (thenP q p n)) := fun p hp => c_spec_l01Then h2 hp hn
        have keyb : ∀ p : List Int, lo16 p → PSpec Tryz.prog 45 [.agg (vi .u8 p), .int .i64 n] fun v => v = .agg (vi .u8 (backP p n)) := fun p hp => c_spec_l01Back hp hn
        have bl : ∀ p : List Int, (backP p n).length = 16 := fun p => (backP_lo (p := p) hn).1
        have tl : ∀ p : List Int, lo16 p → lo16 (thenP q p n) := fun p hp => thenP_lo h2 hp hn
        have tl1 : ∀ p : List Int, lo16 p → (thenP q p n).length = 16 := fun p hp => (tl p hp).1
        have t1 := tl1 _ hb
        have t2 := tl1 _ hw
        have t3 := tl1 _ fl
        have t4 := tl1 _ (backP_lo (p := b) hn)
        have t5 := tl1 _ (backP_lo (p := w) hn)
        have t6 := tl1 _ (backP_lo (p := faceP b w n) hn)
        have u1 := bl b
        have u2 := bl w
        have u3 := bl (faceP b w n)
        by_cases e1 : gi (ub s) i = 98
        · (try simp (disch := first | omega | (simp only [LN]; omega)) only [↓EC, EW, seval, ↓reduceIte, EB, hl, hk, hql, fl1, t1, t2, t3, t4, t5, t6, u1, u2, u3, e1, setV_vv])
          refine pcd_v (key _ hb) ?_
          (try simp (disch := first | omega | (simp only [LN]; omega)) only [↓EC, EW, seval, ↓reduceIte, EB, hl, hk, hql, fl1, t1, t2, t3, t4, t5, t6, u1, u2, u3, setV_vv])
          exact ⟨(i + 1, thenP q b n), rfl, rfl, ⟨by simp only; omega, tl _ hb, hstep (by rw [e1]; decide)⟩, by simp only; omega⟩
        by_cases e2 : gi (ub s) i = 66
        · (try simp (disch := first | omega | (simp only [LN]; omega)) only [↓EC, EW, seval, ↓reduceIte, EB, hl, hk, hql, fl1, t1, t2, t3, t4, t5, t6, u1, u2, u3, e2, setV_vv])
          refine pcd_v (keyb _ hb) ?_
          (try simp (disch := first | omega | (simp only [LN]; omega)) only [↓EC, EW, seval, ↓reduceIte, EB, hl, hk, hql, fl1, t1, t2, t3, t4, t5, t6, u1, u2, u3, setV_vv])
          refine pcd_v (key _ (backP_lo hn)) ?_
          (try simp (disch := first | omega | (simp only [LN]; omega)) only [↓EC, EW, seval, ↓reduceIte, EB, hl, hk, hql, fl1, t1, t2, t3, t4, t5, t6, u1, u2, u3, setV_vv])
          exact ⟨(i + 1, thenP q (backP b n) n), rfl, rfl, ⟨by simp only; omega, tl _ (backP_lo hn), hstep (by rw [e2]; decide)⟩, by simp only; omega⟩
        by_cases e3 : gi (ub s) i = 119
        · (try simp (disch := first | omega | (simp only [LN]; omega)) only [↓EC, EW, seval, ↓reduceIte, EB, hl, hk, hql, fl1, t1, t2, t3, t4, t5, t6, u1, u2, u3, e3, setV_vv])
          refine pcd_v (key _ hw) ?_
          (try simp (disch := first | omega | (simp only [LN]; omega)) only [↓EC, EW, seval, ↓reduceIte, EB, hl, hk, hql, fl1, t1, t2, t3, t4, t5, t6, u1, u2, u3, setV_vv])
          exact ⟨(i + 1, thenP q w n), rfl, rfl, ⟨by simp only; omega, tl _ hw, hstep (by rw [e3]; decide)⟩, by simp only; omega⟩
        by_cases e4 : gi (ub s) i = 87
        · (try simp (disch := first | omega | (simp only [LN]; omega)) only [↓EC, EW, seval, ↓reduceIte, EB, hl, hk, hql, fl1, t1, t2, t3, t4, t5, t6, u1, u2, u3, e4, setV_vv])
          refine pcd_v (keyb _ hw) ?_
          (try simp (disch := first | omega | (simp only [LN]; omega)) only [↓EC, EW, seval, ↓reduceIte, EB, hl, hk, hql, fl1, t1, t2, t3, t4, t5, t6, u1, u2, u3, setV_vv])
          refine pcd_v (key _ (backP_lo hn)) ?_
          (try simp (disch := first | omega | (simp only [LN]; omega)) only [↓EC, EW, seval, ↓reduceIte, EB, hl, hk, hql, fl1, t1, t2, t3, t4, t5, t6, u1, u2, u3, setV_vv])
          exact ⟨(i + 1, thenP q (backP w n) n), rfl, rfl, ⟨by simp only; omega, tl _ (backP_lo hn), hstep (by rw [e4]; decide)⟩, by simp only; omega⟩
        by_cases e5 : gi (ub s) i = 102
        · (try simp (disch := first | omega | (simp only [LN]; omega)) only [↓EC, EW, seval, ↓reduceIte, EB, hl, hk, hql, fl1, t1, t2, t3, t4, t5, t6, u1, u2, u3, e5, setV_vv])
          refine pcd_v (key _ fl) ?_
          (try simp (disch := first | omega | (simp only [LN]; omega)) only [↓EC, EW, seval, ↓reduceIte, EB, hl, hk, hql, fl1, t1, t2, t3, t4, t5, t6, u1, u2, u3, setV_vv])
          exact ⟨(i + 1, thenP q (faceP b w n) n), rfl, rfl, ⟨by simp only; omega, tl _ fl, hstep (by rw [e5]; decide)⟩, by simp only; omega⟩
        by_cases e6 : gi (ub s) i = 70
        · (try simp (disch := first | omega | (simp only [LN]; omega)) only [↓EC, EW, seval, ↓reduceIte, EB, hl, hk, hql, fl1, t1, t2, t3, t4, t5, t6, u1, u2, u3, e6, setV_vv])
          refine pcd_v (keyb _ fl) ?_
          (try simp (disch := first | omega | (simp only [LN]; omega)) only [↓EC, EW, seval, ↓reduceIte, EB, hl, hk, hql, fl1, t1, t2, t3, t4, t5, t6, u1, u2, u3, setV_vv])
          refine pcd_v (key _ (backP_lo hn)) ?_
          (try simp (disch := first | omega | (simp only [LN]; omega)) only [↓EC, EW, seval, ↓reduceIte, EB, hl, hk, hql, fl1, t1, t2, t3, t4, t5, t6, u1, u2, u3, setV_vv])
          exact ⟨(i + 1, thenP q (backP (faceP b w n) n) n), rfl, rfl, ⟨by simp only; omega, tl _ (backP_lo hn), hstep (by rw [e6]; decide)⟩, by simp only; omega⟩
        · have hno : isSp s = false := by
            unfold isSp; rw [decide_eq_false_iff_not]
            rintro ⟨_, h'⟩
            have := sprt_iff.1 h' i (by omega)
            unfold sprt at this
            omega
          (try simp (disch := first | omega | (simp only [LN]; omega)) only [↓EC, EW, seval, ↓reduceIte, EB, hl, hk, hql, fl1, t1, t2, t3, t4, t5, t6, u1, u2, u3, e1, e2, e3, e4, e5, e6, setV_vv])
          repeat' first
            | (refine Split.mk (fun h => ?_) (fun h => ?_) <;> (try simp only [SD] at h))
            | omega
            | contradiction
          all_goals ((try simp (disch := first | omega | (simp only [LN]; omega)) only [↓EC, EW, seval, ↓reduceIte, EB, hl, hk, hql, fl1, t1, t2, t3, t4, t5, t6, u1, u2, u3, e1, e2, e3, e4, e5, e6, setV_vv]))
          all_goals first | omega | exact ⟨List.replicate 16 0, hrl, by rw [hno]; rfl⟩ | trace_state
      · (try simp (disch := first | omega | (simp only [LN]; omega)) only [↓EC, EW, seval, ↓reduceIte, hql, setV_vv])
        have hyes : isSp s = true := by
          unfold isSp; rw [decide_eq_true_eq]
          exact ⟨by omega, sprt_iff.2 fun j hj => h3 j (by omega)⟩
        exact ⟨q, hql, by rw [hyes]⟩
end Go.Proofs.YtjklebickfcddaaGreatDoor.Sep
end
section
/- Values of words in a dessin. -/
namespace Go.Proofs.YtjklebickfcddaaGreatDoor.Sep
open Go.RowKit
set_option linter.unusedVariables false
set_option linter.unusedSimpArgs false
set_option maxRecDepth 20000
set_option maxHeartbeats 4000000

def vlQ (n : Int) (b w : List Int) (L : Int) : List Int := if L = 119 ∨ L = 87 then w else if L = 102 ∨ L = 70 then faceP b w n else b
def vlP (n : Int) (b w : List Int) (L : Int) : List Int := if L < 97 then backP (vlQ n b w L) n else vlQ n b w L
def vlT (n : Int) (b w t : List Int) : Nat → List Int
  | 0 => sameP n
  | i + 1 => thenP (vlT n b w t i) (vlP n b w (gi t i)) n
theorem vlP_lo {n : Int} {b w : List Int} (hb : lo16 b) (hw : lo16 w) (hn : 1 ≤ n ∧ n ≤ 16) {L : Int} : lo16 (vlP n b w L) := by
  unfold vlP vlQ
  split
  · exact backP_lo hn
  · split
    · exact hw
    · split
      · exact backP_lo hn
      · exact hb
theorem vlT_lo {n : Int} {b w t : List Int} (hb : lo16 b) (hw : lo16 w) (hn : 1 ≤ n ∧ n ≤ 16) : ∀ i, lo16 (vlT n b w t i)
  | 0 => sameP_lo hn
  | i + 1 => thenP_lo (vlT_lo hb hw hn i) (vlP_lo hb hw hn) hn
theorem c_impl_valueOfWord {n : Int} {b w : List Int} {s : List UInt8} (hb : lo16 b) (hw : lo16 w) (hn : 1 ≤ n ∧ n ≤ 16) (hl' : s.length ≤ 60) :
    PSpec Tryz.prog 39 [vD n b w, .str s] fun v => v = .agg (vi .u8 (vlT n b w (ub s) s.length)) := by
  have hbl := hb.1
  have hwl := hw.1
  have hfl : lo16 (faceP b w n) := backP_lo hn
  have hfl2 := hfl.1
  have hlf := putL_len sameF n.toNat
  refine impl_valueOfWord_f.f ?_
  unfold vD
  dsimp only [impl_valueOfWord_F, pcal_B, pcalp_B, pcala_B, pcond_B, pgk_B, JN_B, LP_B]
  (refine blkP.ini ?_; repeat (refine blkP.mk ?_; (try simp (disch := first | omega | (simp only [LN]; omega)) only [↓EC, EW, seval, ↓reduceIte, ↓EBD, EBE])))
  refine pcd_v (c_impl_same hn) ?_
  (refine blkP.ini ?_; repeat (refine blkP.mk ?_; (try simp (disch := first | omega | (simp only [LN]; omega)) only [↓EC, EW, seval, ↓reduceIte, ↓EBD, EBE])))
  refine LPx_of (σ := Nat) 100000 [(66, 27, 1), (68, 25, 1), (70, 25, 1)] (fun i => [.int .i64 i]) (fun i => [.int .i64 n :: vi .u8 (b ++ w), vi .u8 (List.replicate 16 0), vi .u8 (vlT n b w (ub s) i)])
    (fun i => i ≤ s.length) (fun i => s.length - i) 0 (by simp [frameOk, names, lpz, sclp, scv, scvs, nrfs, nrf, FRB]) (Nat.zero_le _) ?_ ?_
  · (refine blkP.ini ?_; repeat (refine blkP.mk ?_; simp (disch := first | omega | (simp only [LN]; omega)) only [↓EC, EW, seval, ↓reduceIte, ↓EBD, EBE, ColV_def]))
    rfl
  · intro i hi
    have hcur := vlT_lo (t := ub s) hb hw hn i
    have hcl := hcur.1
    (refine blkP.ini ?_; repeat (refine blkP.mk ?_; simp (disch := first | omega | (simp only [LN]; omega)) only [↓EC, EW, seval, ↓reduceIte, ↓EBD, EBE, ColV_def, lheap_def]))
    (refine Split.mkB (fun h => ?_) (fun h => ?_) <;> (try simp only [SD] at h))
    · (refine blkP.ini ?_; repeat (refine blkP.mk ?_; (try simp (disch := first | omega | (simp only [LN]; omega)) only [↓EC, EW, seval, ↓reduceIte, ↓EBD, EBE, EB])))
      have hlt : i < s.length := by omega
      by_cases h119 : gi (ub s) i = 119
      · have hL := h119
        (refine blkP.ini ?_; repeat (refine blkP.mk ?_; (try simp (disch := first | omega | (simp only [LN]; omega)) only [↓EC, EW, seval, ↓reduceIte, ↓EBD, EBE, EB, hL])))
        repeat (refine JNx_un ?_; (refine blkP.ini ?_; repeat (refine blkP.mk ?_; (try simp (disch := first | omega | (simp only [LN]; omega)) only [↓EC, EW, seval, ↓reduceIte, ↓EBD, EBE, EB, hL]))))
        refine pcd_v (c_impl_then (p := vlT n b w (ub s) i) (q := w) hcur hw hn) ?_
        have hth := putL_len (thenF (vlT n b w (ub s) i) w) n.toNat
        (refine blkP.ini ?_; repeat (refine blkP.mk ?_; (try simp (disch := first | omega | (simp only [LN]; omega)) only [↓EC, EW, seval, ↓reduceIte, ↓EBD, EBE, EB, hL])))
        have e1 : vlT n b w (ub s) (i + 1) = putL (thenF (vlT n b w (ub s) i) w) n.toNat := by
          simp only [vlT, vlP, vlQ, hL]
          rfl
        exact ⟨i + 1, by simp, by rw [e1], by omega, by omega⟩
      by_cases h87 : gi (ub s) i = 87
      · have hL := h87
        (refine blkP.ini ?_; repeat (refine blkP.mk ?_; (try simp (disch := first | omega | (simp only [LN]; omega)) only [↓EC, EW, seval, ↓reduceIte, ↓EBD, EBE, EB, hL])))
        repeat (refine JNx_un ?_; (refine blkP.ini ?_; repeat (refine blkP.mk ?_; (try simp (disch := first | omega | (simp only [LN]; omega)) only [↓EC, EW, seval, ↓reduceIte, ↓EBD, EBE, EB, hL]))))
        have hbk := putL_len (backF w) n.toNat
        refine pcd_v (c_impl_back (p := w) hw hn) ?_
        (refine blkP.ini ?_; repeat (refine blkP.mk ?_; (try simp (disch := first | omega | (simp only [LN]; omega)) only [↓EC, EW, seval, ↓reduceIte, ↓EBD, EBE, EB, hL])))
        repeat (refine JNx_un ?_; (refine blkP.ini ?_; repeat (refine blkP.mk ?_; (try simp (disch := first | omega | (simp only [LN]; omega)) only [↓EC, EW, seval, ↓reduceIte, ↓EBD, EBE, EB, hL]))))
        refine pcd_v (c_impl_then (p := vlT n b w (ub s) i) (q := (backP w n)) hcur (backP_lo hn) hn) ?_
        have hth := putL_len (thenF (vlT n b w (ub s) i) (backP w n)) n.toNat
        (refine blkP.ini ?_; repeat (refine blkP.mk ?_; (try simp (disch := first | omega | (simp only [LN]; omega)) only [↓EC, EW, seval, ↓reduceIte, ↓EBD, EBE, EB, hL])))
        have e1 : vlT n b w (ub s) (i + 1) = putL (thenF (vlT n b w (ub s) i) (backP w n)) n.toNat := by
          simp only [vlT, vlP, vlQ, hL]
          rfl
        exact ⟨i + 1, by simp, by rw [e1], by omega, by omega⟩
      by_cases h102 : gi (ub s) i = 102
      · have hL := h102
        (refine blkP.ini ?_; repeat (refine blkP.mk ?_; (try simp (disch := first | omega | (simp only [LN]; omega)) only [↓EC, EW, seval, ↓reduceIte, ↓EBD, EBE, EB, hL])))
        repeat (refine JNx_un ?_; (refine blkP.ini ?_; repeat (refine blkP.mk ?_; (try simp (disch := first | omega | (simp only [LN]; omega)) only [↓EC, EW, seval, ↓reduceIte, ↓EBD, EBE, EB, hL]))))
        refine pcd_v (c_impl_face hb hw hn) ?_
        (refine blkP.ini ?_; repeat (refine blkP.mk ?_; (try simp (disch := first | omega | (simp only [LN]; omega)) only [↓EC, EW, seval, ↓reduceIte, ↓EBD, EBE, EB, hL])))
        repeat (refine JNx_un ?_; (refine blkP.ini ?_; repeat (refine blkP.mk ?_; (try simp (disch := first | omega | (simp only [LN]; omega)) only [↓EC, EW, seval, ↓reduceIte, ↓EBD, EBE, EB, hL]))))
        refine pcd_v (c_impl_then (p := vlT n b w (ub s) i) (q := (faceP b w n)) hcur hfl hn) ?_
        have hth := putL_len (thenF (vlT n b w (ub s) i) (faceP b w n)) n.toNat
        (refine blkP.ini ?_; repeat (refine blkP.mk ?_; (try simp (disch := first | omega | (simp only [LN]; omega)) only [↓EC, EW, seval, ↓reduceIte, ↓EBD, EBE, EB, hL])))
        have e1 : vlT n b w (ub s) (i + 1) = putL (thenF (vlT n b w (ub s) i) (faceP b w n)) n.toNat := by
          simp only [vlT, vlP, vlQ, hL]
          rfl
        exact ⟨i + 1, by simp, by rw [e1], by omega, by omega⟩
      by_cases h70 : gi (ub s) i = 70
      · have hL := h70
        (refine blkP.ini ?_; repeat (refine blkP.mk ?_; (try simp (disch := first | omega | (simp only [LN]; omega)) only [↓EC, EW, seval, ↓reduceIte, ↓EBD, EBE, EB, hL])))
        repeat (refine JNx_un ?_; (refine blkP.ini ?_; repeat (refine blkP.mk ?_; (try simp (disch := first | omega | (simp only [LN]; omega)) only [↓EC, EW, seval, ↓reduceIte, ↓EBD, EBE, EB, hL]))))
        refine pcd_v (c_impl_face hb hw hn) ?_
        (refine blkP.ini ?_; repeat (refine blkP.mk ?_; (try simp (disch := first | omega | (simp only [LN]; omega)) only [↓EC, EW, seval, ↓reduceIte, ↓EBD, EBE, EB, hL])))
        repeat (refine JNx_un ?_; (refine blkP.ini ?_; repeat (refine blkP.mk ?_; (try simp (disch := first | omega | (simp only [LN]; omega)) only [↓EC, EW, seval, ↓reduceIte, ↓EBD, EBE, EB, hL]))))
        have hbk := putL_len (backF (faceP b w n)) n.toNat
        refine pcd_v (c_impl_back (p := (faceP b w n)) hfl hn) ?_
        (refine blkP.ini ?_; repeat (refine blkP.mk ?_; (try simp (disch := first | omega | (simp only [LN]; omega)) only [↓EC, EW, seval, ↓reduceIte, ↓EBD, EBE, EB, hL])))
        repeat (refine JNx_un ?_; (refine blkP.ini ?_; repeat (refine blkP.mk ?_; (try simp (disch := first | omega | (simp only [LN]; omega)) only [↓EC, EW, seval, ↓reduceIte, ↓EBD, EBE, EB, hL]))))
        refine pcd_v (c_impl_then (p := vlT n b w (ub s) i) (q := (backP (faceP b w n) n)) hcur (backP_lo hn) hn) ?_
        have hth := putL_len (thenF (vlT n b w (ub s) i) (backP (faceP b w n) n)) n.toNat
        (refine blkP.ini ?_; repeat (refine blkP.mk ?_; (try simp (disch := first | omega | (simp only [LN]; omega)) only [↓EC, EW, seval, ↓reduceIte, ↓EBD, EBE, EB, hL])))
        have e1 : vlT n b w (ub s) (i + 1) = putL (thenF (vlT n b w (ub s) i) (backP (faceP b w n) n)) n.toNat := by
          simp only [vlT, vlP, vlQ, hL]
          rfl
        exact ⟨i + 1, by simp, by rw [e1], by omega, by omega⟩
      generalize hL : gi (ub s) i = L at *
      have n1 : (L == 119) = false := by simpa using h119
      have n2 : (L == 87) = false := by simpa using h87
      have n3 : (L == 102) = false := by simpa using h102
      have n4 : (L == 70) = false := by simpa using h70
      (refine blkP.ini ?_; repeat (refine blkP.mk ?_; (try simp (disch := first | omega | (simp only [LN]; omega)) only [↓EC, EW, seval, ↓reduceIte, ↓EBD, EBE, EB, hL, n1, n2, n3, n4])))
      repeat (refine JNx_un ?_; (refine blkP.ini ?_; repeat (refine blkP.mk ?_; (try simp (disch := first | omega | (simp only [LN]; omega)) only [↓EC, EW, seval, ↓reduceIte, ↓EBD, EBE, EB, hL, n1, n2, n3, n4]))))
      (refine Split.mkB (fun h => ?_) (fun h => ?_) <;> (try simp only [SD] at h))
      · (refine blkP.ini ?_; repeat (refine blkP.mk ?_; (try simp (disch := first | omega | (simp only [LN]; omega)) only [↓EC, EW, seval, ↓reduceIte, ↓EBD, EBE, EB, hL])))
        have hbk := putL_len (backF b) n.toNat
        refine pcd_v (c_impl_back (p := b) hb hn) ?_
        (refine blkP.ini ?_; repeat (refine blkP.mk ?_; (try simp (disch := first | omega | (simp only [LN]; omega)) only [↓EC, EW, seval, ↓reduceIte, ↓EBD, EBE, EB, hL])))
        refine pcd_v (c_impl_then (p := vlT n b w (ub s) i) (q := (backP b n)) hcur (backP_lo hn) hn) ?_
        have hth := putL_len (thenF (vlT n b w (ub s) i) (backP b n)) n.toNat
        (refine blkP.ini ?_; repeat (refine blkP.mk ?_; (try simp (disch := first | omega | (simp only [LN]; omega)) only [↓EC, EW, seval, ↓reduceIte, ↓EBD, EBE, EB, hL])))
        have e1 : vlT n b w (ub s) (i + 1) = putL (thenF (vlT n b w (ub s) i) (backP b n)) n.toNat := by
          simp only [vlT, vlP, vlQ, hL]
          rw [if_pos h, if_neg (by omega), if_neg (by omega)]; rfl
        exact ⟨i + 1, by simp, by rw [e1], by omega, by omega⟩
      · (refine blkP.ini ?_; repeat (refine blkP.mk ?_; (try simp (disch := first | omega | (simp only [LN]; omega)) only [↓EC, EW, seval, ↓reduceIte, ↓EBD, EBE, EB, hL])))
        refine pcd_v (c_impl_then (p := vlT n b w (ub s) i) (q := b) hcur hb hn) ?_
        have hth := putL_len (thenF (vlT n b w (ub s) i) b) n.toNat
        (refine blkP.ini ?_; repeat (refine blkP.mk ?_; (try simp (disch := first | omega | (simp only [LN]; omega)) only [↓EC, EW, seval, ↓reduceIte, ↓EBD, EBE, EB, hL])))
        have e1 : vlT n b w (ub s) (i + 1) = putL (thenF (vlT n b w (ub s) i) b) n.toNat := by
          simp only [vlT, vlP, vlQ, hL]
          rw [if_neg (by omega), if_neg (by omega), if_neg (by omega)]; rfl
        exact ⟨i + 1, by simp, by rw [e1], by omega, by omega⟩
    · obtain rfl : i = s.length := by omega
      (refine blkP.ini ?_; repeat (refine blkP.mk ?_; (try simp (disch := first | omega | (simp only [LN]; omega)) only [↓EC, EW, seval, ↓reduceIte, ↓EBD, EBE])))
theorem isSp_len {s : List UInt8} (h : isSp s = true) : s.length ≤ 60 := by
  unfold isSp at h
  exact (of_decide_eq_true h).1
theorem c_impl_ValueOfWord {n : Int} {b w : List Int} {s : List UInt8} (hb : okP b) (hw : okP w) (hd : isDB n b w = true) (hs : isSp s = true) :
    PSpec Tryz.prog 18 [vD n b w, .str s] fun v => v = .tup [.agg (vi .u8 (vlT n b w (ub s) s.length)), .int .i64 0] := by
  have hbl := hb.1
  have hwl := hw.1
  have h1 := isDB_iff.1 hd
  have lb := h1.pb.lo hb
  have lw := h1.pw.lo hw
  have hn := h1.pb.1
  have hl := isSp_len hs
  have hvl := (vlT_lo (t := ub s) lb lw hn s.length).1
  refine impl_ValueOfWord_f.f ?_
  unfold vD
  dsimp only [impl_ValueOfWord_F, pcal_B, pcalp_B, pcala_B, pcond_B, pgk_B, JN_B, LP_B]
  (refine blkP.ini ?_; repeat (refine blkP.mk ?_; (try simp (disch := first | omega | (simp only [LN]; omega)) only [↓EC, EW, seval, ↓reduceIte, ↓EBD, EBE])))
  refine pcd_v (c_impl_IsDessin (n := n) hb hw) ?_
  (refine blkP.ini ?_; repeat (refine blkP.mk ?_; (try simp (disch := first | omega | (simp only [LN]; omega)) only [↓EC, EW, seval, ↓reduceIte, ↓EBD, EBE, hd])))
  refine pcd_v (c_impl_isSpelled (s := s) (by omega)) ?_
  (refine blkP.ini ?_; repeat (refine blkP.mk ?_; (try simp (disch := first | omega | (simp only [LN]; omega)) only [↓EC, EW, seval, ↓reduceIte, ↓EBD, EBE, hs])))
  refine pcd_v (c_impl_valueOfWord (n := n) lb lw hn hl) ?_
  (refine blkP.ini ?_; repeat (refine blkP.mk ?_; (try simp (disch := first | omega | (simp only [LN]; omega)) only [↓EC, EW, seval, ↓reduceIte, ↓EBD, EBE])))
end Go.Proofs.YtjklebickfcddaaGreatDoor.Sep
end
section
/- What BoundariesOf computes. -/
namespace Go.Proofs.YtjklebickfcddaaGreatDoor.Sep
open Go.RowKit
set_option linter.unusedVariables false
set_option linter.unusedSimpArgs false
set_option maxRecDepth 20000

theorem isD.lo {n : Int} {b w : List Int} (hb : okP b) (hw : okP w) (h : isD n b w) : lo16 b ∧ lo16 w ∧ (1 ≤ n ∧ n ≤ 16) := ⟨h.pb.lo hb, h.pw.lo hw, h.pb.1⟩
end Go.Proofs.YtjklebickfcddaaGreatDoor.Sep
end

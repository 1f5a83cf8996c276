/- Texts put together: C30, C32, C33, C35, C36, C90, C101, C28, C102, C37, C38, C39, C43, C44, C45. -/
import Derived.Test.YtpeglkcbhffaaaaGreatK4
import Derived.WalkKit
import Derived.Deep.RegionLaw
import Derived.Lib.SliceRun
import Derived.Lib.SlicesDelete
namespace Go.Proofs.YtpeglkcbhffaaaaGreat.Sep
open Go.RowKit
set_option linter.unusedVariables false
set_option linter.unusedSimpArgs false
set_option maxRecDepth 20000
section
def chnB (n : Int) (l : List Int) : Bool := rngB l (-1000) 1000 && decide ((l.length : Int) = n)
theorem chnB_no {n : Int} {l : List Int} {i : Nat} (hi : i < l.length) (h : ¬ (-1000 ≤ gi l i ∧ gi l i ≤ 1000)) : chnB n l = false := by
  unfold chnB
  rw [Bool.and_eq_false_iff]
  left
  cases ha : rngB l (-1000) 1000 with
  | false => rfl
  | true => exact absurd (by simpa [gi] using (all_getD (d := 0)).1 ha i hi) h
theorem chnB_of {n : Int} {l : List Int} (h1 : (l.length : Int) = n) (h2 : ∀ k, k < l.length → -1000 ≤ gi l k ∧ gi l k ≤ 1000) : chnB n l = true := by
  unfold chnB
  rw [Bool.and_eq_true]
  exact ⟨(all_getD (d := 0)).2 fun j hj => by simpa [gi] using h2 j hj, by simp [h1]⟩
theorem chnB_at {n : Int} {l : List Int} (h : chnB n l = true) : (l.length : Int) = n ∧ ∀ k : Nat, -1000 ≤ gi l k ∧ gi l k ≤ 1000 := by
  unfold chnB at h
  rw [Bool.and_eq_true] at h
  refine ⟨by simpa using h.2, fun k => ?_⟩
  by_cases hk : k < l.length
  · simpa [gi] using (all_getD (d := 0)).1 h.1 k hk
  · rw [gi_over (by omega)]; omega
theorem c_spec_l09Chain {n : Int} {b w l : List Int} (hb : b.length = 16) (hw : w.length = 16) (hl : l.length ≤ 1048576) : PSpec Tryz.prog 48 [vD n b w, .sl l.length (vi .i64 l)] fun v => v = .bool (chnB n l) := by
  refine spec_l09Chain_f.f ?_
  unfold vD
  simp (disch := first | omega | (simp only [LN]; omega)) only [↓EC, EW, seval, ↓reduceIte, spec_l09Chain_F, hb, hw]
  refine pcd_v (c_spec_l09List hl) ?_
  (try simp (disch := first | omega | (simp only [LN]; omega)) only [↓EC, EW, seval, ↓reduceIte])
  rfl
theorem c_impl_isChain {n : Int} {b w l : List Int} (hb : b.length = 16) (hw : w.length = 16) (hl : l.length ≤ 1048576) : PSpec Tryz.prog 46 [vD n b w, .sl l.length (vi .i64 l)] fun v => v = .bool (chnB n l) := by
  refine impl_isChain_f.f ?_
  unfold vD
  simp (disch := first | omega | (simp only [LN]; omega)) only [↓EC, EW, seval, ↓reduceIte, impl_isChain_F, hb, hw]
  (refine Split.mk (fun h => ?_) (fun h => ?_) <;> (try simp only [SD] at h))
  · (try simp (disch := first | omega | (simp only [LN]; omega)) only [↓EC, EW, seval, ↓reduceIte])
    rw [eq_comm, V.bool.injEq]; unfold chnB; rw [Bool.and_eq_false_iff]; right; simpa using h
  · (try simp (disch := first | omega | (simp only [LN]; omega)) only [↓EC, EW, seval, ↓reduceIte])
    refine LP_of (σ := Nat) 100000 [] (fun s => [.int .i64 s]) (fun s => [])
      (fun s => s ≤ l.length ∧ ∀ j, j < s → -1000 ≤ gi l j ∧ gi l j ≤ 1000) (fun s => l.length - s) 0 (by simp [frameOk, names, lpz, sclp, scv, scvs, nrfs, nrf, FRB]) ⟨Nat.zero_le _, fun j hj => absurd hj (Nat.not_lt_zero j)⟩ ?_ ?_
    · simp (disch := first | omega | (simp only [LN]; omega)) only [↓EC, EW, seval, ↓reduceIte, ColV_def]
    · rintro i ⟨h1, h2⟩
      simp (disch := first | omega | (simp only [LN]; omega)) only [↓EC, EW, seval, ↓reduceIte, ColV_def, lheap_def]
      (refine Split.mk (fun h => ?_) (fun h => ?_) <;> (try simp only [SD] at h))
      · (try simp (disch := first | omega | (simp only [LN]; omega)) only [↓EC, EW, seval, ↓reduceIte])
        (refine Split.mk (fun h => ?_) (fun h => ?_) <;> (try simp only [SD] at h))
        · (try simp (disch := first | omega | (simp only [LN]; omega)) only [↓EC, EW, seval, ↓reduceIte])
          rw [chnB_no (i := i) (by omega) (by omega)]
        · (refine Split.mk (fun h => ?_) (fun h => ?_) <;> (try simp only [SD] at h))
          · (try simp (disch := first | omega | (simp only [LN]; omega)) only [↓EC, EW, seval, ↓reduceIte])
            rw [chnB_no (i := i) (by omega) (by omega)]
          · (try simp (disch := first | omega | (simp only [LN]; omega)) only [↓EC, EW, seval, ↓reduceIte])
            refine ⟨i + 1, rfl, ⟨by omega, fun j hj => ?_⟩, by omega⟩
            by_cases e : j = i
            · subst e; omega
            · exact h2 j (by omega)
      · (try simp (disch := first | omega | (simp only [LN]; omega)) only [↓EC, EW, seval, ↓reduceIte])
        rw [chnB_of (by omega) fun k hk => h2 k (by omega)]
theorem vnilS_pos {g : Bool} {m : Nat} {l : List V} (h : 0 < m) : vnilS g (.sl m l) = some (.bool g) := by
  cases m with
  | zero => omega
  | succ m => rfl
theorem c_slices_Clone {ls : List (List Int)} (h0 : 0 < ls.length) (hl : ls.length ≤ 1048576) : PSpecV Tryz.prog 84 [.sl ls.length (vl ls)] fun v => v = .own 32 1 ls.length (vl ls) := by
  refine slices_Clone_int64_int64_f.v ?_
  simp (disch := first | omega | (simp only [LN]; omega)) only [↓EC, EW, seval, ↓reduceIte, slices_Clone_int64_int64_F, vnilS_pos h0]
def eI (B v : Nat) (c : List Int) : Nat → List Int → List Int
  | 0, E => E
  | s + 1, E => (eI B v c s E).set ((gi c s).toNat * 2 + if v < B then 0 else 1) v
def eO (B : Nat) (A : List (List Int)) (n : Int) : Nat → List Int
  | 0 => List.replicate (n.toNat * 2) 0
  | v + 1 => eI B v (gl A v) (gl A v).length (eO B A n v)
theorem eI_len {B v : Nat} {c E : List Int} : ∀ s, (eI B v c s E).length = E.length
  | 0 => rfl
  | s + 1 => by simp [eI, eI_len s]
theorem eO_len {B : Nat} {A : List (List Int)} {n : Int} : ∀ v, (eO B A n v).length = n.toNat * 2
  | 0 => by simp [eO]
  | v + 1 => by simp [eO, eI_len, eO_len v]
def allV (b w : List Int) (n : Int) : List (List Int) := cyc b n ++ cyc w n
def endV (b w : List Int) (n : Int) : List Int := eO (cyc b n).length (allV b w n) n (allV b w n).length
theorem v2_vi {k : IntKind} {x : Int} : ∀ n : Nat, v2 k (List.replicate n (x, x)) = vi k (List.replicate (n * 2) x)
  | 0 => rfl
  | n + 1 => by
    rw [List.replicate_succ, show (n + 1) * 2 = n * 2 + 1 + 1 from by omega, List.replicate_succ, List.replicate_succ]
    have : v2 k ((x, x) :: List.replicate n (x, x)) = V.int k x :: V.int k x :: v2 k (List.replicate n (x, x)) := rfl
    rw [this, v2_vi n]
    rfl
theorem cyc_pos {p : List Int} {n : Int} (hn : 1 ≤ n ∧ n ≤ 16) : 0 < (cyc p n).length := by
  have h1 : ∀ i, 1 ≤ i → 0 < (cycO p i).2.length := by
    intro i hi
    induction i with
    | zero => omega
    | succ i ih =>
      simp only [cycO]
      split
      · by_cases h0 : i = 0
        · subst h0; rename_i h; exact absurd h (by show ¬ gb (List.replicate 16 false) 0 = true; decide)
        · exact ih (by omega)
      · simp
  exact h1 n.toNat (by omega)
theorem cyc_lim {p : List Int} {n : Int} (hn : 1 ≤ n ∧ n ≤ 16) : (cyc p n).length ≤ 16 := Nat.le_trans (cycO_len (p := p) n.toNat).2 (by omega)
theorem cyc_at {p : List Int} {n : Int} (hp : ltP p n) (hn : 1 ≤ n ∧ n ≤ 16) : ∀ l ∈ cyc p n, (∀ y ∈ l, 0 ≤ y ∧ y < n) ∧ l.length ≤ 16 := cycO_lt hp n.toNat (by omega)
theorem allV_at {b w : List Int} {n : Int} (hb : ltP b n) (hw : ltP w n) (hn : 1 ≤ n ∧ n ≤ 16) : ∀ l ∈ allV b w n, (∀ y ∈ l, 0 ≤ y ∧ y < n) ∧ l.length ≤ 16 := fun l hl => by
  unfold allV at hl
  rcases List.mem_append.1 hl with h | h
  · exact cyc_at hb hn l h
  · exact cyc_at hw hn l h
theorem allV_len {b w : List Int} {n : Int} (hn : 1 ≤ n ∧ n ≤ 16) : (allV b w n).length = (cyc b n).length + (cyc w n).length ∧ (allV b w n).length ≤ 32 := by
  have h1 := cyc_lim (p := b) hn
  have h2 := cyc_lim (p := w) hn
  unfold allV; simp; omega
theorem c_impl_vertices {n : Int} {b w : List Int} (hb : okP b) (hw : okP w) (h0 : isD n b w) : PSpecV Tryz.prog 64 [vD n b w] fun v => v = .tup [.own 32 1 (allV b w n).length (vl (allV b w n)), .own 89 2 n.toNat (vi .i64 (endV b w n))] := by
  have hl := hb.len
  have hk := hw.len
  have lb := h0.pb.lo hb
  have lw := h0.pw.lo hw
  have hn := h0.pb.1
  refine impl_vertices_f.v ?_
  unfold vD
  have hbl := cyc_lim (p := b) hn
  have hwl := cyc_lim (p := w) hn
  simp (disch := first | omega | (simp only [LN]; omega)) only [↓EC, EW, seval, ↓reduceIte, impl_vertices_F, hl, hk]
  refine pcd_v (c_impl_cycles lb hn) ?_
  (try simp (disch := first | omega | (simp only [LN]; omega)) only [↓EC, EW, seval, ↓reduceIte, hl, hk])
  refine pcd_wo (by rw [nrfs_cons, nrf_sl, vl_nrf]; rfl) (c_slices_Clone (cyc_pos hn) (by omega)) ?_
  (try simp (disch := first | omega | (simp only [LN]; omega)) only [↓EC, EW, seval, ↓reduceIte, hl, hk])
  refine pcd_v (c_impl_cycles lw hn) ?_
  (try simp (disch := first | omega | (simp only [LN]; omega)) only [↓EC, EW, seval, ↓reduceIte, hl, hk, vl_app])
  have hA : cyc b n ++ cyc w n = allV b w n := rfl
  rw [hA]
  obtain ⟨hal, hal2⟩ := allV_len (b := b) (w := w) hn
  have hat := allV_at (h0.pb.ltP hb) (h0.pw.ltP hw) hn
  unfold endV
  generalize allV b w n = A at *
  generalize (cyc b n).length = B at *
  refine LP_of (σ := Nat) 100000 [(65, 27, 1), (87, 32, 1), (90, 89, 2)] (fun s => [.int .i64 s]) (fun s => [.int .i64 n :: vi .u8 (b ++ w), vl A, vi .i64 (eO B A n s)])
    (fun s => s ≤ A.length) (fun s => A.length - s) 0 (by simp [frameOk, names, lpz, sclp, scv, scvs, nrfs, nrf, FRB]) (Nat.zero_le _) ?_ ?_
  · simp (disch := first | omega | (simp only [LN]; omega)) only [↓EC, EW, seval, ↓reduceIte, ColV_def, v2_vi]
    rfl
  · rintro v h1
    have hel := eO_len (B := B) (A := A) (n := n) v
    simp (disch := first | omega | (simp only [LN]; omega)) only [↓EC, EW, seval, ↓reduceIte, ColV_def, lheap_def]
    (refine Split.mk (fun h => ?_) (fun h => ?_) <;> (try simp only [SD] at h))
    · have hv : v < A.length := by omega
      have hvat := hat _ (gl_mem hv)
      (try simp (disch := first | omega | (simp only [LN]; omega)) only [↓EC, EW, seval, ↓reduceIte, hl, hk])
      refine LP_of (σ := Nat) 200000 [(65, 27, 1), (87, 32, 1), (90, 89, 2)] (fun s => [.int .i64 s]) (fun s => [.int .i64 n :: vi .u8 (b ++ w), vl A, vi .i64 (eI B v (gl A v) s (eO B A n v))])
        (fun s => s ≤ (gl A v).length) (fun s => (gl A v).length - s) 0 (by simp [frameOk, names, lpz, sclp, scv, scvs, nrfs, nrf, FRB]) (Nat.zero_le _) ?_ ?_
      · simp (disch := first | omega | (simp only [LN]; omega)) only [↓EC, EW, seval, ↓reduceIte, ColV_def]
        rfl
      · rintro s g1
        have hil := eI_len (B := B) (v := v) (c := gl A v) (E := eO B A n v) s
        simp (disch := first | omega | (simp only [LN]; omega)) only [↓EC, EW, seval, ↓reduceIte, ColV_def, lheap_def]
        (refine Split.mk (fun h => ?_) (fun h => ?_) <;> (try simp only [SD] at h))
        · have hs : s < (gl A v).length := by omega
          have hx := hvat.1 (gi (gl A v) s) (by rw [gi_of hs]; exact List.getElem_mem hs)
          (try simp (disch := first | omega | (simp only [LN]; omega)) only [↓EC, EW, seval, ↓reduceIte])
          (refine Split.mk (fun h => ?_) (fun h => ?_) <;> (try simp only [SD] at h))
          · (try simp (disch := first | omega | (simp only [LN]; omega)) only [↓EC, EW, seval, ↓reduceIte])
            exact ⟨s + 1, rfl, by simp only [eI]; rw [if_pos (by omega)]; rfl, by omega, by omega⟩
          · (try simp (disch := first | omega | (simp only [LN]; omega)) only [↓EC, EW, seval, ↓reduceIte])
            exact ⟨s + 1, rfl, by simp only [eI]; rw [if_neg (by omega)], by omega, by omega⟩
        · (try simp (disch := first | omega | (simp only [LN]; omega)) only [↓EC, EW, seval, ↓reduceIte])
          have : s = (gl A v).length := by omega
          subst this
          exact ⟨v + 1, rfl, rfl, by omega, by omega⟩
    · (try simp (disch := first | omega | (simp only [LN]; omega)) only [↓EC, EW, seval, ↓reduceIte])
      have : v = A.length := by omega
      rw [this, ← hal]
def sumT (a c : List Int) : Nat → Int
  | 0 => 0
  | s + 1 => sumT a c s + gi a (gi c s).toNat
theorem sumT_lim {a c : List Int} {M : Int} (h : ∀ k : Nat, -M ≤ gi a k ∧ gi a k ≤ M) : ∀ s : Nat, -(M * s) ≤ sumT a c s ∧ sumT a c s ≤ M * s
  | 0 => by simp [sumT]
  | s + 1 => by
    have ih := sumT_lim (c := c) h s
    have h1 := h (gi c s).toNat
    simp only [sumT, Int.natCast_add, Int.mul_add]
    omega
def cycB (a : List Int) (A : List (List Int)) : Bool := A.all fun c => sumT a c c.length == 0
theorem cycB_no {a : List Int} {A : List (List Int)} {v : Nat} (hv : v < A.length) (h : ¬ sumT a (gl A v) (gl A v).length = 0) : cycB a A = false := by
  cases hc : cycB a A with
  | false => rfl
  | true =>
    have := (all_getD (d := [])).1 hc v hv
    exact absurd (by simpa [gl] using this) h
theorem cycB_yes {a : List Int} {A : List (List Int)} (h : ∀ v, v < A.length → sumT a (gl A v) (gl A v).length = 0) : cycB a A = true :=
  (all_getD (d := [])).2 fun v hv => by simpa [gl] using h v hv
theorem c_impl_isCycle {n : Int} {b w a : List Int} (hb : okP b) (hw : okP w) (h0 : isD n b w) (hc : chnB n a = true) : PSpec Tryz.prog 47 [vD n b w, .sl a.length (vi .i64 a)] fun v => v = .bool (cycB a (allV b w n)) := by
  have hl := hb.len
  have hk := hw.len
  have hn := h0.pb.1
  obtain ⟨hal, hav⟩ := chnB_at hc
  obtain ⟨-, hal2⟩ := allV_len (b := b) (w := w) hn
  have hat := allV_at (h0.pb.ltP hb) (h0.pw.ltP hw) hn
  refine impl_isCycle_f.f ?_
  have hvs := c_impl_vertices hb hw h0
  unfold vD at hvs ⊢
  simp (disch := first | omega | (simp only [LN]; omega)) only [↓EC, EW, seval, ↓reduceIte, impl_isCycle_F, hl, hk]
  refine pcd_wv (by simp [nrfs_cons, nrf_agg, nrf_int, vi_nrf, nrfs_nil]) hvs ?_
  (try simp (disch := first | omega | (simp only [LN]; omega)) only [↓EC, EW, seval, ↓reduceIte, hl, hk])
  generalize allV b w n = A at *
  refine LP_of (σ := Nat) 100000 [] (fun s => [.int .i64 s]) (fun s => []) (fun s => s ≤ A.length ∧ ∀ v, v < s → sumT a (gl A v) (gl A v).length = 0) (fun s => A.length - s) 0 (by simp [frameOk, names, lpz, sclp, scv, scvs, nrfs, nrf, FRB]) ⟨Nat.zero_le _, fun v hv => absurd hv (Nat.not_lt_zero v)⟩ ?_ ?_
  · simp (disch := first | omega | (simp only [LN]; omega)) only [↓EC, EW, seval, ↓reduceIte, ColV_def]
  · rintro v ⟨h1, h2⟩
    simp (disch := first | omega | (simp only [LN]; omega)) only [↓EC, EW, seval, ↓reduceIte, ColV_def, lheap_def]
    (refine Split.mk (fun h => ?_) (fun h => ?_) <;> (try simp only [SD] at h))
    · have hv : v < A.length := by omega
      have hvat := hat _ (gl_mem hv)
      (try simp (disch := first | omega | (simp only [LN]; omega)) only [↓EC, EW, seval, ↓reduceIte])
      refine LP_of (σ := Nat) 200000 [] (fun s => [.int .i64 (sumT a (gl A v) s), .int .i64 s]) (fun s => []) (fun s => s ≤ (gl A v).length) (fun s => (gl A v).length - s) 0 (by simp [frameOk, names, lpz, sclp, scv, scvs, nrfs, nrf, FRB]) (Nat.zero_le _) ?_ ?_
      · simp (disch := first | omega | (simp only [LN]; omega)) only [↓EC, EW, seval, ↓reduceIte, ColV_def]
        rfl
      · rintro s g1
        simp (disch := first | omega | (simp only [LN]; omega)) only [↓EC, EW, seval, ↓reduceIte, ColV_def, lheap_def]
        (refine Split.mk (fun h => ?_) (fun h => ?_) <;> (try simp only [SD] at h))
        · have hs : s < (gl A v).length := by omega
          have hx := hvat.1 (gi (gl A v) s) (by rw [gi_of hs]; exact List.getElem_mem hs)
          have q1 := sumT_lim (c := gl A v) hav s
          have q2 := hav (gi (gl A v) s).toNat
          (try simp (disch := first | omega | (simp only [LN]; omega)) only [↓EC, EW, seval, ↓reduceIte])
          exact ⟨s + 1, rfl, by omega, by omega⟩
        · (try simp (disch := first | omega | (simp only [LN]; omega)) only [↓EC, EW, seval, ↓reduceIte])
          have : s = (gl A v).length := by omega
          subst this
          (refine Split.mk (fun h => ?_) (fun h => ?_) <;> (try simp only [SD] at h))
          · (try simp (disch := first | omega | (simp only [LN]; omega)) only [↓EC, EW, seval, ↓reduceIte])
            rw [cycB_no hv h]
          · (try simp (disch := first | omega | (simp only [LN]; omega)) only [↓EC, EW, seval, ↓reduceIte])
            refine ⟨v + 1, rfl, ⟨by omega, fun j hj => ?_⟩, by omega⟩
            by_cases e : j = v
            · subst e; exact h
            · exact h2 j (by omega)
    · (try simp (disch := first | omega | (simp only [LN]; omega)) only [↓EC, EW, seval, ↓reduceIte])
      rw [cycB_yes fun v hv => h2 v (by omega)]
theorem c_spec_l09Cycle {n : Int} {b w a : List Int} (hb : okP b) (hw : okP w) (h0 : isD n b w) (hc : chnB n a = true) : PSpec Tryz.prog 49 [vD n b w, .sl a.length (vi .i64 a)] fun v => v = .bool (cycB a (allV b w n)) := by
  have hl := hb.len
  have hk := hw.len
  have hn := h0.pb.1
  have lb := h0.pb.lo hb
  have lw := h0.pw.lo hw
  obtain ⟨hal, hav⟩ := chnB_at hc
  obtain ⟨-, hal2⟩ := allV_len (b := b) (w := w) hn
  have hat := allV_at (h0.pb.ltP hb) (h0.pw.ltP hw) hn
  have hbl := cyc_lim (p := b) hn
  have hwl := cyc_lim (p := w) hn
  refine spec_l09Cycle_f.f ?_
  unfold vD
  simp (disch := first | omega | (simp only [LN]; omega)) only [↓EC, EW, seval, ↓reduceIte, spec_l09Cycle_F, hl, hk]
  refine pcd_v (c_spec_l01Cycles lb hn) ?_
  (try simp (disch := first | omega | (simp only [LN]; omega)) only [↓EC, EW, seval, ↓reduceIte, hl, hk])
  refine pcd_v (c_spec_l01Cycles lw hn) ?_
  (try simp (disch := first | omega | (simp only [LN]; omega)) only [↓EC, EW, seval, ↓reduceIte, hl, hk, vl_app])
  have hA : cyc b n ++ cyc w n = allV b w n := rfl
  have hA2 : (cyc b n).length + (cyc w n).length = (allV b w n).length := by rw [← hA]; simp
  rw [hA, hA2]
  generalize allV b w n = A at *
  refine LP_of (σ := Nat) 100000 [(66, 27, 1), (85, 32, 1)] (fun s => [.int .i64 s]) (fun s => [.int .i64 n :: vi .u8 (b ++ w), vl A]) (fun s => s ≤ A.length ∧ ∀ v, v < s → sumT a (gl A v) (gl A v).length = 0) (fun s => A.length - s) 0 (by simp [frameOk, names, lpz, sclp, scv, scvs, nrfs, nrf, FRB]) ⟨Nat.zero_le _, fun v hv => absurd hv (Nat.not_lt_zero v)⟩ ?_ ?_
  · simp (disch := first | omega | (simp only [LN]; omega)) only [↓EC, EW, seval, ↓reduceIte, ColV_def]
  · rintro v ⟨h1, h2⟩
    simp (disch := first | omega | (simp only [LN]; omega)) only [↓EC, EW, seval, ↓reduceIte, ColV_def, lheap_def]
    (refine Split.mk (fun h => ?_) (fun h => ?_) <;> (try simp only [SD] at h))
    · have hv : v < A.length := by omega
      have hvat := hat _ (gl_mem hv)
      refine LP_of (σ := Nat) 200000 [(66, 27, 1), (85, 32, 1)] (fun s => [.int .i64 (sumT a (gl A v) s), .int .i64 s]) (fun s => [.int .i64 n :: vi .u8 (b ++ w), vl A]) (fun s => s ≤ (gl A v).length) (fun s => (gl A v).length - s) 0 (by simp [frameOk, names, lpz, sclp, scv, scvs, nrfs, nrf, FRB]) (Nat.zero_le _) ?_ ?_
      · simp (disch := first | omega | (simp only [LN]; omega)) only [↓EC, EW, seval, ↓reduceIte, ColV_def]
        rfl
      · rintro s g1
        simp (disch := first | omega | (simp only [LN]; omega)) only [↓EC, EW, seval, ↓reduceIte, ColV_def, lheap_def]
        (refine Split.mk (fun h => ?_) (fun h => ?_) <;> (try simp only [SD] at h))
        · have hs : s < (gl A v).length := by omega
          have hx := hvat.1 (gi (gl A v) s) (by rw [gi_of hs]; exact List.getElem_mem hs)
          have q1 := sumT_lim (c := gl A v) hav s
          have q2 := hav (gi (gl A v) s).toNat
          (try simp (disch := first | omega | (simp only [LN]; omega)) only [↓EC, EW, seval, ↓reduceIte])
          exact ⟨s + 1, rfl, by omega, by omega⟩
        · (try simp (disch := first | omega | (simp only [LN]; omega)) only [↓EC, EW, seval, ↓reduceIte])
          have : s = (gl A v).length := by omega
          subst this
          (refine Split.mk (fun h => ?_) (fun h => ?_) <;> (try simp only [SD] at h))
          · (try simp (disch := first | omega | (simp only [LN]; omega)) only [↓EC, EW, seval, ↓reduceIte])
            rw [cycB_no hv h]
          · (try simp (disch := first | omega | (simp only [LN]; omega)) only [↓EC, EW, seval, ↓reduceIte])
            refine ⟨v + 1, rfl, ⟨by omega, fun j hj => ?_⟩, by omega⟩
            by_cases e : j = v
            · subst e; exact h
            · exact h2 j (by omega)
    · (try simp (disch := first | omega | (simp only [LN]; omega)) only [↓EC, EW, seval, ↓reduceIte])
      rw [cycB_yes fun v hv => h2 v (by omega)]
def mtI (a b c : List Int) (y : Int) : Nat → Int → Int
  | 0, s => s
  | i + 1, s => mtI a b c y i s + (gi a (gi c i).toNat * gi b y.toNat - gi a y.toNat * gi b (gi c i).toNat)
def mtJ (a b c : List Int) : Nat → Int → Int
  | 0, s => s
  | j + 1, s => mtI a b c (gi c j) j (mtJ a b c j s)
def mtV (a b : List Int) (A : List (List Int)) : Nat → Int
  | 0 => 0
  | v + 1 => mtJ a b (gl A v) (gl A v).length (mtV a b A v)
def lmM (a : List Int) : Prop := ∀ k : Nat, -1000000 ≤ gi a k ∧ gi a k ≤ 1000000
theorem mtI_lim {a b c : List Int} {y s : Int} {L : Int} (ha : lmM a) (hb : lmM b) (h : -L ≤ s ∧ s ≤ L) : ∀ i : Nat, -(L + 2000000000000 * i) ≤ mtI a b c y i s ∧ mtI a b c y i s ≤ L + 2000000000000 * i
  | 0 => by simp only [mtI]; omega
  | i + 1 => by
    have ih := mtI_lim (c := c) (y := y) ha hb h i
    have m1 := mul_lim 1000000 1000000 (ha (gi c i).toNat) (hb y.toNat)
    have m2 := mul_lim 1000000 1000000 (ha y.toNat) (hb (gi c i).toNat)
    simp only [mtI]
    omega
theorem mtJ_lim {a b c : List Int} {s : Int} {L : Int} (ha : lmM a) (hb : lmM b) (h : -L ≤ s ∧ s ≤ L) : ∀ j : Nat, j ≤ 16 → -(L + 32000000000000 * j) ≤ mtJ a b c j s ∧ mtJ a b c j s ≤ L + 32000000000000 * j
  | 0, _ => by simp only [mtJ]; omega
  | j + 1, hj => by
    have ih := mtJ_lim (c := c) ha hb h j (by omega)
    have := mtI_lim (c := c) (y := gi c j) (L := L + 32000000000000 * j) ha hb ih j
    simp only [mtJ]
    omega
theorem mtV_lim {a b : List Int} {A : List (List Int)} (ha : lmM a) (hb : lmM b) (hA : ∀ l ∈ A, l.length ≤ 16) : ∀ v : Nat, v ≤ A.length → -(512000000000000 * (v : Int)) ≤ mtV a b A v ∧ mtV a b A v ≤ 512000000000000 * v
  | 0, _ => by simp [mtV]
  | v + 1, hv => by
    have ih := mtV_lim ha hb hA v (by omega)
    have hl := hA _ (gl_mem (ls := A) (i := v) (by omega))
    have := mtJ_lim (c := gl A v) (L := 512000000000000 * v) ha hb ih (gl A v).length hl
    simp only [mtV]
    omega
def meetV (b w : List Int) (n : Int) (x y : List Int) : Int := (mtV x y (allV b w n) (allV b w n).length).tdiv 2
theorem gi_take {l : List Int} {i k : Nat} (h : i < k) : gi (l.take k) i = gi l i := by
  simp only [gi, List.getD, List.getElem?_take, if_pos h]
theorem tdiv2_lim {x L : Int} (h : -L ≤ x ∧ x ≤ L) : -L ≤ x.tdiv 2 ∧ x.tdiv 2 ≤ L := by
  by_cases h0 : 0 ≤ x
  · rw [Int.tdiv_eq_ediv_of_nonneg h0]; omega
  · have := Int.neg_tdiv (-x) 2
    rw [Int.neg_neg] at this
    have h2 := Int.tdiv_eq_ediv_of_nonneg (a := -x) (b := 2) (by omega)
    omega
theorem c_impl_intersection {n : Int} {b w x y : List Int} (hb : okP b) (hw : okP w) (h0 : isD n b w) (hxl : (x.length : Int) = n) (hyl : (y.length : Int) = n) (hx : lmM x) (hy : lmM y) :
    PSpec Tryz.prog 33 [vD n b w, .sl x.length (vi .i64 x), .sl y.length (vi .i64 y)] fun v => v = .int .i64 (meetV b w n x y) := by
  have hl := hb.len
  have hk := hw.len
  have hn := h0.pb.1
  obtain ⟨-, hal2⟩ := allV_len (b := b) (w := w) hn
  have hat := allV_at (h0.pb.ltP hb) (h0.pw.ltP hw) hn
  refine impl_intersection_f.f ?_
  have hvs := c_impl_vertices hb hw h0
  unfold vD at hvs ⊢
  unfold meetV
  simp (disch := first | omega | (simp only [LN]; omega)) only [↓EC, EW, seval, ↓reduceIte, impl_intersection_F, hl, hk]
  refine pcd_wv (by simp [nrfs_cons, nrf_agg, nrf_int, vi_nrf, nrfs_nil]) hvs ?_
  (try simp (disch := first | omega | (simp only [LN]; omega)) only [↓EC, EW, seval, ↓reduceIte, hl, hk])
  generalize allV b w n = A at *
  refine LP_of (σ := Nat) 100000 [] (fun s => [.int .i64 (mtV x y A s), .int .i64 s]) (fun s => []) (fun s => s ≤ A.length) (fun s => A.length - s) 0 (by simp [frameOk, names, lpz, sclp, scv, scvs, nrfs, nrf, FRB]) (Nat.zero_le _) ?_ ?_
  · simp (disch := first | omega | (simp only [LN]; omega)) only [↓EC, EW, seval, ↓reduceIte, ColV_def]
    rfl
  · rintro v h1
    simp (disch := first | omega | (simp only [LN]; omega)) only [↓EC, EW, seval, ↓reduceIte, ColV_def, lheap_def]
    have lv := mtV_lim hx hy (fun l hl => (hat l hl).2) v h1
    (refine Split.mk (fun h => ?_) (fun h => ?_) <;> (try simp only [SD] at h))
    · have hv : v < A.length := by omega
      have hvat := hat _ (gl_mem hv)
      (try simp (disch := first | omega | (simp only [LN]; omega)) only [↓EC, EW, seval, ↓reduceIte])
      refine LP_of (σ := Nat) 200000 [] (fun s => [.int .i64 (mtJ x y (gl A v) s (mtV x y A v)), .int .i64 s]) (fun s => []) (fun s => s ≤ (gl A v).length) (fun s => (gl A v).length - s) 0 (by simp [frameOk, names, lpz, sclp, scv, scvs, nrfs, nrf, FRB]) (Nat.zero_le _) ?_ ?_
      · simp (disch := first | omega | (simp only [LN]; omega)) only [↓EC, EW, seval, ↓reduceIte, ColV_def]
        rfl
      · rintro j g1
        have lj := mtJ_lim (c := gl A v) hx hy lv j (by omega)
        simp (disch := first | omega | (simp only [LN]; omega)) only [↓EC, EW, seval, ↓reduceIte, ColV_def, lheap_def]
        (refine Split.mk (fun h => ?_) (fun h => ?_) <;> (try simp only [SD] at h))
        · have hj : j < (gl A v).length := by omega
          have hcj := hvat.1 (gi (gl A v) j) (by rw [gi_of hj]; exact List.getElem_mem hj)
          (try simp (disch := first | omega | (simp only [LN]; omega)) only [↓EC, EW, seval, ↓reduceIte])
          refine LP_of (σ := Nat) 300000 [] (fun s => [.int .i64 (mtI x y (gl A v) (gi (gl A v) j) s (mtJ x y (gl A v) j (mtV x y A v))), .int .i64 s]) (fun s => []) (fun s => s ≤ j) (fun s => j - s) 0 (by simp [frameOk, names, lpz, sclp, scv, scvs, nrfs, nrf, FRB]) (Nat.zero_le _) ?_ ?_
          · simp (disch := first | omega | (simp only [LN]; omega)) only [↓EC, EW, seval, ↓reduceIte, ColV_def]
            rfl
          · rintro i k1
            have li := mtI_lim (c := gl A v) (y := gi (gl A v) j) hx hy lj i
            simp (disch := first | omega | (simp only [LN]; omega)) only [↓EC, EW, seval, ↓reduceIte, ColV_def, lheap_def]
            (refine Split.mk (fun h => ?_) (fun h => ?_) <;> (try simp only [SD] at h))
            · have hi : i < j := by omega
              have hti := gi_take (l := gl A v) hi
              have hci := hvat.1 (gi (gl A v) i) (by rw [gi_of (show i < (gl A v).length by omega)]; exact List.getElem_mem _)
              have m1 := mul_lim 1000000 1000000 (hx (gi (gl A v) i).toNat) (hy (gi (gl A v) j).toNat)
              have m2 := mul_lim 1000000 1000000 (hx (gi (gl A v) j).toNat) (hy (gi (gl A v) i).toNat)
              (try simp (disch := first | omega | (simp only [LN]; omega)) only [↓EC, EW, seval, ↓reduceIte, hti])
              exact ⟨i + 1, rfl, by omega, by omega⟩
            · (try simp (disch := first | omega | (simp only [LN]; omega)) only [↓EC, EW, seval, ↓reduceIte])
              have : i = j := by omega
              subst this
              exact ⟨i + 1, rfl, by omega, by omega⟩
        · (try simp (disch := first | omega | (simp only [LN]; omega)) only [↓EC, EW, seval, ↓reduceIte])
          have : j = (gl A v).length := by omega
          subst this
          exact ⟨v + 1, rfl, by omega, by omega⟩
    · have : v = A.length := by omega
      subst this
      have := tdiv2_lim lv
      (try simp (disch := first | omega | (simp only [LN]; omega)) only [↓EC, EW, seval, ↓reduceIte])
theorem c_spec_l09Meet {n : Int} {b w x y : List Int} (hb : okP b) (hw : okP w) (h0 : isD n b w) (hxl : (x.length : Int) = n) (hyl : (y.length : Int) = n) (hx : lmM x) (hy : lmM y) :
    PSpec Tryz.prog 36 [vD n b w, .sl x.length (vi .i64 x), .sl y.length (vi .i64 y)] fun v => v = .int .i64 (meetV b w n x y) := by
  have hl := hb.len
  have hk := hw.len
  have hn := h0.pb.1
  have lb := h0.pb.lo hb
  have lw := h0.pw.lo hw
  obtain ⟨-, hal2⟩ := allV_len (b := b) (w := w) hn
  have hat := allV_at (h0.pb.ltP hb) (h0.pw.ltP hw) hn
  have hbl := cyc_lim (p := b) hn
  have hwl := cyc_lim (p := w) hn
  refine spec_l09Meet_f.f ?_
  unfold vD
  unfold meetV
  simp (disch := first | omega | (simp only [LN]; omega)) only [↓EC, EW, seval, ↓reduceIte, spec_l09Meet_F, hl, hk]
  refine pcd_v (c_spec_l01Cycles lb hn) ?_
  (try simp (disch := first | omega | (simp only [LN]; omega)) only [↓EC, EW, seval, ↓reduceIte, hl, hk])
  refine pcd_v (c_spec_l01Cycles lw hn) ?_
  (try simp (disch := first | omega | (simp only [LN]; omega)) only [↓EC, EW, seval, ↓reduceIte, hl, hk, vl_app])
  have hA : cyc b n ++ cyc w n = allV b w n := rfl
  have hA2 : (cyc b n).length + (cyc w n).length = (allV b w n).length := by rw [← hA]; simp
  rw [hA, hA2]
  generalize allV b w n = A at *
  refine LP_of (σ := Nat) 100000 [(67, 27, 1), (90, 32, 1)] (fun s => [.int .i64 (mtV x y A s), .int .i64 s]) (fun s => [.int .i64 n :: vi .u8 (b ++ w), vl A]) (fun s => s ≤ A.length) (fun s => A.length - s) 0 (by simp [frameOk, names, lpz, sclp, scv, scvs, nrfs, nrf, FRB]) (Nat.zero_le _) ?_ ?_
  · simp (disch := first | omega | (simp only [LN]; omega)) only [↓EC, EW, seval, ↓reduceIte, ColV_def]
    rfl
  · rintro v h1
    simp (disch := first | omega | (simp only [LN]; omega)) only [↓EC, EW, seval, ↓reduceIte, ColV_def, lheap_def]
    have lv := mtV_lim hx hy (fun l hl => (hat l hl).2) v h1
    (refine Split.mk (fun h => ?_) (fun h => ?_) <;> (try simp only [SD] at h))
    · have hv : v < A.length := by omega
      have hvat := hat _ (gl_mem hv)
      (try simp (disch := first | omega | (simp only [LN]; omega)) only [↓EC, EW, seval, ↓reduceIte])
      refine LP_of (σ := Nat) 200000 [(67, 27, 1), (90, 32, 1)] (fun s => [.int .i64 (mtJ x y (gl A v) s (mtV x y A v)), .int .i64 s]) (fun s => [.int .i64 n :: vi .u8 (b ++ w), vl A]) (fun s => s ≤ (gl A v).length) (fun s => (gl A v).length - s) 0 (by simp [frameOk, names, lpz, sclp, scv, scvs, nrfs, nrf, FRB]) (Nat.zero_le _) ?_ ?_
      · simp (disch := first | omega | (simp only [LN]; omega)) only [↓EC, EW, seval, ↓reduceIte, ColV_def]
        rfl
      · rintro j g1
        have lj := mtJ_lim (c := gl A v) hx hy lv j (by omega)
        simp (disch := first | omega | (simp only [LN]; omega)) only [↓EC, EW, seval, ↓reduceIte, ColV_def, lheap_def]
        (refine Split.mk (fun h => ?_) (fun h => ?_) <;> (try simp only [SD] at h))
        · have hj : j < (gl A v).length := by omega
          have hcj := hvat.1 (gi (gl A v) j) (by rw [gi_of hj]; exact List.getElem_mem hj)
          (try simp (disch := first | omega | (simp only [LN]; omega)) only [↓EC, EW, seval, ↓reduceIte])
          refine LP_of (σ := Nat) 300000 [(67, 27, 1), (90, 32, 1)] (fun s => [.int .i64 (mtI x y (gl A v) (gi (gl A v) j) s (mtJ x y (gl A v) j (mtV x y A v))), .int .i64 s]) (fun s => [.int .i64 n :: vi .u8 (b ++ w), vl A]) (fun s => s ≤ j) (fun s => j - s) 0 (by simp [frameOk, names, lpz, sclp, scv, scvs, nrfs, nrf, FRB]) (Nat.zero_le _) ?_ ?_
          · simp (disch := first | omega | (simp only [LN]; omega)) only [↓EC, EW, seval, ↓reduceIte, ColV_def]
            rfl
          · rintro i k1
            have li := mtI_lim (c := gl A v) (y := gi (gl A v) j) hx hy lj i
            simp (disch := first | omega | (simp only [LN]; omega)) only [↓EC, EW, seval, ↓reduceIte, ColV_def, lheap_def]
            (refine Split.mk (fun h => ?_) (fun h => ?_) <;> (try simp only [SD] at h))
            · have hi : i < j := by omega
              have hci := hvat.1 (gi (gl A v) i) (by rw [gi_of (show i < (gl A v).length by omega)]; exact List.getElem_mem _)
              have m1 := mul_lim 1000000 1000000 (hx (gi (gl A v) i).toNat) (hy (gi (gl A v) j).toNat)
              have m2 := mul_lim 1000000 1000000 (hx (gi (gl A v) j).toNat) (hy (gi (gl A v) i).toNat)
              (try simp (disch := first | omega | (simp only [LN]; omega)) only [↓EC, EW, seval, ↓reduceIte])
              exact ⟨i + 1, by simp only [mtI]; rw [Int.add_sub_assoc]; rfl, by omega, by omega⟩
            · (try simp (disch := first | omega | (simp only [LN]; omega)) only [↓EC, EW, seval, ↓reduceIte])
              have : i = j := by omega
              subst this
              exact ⟨i + 1, rfl, by omega, by omega⟩
        · (try simp (disch := first | omega | (simp only [LN]; omega)) only [↓EC, EW, seval, ↓reduceIte])
          have : j = (gl A v).length := by omega
          subst this
          exact ⟨v + 1, rfl, by omega, by omega⟩
    · have : v = A.length := by omega
      subst this
      have := tdiv2_lim lv
      (try simp (disch := first | omega | (simp only [LN]; omega)) only [↓EC, EW, seval, ↓reduceIte])
noncomputable def icR (n : Int) (b w l : List Int) : Bool × Int := if isDB n b w = true then (if chnB n l = true then (cycB l (allV b w n), 0) else (false, 2)) else (false, 1)
theorem c_impl_IsCycle {n : Int} {b w l : List Int} (hb : okP b) (hw : okP w) (hl : l.length ≤ 1048576) : PSpec Tryz.prog 24 [vD n b w, .sl l.length (vi .i64 l)] fun v => v = .tup [.bool (icR n b w l).1, .int .i64 (icR n b w l).2] := by
  have hbl := hb.len
  have hwl := hw.len
  refine impl_IsCycle_f.f ?_
  have h1 := c_impl_isChain (n := n) hbl hwl hl
  have h2 := fun h0 hc => c_impl_isCycle (n := n) (a := l) hb hw h0 hc
  unfold vD at h1 h2 ⊢
  unfold icR
  simp (disch := first | omega | (simp only [LN]; omega)) only [↓EC, EW, seval, ↓reduceIte, impl_IsCycle_F, hbl, hwl]
  refine pcd_v (c_impl_IsDessin hb hw) ?_
  cases h0 : isDB n b w with
  | false => (try simp (disch := first | omega | (simp only [LN]; omega)) only [↓EC, EW, seval, ↓reduceIte, hbl, hwl])
  | true =>
    (try simp (disch := first | omega | (simp only [LN]; omega)) only [↓EC, EW, seval, ↓reduceIte, hbl, hwl])
    refine pcd_v h1 ?_
    cases hc : chnB n l with
    | false => (try simp (disch := first | omega | (simp only [LN]; omega)) only [↓EC, EW, seval, ↓reduceIte, hbl, hwl])
    | true =>
      (try simp (disch := first | omega | (simp only [LN]; omega)) only [↓EC, EW, seval, ↓reduceIte, hbl, hwl])
      refine pcd_v (h2 (isDB_iff.1 h0) hc) ?_
      (try simp (disch := first | omega | (simp only [LN]; omega)) only [↓EC, EW, seval, ↓reduceIte, hbl, hwl])
theorem c_spec_IsCycle {n : Int} {b w l : List Int} (hb : okP b) (hw : okP w) (hl : l.length ≤ 1048576) : PSpec Tryz.prog 25 [vD n b w, .sl l.length (vi .i64 l)] fun v => v = .tup [.bool (icR n b w l).1, .int .i64 (icR n b w l).2] := by
  have hbl := hb.len
  have hwl := hw.len
  refine spec_IsCycle_f.f ?_
  have h1 := c_spec_l09Chain (n := n) hbl hwl hl
  have h2 := fun h0 hc => c_spec_l09Cycle (n := n) (a := l) hb hw h0 hc
  unfold vD at h1 h2 ⊢
  unfold icR
  simp (disch := first | omega | (simp only [LN]; omega)) only [↓EC, EW, seval, ↓reduceIte, spec_IsCycle_F, hbl, hwl]
  refine pcd_v (c_spec_l01Is hb hw) ?_
  cases h0 : isDB n b w with
  | false => (try simp (disch := first | omega | (simp only [LN]; omega)) only [↓EC, EW, seval, ↓reduceIte, hbl, hwl])
  | true =>
    (try simp (disch := first | omega | (simp only [LN]; omega)) only [↓EC, EW, seval, ↓reduceIte, hbl, hwl])
    refine pcd_v h1 ?_
    cases hc : chnB n l with
    | false => (try simp (disch := first | omega | (simp only [LN]; omega)) only [↓EC, EW, seval, ↓reduceIte, hbl, hwl])
    | true =>
      (try simp (disch := first | omega | (simp only [LN]; omega)) only [↓EC, EW, seval, ↓reduceIte, hbl, hwl])
      refine pcd_v (h2 (isDB_iff.1 h0) hc) ?_
      (try simp (disch := first | omega | (simp only [LN]; omega)) only [↓EC, EW, seval, ↓reduceIte, hbl, hwl])
noncomputable def iofR (n : Int) (b w x y : List Int) : Int × Int := if isDB n b w = true then (if chnB n x = true then (if chnB n y = true then (if cycB x (allV b w n) = true then (if cycB y (allV b w n) = true then (meetV b w n x y, 0) else (0, 5)) else (0, 5)) else (0, 2)) else (0, 2)) else (0, 1)
theorem chnB_lm {n : Int} {l : List Int} (h : chnB n l = true) : lmM l := fun k => by have := (chnB_at h).2 k; omega
theorem c_impl_IntersectionOf {n : Int} {b w x y : List Int} (hb : okP b) (hw : okP w) (hx : x.length ≤ 1048576) (hy : y.length ≤ 1048576) :
    PSpec Tryz.prog 19 [vD n b w, .sl x.length (vi .i64 x), .sl y.length (vi .i64 y)] fun v => v = .tup [.int .i64 (iofR n b w x y).1, .int .i64 (iofR n b w x y).2] := by
  have hbl := hb.len
  have hwl := hw.len
  refine impl_IntersectionOf_f.f ?_
  have h1 := c_impl_isChain (n := n) hbl hwl hx
  have h1' := c_impl_isChain (n := n) hbl hwl hy
  have h2 := fun h0 hc => c_impl_isCycle (n := n) (a := x) hb hw h0 hc
  have h2' := fun h0 hc => c_impl_isCycle (n := n) (a := y) hb hw h0 hc
  have h3 := fun h0 hxl hyl hxm hym => c_impl_intersection (n := n) (x := x) (y := y) hb hw h0 hxl hyl hxm hym
  unfold vD at h1 h1' h2 h2' h3 ⊢
  unfold iofR
  simp (disch := first | omega | (simp only [LN]; omega)) only [↓EC, EW, seval, ↓reduceIte, impl_IntersectionOf_F, hbl, hwl]
  refine pcd_v (c_impl_IsDessin hb hw) ?_
  cases h0 : isDB n b w with
  | false => (try simp (disch := first | omega | (simp only [LN]; omega)) only [↓EC, EW, seval, ↓reduceIte, hbl, hwl])
  | true =>
    have hd := isDB_iff.1 h0
    (try simp (disch := first | omega | (simp only [LN]; omega)) only [↓EC, EW, seval, ↓reduceIte, hbl, hwl])
    refine pcd_v h1 ?_
    cases hc : chnB n x with
    | false => (try simp (disch := first | omega | (simp only [LN]; omega)) only [↓EC, EW, seval, ↓reduceIte, hbl, hwl])
    | true =>
      (try simp (disch := first | omega | (simp only [LN]; omega)) only [↓EC, EW, seval, ↓reduceIte, hbl, hwl])
      refine pcd_v h1' ?_
      cases hc' : chnB n y with
      | false => (try simp (disch := first | omega | (simp only [LN]; omega)) only [↓EC, EW, seval, ↓reduceIte, hbl, hwl])
      | true =>
        (try simp (disch := first | omega | (simp only [LN]; omega)) only [↓EC, EW, seval, ↓reduceIte, hbl, hwl])
        refine pcd_v (h2 hd hc) ?_
        cases hy1 : cycB x (allV b w n) with
        | false => (try simp (disch := first | omega | (simp only [LN]; omega)) only [↓EC, EW, seval, ↓reduceIte, hbl, hwl])
        | true =>
          (try simp (disch := first | omega | (simp only [LN]; omega)) only [↓EC, EW, seval, ↓reduceIte, hbl, hwl])
          refine pcd_v (h2' hd hc') ?_
          cases hy2 : cycB y (allV b w n) with
          | false => (try simp (disch := first | omega | (simp only [LN]; omega)) only [↓EC, EW, seval, ↓reduceIte, hbl, hwl])
          | true =>
            (try simp (disch := first | omega | (simp only [LN]; omega)) only [↓EC, EW, seval, ↓reduceIte, hbl, hwl])
            refine pcd_v (h3 hd (chnB_at hc).1 (chnB_at hc').1 (chnB_lm hc) (chnB_lm hc')) ?_
            (try simp (disch := first | omega | (simp only [LN]; omega)) only [↓EC, EW, seval, ↓reduceIte, hbl, hwl])
theorem c_spec_IntersectionOf {n : Int} {b w x y : List Int} (hb : okP b) (hw : okP w) (hx : x.length ≤ 1048576) (hy : y.length ≤ 1048576) :
    PSpec Tryz.prog 20 [vD n b w, .sl x.length (vi .i64 x), .sl y.length (vi .i64 y)] fun v => v = .tup [.int .i64 (iofR n b w x y).1, .int .i64 (iofR n b w x y).2] := by
  have hbl := hb.len
  have hwl := hw.len
  refine spec_IntersectionOf_f.f ?_
  have h1 := c_spec_l09Chain (n := n) hbl hwl hx
  have h1' := c_spec_l09Chain (n := n) hbl hwl hy
  have h2 := fun h0 hc => c_spec_l09Cycle (n := n) (a := x) hb hw h0 hc
  have h2' := fun h0 hc => c_spec_l09Cycle (n := n) (a := y) hb hw h0 hc
  have h3 := fun h0 hxl hyl hxm hym => c_spec_l09Meet (n := n) (x := x) (y := y) hb hw h0 hxl hyl hxm hym
  unfold vD at h1 h1' h2 h2' h3 ⊢
  unfold iofR
  simp (disch := first | omega | (simp only [LN]; omega)) only [↓EC, EW, seval, ↓reduceIte, spec_IntersectionOf_F, hbl, hwl]
  refine pcd_v (c_spec_l01Is hb hw) ?_
  cases h0 : isDB n b w with
  | false => (try simp (disch := first | omega | (simp only [LN]; omega)) only [↓EC, EW, seval, ↓reduceIte, hbl, hwl])
  | true =>
    have hd := isDB_iff.1 h0
    (try simp (disch := first | omega | (simp only [LN]; omega)) only [↓EC, EW, seval, ↓reduceIte, hbl, hwl])
    refine pcd_v h1 ?_
    cases hc : chnB n x with
    | false => (try simp (disch := first | omega | (simp only [LN]; omega)) only [↓EC, EW, seval, ↓reduceIte, hbl, hwl])
    | true =>
      (try simp (disch := first | omega | (simp only [LN]; omega)) only [↓EC, EW, seval, ↓reduceIte, hbl, hwl])
      refine pcd_v h1' ?_
      cases hc' : chnB n y with
      | false => (try simp (disch := first | omega | (simp only [LN]; omega)) only [↓EC, EW, seval, ↓reduceIte, hbl, hwl])
      | true =>
        (try simp (disch := first | omega | (simp only [LN]; omega)) only [↓EC, EW, seval, ↓reduceIte, hbl, hwl])
        refine pcd_v (h2 hd hc) ?_
        cases hy1 : cycB x (allV b w n) with
        | false => (try simp (disch := first | omega | (simp only [LN]; omega)) only [↓EC, EW, seval, ↓reduceIte, hbl, hwl])
        | true =>
          (try simp (disch := first | omega | (simp only [LN]; omega)) only [↓EC, EW, seval, ↓reduceIte, hbl, hwl])
          refine pcd_v (h2' hd hc') ?_
          cases hy2 : cycB y (allV b w n) with
          | false => (try simp (disch := first | omega | (simp only [LN]; omega)) only [↓EC, EW, seval, ↓reduceIte, hbl, hwl])
          | true =>
            (try simp (disch := first | omega | (simp only [LN]; omega)) only [↓EC, EW, seval, ↓reduceIte, hbl, hwl])
            refine pcd_v (h3 hd (chnB_at hc).1 (chnB_at hc').1 (chnB_lm hc) (chnB_lm hc')) ?_
            (try simp (disch := first | omega | (simp only [LN]; omega)) only [↓EC, EW, seval, ↓reduceIte, hbl, hwl])
end
section
theorem gb_set_iff {m : List Bool} {k x : Nat} (hk : k < m.length) : gb (m.set k true) x = true ↔ x = k ∨ gb m x = true := by
  rw [gb_set]
  by_cases h : k = x
  · subst h; simp [hk]
  · rw [if_neg (fun h' => h h'.1)]
    exact ⟨.inr, fun h' => h'.elim (fun e => absurd e.symm h) id⟩
theorem cycF_mem {p : List Int} (hp : ∀ x : Nat, 0 ≤ gi p x) : ∀ (c : Nat) {k : Int} {m : List Bool} {acc : List Int}, m.count false = c → 0 ≤ k →
    (∀ y ∈ acc, y ∈ (cycF p k m acc).2) ∧ (∀ x : Nat, gb (cycF p k m acc).1 x = true → gb m x = true ∨ (x : Int) ∈ (cycF p k m acc).2) ∧ (∀ x : Nat, gb m x = true → gb (cycF p k m acc).1 x = true) ∧ (k.toNat < m.length → gb (cycF p k m acc).1 k.toNat = true) := by
  intro c
  induction c using Nat.strongRecOn with
  | ind c ih =>
    intro k m acc hc h0
    by_cases h : gb m k.toNat = false ∧ k.toNat < m.length
    · rw [cycF_go h.1 h.2]
      have hlt := count_false_lt h.1 h.2
      obtain ⟨h1, h2, h3, h4⟩ := @ih _ (by omega) (gi p k.toNat) (m.set k.toNat true) (acc ++ [k]) rfl (hp _)
      refine ⟨fun y hy => h1 y (by simp [hy]), fun x hx => ?_, fun x hx => h3 x ((gb_set_iff h.2).2 (.inr hx)), fun _ => h3 _ ((gb_set_iff h.2).2 (.inl rfl))⟩
      rcases h2 x hx with h' | h'
      · rcases (gb_set_iff h.2).1 h' with rfl | h'
        · exact .inr (h1 _ (by simp; omega))
        · exact .inl h'
      · exact .inr h'
    · rw [cycF, dif_neg h]
      refine ⟨fun _ h => h, fun x hx => .inl hx, fun _ h => h, fun hk => ?_⟩
      cases hg : gb m k.toNat with
      | true => rfl
      | false => exact absurd ⟨hg, hk⟩ h
theorem cycO_mem {p : List Int} (hp : ∀ x : Nat, 0 ≤ gi p x) : ∀ i : Nat, i ≤ 16 → (∀ j, j < i → gb (cycO p i).1 j = true) ∧ ∀ x : Nat, gb (cycO p i).1 x = true → ∃ l ∈ (cycO p i).2, (x : Int) ∈ l
  | 0, _ => ⟨fun j hj => absurd hj (Nat.not_lt_zero j), fun x hx => by simp only [cycO] at hx; rw [gb_rep] at hx; simp at hx⟩
  | i + 1, hi => by
    obtain ⟨h1, h2⟩ := cycO_mem hp i (by omega)
    simp only [cycO]
    split
    · rename_i h
      refine ⟨fun j hj => ?_, h2⟩
      by_cases e : j = i
      · subst e; exact h
      · exact h1 j (by omega)
    · rename_i h
      obtain ⟨g1, g2, g3, g4⟩ := cycF_mem hp _ (k := (i : Int)) (m := (cycO p i).1) (acc := []) rfl (by omega)
      refine ⟨fun j hj => ?_, fun x hx => ?_⟩
      · by_cases e : j = i
        · subst e
          have := g4 (by rw [(cycO_len j).1]; simp only [Int.toNat_natCast]; omega)
          simpa using this
        · exact g3 j (h1 j (by omega))
      · rcases g2 x hx with h | h
        · obtain ⟨l, h3, h4⟩ := h2 x h
          exact ⟨l, by simp [h3], h4⟩
        · exact ⟨_, by simp, h⟩
theorem cyc_mem {p : List Int} {n : Int} (hp : lo16 p) (hn : 1 ≤ n ∧ n ≤ 16) {x : Nat} (hx : (x : Int) < n) : ∃ l ∈ cyc p n, (x : Int) ∈ l := by
  have h0 : ∀ x : Nat, 0 ≤ gi p x := fun x => by
    by_cases h : x < 16
    · exact (hp.2 x h).1
    · rw [gi_over (by rw [hp.1]; omega)]; omega
  obtain ⟨h1, h2⟩ := cycO_mem h0 n.toNat (by omega)
  exact h2 x (h1 x (by omega))
def wI (v : Nat) (c : List Int) : Nat → List Int → List Int
  | 0, L => L
  | s + 1, L => (wI v c s L).set (gi c s).toNat v
def wO (A : List (List Int)) : Nat → List Int
  | 0 => List.replicate 16 0
  | v + 1 => wI v (gl A v) (gl A v).length (wO A v)
theorem wI_len {v : Nat} {c L : List Int} : ∀ s, (wI v c s L).length = L.length
  | 0 => rfl
  | s + 1 => by simp [wI, wI_len s]
theorem wO_len {A : List (List Int)} : ∀ v, (wO A v).length = 16
  | 0 => by simp [wO]
  | v + 1 => by simp [wO, wI_len, wO_len v]
def whichL (p : List Int) (n : Int) : List Int := wO (cyc p n) (cyc p n).length
theorem take_mem_succ {c : List Int} {s : Nat} (hs : s < c.length) (x : Int) : x ∈ c.take (s + 1) ↔ x ∈ c.take s ∨ x = gi c s := by
  rw [List.take_add_one, List.mem_append]
  simp [gi, List.getD, hs]
theorem wI_at {v : Nat} {c L : List Int} (hc : ∀ y ∈ c, 0 ≤ y ∧ y < 16) (hL : L.length = 16) {x : Nat} (hx : x < 16) : ∀ s, s ≤ c.length → gi (wI v c s L) x = if (x : Int) ∈ c.take s then (v : Int) else gi L x
  | 0, _ => by simp [wI]
  | s + 1, hs => by
    have ih := wI_at (v := v) hc hL hx s (by omega)
    have hcs := hc (gi c s) (by rw [gi_of (show s < c.length by omega)]; exact List.getElem_mem _)
    simp only [wI]
    rw [gi_set, wI_len, hL]
    by_cases e : (gi c s).toNat = x
    · rw [if_pos ⟨e, hx⟩, if_pos ((take_mem_succ (by omega) _).2 (.inr (by omega)))]
    · rw [if_neg (fun h => e h.1), ih]
      by_cases h : (x : Int) ∈ c.take s
      · rw [if_pos h, if_pos ((take_mem_succ (by omega) _).2 (.inl h))]
      · rw [if_neg h, if_neg]
        intro h'
        rcases (take_mem_succ (by omega) _).1 h' with h' | h'
        · exact h h'
        · omega
theorem eI_at {B v n : Nat} {c E : List Int} (hc : ∀ y ∈ c, 0 ≤ y ∧ y < n) (hE : E.length = n * 2) {x d : Nat} (hx : x < n) (hd : d < 2) : ∀ s, s ≤ c.length →
    gi (eI B v c s E) (x * 2 + d) = if d = (if v < B then 0 else 1) ∧ (x : Int) ∈ c.take s then (v : Int) else gi E (x * 2 + d)
  | 0, _ => by simp [eI]
  | s + 1, hs => by
    have ih := eI_at (B := B) (v := v) hc hE hx hd s (by omega)
    have hcs := hc (gi c s) (by rw [gi_of (show s < c.length by omega)]; exact List.getElem_mem _)
    have h01 : (if v < B then 0 else 1) < 2 := by split <;> omega
    simp only [eI]
    generalize (if v < B then 0 else 1) = q at *
    rw [gi_set, eI_len, hE]
    by_cases e : (gi c s).toNat * 2 + q = x * 2 + d
    · rw [if_pos ⟨e, by omega⟩, if_pos ⟨by omega, (take_mem_succ (by omega) _).2 (.inr (by omega))⟩]
    · rw [if_neg (fun h => e h.1), ih]
      by_cases h : d = q ∧ (x : Int) ∈ c.take s
      · rw [if_pos h, if_pos ⟨h.1, (take_mem_succ (by omega) _).2 (.inl h.2)⟩]
      · rw [if_neg h, if_neg]
        rintro ⟨h1, h'⟩
        rcases (take_mem_succ (by omega) _).1 h' with h' | h'
        · exact h ⟨h1, h'⟩
        · omega
theorem wO_at {A : List (List Int)} (hA : ∀ l ∈ A, ∀ y ∈ l, 0 ≤ y ∧ y < 16) {v x : Nat} (hv : v < A.length) (hx : x < 16) : gi (wO A (v + 1)) x = if (x : Int) ∈ gl A v then (v : Int) else gi (wO A v) x := by
  have := wI_at (v := v) (hA _ (gl_mem hv)) (wO_len (A := A) v) hx (gl A v).length (Nat.le_refl _)
  rw [List.take_length] at this
  exact this
theorem eO_at {B : Nat} {A : List (List Int)} {n : Int} (hA : ∀ l ∈ A, ∀ y ∈ l, 0 ≤ y ∧ y < n) {v x d : Nat} (hv : v < A.length) (hx : (x : Int) < n) (hd : d < 2) :
    gi (eO B A n (v + 1)) (x * 2 + d) = if d = (if v < B then 0 else 1) ∧ (x : Int) ∈ gl A v then (v : Int) else gi (eO B A n v) (x * 2 + d) := by
  have := eI_at (B := B) (v := v) (n := n.toNat) (c := gl A v) (E := eO B A n v) (fun y hy => by have := hA _ (gl_mem hv) y hy; omega) (eO_len v) (x := x) (d := d) (by omega) hd (gl A v).length (Nat.le_refl _)
  rw [List.take_length] at this
  exact this
section
variable {b w : List Int} {n : Int}
theorem ends0 (hb : ltP b n) (hw : ltP w n) (hn : 1 ≤ n ∧ n ≤ 16) {x : Nat} (hx : (x : Int) < n) : gi (endV b w n) (x * 2) = gi (whichL b n) x := by
  have hA : ∀ l ∈ allV b w n, ∀ y ∈ l, 0 ≤ y ∧ y < n := fun l hl => (allV_at hb hw hn l hl).1
  have hB : ∀ l ∈ cyc b n, ∀ y ∈ l, 0 ≤ y ∧ y < 16 := fun l hl y hy => by have := (cyc_at hb hn l hl).1 y hy; omega
  have hlen := (allV_len (b := b) (w := w) hn).1
  have h1 : ∀ v, v ≤ (cyc b n).length → gi (eO (cyc b n).length (allV b w n) n v) (x * 2) = gi (wO (cyc b n) v) x := by
    intro v hv
    induction v with
    | zero => simp only [eO, wO]; rw [gi_rep, gi_rep]; split <;> split <;> rfl
    | succ v ih =>
      have e1 := eO_at (B := (cyc b n).length) (d := 0) hA (v := v) (by omega) hx (by omega)
      simp only [Nat.add_zero] at e1
      rw [e1, wO_at hB (by omega) (by omega), if_pos (show v < (cyc b n).length by omega), ih (by omega)]
      have : gl (allV b w n) v = gl (cyc b n) v := by unfold allV; rw [gl_app, if_pos (by omega)]
      rw [this]; simp
  have h2 : ∀ v, gi (eO (cyc b n).length (allV b w n) n ((cyc b n).length + v)) (x * 2) = gi (eO (cyc b n).length (allV b w n) n (cyc b n).length) (x * 2) ∨ (allV b w n).length < (cyc b n).length + v := by
    intro v
    induction v with
    | zero => exact .inl rfl
    | succ v ih =>
      rcases ih with ih | ih
      · by_cases hlt : (cyc b n).length + v < (allV b w n).length
        · have e1 := eO_at (B := (cyc b n).length) (d := 0) hA (v := (cyc b n).length + v) hlt hx (by omega)
          simp only [Nat.add_zero] at e1
          left
          rw [← Nat.add_assoc, e1, if_neg (show ¬ (cyc b n).length + v < (cyc b n).length by omega), if_neg (fun h => by omega), ih]
        · right; omega
      · right; omega
  unfold endV whichL
  rw [hlen]
  rcases h2 (cyc w n).length with h | h
  · rw [h, h1 _ (Nat.le_refl _)]
  · omega
theorem ends1 (hb : ltP b n) (hw : ltP w n) (lw : lo16 w) (hn : 1 ≤ n ∧ n ≤ 16) {x : Nat} (hx : (x : Int) < n) : gi (endV b w n) (x * 2 + 1) = (cyc b n).length + gi (whichL w n) x := by
  have hA : ∀ l ∈ allV b w n, ∀ y ∈ l, 0 ≤ y ∧ y < n := fun l hl => (allV_at hb hw hn l hl).1
  have hB : ∀ l ∈ cyc w n, ∀ y ∈ l, 0 ≤ y ∧ y < 16 := fun l hl y hy => by have := (cyc_at hw hn l hl).1 y hy; omega
  have hlen := (allV_len (b := b) (w := w) hn).1
  have h1 : ∀ v, v ≤ (cyc w n).length → (∃ j, j < v ∧ (x : Int) ∈ gl (cyc w n) j) → gi (eO (cyc b n).length (allV b w n) n ((cyc b n).length + v)) (x * 2 + 1) = (cyc b n).length + gi (wO (cyc w n) v) x := by
    intro v hv
    induction v with
    | zero => rintro ⟨j, hj, _⟩; omega
    | succ v ih =>
      rintro ⟨j, hj, hm⟩
      have e1 := eO_at (B := (cyc b n).length) (d := 1) hA (v := (cyc b n).length + v) (by omega) hx (by omega)
      have e2 : gl (allV b w n) ((cyc b n).length + v) = gl (cyc w n) v := by unfold allV; rw [gl_app, if_neg (by omega), Nat.add_sub_cancel_left]
      rw [← Nat.add_assoc, e1, wO_at hB (by omega) (by omega), if_neg (show ¬ (cyc b n).length + v < (cyc b n).length by omega), e2]
      by_cases h : (x : Int) ∈ gl (cyc w n) v
      · rw [if_pos ⟨rfl, h⟩, if_pos h]; omega
      · rw [if_neg (fun h' => h h'.2), if_neg h]
        refine ih (by omega) ⟨j, ?_, hm⟩
        by_cases e : j = v
        · subst e; exact absurd hm h
        · omega
  unfold endV whichL
  rw [hlen]
  refine h1 _ (Nat.le_refl _) ?_
  obtain ⟨l, hl, hm⟩ := cyc_mem lw hn hx
  obtain ⟨j, hj, rfl⟩ := List.mem_iff_getElem.1 hl
  exact ⟨j, hj, by simpa [gl, List.getD, hj] using hm⟩
end
theorem whichL_lim {p : List Int} {n : Int} (hn : 1 ≤ n ∧ n ≤ 16) (hp : ltP p n) {x : Nat} : 0 ≤ gi (whichL p n) x ∧ gi (whichL p n) x < (cyc p n).length := by
  have hB : ∀ l ∈ cyc p n, ∀ y ∈ l, 0 ≤ y ∧ y < 16 := fun l hl y hy => by have := (cyc_at hp hn l hl).1 y hy; omega
  have h0 := cyc_pos (p := p) hn
  by_cases hx : x < 16
  · have : ∀ v, v ≤ (cyc p n).length → 0 ≤ gi (wO (cyc p n) v) x ∧ gi (wO (cyc p n) v) x < (cyc p n).length := by
      intro v hv
      induction v with
      | zero => simp only [wO]; rw [gi_rep]; split <;> omega
      | succ v ih =>
        rw [wO_at hB (by omega) hx]
        split
        · omega
        · exact ih (by omega)
    exact this _ (Nat.le_refl _)
  · unfold whichL; rw [gi_over (by rw [wO_len]; omega)]; omega
def jnL (c : List Int) (f t : Int) : List Int := c.map fun z => if z = f then t else z
theorem jnL_len {c : List Int} {f t : Int} : (jnL c f t).length = c.length := by simp [jnL]
theorem jnL_at {c : List Int} {f t : Int} {i : Nat} (hi : i < c.length) : gi (jnL c f t) i = if gi c i = f then t else gi c i := by
  rw [gi_of (by rw [jnL_len]; exact hi), gi_of hi]; simp [jnL]
theorem jnL_self {c : List Int} {f : Int} : jnL c f f = c := by
  unfold jnL
  conv => rhs; rw [← List.map_id c]
  refine List.map_congr_left fun z _ => ?_
  split
  · rename_i h; exact h.symm
  · rfl
theorem jnL_rel {c : List Int} {f t : Int} {i j : Nat} (hi : i < c.length) (hj : j < c.length) : gi (jnL c f t) i = gi (jnL c f t) j ↔ gi c i = gi c j ∨ ((gi c i = f ∨ gi c i = t) ∧ (gi c j = f ∨ gi c j = t)) := by
  rw [jnL_at hi, jnL_at hj]
  split <;> split <;> omega
def trS (b w : List Int) (n : Int) : Nat → List Int × List Bool
  | 0 => (iota 0 32, List.replicate 16 false)
  | x + 1 => (jnL (trS b w n x).1 (gi (trS b w n x).1 (16 + gi (whichL w n) x).toNat) (gi (trS b w n x).1 (gi (whichL b n) x).toNat),
      (trS b w n x).2.set x (decide (¬ gi (trS b w n x).1 (16 + gi (whichL w n) x).toNat = gi (trS b w n x).1 (gi (whichL b n) x).toNat)))
def trI (b w : List Int) (n : Int) : Nat → List Int × List Int
  | 0 => (iota 0 (allV b w n).length, [])
  | x + 1 => (jnL (trI b w n x).1 (max (gi (trI b w n x).1 (gi (endV b w n) (x * 2)).toNat) (gi (trI b w n x).1 (gi (endV b w n) (x * 2 + 1)).toNat)) (min (gi (trI b w n x).1 (gi (endV b w n) (x * 2)).toNat) (gi (trI b w n x).1 (gi (endV b w n) (x * 2 + 1)).toNat)),
      if gi (trI b w n x).1 (gi (endV b w n) (x * 2)).toNat = gi (trI b w n x).1 (gi (endV b w n) (x * 2 + 1)).toNat then (trI b w n x).2 else (trI b w n x).2 ++ [(x : Int)])
theorem trS_len {b w : List Int} {n : Int} : ∀ x, (trS b w n x).1.length = 32 ∧ (trS b w n x).2.length = 16
  | 0 => by simp [trS, iota_len]
  | x + 1 => by simp [trS, jnL_len, trS_len x]
theorem trI_len {b w : List Int} {n : Int} : ∀ x, (trI b w n x).1.length = (allV b w n).length ∧ (trI b w n x).2.length ≤ x
  | 0 => by simp [trI, iota_len]
  | x + 1 => by
    obtain ⟨h1, h2⟩ := trI_len (b := b) (w := w) (n := n) x
    refine ⟨by simp [trI, jnL_len, h1], ?_⟩
    simp only [trI]
    split
    · omega
    · simp; omega
def collect (m : List Bool) : Nat → List Int
  | 0 => []
  | x + 1 => if gb m x = true then collect m x ++ [(x : Int)] else collect m x
theorem collect_congr {m m' : List Bool} : ∀ x, (∀ y, y < x → gb m y = gb m' y) → collect m x = collect m' x
  | 0, _ => rfl
  | x + 1, h => by simp only [collect]; rw [collect_congr x fun y hy => h y (by omega), h x (by omega)]
theorem collect_len {m : List Bool} : ∀ x, (collect m x).length ≤ x
  | 0 => by simp [collect]
  | x + 1 => by
    have := collect_len (m := m) x
    simp only [collect]; split <;> simp <;> omega
def phi (B : Nat) (i : Nat) : Nat := if i < B then i else 16 + (i - B)
theorem tr_rel {b w : List Int} {n : Int} (hb : ltP b n) (hw : ltP w n) (lw : lo16 w) (hn : 1 ≤ n ∧ n ≤ 16) : ∀ x : Nat, (x : Int) ≤ n →
    (∀ i j, i < (allV b w n).length → j < (allV b w n).length → (gi (trI b w n x).1 i = gi (trI b w n x).1 j ↔ gi (trS b w n x).1 (phi (cyc b n).length i) = gi (trS b w n x).1 (phi (cyc b n).length j))) ∧
    (trI b w n x).2 = collect (trS b w n x).2 x := by
  have hlen := (allV_len (b := b) (w := w) hn).1
  have hB := cyc_lim (p := b) hn
  have hW := cyc_lim (p := w) hn
  have hph : ∀ i, i < (allV b w n).length → phi (cyc b n).length i < 32 := fun i hi => by unfold phi; split <;> omega
  intro x
  induction x with
  | zero =>
    intro _
    refine ⟨fun i j hi hj => ?_, rfl⟩
    have h1 := hph i hi
    have h2 := hph j hj
    simp only [trI, trS]
    rw [iota_at hi, iota_at hj, iota_at h1, iota_at h2]
    unfold phi at h1 h2 ⊢
    split <;> split <;> omega
  | succ x ih =>
    intro hx
    obtain ⟨h1, h2⟩ := ih (by omega)
    obtain ⟨q1, q2⟩ := trS_len (b := b) (w := w) (n := n) x
    have q3 := (trI_len (b := b) (w := w) (n := n) x).1
    have e0 := ends0 hb hw hn (x := x) (by omega)
    have e1 := ends1 hb hw lw hn (x := x) (by omega)
    have b0 := whichL_lim (x := x) hn hb
    have w0 := whichL_lim (x := x) hn hw
    have hE0 : (gi (endV b w n) (x * 2)).toNat < (allV b w n).length := by omega
    have hE1 : (gi (endV b w n) (x * 2 + 1)).toNat < (allV b w n).length := by omega
    have p0 : phi (cyc b n).length (gi (endV b w n) (x * 2)).toNat = (gi (whichL b n) x).toNat := by unfold phi; rw [if_pos (by omega)]; omega
    have p1 : phi (cyc b n).length (gi (endV b w n) (x * 2 + 1)).toNat = (16 + gi (whichL w n) x).toNat := by unfold phi; rw [if_neg (by omega)]; omega
    have k01 := h1 _ _ hE0 hE1
    rw [p0, p1] at k01
    refine ⟨fun i j hi hj => ?_, ?_⟩
    · have ki0 := h1 _ _ hi hE0
      have ki1 := h1 _ _ hi hE1
      have kj0 := h1 _ _ hj hE0
      have kj1 := h1 _ _ hj hE1
      have kij := h1 _ _ hi hj
      rw [p0] at ki0 kj0
      rw [p1] at ki1 kj1
      simp only [trI, trS]
      rw [jnL_rel (by omega) (by omega), jnL_rel (by have := hph i hi; omega) (by have := hph j hj; omega)]
      omega
    · have hg : ∀ y, y < x → gb (trS b w n (x + 1)).2 y = gb (trS b w n x).2 y := fun y hy => by simp only [trS]; rw [gb_set, if_neg (by omega)]
      have hgx : gb (trS b w n (x + 1)).2 x = decide (¬ gi (trS b w n x).1 (16 + gi (whichL w n) x).toNat = gi (trS b w n x).1 (gi (whichL b n) x).toNat) := by
        simp only [trS]; rw [gb_set, if_pos ⟨rfl, by omega⟩]
      simp only [collect]
      rw [collect_congr x hg, ← h2]
      simp only [hgx, decide_eq_true_eq, trI]
      split <;> split <;> first | rfl | (exfalso; omega)
def treeM (b w : List Int) (n : Int) : List Bool := (trS b w n n.toNat).2
def treeL (b w : List Int) (n : Int) : List Int := collect (treeM b w n) n.toNat
end
section
theorem iota_one {n : Nat} : iota 0 (n + 1) = iota 0 n ++ [(n : Int)] := by simp [iota, List.range_succ]
theorem c_impl_newClasses {n : Nat} (hn : n ≤ 1048576) : PSpec Tryz.prog 61 [.int .i64 n] fun v => v = .own 2 1 n (vi .i64 (iota 0 n)) := by
  refine impl_newClasses_f.f ?_
  simp (disch := first | omega | (simp only [LN]; omega)) only [↓EC, EW, seval, ↓reduceIte, impl_newClasses_F]
  refine LP_ofE (σ := Nat) [1, 1] 100000 [] (fun s => [.own 2 1 s (vi .i64 (iota 0 s)), .int .i64 s]) (fun s => []) (fun s => s ≤ n) (fun s => n - s) 0 (by simp [frameOk, names, lpz, sclp, scv, scvs, nrfs, nrf, FRB]) (Nat.zero_le _) ?_ ?_
  · simp (disch := first | omega | (simp only [LN]; omega)) only [↓EC, EW, seval, ↓reduceIte, ColV_def]
    exact ⟨fun _ => trivial, rfl⟩
  · rintro s h1
    have hl := iota_len (k := 0) (n := s)
    simp (disch := first | omega | (simp only [LN]; omega)) only [↓EC, EW, seval, ↓reduceIte, ColV_def, lheap_def]
    (refine Split.mk (fun h => ?_) (fun h => ?_) <;> (try simp only [SD] at h))
    · (try simp (disch := first | omega | (simp only [LN]; omega)) only [↓EC, EW, seval, ↓reduceIte, hl])
      exact ⟨s + 1, by rw [iota_one]; rfl, by omega, by omega⟩
    · have : s = n := by omega
      subst this
      (try simp (disch := first | omega | (simp only [LN]; omega)) only [↓EC, EW, seval, ↓reduceIte, hl])
theorem c_spec_l09Alone {n : Nat} (hn : n ≤ 1048576) : PSpec Tryz.prog 69 [.int .i64 n] fun v => v = .own 2 1 n (vi .i64 (iota 0 n)) := by
  refine spec_l09Alone_f.f ?_
  simp (disch := first | omega | (simp only [LN]; omega)) only [↓EC, EW, seval, ↓reduceIte, spec_l09Alone_F]
  refine LP_ofE (σ := Nat) [1, 1] 100000 [] (fun s => [.own 2 1 s (vi .i64 (iota 0 s)), .int .i64 s]) (fun s => []) (fun s => s ≤ n) (fun s => n - s) 0 (by simp [frameOk, names, lpz, sclp, scv, scvs, nrfs, nrf, FRB]) (Nat.zero_le _) ?_ ?_
  · simp (disch := first | omega | (simp only [LN]; omega)) only [↓EC, EW, seval, ↓reduceIte, ColV_def]
    exact ⟨fun _ => trivial, rfl⟩
  · rintro s h1
    have hl := iota_len (k := 0) (n := s)
    simp (disch := first | omega | (simp only [LN]; omega)) only [↓EC, EW, seval, ↓reduceIte, ColV_def, lheap_def]
    (refine Split.mk (fun h => ?_) (fun h => ?_) <;> (try simp only [SD] at h))
    · (try simp (disch := first | omega | (simp only [LN]; omega)) only [↓EC, EW, seval, ↓reduceIte, hl])
      exact ⟨s + 1, by rw [iota_one]; rfl, by omega, by omega⟩
    · have : s = n := by omega
      subst this
      (try simp (disch := first | omega | (simp only [LN]; omega)) only [↓EC, EW, seval, ↓reduceIte, hl])
def jnT (c : List Int) (f t : Int) (i : Nat) : List Int := (jnL c f t).take i ++ c.drop i
theorem jnT_0 {c : List Int} {f t : Int} : jnT c f t 0 = c := by simp [jnT]
theorem jnT_step {c : List Int} {f t : Int} {i : Nat} (hi : i < c.length) : (jnT c f t i).set i (if gi c i = f then t else gi c i) = jnT c f t (i + 1) := by
  unfold jnT
  have hl : ((jnL c f t).take i).length = i := by rw [List.length_take, jnL_len]; omega
  rw [List.set_append_right _ _ (by omega), hl, Nat.sub_self, drop_getD (d := 0) hi, List.take_add_one]
  have : (jnL c f t)[i]? = some (if gi c i = f then t else gi c i) := by simp [jnL, gi, List.getD, hi]
  rw [this]
  simp
theorem jnT_at {c : List Int} {f t : Int} {i : Nat} (hi : i < c.length) : gi (jnT c f t i) i = gi c i := by
  unfold jnT
  have hl : ((jnL c f t).take i).length = i := by rw [List.length_take, jnL_len]; omega
  rw [gi_app, if_neg (by omega), hl, Nat.sub_self, drop_getD (d := 0) hi]; rfl
theorem jnT_len {c : List Int} {f t : Int} {i : Nat} (hi : i ≤ c.length) : (jnT c f t i).length = c.length := by simp [jnT, jnL_len]; omega
theorem jnT_end {c : List Int} {f t : Int} : jnT c f t c.length = jnL c f t := by
  unfold jnT
  rw [List.take_of_length_le (by rw [jnL_len]; exact Nat.le_refl _), List.drop_length, List.append_nil]
theorem jnT_same {c : List Int} {f t : Int} {i : Nat} (hi : i < c.length) (h : ¬ gi c i = f) : jnT c f t (i + 1) = jnT c f t i := by
  rw [← jnT_step hi, if_neg h]
  refine gi_ext (by simp) fun j hj => ?_
  rw [gi_set]
  split
  · rename_i h2
    obtain ⟨rfl, _⟩ := h2
    exact (jnT_at hi).symm
  · rfl
theorem c_impl_join {c : List Int} {x y : Int} (hc : c.length ≤ 1048576) (hx : 0 ≤ x ∧ x < c.length) (hy : 0 ≤ y ∧ y < c.length) :
    PSpecM Tryz.prog 62 [.rf 0 0 c.length, .int .i64 x, .int .i64 y] [(0, 2, 1)] [vi .i64 c] fun v cs => v = .bool (decide (¬ gi c x.toNat = gi c y.toNat)) ∧ cs = [vi .i64 (jnL c (max (gi c x.toNat) (gi c y.toNat)) (min (gi c x.toNat) (gi c y.toNat)))] := by
  refine impl_classes_join_f.m rfl rfl ?_
  simp (disch := first | omega | (simp only [LN]; omega)) only [↓EC, EW, seval, ↓reduceIte, impl_classes_join_F]
  rw [show (if gi c y.toNat < gi c x.toNat then gi c y.toNat else gi c x.toNat) = min (gi c x.toNat) (gi c y.toNat) from by split <;> omega,
    show (if gi c x.toNat < gi c y.toNat then gi c y.toNat else gi c x.toNat) = max (gi c x.toNat) (gi c y.toNat) from by split <;> omega]
  have hmm : (min (gi c x.toNat) (gi c y.toNat) != max (gi c x.toNat) (gi c y.toNat)) = decide (¬ gi c x.toNat = gi c y.toNat) := by
    rw [Bool.eq_iff_iff, bne_iff_ne, decide_eq_true_eq]; omega
  rw [← hmm]
  generalize min (gi c x.toNat) (gi c y.toNat) = t
  generalize max (gi c x.toNat) (gi c y.toNat) = f
  refine LP_of (σ := Nat) 100000 [(0, 2, 1)] (fun s => [.int .i64 s]) (fun s => [vi .i64 (jnT c f t s)]) (fun s => s ≤ c.length) (fun s => c.length - s) 0 (by simp [frameOk, names, lpz, sclp, scv, scvs, nrfs, nrf, FRB]) (Nat.zero_le _) ?_ ?_
  · simp (disch := first | omega | (simp only [LN]; omega)) only [↓EC, EW, seval, ↓reduceIte, ColV_def, jnT_0]
  · rintro i h1
    have hl := jnT_len (f := f) (t := t) h1
    simp (disch := first | omega | (simp only [LN]; omega)) only [↓EC, EW, seval, ↓reduceIte, ColV_def, lheap_def]
    (refine Split.mk (fun h => ?_) (fun h => ?_) <;> (try simp only [SD] at h))
    · have hi : i < c.length := by omega
      have hg := jnT_at (f := f) (t := t) hi
      have hs := jnT_step (f := f) (t := t) hi
      (try simp (disch := first | omega | (simp only [LN]; omega)) only [↓EC, EW, seval, ↓reduceIte, hl, hg])
      (refine Split.mk (fun h => ?_) (fun h => ?_) <;> (try simp only [SD] at h))
      · (try simp (disch := first | omega | (simp only [LN]; omega)) only [↓EC, EW, seval, ↓reduceIte, hl, hg])
        rw [if_pos h] at hs
        exact ⟨i + 1, rfl, by rw [← hs], by omega, by omega⟩
      · (try simp (disch := first | omega | (simp only [LN]; omega)) only [↓EC, EW, seval, ↓reduceIte, hl, hg])
        exact ⟨i + 1, rfl, by rw [jnT_same hi h], by omega, by omega⟩
    · have : i = c.length := by omega
      subst this
      (try simp (disch := first | omega | (simp only [LN]; omega)) only [↓EC, EW, seval, ↓reduceIte, jnT_end])
theorem c_spec_l09Join {c : List Int} {x y : Int} (hc : c.length ≤ 1048576) (hx : 0 ≤ x ∧ x < c.length) (hy : 0 ≤ y ∧ y < c.length) :
    PSpecM Tryz.prog 70 [.rf 0 0 c.length, .int .i64 x, .int .i64 y] [(0, 2, 1)] [vi .i64 c] fun v cs => v = .bool (decide (¬ gi c y.toNat = gi c x.toNat)) ∧ cs = [vi .i64 (jnL c (gi c y.toNat) (gi c x.toNat))] := by
  refine spec_l09Join_f.m rfl rfl ?_
  simp (disch := first | omega | (simp only [LN]; omega)) only [↓EC, EW, seval, ↓reduceIte, spec_l09Join_F]
  (refine Split.mk (fun h => ?_) (fun h => ?_) <;> (try simp only [SD] at h))
  · (try simp (disch := first | omega | (simp only [LN]; omega)) only [↓EC, EW, seval, ↓reduceIte])
    rw [h, jnL_self]
    simp
  · have hh := h
    generalize gi c y.toNat = f at *
    generalize gi c x.toNat = t at *
    refine LP_of (σ := Nat) 100000 [(0, 2, 1)] (fun s => [.int .i64 s]) (fun s => [vi .i64 (jnT c f t s)]) (fun s => s ≤ c.length) (fun s => c.length - s) 0 (by simp [frameOk, names, lpz, sclp, scv, scvs, nrfs, nrf, FRB]) (Nat.zero_le _) ?_ ?_
    · simp (disch := first | omega | (simp only [LN]; omega)) only [↓EC, EW, seval, ↓reduceIte, ColV_def, jnT_0]
    · rintro i h1
      have hl := jnT_len (f := f) (t := t) h1
      simp (disch := first | omega | (simp only [LN]; omega)) only [↓EC, EW, seval, ↓reduceIte, ColV_def, lheap_def, hl]
      (refine Split.mk (fun h => ?_) (fun h => ?_) <;> (try simp only [SD] at h))
      · have hi : i < c.length := by omega
        have hg := jnT_at (f := f) (t := t) hi
        have hs := jnT_step (f := f) (t := t) hi
        (try simp (disch := first | omega | (simp only [LN]; omega)) only [↓EC, EW, seval, ↓reduceIte, hl, hg])
        (refine Split.mk (fun h => ?_) (fun h => ?_) <;> (try simp only [SD] at h))
        · (try simp (disch := first | omega | (simp only [LN]; omega)) only [↓EC, EW, seval, ↓reduceIte, hl, hg])
          rw [if_pos h] at hs
          exact ⟨i + 1, rfl, by rw [← hs], by omega, by omega⟩
        · (try simp (disch := first | omega | (simp only [LN]; omega)) only [↓EC, EW, seval, ↓reduceIte, hl, hg])
          exact ⟨i + 1, rfl, by rw [jnT_same hi h], by omega, by omega⟩
      · have : i = c.length := by omega
        subst this
        (try simp (disch := first | omega | (simp only [LN]; omega)) only [↓EC, EW, seval, ↓reduceIte, jnT_end])
        simp [hh]
theorem trI_yes {b w : List Int} {n : Int} {x : Nat} (h : ¬ gi (trI b w n x).1 (gi (endV b w n) (x * 2)).toNat = gi (trI b w n x).1 (gi (endV b w n) (x * 2 + 1)).toNat) : trI b w n (x + 1) =
    (jnL (trI b w n x).1 (max (gi (trI b w n x).1 (gi (endV b w n) (x * 2)).toNat) (gi (trI b w n x).1 (gi (endV b w n) (x * 2 + 1)).toNat)) (min (gi (trI b w n x).1 (gi (endV b w n) (x * 2)).toNat) (gi (trI b w n x).1 (gi (endV b w n) (x * 2 + 1)).toNat)), (trI b w n x).2 ++ [(x : Int)]) := by
  simp only [trI, if_neg h]
theorem trI_no {b w : List Int} {n : Int} {x : Nat} (h : gi (trI b w n x).1 (gi (endV b w n) (x * 2)).toNat = gi (trI b w n x).1 (gi (endV b w n) (x * 2 + 1)).toNat) : trI b w n (x + 1) =
    (jnL (trI b w n x).1 (max (gi (trI b w n x).1 (gi (endV b w n) (x * 2)).toNat) (gi (trI b w n x).1 (gi (endV b w n) (x * 2 + 1)).toNat)) (min (gi (trI b w n x).1 (gi (endV b w n) (x * 2)).toNat) (gi (trI b w n x).1 (gi (endV b w n) (x * 2 + 1)).toNat)), (trI b w n x).2) := by
  simp only [trI, if_pos h]
theorem c_impl_treeEdges {n : Int} {b w : List Int} (hb : okP b) (hw : okP w) (h0 : isD n b w) : PSpec Tryz.prog 41 [vD n b w] fun v => v = .own 2 1 (treeL b w n).length (vi .i64 (treeL b w n)) := by
  have hl := hb.len
  have hk := hw.len
  have hn := h0.pb.1
  have lw := h0.pw.lo hw
  obtain ⟨hal, hal2⟩ := allV_len (b := b) (w := w) hn
  have hel : (endV b w n).length = n.toNat * 2 := eO_len _
  have htr : (trI b w n n.toNat).2 = treeL b w n := (tr_rel (h0.pb.ltP hb) (h0.pw.ltP hw) lw hn n.toNat (by omega)).2
  refine impl_treeEdges_f.f ?_
  have hvs := c_impl_vertices hb hw h0
  unfold vD at hvs ⊢
  simp (disch := first | omega | (simp only [LN]; omega)) only [↓EC, EW, seval, ↓reduceIte, impl_treeEdges_F, hl, hk]
  refine pcd_wv (by simp [nrfs_cons, nrf_agg, nrf_int, vi_nrf, nrfs_nil]) hvs ?_
  (try simp (disch := first | omega | (simp only [LN]; omega)) only [↓EC, EW, seval, ↓reduceIte, hl, hk])
  refine pcd_o (c_impl_newClasses (by omega)) ?_
  (try simp (disch := first | omega | (simp only [LN]; omega)) only [↓EC, EW, seval, ↓reduceIte, hl, hk])
  have hef : ∀ x : Nat, (x : Int) < n → (0 ≤ gi (endV b w n) (x * 2) ∧ gi (endV b w n) (x * 2) < (allV b w n).length) ∧ (0 ≤ gi (endV b w n) (x * 2 + 1) ∧ gi (endV b w n) (x * 2 + 1) < (allV b w n).length) := fun x hx => by
    have e0 := ends0 (h0.pb.ltP hb) (h0.pw.ltP hw) hn hx
    have e1 := ends1 (h0.pb.ltP hb) (h0.pw.ltP hw) lw hn hx
    have b0 := whichL_lim (x := x) hn (h0.pb.ltP hb)
    have w0 := whichL_lim (x := x) hn (h0.pw.ltP hw)
    omega
  refine LP_ofE (σ := Nat) [1, 1] 100000 [(65, 27, 1), (79, 2, 1)] (fun s => [.own 2 1 (trI b w n s).2.length (vi .i64 (trI b w n s).2), .int .i64 s]) (fun s => [.int .i64 n :: vi .u8 (b ++ w), vi .i64 (trI b w n s).1])
    (fun s => (s : Int) ≤ n) (fun s => (n - s).toNat) 0 (by simp [frameOk, names, lpz, sclp, scv, scvs, nrfs, nrf, FRB]) (by simp only [Int.natCast_zero]; omega) ?_ ?_
  · simp (disch := first | omega | (simp only [LN]; omega)) only [↓EC, EW, seval, ↓reduceIte, ColV_def]
    exact ⟨fun _ => trivial, rfl, rfl⟩
  · rintro x h1
    obtain ⟨hc1, hc2⟩ := trI_len (b := b) (w := w) (n := n) x
    simp (disch := first | omega | (simp only [LN]; omega)) only [↓EC, EW, seval, ↓reduceIte, ColV_def, lheap_def]
    (refine Split.mk (fun h => ?_) (fun h => ?_) <;> (try simp only [SD] at h))
    · obtain ⟨f0, f1⟩ := hef x (by omega)
      (try simp (disch := first | omega | (simp only [LN]; omega)) only [↓EC, EW, seval, ↓reduceIte, hl, hk, hel, hc1])
      refine pcm [79] rfl ?_
      (try simp (disch := first | omega | (simp only [LN]; omega)) only [↓EC, EW, seval, ↓reduceIte, hl, hk, hel, hc1])
      rw [← hc1] at f0 f1 ⊢
      refine callM_v (c_impl_join (by omega) f0 f1) ?_
      have hj := jnL_len (c := (trI b w n x).1) (f := max (gi (trI b w n x).1 (gi (endV b w n) (x * 2)).toNat) (gi (trI b w n x).1 (gi (endV b w n) (x * 2 + 1)).toNat)) (t := min (gi (trI b w n x).1 (gi (endV b w n) (x * 2)).toNat) (gi (trI b w n x).1 (gi (endV b w n) (x * 2 + 1)).toNat))
      (try simp (disch := first | omega | (simp only [LN]; omega)) only [↓EC, EW, seval, ↓reduceIte, hl, hk, hel, hj])
      (refine Split.mk (fun h => ?_) (fun h => ?_) <;> (try simp only [SD] at h))
      · (try simp (disch := first | omega | (simp only [LN]; omega)) only [↓EC, EW, seval, ↓reduceIte, hl, hk])
        exact ⟨x + 1, by rw [trI_yes h]; simp, by rw [trI_yes h], by omega, by omega⟩
      · (try simp (disch := first | omega | (simp only [LN]; omega)) only [↓EC, EW, seval, ↓reduceIte, hl, hk])
        exact ⟨x + 1, by rw [trI_no (Decidable.not_not.1 h)]; simp, by rw [trI_no (Decidable.not_not.1 h)], by omega, by omega⟩
    · have : x = n.toNat := by omega
      subst this
      (try simp (disch := first | omega | (simp only [LN]; omega)) only [↓EC, EW, seval, ↓reduceIte])
      rw [htr]
theorem c_spec_l01Which {p : List Int} {n : Int} (hp : lo16 p) (hpn : ltP p n) (hn : 1 ≤ n ∧ n ≤ 16) : PSpec Tryz.prog 67 [.agg (vi .u8 p), .int .i64 n] fun v => v = .agg (vi .i64 (whichL p n)) := by
  have hl := hp.1
  have hcl := cyc_lim (p := p) hn
  have hat := cyc_at hpn hn
  refine spec_l01Which_f.f ?_
  simp (disch := first | omega | (simp only [LN]; omega)) only [↓EC, EW, seval, ↓reduceIte, spec_l01Which_F, hl]
  refine pcd_v (c_spec_l01Cycles hp hn) ?_
  (try simp (disch := first | omega | (simp only [LN]; omega)) only [↓EC, EW, seval, ↓reduceIte, hl])
  unfold whichL
  generalize cyc p n = C at *
  refine LP_of (σ := Nat) 100000 [(66, 25, 1), (68, 84, 1), (69, 84, 1)] (fun s => [.int .i64 s]) (fun s => [vi .u8 p, vi .i64 (List.replicate 16 0), vi .i64 (wO C s)])
    (fun s => s ≤ C.length) (fun s => C.length - s) 0 (by simp [frameOk, names, lpz, sclp, scv, scvs, nrfs, nrf, FRB]) (Nat.zero_le _) ?_ ?_
  · simp (disch := first | omega | (simp only [LN]; omega)) only [↓EC, EW, seval, ↓reduceIte, ColV_def]
    rfl
  · rintro v h1
    have hwl := wO_len (A := C) v
    simp (disch := first | omega | (simp only [LN]; omega)) only [↓EC, EW, seval, ↓reduceIte, ColV_def, lheap_def]
    (refine Split.mk (fun h => ?_) (fun h => ?_) <;> (try simp only [SD] at h))
    · have hv : v < C.length := by omega
      have hvat := hat _ (gl_mem hv)
      (try simp (disch := first | omega | (simp only [LN]; omega)) only [↓EC, EW, seval, ↓reduceIte])
      refine LP_of (σ := Nat) 200000 [(66, 25, 1), (68, 84, 1), (69, 84, 1)] (fun s => [.int .i64 s]) (fun s => [vi .u8 p, vi .i64 (List.replicate 16 0), vi .i64 (wI v (gl C v) s (wO C v))])
        (fun s => s ≤ (gl C v).length) (fun s => (gl C v).length - s) 0 (by simp [frameOk, names, lpz, sclp, scv, scvs, nrfs, nrf, FRB]) (Nat.zero_le _) ?_ ?_
      · simp (disch := first | omega | (simp only [LN]; omega)) only [↓EC, EW, seval, ↓reduceIte, ColV_def]
        rfl
      · rintro s g1
        have hwl2 := wI_len (v := v) (c := gl C v) (L := wO C v) s
        simp (disch := first | omega | (simp only [LN]; omega)) only [↓EC, EW, seval, ↓reduceIte, ColV_def, lheap_def]
        (refine Split.mk (fun h => ?_) (fun h => ?_) <;> (try simp only [SD] at h))
        · have hs : s < (gl C v).length := by omega
          have hx := hvat.1 (gi (gl C v) s) (by rw [gi_of hs]; exact List.getElem_mem hs)
          (try simp (disch := first | omega | (simp only [LN]; omega)) only [↓EC, EW, seval, ↓reduceIte])
          exact ⟨s + 1, rfl, rfl, by omega, by omega⟩
        · have : s = (gl C v).length := by omega
          subst this
          (try simp (disch := first | omega | (simp only [LN]; omega)) only [↓EC, EW, seval, ↓reduceIte])
          exact ⟨v + 1, rfl, rfl, by omega, by omega⟩
    · have : v = C.length := by omega
      subst this
      (try simp (disch := first | omega | (simp only [LN]; omega)) only [↓EC, EW, seval, ↓reduceIte, hwl])
theorem c_spec_l09Tree {n : Int} {b w : List Int} (hb : okP b) (hw : okP w) (h0 : isD n b w) : PSpec Tryz.prog 42 [vD n b w] fun v => v = .agg (vb (treeM b w n)) := by
  have hl := hb.len
  have hk := hw.len
  have hn := h0.pb.1
  have lb := h0.pb.lo hb
  have lw := h0.pw.lo hw
  have hbn := h0.pb.ltP hb
  have hwn := h0.pw.ltP hw
  have hbl := cyc_lim (p := b) hn
  have hwl := cyc_lim (p := w) hn
  have q1 : (whichL b n).length = 16 := wO_len _
  have q2 : (whichL w n).length = 16 := wO_len _
  refine spec_l09Tree_f.f ?_
  unfold vD
  simp (disch := first | omega | (simp only [LN]; omega)) only [↓EC, EW, seval, ↓reduceIte, spec_l09Tree_F, hl, hk]
  refine pcd_v (c_spec_l01Which lb hbn hn) ?_
  (try simp (disch := first | omega | (simp only [LN]; omega)) only [↓EC, EW, seval, ↓reduceIte, hl, hk, q1])
  refine pcd_v (c_spec_l01Which lw hwn hn) ?_
  (try simp (disch := first | omega | (simp only [LN]; omega)) only [↓EC, EW, seval, ↓reduceIte, hl, hk, q1, q2])
  refine pcd_o (c_spec_l09Alone (n := 32) (by decide)) ?_
  (try simp (disch := first | omega | (simp only [LN]; omega)) only [↓EC, EW, seval, ↓reduceIte, hl, hk, q1, q2])
  refine LP_of (σ := Nat) 100000 [(65, 27, 1), (66, 58, 1), (67, 84, 1), (68, 84, 1), (69, 58, 1), (83, 2, 1)] (fun s => [.int .i64 s])
    (fun s => [.int .i64 n :: vi .u8 (b ++ w), vb (List.replicate 16 false), vi .i64 (whichL b n), vi .i64 (whichL w n), vb (trS b w n s).2, vi .i64 (trS b w n s).1])
    (fun s => (s : Int) ≤ n) (fun s => (n - s).toNat) 0 (by simp [frameOk, names, lpz, sclp, scv, scvs, nrfs, nrf, FRB]) (by simp only [Int.natCast_zero]; omega) ?_ ?_
  · simp (disch := first | omega | (simp only [LN]; omega)) only [↓EC, EW, seval, ↓reduceIte, ColV_def]
    rfl
  · rintro x h1
    obtain ⟨hc1, hc2⟩ := trS_len (b := b) (w := w) (n := n) x
    simp (disch := first | omega | (simp only [LN]; omega)) only [↓EC, EW, seval, ↓reduceIte, ColV_def, lheap_def]
    (refine Split.mk (fun h => ?_) (fun h => ?_) <;> (try simp only [SD] at h))
    · have b0 := whichL_lim (x := x) hn hbn
      have w0 := whichL_lim (x := x) hn hwn
      (try simp (disch := first | omega | (simp only [LN]; omega)) only [↓EC, EW, seval, ↓reduceIte, hl, hk, q1, q2, hc1])
      refine pcm [83] rfl ?_
      (try simp (disch := first | omega | (simp only [LN]; omega)) only [↓EC, EW, seval, ↓reduceIte, hl, hk, q1, q2, hc1])
      have hjn := c_spec_l09Join (c := (trS b w n x).1) (x := gi (whichL b n) x) (y := 16 + gi (whichL w n) x) (by omega) (by omega) (by omega)
      rw [hc1] at hjn
      refine callM_v hjn ?_
      (try simp (disch := first | omega | (simp only [LN]; omega)) only [↓EC, EW, seval, ↓reduceIte, hl, hk, q1, q2, hc1, hc2])
      (refine ⟨x + 1, ?_⟩; repeat' (first | (refine And.intro ?_ ?_) | rfl | omega | trivial))
    · have : x = n.toNat := by omega
      subst this
      (try simp (disch := first | omega | (simp only [LN]; omega)) only [↓EC, EW, seval, ↓reduceIte, hc2])
      rfl
theorem c_impl_TreeEdges {n : Int} {b w : List Int} (hb : okP b) (hw : okP w) (h0 : isDB n b w = true) : PSpec Tryz.prog 12 [vD n b w] fun v => v = .tup [.own 2 1 (treeL b w n).length (vi .i64 (treeL b w n)), .int .i64 0] := by
  have hl := hb.len
  have hk := hw.len
  refine impl_TreeEdges_f.f ?_
  have h1 := c_impl_treeEdges hb hw (isDB_iff.1 h0)
  unfold vD at h1 ⊢
  simp (disch := first | omega | (simp only [LN]; omega)) only [↓EC, EW, seval, ↓reduceIte, impl_TreeEdges_F, hl, hk]
  refine pcd_v (c_impl_IsDessin hb hw) ?_
  (try simp (disch := first | omega | (simp only [LN]; omega)) only [↓EC, EW, seval, ↓reduceIte, hl, hk, h0])
  refine pcd_o h1 ?_
  (try simp (disch := first | omega | (simp only [LN]; omega)) only [↓EC, EW, seval, ↓reduceIte, hl, hk])
theorem c_impl_TreeEdges_no {n : Int} {b w : List Int} (hb : okP b) (hw : okP w) (h0 : isDB n b w = false) : PSpec Tryz.prog 12 [vD n b w] fun v => v = .tup [.nils, .int .i64 1] := by
  have hl := hb.len
  have hk := hw.len
  refine impl_TreeEdges_f.f ?_
  unfold vD
  simp (disch := first | omega | (simp only [LN]; omega)) only [↓EC, EW, seval, ↓reduceIte, impl_TreeEdges_F, hl, hk]
  refine pcd_v (c_impl_IsDessin hb hw) ?_
  (try simp (disch := first | omega | (simp only [LN]; omega)) only [↓EC, EW, seval, ↓reduceIte, hl, hk, h0])
theorem c_spec_TreeEdges_no {n : Int} {b w : List Int} (hb : okP b) (hw : okP w) (h0 : isDB n b w = false) : PSpec Tryz.prog 13 [vD n b w] fun v => v = .tup [.nils, .int .i64 1] := by
  have hl := hb.len
  have hk := hw.len
  refine spec_TreeEdges_f.f ?_
  unfold vD
  simp (disch := first | omega | (simp only [LN]; omega)) only [↓EC, EW, seval, ↓reduceIte, spec_TreeEdges_F, hl, hk]
  refine pcd_v (c_spec_l01Is hb hw) ?_
  (try simp (disch := first | omega | (simp only [LN]; omega)) only [↓EC, EW, seval, ↓reduceIte, hl, hk, h0])
theorem c_spec_TreeEdges {n : Int} {b w : List Int} (hb : okP b) (hw : okP w) (h0 : isDB n b w = true) : PSpec Tryz.prog 13 [vD n b w] fun v => v = .tup [.own 2 1 (treeL b w n).length (vi .i64 (treeL b w n)), .int .i64 0] := by
  have hl := hb.len
  have hk := hw.len
  have hd := isDB_iff.1 h0
  have hn := hd.pb.1
  have htm : (treeM b w n).length = 16 := (trS_len _).2
  refine spec_TreeEdges_f.f ?_
  have h1 := c_spec_l09Tree hb hw (isDB_iff.1 h0)
  unfold vD at h1 ⊢
  simp (disch := first | omega | (simp only [LN]; omega)) only [↓EC, EW, seval, ↓reduceIte, spec_TreeEdges_F, hl, hk]
  refine pcd_v (c_spec_l01Is hb hw) ?_
  (try simp (disch := first | omega | (simp only [LN]; omega)) only [↓EC, EW, seval, ↓reduceIte, hl, hk, h0])
  refine pcd_v h1 ?_
  unfold treeL
  generalize treeM b w n = M at *
  (try simp (disch := first | omega | (simp only [LN]; omega)) only [↓EC, EW, seval, ↓reduceIte, hl, hk, htm])
  refine LP_ofE (σ := Nat) [1, 1] 100000 [(65, 27, 1), (68, 58, 1)] (fun s => [.own 2 1 (collect M s).length (vi .i64 (collect M s)), .int .i64 s]) (fun s => [.int .i64 n :: vi .u8 (b ++ w), vb M])
    (fun s => (s : Int) ≤ n) (fun s => (n - s).toNat) 0 (by simp [frameOk, names, lpz, sclp, scv, scvs, nrfs, nrf, FRB]) (by simp only [Int.natCast_zero]; omega) ?_ ?_
  · simp (disch := first | omega | (simp only [LN]; omega)) only [↓EC, EW, seval, ↓reduceIte, ColV_def]
    exact ⟨fun _ => trivial, rfl⟩
  · rintro x h1
    have hcl := collect_len (m := M) x
    simp (disch := first | omega | (simp only [LN]; omega)) only [↓EC, EW, seval, ↓reduceIte, ColV_def, lheap_def]
    (refine Split.mk (fun h => ?_) (fun h => ?_) <;> (try simp only [SD] at h))
    · (try simp (disch := first | omega | (simp only [LN]; omega)) only [↓EC, EW, seval, ↓reduceIte, hl, hk, htm])
      (refine Split.mk (fun h => ?_) (fun h => ?_) <;> (try simp only [SD] at h))
      · (try simp (disch := first | omega | (simp only [LN]; omega)) only [↓EC, EW, seval, ↓reduceIte])
        have hx : collect M (x + 1) = collect M x ++ [(x : Int)] := by simp only [collect, if_pos h]
        exact ⟨x + 1, by rw [hx]; simp, by omega, by omega⟩
      · (try simp (disch := first | omega | (simp only [LN]; omega)) only [↓EC, EW, seval, ↓reduceIte])
        have hx : collect M (x + 1) = collect M x := by simp only [collect]; rw [if_neg (by simpa using h)]
        exact ⟨x + 1, by rw [hx]; simp, by omega, by omega⟩
    · have : x = n.toNat := by omega
      subst this
      (try simp (disch := first | omega | (simp only [LN]; omega)) only [↓EC, EW, seval, ↓reduceIte])
end
section
def smE : Nat → (Nat → Int) → Int
  | 0, _ => 0
  | n + 1, f => smE n f + f n
theorem smE_congr {f g : Nat → Int} : ∀ n, (∀ e, e < n → f e = g e) → smE n f = smE n g
  | 0, _ => rfl
  | n + 1, h => by simp only [smE]; rw [smE_congr n fun e he => h e (by omega), h n (by omega)]
theorem smE_add {f g : Nat → Int} : ∀ n, smE n (fun e => f e + g e) = smE n f + smE n g
  | 0 => rfl
  | n + 1 => by simp only [smE]; rw [smE_add n]; omega
theorem smE_neg {f : Nat → Int} : ∀ n, smE n (fun e => - f e) = - smE n f
  | 0 => rfl
  | n + 1 => by simp only [smE]; rw [smE_neg n]; omega
theorem smE_zero : ∀ n, smE n (fun _ => 0) = 0
  | 0 => rfl
  | n + 1 => by simp only [smE]; rw [smE_zero n]; rfl
theorem smE_one {x : Nat} {c : Int} : ∀ n, smE n (fun e => if e = x then c else 0) = if x < n then c else 0
  | 0 => rfl
  | n + 1 => by
    simp only [smE]; rw [smE_one n]
    by_cases h : n = x
    · subst h; simp
    · rw [if_neg h]
      by_cases h2 : x < n
      · rw [if_pos h2, if_pos (by omega)]; omega
      · rw [if_neg h2, if_neg (by omega)]; omega
theorem smE_lim {f : Nat → Int} {M : Int} (h : ∀ e, -M ≤ f e ∧ f e ≤ M) : ∀ n : Nat, -(M * n) ≤ smE n f ∧ smE n f ≤ M * n
  | 0 => by simp [smE]
  | n + 1 => by
    have h1 := smE_lim h n
    have h2 := h n
    simp only [smE]
    have h3 : M * ((n + 1 : Nat) : Int) = M * n + M := by rw [Int.natCast_add, Int.mul_add]; simp
    omega
structure Fo (n V B : Nat) (E0 E1 : Nat → Nat) (cl : Nat → Nat → Int) : Prop where
  e0 : ∀ e, e < n → E0 e < B
  e1 : ∀ e, e < n → B ≤ E1 e ∧ E1 e < V
  z : ∀ i j, i < V → j < V → (cl 0 i = cl 0 j ↔ i = j)
  s : ∀ x i j, x < n → i < V → j < V → (cl (x + 1) i = cl (x + 1) j ↔ cl x i = cl x j ∨ ((cl x i = cl x (E0 x) ∨ cl x i = cl x (E1 x)) ∧ (cl x j = cl x (E0 x) ∨ cl x j = cl x (E1 x))))
def treE (E0 E1 : Nat → Nat) (cl : Nat → Nat → Int) (e : Nat) : Prop := cl e (E0 e) ≠ cl e (E1 e)
def incE (E0 E1 : Nat → Nat) (e t : Nat) : Prop := E0 e = t ∨ E1 e = t
instance {E0 E1 : Nat → Nat} {e t : Nat} : Decidable (incE E0 E1 e t) := by unfold incE; infer_instance
section
variable {n V B : Nat} {E0 E1 : Nat → Nat} {cl : Nat → Nat → Int}
theorem inc_if {x v : Nat} {c : Int} : (if incE E0 E1 x v then c else 0) = if v = E0 x then c else if v = E1 x then c else 0 := by
  by_cases v0 : v = E0 x
  · rw [if_pos v0, if_pos (.inl v0.symm)]
  · rw [if_neg v0]
    by_cases v1 : v = E1 x
    · rw [if_pos v1, if_pos (.inr v1.symm)]
    · rw [if_neg v1, if_neg (fun hh => hh.elim (fun e => v0 e.symm) (fun e => v1 e.symm))]
theorem Fo.l0 (F : Fo n V B E0 E1 cl) {e : Nat} (h : e < n) : E0 e < V := by have := F.e0 e h; have := F.e1 e h; omega
theorem Fo.mono (F : Fo n V B E0 E1 cl) {i j : Nat} (hi : i < V) (hj : j < V) {e : Nat} : ∀ x, e ≤ x → x ≤ n → cl e i = cl e j → cl x i = cl x j := by
  intro x
  induction x with
  | zero => intro h1 _ h; have : e = 0 := by omega
            subst this; exact h
  | succ x ih =>
    intro h1 h2 h
    by_cases he : e = x + 1
    · subst he; exact h
    · exact (F.s x i j (by omega) hi hj).2 (.inl (ih (by omega) (by omega) h))
theorem Fo.joined (F : Fo n V B E0 E1 cl) {e x : Nat} (he : e < x) (hx : x ≤ n) : cl x (E0 e) = cl x (E1 e) := by
  have h0 := F.l0 (e := e) (by omega)
  have h1 := (F.e1 e (by omega)).2
  exact F.mono h0 h1 (e := e + 1) x he hx ((F.s e _ _ (by omega) h0 h1).2 (.inr ⟨.inl rfl, .inr rfl⟩))
def leafE (E0 E1 : Nat → Nat) (R : Nat → Prop) (t e : Nat) : Prop := R e ∧ incE E0 E1 e t ∧ ∀ e', R e' → incE E0 E1 e' t → e' = e
theorem leaf_step (F : Fo n V B E0 E1 cl) {x : Nat} (hx : x < n)
    (ih : ∀ R : Nat → Prop, (∀ e, R e → e < x ∧ treE E0 E1 cl e) → (∃ e, R e) → ∀ w, w < V → ∃ t e, t ≠ w ∧ t < V ∧ leafE E0 E1 R t e)
    {R : Nat → Prop} (hR : ∀ e, R e → e < x + 1 ∧ treE E0 E1 cl e) (hRx : R x) {u v w : Nat} (hv : v < V) (hw : w < V) (huv : cl x u ≠ cl x v) (hwv : cl x w ≠ cl x v)
    (hin : ∀ t, incE E0 E1 x t ↔ t = u ∨ t = v) : ∃ t e, t ≠ w ∧ t < V ∧ leafE E0 E1 R t e := by
  have hcl : ∀ e, R e → e ≠ x → ∀ t, incE E0 E1 e t → cl x t = cl x (E0 e) := by
    intro e he hne t ht
    have := (hR e he).1
    rcases ht with rfl | rfl
    · rfl
    · exact (F.joined (by omega) (by omega)).symm
  by_cases hE : ∃ e, R e ∧ e ≠ x ∧ cl x (E0 e) = cl x v
  · obtain ⟨t, e, h1, h2, h3, h4, h5⟩ := ih (fun e => R e ∧ e ≠ x ∧ cl x (E0 e) = cl x v) (fun e he => ⟨by have := (hR e he.1).1; have := he.2.1; omega, (hR e he.1).2⟩) hE v hv
    have htv : cl x t = cl x v := (hcl e h3.1 h3.2.1 t h4).trans h3.2.2
    refine ⟨t, e, ?_, h2, h3.1, h4, fun e' he' hi' => ?_⟩
    · rintro rfl; exact hwv htv
    · by_cases hex : e' = x
      · subst hex
        rcases (hin t).1 hi' with rfl | rfl
        · exact absurd htv huv
        · exact absurd rfl h1
      · exact h5 e' ⟨he', hex, by rw [← hcl e' he' hex t hi']; exact htv⟩ hi'
  · refine ⟨v, x, ?_, hv, hRx, (hin v).2 (.inr rfl), fun e' he' hi' => ?_⟩
    · rintro rfl; exact hwv rfl
    · by_cases hex : e' = x
      · exact hex
      · exact absurd ⟨e', he', hex, (hcl e' he' hex v hi').symm⟩ hE
theorem leaf_ex (F : Fo n V B E0 E1 cl) : ∀ x, x ≤ n → ∀ R : Nat → Prop, (∀ e, R e → e < x ∧ treE E0 E1 cl e) → (∃ e, R e) → ∀ w, w < V → ∃ t e, t ≠ w ∧ t < V ∧ leafE E0 E1 R t e := by
  intro x
  induction x with
  | zero => rintro _ R hR ⟨e, he⟩; have := (hR e he).1; omega
  | succ x ih =>
    intro hx R hR hE w hw
    by_cases hRx : R x
    · have h0 := F.l0 (e := x) (by omega)
      have h1 := (F.e1 x (by omega)).2
      have ht : cl x (E0 x) ≠ cl x (E1 x) := (hR x hRx).2
      by_cases hc : cl x w = cl x (E1 x)
      · exact leaf_step F (by omega) (ih (by omega)) hR hRx (u := E1 x) (v := E0 x) h0 hw (fun h => ht h.symm) (fun h => ht (h.symm.trans hc)) (fun t => by unfold incE; constructor <;> rintro (h | h) <;> first | exact .inl h.symm | exact .inr h.symm)
      · exact leaf_step F (by omega) (ih (by omega)) hR hRx (u := E0 x) (v := E1 x) h1 hw ht hc (fun t => by unfold incE; constructor <;> rintro (h | h) <;> first | exact .inl h.symm | exact .inr h.symm)
    · refine ih (by omega) R (fun e he => ⟨?_, (hR e he).2⟩) hE w hw
      have := (hR e he).1
      have : e ≠ x := by rintro rfl; exact hRx he
      omega
def Sv (n : Nat) (E0 E1 : Nat → Nat) (a : Nat → Int) (v : Nat) : Int := smE n fun e => if incE E0 E1 e v then a e else 0
theorem Sv_add {a b : Nat → Int} {v : Nat} : Sv n E0 E1 (fun e => a e + b e) v = Sv n E0 E1 a v + Sv n E0 E1 b v := by
  unfold Sv
  rw [← smE_add]
  exact smE_congr n fun e _ => by simp only; split <;> simp
theorem Sv_neg {a : Nat → Int} {v : Nat} : Sv n E0 E1 (fun e => - a e) v = - Sv n E0 E1 a v := by
  unfold Sv
  rw [← smE_neg]
  exact smE_congr n fun e _ => by simp only; split <;> simp
theorem Sv_one {x v : Nat} {c : Int} (hx : x < n) : Sv n E0 E1 (fun e => if e = x then c else 0) v = if incE E0 E1 x v then c else 0 := by
  unfold Sv
  have : (fun e => if incE E0 E1 e v then (if e = x then c else 0) else 0) = fun e => if e = x then (if incE E0 E1 x v then c else 0) else 0 := by
    funext e
    by_cases h : e = x
    · subst h; simp
    · simp [h]
  rw [this, smE_one, if_pos hx]
theorem Sv_zero {v : Nat} : Sv n E0 E1 (fun _ => 0) v = 0 := by
  unfold Sv
  exact (smE_congr n fun e _ => by simp).trans (smE_zero n)
theorem Sv_congr {a b : Nat → Int} {v : Nat} (h : ∀ e, e < n → a e = b e) : Sv n E0 E1 a v = Sv n E0 E1 b v := by
  unfold Sv
  exact smE_congr n fun e he => by rw [h e he]
def sgV (B v : Nat) : Int := if v < B then 1 else -1
structure Con (n V B : Nat) (E0 E1 : Nat → Nat) (cl : Nat → Nat → Int) (x : Nat) (M : Int) (i j : Nat) (a : Nat → Int) : Prop where
  sup : ∀ e, a e ≠ 0 → e < x ∧ treE E0 E1 cl e
  lim : ∀ e, -M ≤ a e ∧ a e ≤ M
  sum : ∀ v, v < V → Sv n E0 E1 a v = (if v = i then sgV B i else 0) - (if v = j then sgV B j else 0)
theorem con_ex (F : Fo n V B E0 E1 cl) : ∀ x, x ≤ n → ∀ i j, i < V → j < V → cl x i = cl x j → ∃ a, Con n V B E0 E1 cl x (2 ^ x - 1) i j a := by
  intro x
  induction x with
  | zero =>
    intro _ i j hi hj h
    have := (F.z i j hi hj).1 h
    subst this
    exact ⟨fun _ => 0, fun e he => absurd rfl he, fun e => by simp, fun v hv => by rw [Sv_zero]; omega⟩
  | succ x ih =>
    intro hx i j hi hj h
    have h0 := F.l0 (e := x) (by omega)
    have h1 := (F.e1 x (by omega)).2
    have pw : (2 : Int) ^ (x + 1) = 2 ^ x + 2 ^ x := by rw [Int.pow_succ]; omega
    have pp : (0 : Int) < 2 ^ x := Int.pow_pos (by omega)
    have hd : E0 x ≠ E1 x := by have := F.e0 x (by omega); have := F.e1 x (by omega); omega
    have s0 : sgV B (E0 x) = 1 := by unfold sgV; rw [if_pos (F.e0 x (by omega))]
    have s1 : sgV B (E1 x) = -1 := by unfold sgV; rw [if_neg (by have := (F.e1 x (by omega)).1; omega)]
    by_cases hc : cl x i = cl x j
    · obtain ⟨a, h2, h3, h4⟩ := ih (by omega) i j hi hj hc
      exact ⟨a, fun e he => ⟨by have := (h2 e he).1; omega, (h2 e he).2⟩, fun e => by have := h3 e; omega, h4⟩
    · obtain ⟨hi', hj'⟩ := ((F.s x i j (by omega) hi hj).1 h).resolve_left hc
      have ht : treE E0 E1 cl x := by
        intro he
        rcases hi' with h' | h' <;> rcases hj' with h'' | h''
        · exact hc (h'.trans h''.symm)
        · exact hc (h'.trans (he.trans h''.symm))
        · exact hc (h'.trans (he.symm.trans h''.symm))
        · exact hc (h'.trans h''.symm)
      have key : ∀ (c : Int) (p q : Nat) (a1 a2 : Nat → Int), (c = 1 ∨ c = -1) → Con n V B E0 E1 cl x (2 ^ x - 1) i p a1 → Con n V B E0 E1 cl x (2 ^ x - 1) q j a2 →
          (∀ v, (if incE E0 E1 x v then c else 0) = (if v = p then sgV B p else 0) - (if v = q then sgV B q else 0)) → ∃ a, Con n V B E0 E1 cl (x + 1) (2 ^ (x + 1) - 1) i j a := by
        intro c p q a1 a2 hcc g1 g2 g3
        have z1 : a1 x = 0 := by
          by_cases e : a1 x = 0
          · exact e
          · have := (g1.sup x e).1; omega
        have z2 : a2 x = 0 := by
          by_cases e : a2 x = 0
          · exact e
          · have := (g2.sup x e).1; omega
        refine ⟨fun e => (a1 e + (if e = x then c else 0)) + a2 e, fun e he => ?_, fun e => ?_, fun v hv => ?_⟩
        · by_cases e1 : a1 e = 0
          · by_cases e2 : a2 e = 0
            · by_cases e3 : e = x
              · subst e3; exact ⟨by omega, ht⟩
              · exact absurd (by simp [e1, e2, e3]) he
            · have := g2.sup e e2; exact ⟨by omega, this.2⟩
          · have := g1.sup e e1; exact ⟨by omega, this.2⟩
        · have k1 := g1.lim e
          have k2 := g2.lim e
          have k3 : -1 ≤ (if e = x then c else 0) ∧ (if e = x then c else 0) ≤ 1 := by split <;> omega
          omega
        · rw [Sv_add (a := fun e => a1 e + (if e = x then c else 0)) (b := a2), Sv_add (a := a1), Sv_one (by omega), g1.sum v hv, g2.sum v hv, g3 v]
          omega
      rcases hi' with h' | h' <;> rcases hj' with h'' | h''
      · exact absurd (h'.trans h''.symm) hc
      · obtain ⟨a1, g1⟩ := ih (by omega) i (E0 x) hi h0 h'
        obtain ⟨a2, g2⟩ := ih (by omega) (E1 x) j h1 hj h''.symm
        refine key 1 _ _ a1 a2 (.inl rfl) g1 g2 fun v => ?_
        rw [s0, s1]
        rw [inc_if]
        by_cases v0 : v = E0 x
        · have v1 : ¬ v = E1 x := fun e => hd (v0.symm.trans e)
          simp [v0, v1, hd]
        · by_cases v1 : v = E1 x
          · simp [v0, v1, hd.symm]
          · simp [v0, v1]
      · obtain ⟨a1, g1⟩ := ih (by omega) i (E1 x) hi h1 h'
        obtain ⟨a2, g2⟩ := ih (by omega) (E0 x) j h0 hj h''.symm
        refine key (-1) _ _ a1 a2 (.inr rfl) g1 g2 fun v => ?_
        rw [s0, s1]
        rw [inc_if]
        by_cases v0 : v = E0 x
        · have v1 : ¬ v = E1 x := fun e => hd (v0.symm.trans e)
          simp [v0, v1, hd]
        · by_cases v1 : v = E1 x
          · simp [v0, v1, hd.symm]
          · simp [v0, v1]
      · exact absurd (h'.trans h''.symm) hc
structure Sol (n V : Nat) (E0 E1 : Nat → Nat) (cl : Nat → Nat → Int) (x : Nat) (a : Nat → Int) : Prop where
  one : a x = 1
  off : ∀ e, e < n → ¬ treE E0 E1 cl e → e ≠ x → a e = 0
  sum : ∀ v, v < V → Sv n E0 E1 a v = 0
  lim : ∀ e, -65536 ≤ a e ∧ a e ≤ 65536
theorem sol_ex (F : Fo n V B E0 E1 cl) (hn : n ≤ 16) {x : Nat} (hx : x < n) (ht : ¬ treE E0 E1 cl x) : ∃ a, Sol n V E0 E1 cl x a := by
  have hc : cl x (E0 x) = cl x (E1 x) := by
    by_cases h : cl x (E0 x) = cl x (E1 x)
    · exact h
    · exact absurd h ht
  have h0 := F.l0 hx
  have h1 := (F.e1 x hx).2
  have hd : E0 x ≠ E1 x := by have := F.e0 x hx; have := F.e1 x hx; omega
  have s0 : sgV B (E0 x) = 1 := by unfold sgV; rw [if_pos (F.e0 x hx)]
  have s1 : sgV B (E1 x) = -1 := by unfold sgV; rw [if_neg (by have := (F.e1 x hx).1; omega)]
  obtain ⟨a, g1, g2, g3⟩ := con_ex F x (by omega) _ _ h0 h1 hc
  have ax : a x = 0 := by
    by_cases e : a x = 0
    · exact e
    · have := (g1 x e).1; omega
  have pl : (2 : Int) ^ x ≤ 65536 := by
    have : (2 : Int) ^ x ≤ 2 ^ 16 := by
      rw [show (2 : Int) ^ x = ((2 ^ x : Nat) : Int) by simp, show (2 : Int) ^ 16 = ((2 ^ 16 : Nat) : Int) by simp]
      exact Int.ofNat_le.2 (Nat.pow_le_pow_right (by omega) (by omega))
    simpa using this
  refine ⟨fun e => (if e = x then 1 else 0) + - a e, by simp [ax], fun e he hne hex => ?_, fun v hv => ?_, fun e => ?_⟩
  · have : a e = 0 := by
      by_cases h : a e = 0
      · exact h
      · exact absurd (g1 e h).2 hne
    simp [hex, this]
  · rw [Sv_add (a := fun e => if e = x then 1 else 0) (b := fun e => - a e), Sv_one hx, Sv_neg, g3 v hv, s0, s1]
    rw [inc_if]
    by_cases v0 : v = E0 x
    · have v1 : ¬ v = E1 x := fun e => hd (v0.symm.trans e)
      simp [v0, v1, hd]
    · by_cases v1 : v = E1 x
      · simp [v0, v1, hd.symm]
      · simp [v0, v1]
  · have := g2 e
    split <;> omega
end
end
section
theorem cycF_nd {p : List Int} (hp : ∀ x : Nat, 0 ≤ gi p x) : ∀ (c : Nat) {k : Int} {m : List Bool} {acc : List Int}, m.count false = c → 0 ≤ k → acc.Nodup → (∀ y ∈ acc, 0 ≤ y ∧ gb m y.toNat = true) →
    (cycF p k m acc).2.Nodup ∧ (∀ y ∈ (cycF p k m acc).2, 0 ≤ y ∧ gb (cycF p k m acc).1 y.toNat = true) ∧ (∀ y ∈ (cycF p k m acc).2, y ∈ acc ∨ gb m y.toNat = false) ∧ (∀ x : Nat, gb m x = true → gb (cycF p k m acc).1 x = true) := by
  intro c
  induction c using Nat.strongRecOn with
  | ind c ih =>
    intro k m acc hc h0 ha hm
    by_cases h : gb m k.toNat = false ∧ k.toNat < m.length
    · rw [cycF_go h.1 h.2]
      have hlt := count_false_lt h.1 h.2
      have hka : k ∉ acc := fun hk => by have := (hm k hk).2; rw [h.1] at this; cases this
      obtain ⟨g1, g2, g3, g4⟩ := @ih _ (by omega) (gi p k.toNat) (m.set k.toNat true) (acc ++ [k]) rfl (hp _)
        (by rw [List.nodup_append]; exact ⟨ha, by simp, fun x hx y hy => by simp only [List.mem_cons, List.not_mem_nil, or_false] at hy; subst hy; rintro rfl; exact hka hx⟩)
        (fun y hy => by
          rcases List.mem_append.1 hy with hy | hy
          · exact ⟨(hm y hy).1, (gb_set_iff h.2).2 (.inr (hm y hy).2)⟩
          · simp only [List.mem_cons, List.not_mem_nil, or_false] at hy
            subst hy; exact ⟨h0, (gb_set_iff h.2).2 (.inl rfl)⟩)
      refine ⟨g1, g2, fun y hy => ?_, fun x hx => g4 x ((gb_set_iff h.2).2 (.inr hx))⟩
      rcases g3 y hy with h' | h'
      · rcases List.mem_append.1 h' with h' | h'
        · exact .inl h'
        · simp only [List.mem_cons, List.not_mem_nil, or_false] at h'
          subst h'; exact .inr h.1
      · right
        cases hg : gb m y.toNat with
        | false => rfl
        | true => rw [(gb_set_iff h.2).2 (.inr hg)] at h'; cases h'
    · rw [cycF, dif_neg h]
      exact ⟨ha, hm, fun y hy => .inl hy, fun x hx => hx⟩
theorem cycO_nd {p : List Int} (hp : ∀ x : Nat, 0 ≤ gi p x) : ∀ i : Nat, ((cycO p i).2.flatten).Nodup ∧ ∀ y ∈ (cycO p i).2.flatten, 0 ≤ y ∧ gb (cycO p i).1 y.toNat = true
  | 0 => by simp [cycO]
  | i + 1 => by
    obtain ⟨h1, h2⟩ := cycO_nd hp i
    simp only [cycO]
    split
    · exact ⟨h1, h2⟩
    · obtain ⟨g1, g2, g3, g4⟩ := cycF_nd hp _ (k := (i : Int)) (m := (cycO p i).1) (acc := []) rfl (by omega) (by simp) (fun y hy => absurd hy (by simp))
      simp only [List.flatten_append, List.flatten_cons, List.flatten_nil, List.append_nil]
      refine ⟨?_, fun y hy => ?_⟩
      · rw [List.nodup_append]
        refine ⟨h1, g1, fun x hx y hy => ?_⟩
        rintro rfl
        rcases g3 x hy with h | h
        · exact absurd h (by simp)
        · rw [(h2 x hx).2] at h; cases h
      · rcases List.mem_append.1 hy with hy | hy
        · exact ⟨(h2 y hy).1, g4 _ (h2 y hy).2⟩
        · exact g2 y hy
theorem lo16_nn {p : List Int} (hp : lo16 p) : ∀ x : Nat, 0 ≤ gi p x := fun x => by
  by_cases h : x < 16
  · exact (hp.2 x h).1
  · rw [gi_over (by rw [hp.1]; omega)]; omega
theorem gl_of {ls : List (List Int)} {i : Nat} (hi : i < ls.length) : gl ls i = ls[i] := by simp [gl, List.getD, hi]
theorem flat_at {A : List (List Int)} (h : A.flatten.Nodup) : (∀ v, v < A.length → (gl A v).Nodup) ∧ ∀ v v', v < A.length → v' < A.length → ∀ x, x ∈ gl A v → x ∈ gl A v' → v = v' := by
  unfold List.Nodup at h
  rw [List.pairwise_flatten] at h
  refine ⟨fun v hv => h.1 _ (gl_mem hv), fun v v' hv hv' x hx hx' => ?_⟩
  have h2 := List.pairwise_iff_getElem.1 h.2
  rw [gl_of hv] at hx
  rw [gl_of hv'] at hx'
  rcases Nat.lt_trichotomy v v' with h3 | h3 | h3
  · exact absurd rfl (h2 v v' hv hv' h3 x hx x hx')
  · exact h3
  · exact absurd rfl (h2 v' v hv' hv h3 x hx' x hx)
section
variable {p b w : List Int} {n : Int}
theorem cyc_nd (hp : lo16 p) : (cyc p n).flatten.Nodup := (cycO_nd (lo16_nn hp) n.toNat).1
theorem which_iff (hp : lo16 p) (hpn : ltP p n) (hn : 1 ≤ n ∧ n ≤ 16) {x v : Nat} (hx : (x : Int) < n) (hv : v < (cyc p n).length) : (x : Int) ∈ gl (cyc p n) v ↔ gi (whichL p n) x = v := by
  have hB : ∀ l ∈ cyc p n, ∀ y ∈ l, 0 ≤ y ∧ y < 16 := fun l hl y hy => by have := (cyc_at hpn hn l hl).1 y hy; omega
  have h1 : ∀ k, k ≤ (cyc p n).length → (∃ j, j < k ∧ (x : Int) ∈ gl (cyc p n) j) → ∃ j, j < k ∧ (x : Int) ∈ gl (cyc p n) j ∧ gi (wO (cyc p n) k) x = j := by
    intro k hk
    induction k with
    | zero => rintro ⟨j, hj, _⟩; omega
    | succ k ih =>
      rintro ⟨j, hj, hm⟩
      rw [wO_at hB (by omega) (by omega)]
      by_cases h : (x : Int) ∈ gl (cyc p n) k
      · exact ⟨k, by omega, h, by rw [if_pos h]⟩
      · have hjk : j < k := by
          have : j ≠ k := by rintro rfl; exact h hm
          omega
        obtain ⟨j', q1, q2, q3⟩ := ih (by omega) ⟨j, hjk, hm⟩
        exact ⟨j', by omega, q2, by rw [if_neg h]; exact q3⟩
  obtain ⟨l, hl, hm⟩ := cyc_mem hp hn hx
  obtain ⟨j, hj, rfl⟩ := List.mem_iff_getElem.1 hl
  obtain ⟨j', q1, q2, q3⟩ := h1 _ (Nat.le_refl _) ⟨j, hj, by rw [gl_of hj]; exact hm⟩
  have hu := (flat_at (cyc_nd (n := n) hp)).2
  unfold whichL
  rw [q3]
  constructor
  · intro h; rw [hu v j' hv q1 _ h q2]
  · intro h
    have : j' = v := by omega
    subst this; exact q2
def E0F (b : List Int) (n : Int) (e : Nat) : Nat := (gi (whichL b n) e).toNat
def E1F (b w : List Int) (n : Int) (e : Nat) : Nat := (cyc b n).length + (gi (whichL w n) e).toNat
theorem inc_iff (hb : lo16 b) (hw : lo16 w) (pb : ltP b n) (pw : ltP w n) (hn : 1 ≤ n ∧ n ≤ 16) {e v : Nat} (he : (e : Int) < n) (hv : v < (allV b w n).length) :
    (e : Int) ∈ gl (allV b w n) v ↔ incE (E0F b n) (E1F b w n) e v := by
  have hlen := (allV_len (b := b) (w := w) hn).1
  have b0 := whichL_lim (x := e) hn pb
  have w0 := whichL_lim (x := e) hn pw
  unfold incE E0F E1F
  by_cases h : v < (cyc b n).length
  · have : gl (allV b w n) v = gl (cyc b n) v := by unfold allV; rw [gl_app, if_pos h]
    rw [this, which_iff hb pb hn he h]
    omega
  · have : gl (allV b w n) v = gl (cyc w n) (v - (cyc b n).length) := by unfold allV; rw [gl_app, if_neg h]
    rw [this, which_iff hw pw hn he (by omega)]
    omega
theorem allV_nd (hb : lo16 b) (hw : lo16 w) {v : Nat} (hv : v < (allV b w n).length) : (gl (allV b w n) v).Nodup := by
  unfold allV at hv ⊢
  rw [List.length_append] at hv
  rw [gl_app]
  split
  · rename_i h; exact (flat_at (cyc_nd (n := n) hb)).1 v h
  · exact (flat_at (cyc_nd (n := n) hw)).1 _ (by omega)
theorem ends_at (pb : ltP b n) (pw : ltP w n) (hw : lo16 w) (hn : 1 ≤ n ∧ n ≤ 16) {e : Nat} (he : (e : Int) < n) : gi (endV b w n) (e * 2) = E0F b n e ∧ gi (endV b w n) (e * 2 + 1) = E1F b w n e := by
  have b0 := whichL_lim (x := e) hn pb
  have w0 := whichL_lim (x := e) hn pw
  rw [ends0 pb pw hn he, ends1 pb pw hw hn he]
  unfold E0F E1F
  omega
def clF (b w : List Int) (n : Int) (x i : Nat) : Int := gi (trI b w n x).1 i
theorem dFo (hb : lo16 b) (hw : lo16 w) (pb : ltP b n) (pw : ltP w n) (hn : 1 ≤ n ∧ n ≤ 16) : Fo n.toNat (allV b w n).length (cyc b n).length (E0F b n) (E1F b w n) (clF b w n) := by
  have hlen := (allV_len (b := b) (w := w) hn).1
  refine ⟨fun e he => ?_, fun e he => ?_, fun i j hi hj => ?_, fun x i j hx hi hj => ?_⟩
  · have := whichL_lim (x := e) hn pb; unfold E0F; omega
  · have := whichL_lim (x := e) hn pw; unfold E1F; omega
  · unfold clF
    simp only [trI]
    rw [iota_at hi, iota_at hj]
    omega
  · have q := (trI_len (b := b) (w := w) (n := n) x).1
    obtain ⟨e0, e1⟩ := ends_at pb pw hw hn (e := x) (by omega)
    unfold clF
    simp only [trI]
    rw [jnL_rel (by omega) (by omega), e0, e1]
    simp only [Int.toNat_natCast]
    omega
theorem tree_iff (hb : lo16 b) (hw : lo16 w) (pb : ltP b n) (pw : ltP w n) (hn : 1 ≤ n ∧ n ≤ 16) {e : Nat} (he : (e : Int) < n) : gb (treeM b w n) e = true ↔ treE (E0F b n) (E1F b w n) (clF b w n) e := by
  have hlen := (allV_len (b := b) (w := w) hn).1
  have hB := cyc_lim (p := b) hn
  have hW := cyc_lim (p := w) hn
  have b0 := whichL_lim (x := e) hn pb
  have w0 := whichL_lim (x := e) hn pw
  have k01 := (tr_rel pb pw hw hn e (by omega)).1 (E0F b n e) (E1F b w n e) (by unfold E0F; omega) (by unfold E1F; omega)
  have p0 : phi (cyc b n).length (E0F b n e) = (gi (whichL b n) e).toNat := by unfold phi E0F; rw [if_pos (by omega)]
  have p1 : phi (cyc b n).length (E1F b w n e) = (16 + gi (whichL w n) e).toNat := by unfold phi E1F; rw [if_neg (by omega)]; omega
  rw [p0, p1] at k01
  have hk : ∀ k, e < k → k ≤ n.toNat → gb (trS b w n k).2 e = decide (¬ gi (trS b w n e).1 (16 + gi (whichL w n) e).toNat = gi (trS b w n e).1 (gi (whichL b n) e).toNat) := by
    intro k
    induction k with
    | zero => intro h; omega
    | succ k ih =>
      intro h1 h2
      have q := (trS_len (b := b) (w := w) (n := n) k).2
      simp only [trS]
      rw [gb_set]
      by_cases h : k = e
      · subst h; rw [if_pos ⟨rfl, by omega⟩]
      · rw [if_neg (by omega)]; exact ih (by omega) (by omega)
  unfold treeM
  rw [hk _ (by omega) (Nat.le_refl _), decide_eq_true_eq]
  unfold treE clF
  rw [ne_eq, k01]
  exact ⟨fun h h' => h h'.symm, fun h h' => h h'.symm⟩
end
theorem collect_mem {m : List Bool} {x : Int} : ∀ k : Nat, x ∈ collect m k ↔ ∃ e : Nat, x = e ∧ e < k ∧ gb m e = true
  | 0 => by simp [collect]
  | k + 1 => by
    simp only [collect]
    split
    · rename_i h
      rw [List.mem_append, collect_mem k]
      simp only [List.mem_cons, List.not_mem_nil, or_false]
      constructor
      · rintro (⟨e, h1, h2, h3⟩ | h1)
        · exact ⟨e, h1, by omega, h3⟩
        · exact ⟨k, h1, by omega, h⟩
      · rintro ⟨e, h1, h2, h3⟩
        by_cases h4 : e = k
        · subst h4; exact .inr h1
        · exact .inl ⟨e, h1, by omega, h3⟩
    · rename_i h
      rw [collect_mem k]
      constructor
      · rintro ⟨e, h1, h2, h3⟩; exact ⟨e, h1, by omega, h3⟩
      · rintro ⟨e, h1, h2, h3⟩
        by_cases h4 : e = k
        · subst h4; exact absurd h3 h
        · exact ⟨e, h1, by omega, h3⟩
theorem collect_nd {m : List Bool} : ∀ k : Nat, (collect m k).Nodup
  | 0 => by simp [collect]
  | k + 1 => by
    have ih := collect_nd (m := m) k
    simp only [collect]
    split
    · rw [List.nodup_append]
      refine ⟨ih, by simp, fun x hx y hy => ?_⟩
      simp only [List.mem_cons, List.not_mem_nil, or_false] at hy
      obtain ⟨e, h1, h2, _⟩ := (collect_mem k).1 hx
      omega
    · exact ih
theorem sumT_sm {a c : List Int} {n : Nat} (hc : c.Nodup) (hl : ∀ y ∈ c, 0 ≤ y ∧ y < n) : ∀ s, s ≤ c.length → sumT a c s = smE n fun e => if (e : Int) ∈ c.take s then gi a e else 0 := by
  intro s
  induction s with
  | zero => intro _; simp only [sumT, List.take_zero, List.not_mem_nil, if_false]; exact (smE_zero n).symm
  | succ s ih =>
    intro hs
    have hy := hl (gi c s) (by rw [gi_of (show s < c.length by omega)]; exact List.getElem_mem _)
    have hn : gi c s ∉ c.take s := by
      intro hm
      obtain ⟨j, hj, he⟩ := List.getElem_of_mem hm
      rw [List.getElem_take] at he
      rw [gi_of (show s < c.length by omega)] at he
      rw [List.length_take] at hj
      have := (List.getElem_inj hc).1 he
      omega
    simp only [sumT]
    rw [ih (by omega)]
    have h1 : (if (gi c s).toNat < n then gi a (gi c s).toNat else 0) = gi a (gi c s).toNat := if_pos (by omega)
    rw [← h1, ← smE_one, ← smE_add]
    refine smE_congr n fun e he => ?_
    by_cases h2 : (e : Int) = gi c s
    · have e1 : e = (gi c s).toNat := by omega
      rw [if_neg (by rw [h2]; exact hn), if_pos e1, if_pos ((take_mem_succ (by omega) _).2 (.inr h2)), ← e1]
      omega
    · rw [if_neg (show ¬ e = (gi c s).toNat by omega)]
      by_cases h3 : (e : Int) ∈ c.take s
      · rw [if_pos h3, if_pos ((take_mem_succ (by omega) _).2 (.inl h3))]; omega
      · rw [if_neg h3, if_neg (fun h4 => ((take_mem_succ (by omega) _).1 h4).elim h3 h2)]; omega
theorem sumT_Sv {a b w : List Int} {n : Int} (hb : lo16 b) (hw : lo16 w) (pb : ltP b n) (pw : ltP w n) (hn : 1 ≤ n ∧ n ≤ 16) {v : Nat} (hv : v < (allV b w n).length) :
    sumT a (gl (allV b w n) v) (gl (allV b w n) v).length = Sv n.toNat (E0F b n) (E1F b w n) (fun e => gi a e) v := by
  have hA := (allV_at pb pw hn _ (gl_mem hv)).1
  rw [sumT_sm (n := n.toNat) (allV_nd hb hw hv) (fun y hy => by have := hA y hy; omega) _ (Nat.le_refl _), List.take_length]
  unfold Sv
  refine smE_congr _ fun e he => ?_
  have := inc_iff hb hw pb pw hn (e := e) (v := v) (by omega) hv
  by_cases h : incE (E0F b n) (E1F b w n) e v
  · rw [if_pos h, if_pos (this.2 h)]
  · rw [if_neg h, if_neg (fun h' => h (this.1 h'))]
end
section
set_option maxHeartbeats 1000000
def fp (p : List Int) (x : Nat) : Nat := (gi p x).toNat
def it (p : List Int) : Nat → Nat → Nat
  | 0, x => x
  | k + 1, x => fp p (it p k x)
theorem it_add {p : List Int} {k x : Nat} : ∀ j, it p (j + k) x = it p j (it p k x)
  | 0 => by rw [Nat.zero_add]; rfl
  | j + 1 => by rw [Nat.add_right_comm]; simp only [it]; rw [it_add j]
structure Pf (p : List Int) (N : Nat) : Prop where
  lt : ∀ x, x < N → fp p x < N
  inj : ∀ x y, x < N → y < N → fp p x = fp p y → x = y
  le : N ≤ 16
variable {p : List Int} {N : Nat}
theorem it_lt (h : Pf p N) {x : Nat} (hx : x < N) : ∀ k, it p k x < N
  | 0 => hx
  | k + 1 => h.lt _ (it_lt h hx k)
theorem it_inj (h : Pf p N) {x y : Nat} (hx : x < N) (hy : y < N) : ∀ k, it p k x = it p k y → x = y
  | 0, e => e
  | k + 1, e => it_inj h hx hy k (h.inj _ _ (it_lt h hx k) (it_lt h hy k) e)
theorem it_ret (h : Pf p N) {x : Nat} (hx : x < N) : ∃ k, 1 ≤ k ∧ it p k x = x := by
  refine Classical.byContradiction fun hno => ?_
  have hnd : ((List.range (N + 1)).map fun k => it p k x).Nodup := by
    refine List.pairwise_map.2 (List.Pairwise.imp_of_mem ?_ List.pairwise_lt_range)
    intro a b _ _ hab e
    have e2 : it p a x = it p a (it p (b - a) x) := by rw [← it_add, show a + (b - a) = b from by omega]; exact e
    exact hno ⟨b - a, by omega, (it_inj h hx (it_lt h hx _) a e2).symm⟩
  have := nodup_len N _ hnd fun y hy => by
    obtain ⟨k, _, rfl⟩ := List.mem_map.1 hy
    exact it_lt h hx k
  simp at this
  omega
theorem it_mul {K x : Nat} (hK : it p K x = x) : ∀ k, it p (K * k) x = x
  | 0 => rfl
  | k + 1 => by rw [Nat.mul_succ, it_add, hK, it_mul hK k]
def Rch (p : List Int) (x y : Nat) : Prop := ∃ k, it p k x = y
theorem Rch.trans {x y z : Nat} : Rch p x y → Rch p y z → Rch p x z
  | ⟨j, e⟩, ⟨k, e'⟩ => ⟨k + j, by rw [it_add, e, e']⟩
theorem Rch.symm (h : Pf p N) {x y : Nat} (hx : x < N) : Rch p x y → Rch p y x := by
  rintro ⟨k, rfl⟩
  obtain ⟨K, h1, h2⟩ := it_ret h hx
  refine ⟨K * k - k, ?_⟩
  have : k ≤ K * k := Nat.le_mul_of_pos_left k h1
  rw [← it_add, show K * k - k + k = K * k from by omega, it_mul h2]
def orb (p : List Int) (x L : Nat) : List Int := (List.range L).map fun j => (it p j x : Int)
structure Per (p : List Int) (x L : Nat) : Prop where
  pos : 1 ≤ L
  ret : it p L x = x
  min : ∀ j, 0 < j → j < L → it p j x ≠ x
theorem gbs {m : List Bool} {k x : Nat} (hk : k < m.length) : gb (m.set k true) x = true ↔ x = k ∨ gb m x = true := by
  rw [gb_set]
  by_cases e : k = x
  · subst e; rw [if_pos ⟨rfl, hk⟩]; simp
  · rw [if_neg fun h' => e h'.1]; simp [Ne.symm e]
theorem cycF_orb (h : Pf p N) (hnn : ∀ x : Nat, 0 ≤ gi p x) {x : Nat} (hx : x < N) {C : Nat → Prop} (hC : ∀ k, ¬ C (it p k x)) : ∀ (c t : Nat) {m : List Bool}, m.count false = c → m.length = 16 → (∀ j, 0 < j → j < t → it p j x ≠ x) →
    (∀ y, y < 16 → (gb m y = true ↔ C y ∨ ∃ j, j < t ∧ it p j x = y)) →
    ∃ L, Per p x L ∧ (cycF p (it p t x : Int) m (orb p x t)).2 = orb p x L ∧ (cycF p (it p t x : Int) m (orb p x t)).1.length = 16 ∧ ∀ y, y < 16 → (gb (cycF p (it p t x : Int) m (orb p x t)).1 y = true ↔ C y ∨ ∃ j, j < L ∧ it p j x = y) := by
  intro c
  induction c using Nat.strongRecOn with
  | ind c ih =>
    intro t m hc hl hmin hm
    have hlt := it_lt h hx t
    have hN := h.le
    cases hg : gb m (it p t x) with
    | false =>
      have hcl := count_false_lt hg (by omega)
      rw [cycF_go (by rw [Int.toNat_natCast]; exact hg) (by rw [Int.toNat_natCast]; omega)]
      simp only [Int.toNat_natCast]
      have e1 : gi p (it p t x) = (it p (t + 1) x : Int) := by simp only [it, fp]; have := hnn (it p t x); omega
      have e2 : orb p x t ++ [(it p t x : Int)] = orb p x (t + 1) := by simp [orb, List.range_succ]
      rw [e1, e2]
      refine ih _ (by omega) (t + 1) rfl (by simp [hl]) (fun j h0 hj => ?_) (fun y hy => ?_)
      · by_cases hjt : j = t
        · subst hjt
          intro e
          have := (hm x (by omega)).2 (.inr ⟨0, h0, rfl⟩)
          rw [e] at hg; rw [hg] at this; cases this
        · exact hmin j h0 (by omega)
      · rw [gbs (by omega), hm y hy]
        constructor
        · rintro (rfl | h | ⟨j, h1, h2⟩)
          · exact .inr ⟨t, by omega, rfl⟩
          · exact .inl h
          · exact .inr ⟨j, by omega, h2⟩
        · rintro (h | ⟨j, h1, h2⟩)
          · exact .inr (.inl h)
          · by_cases hjt : j = t
            · subst hjt; exact .inl h2.symm
            · exact .inr (.inr ⟨j, by omega, h2⟩)
    | true =>
      rw [cycF_end (by rw [Int.toNat_natCast]; exact hg)]
      rcases (hm _ (by omega)).1 hg with h1 | ⟨j, h1, h2⟩
      · exact absurd h1 (hC t)
      · have e : it p j x = it p j (it p (t - j) x) := by rw [← it_add, show j + (t - j) = t from by omega]; exact h2
        have e3 := (it_inj h hx (it_lt h hx _) j e).symm
        by_cases hj : j = 0
        · subst hj
          exact ⟨t, ⟨by omega, by simpa using e3, hmin⟩, rfl, hl, hm⟩
        · exact absurd e3 (hmin (t - j) (by omega) (by omega))
def nwB (p : List Int) (x : Nat) : Bool := !gb (cycO p x).1 x
def cyF (p : List Int) (x : Nat) : List Int := (cycF p x (cycO p x).1 []).2
theorem cycO_list : ∀ i : Nat, (cycO p i).2 = ((List.range i).filter (nwB p)).map (cyF p)
  | 0 => rfl
  | i + 1 => by
    rw [List.range_succ, List.filter_append, List.map_append, ← cycO_list i]
    cases hg : gb (cycO p i).1 i with
    | true => rw [cycO_yes hg]; simp [nwB, hg]
    | false => rw [cycO_no hg]; simp [nwB, hg, cyF]
theorem cycO_orb (h : Pf p N) (hnn : ∀ x : Nat, 0 ≤ gi p x) : ∀ i : Nat, i ≤ N → (cycO p i).1.length = 16 ∧ ∀ y, y < 16 → (gb (cycO p i).1 y = true ↔ ∃ j, j < i ∧ Rch p j y)
  | 0, _ => ⟨by simp [cycO], fun y hy => by
    have e : gb (cycO p 0).1 y = false := by simp only [cycO]; rw [gb_rep]; split <;> rfl
    rw [e]; simp⟩
  | i + 1, hi => by
    obtain ⟨h1, h2⟩ := cycO_orb h hnn i (by omega)
    have hN := h.le
    cases hg : gb (cycO p i).1 i with
    | true =>
      rw [cycO_yes hg]
      refine ⟨h1, fun y hy => ?_⟩
      rw [h2 y hy]
      constructor
      · rintro ⟨j, a, b⟩; exact ⟨j, by omega, b⟩
      · rintro ⟨j, a, b⟩
        by_cases hj : j = i
        · subst hj
          obtain ⟨j', a', b'⟩ := (h2 j (by omega)).1 hg
          exact ⟨j', a', b'.trans b⟩
        · exact ⟨j, by omega, b⟩
    | false =>
      rw [cycO_no hg]
      have hno : ¬ ∃ j, j < i ∧ Rch p j i := fun hh => by rw [(h2 i (by omega)).2 hh] at hg; cases hg
      obtain ⟨L, p1, p2, p3, p4⟩ := cycF_orb h hnn (x := i) (by omega) (C := fun y => ∃ j, j < i ∧ Rch p j y)
        (fun k ⟨j, a, b⟩ => hno ⟨j, a, b.trans (Rch.symm h (x := i) (by omega) ⟨k, rfl⟩)⟩) _ 0 (m := (cycO p i).1) rfl h1 (fun j a b => absurd b (Nat.not_lt_zero j)) (fun y hy => by rw [h2 y hy]; simp)
      refine ⟨p3, fun y hy => ?_⟩
      have := p4 y hy
      simp only [it, orb, List.range_zero, List.map_nil] at this
      show gb (cycF p (i : Int) (cycO p i).1 []).1 y = true ↔ _
      rw [this]
      constructor
      · rintro (⟨j, a, b⟩ | ⟨j, a, b⟩)
        · exact ⟨j, by omega, b⟩
        · exact ⟨i, by omega, j, b⟩
      · rintro ⟨j, a, k, b⟩
        by_cases hj : j = i
        · subst hj
          right
          refine ⟨k % L, Nat.mod_lt _ p1.pos, ?_⟩
          rw [← b]
          conv => rhs; rw [← Nat.mod_add_div k L, it_add, it_mul p1.ret]
        · exact .inl ⟨j, by omega, k, b⟩
theorem nwB_iff (h : Pf p N) (hnn : ∀ x : Nat, 0 ≤ gi p x) {x : Nat} (hx : x < N) : nwB p x = true ↔ ∀ j, j < x → ¬ Rch p j x := by
  have hN := h.le
  have := (cycO_orb h hnn x (by omega)).2 x (by omega)
  unfold nwB
  rw [Bool.not_eq_true', ← Bool.not_eq_true, this]
  exact ⟨fun h j a b => h ⟨j, a, b⟩, fun h ⟨j, a, b⟩ => h j a b⟩
theorem cyF_orb (h : Pf p N) (hnn : ∀ x : Nat, 0 ≤ gi p x) {x : Nat} (hx : x < N) (hn : nwB p x = true) : ∃ L, Per p x L ∧ cyF p x = orb p x L := by
  obtain ⟨h1, h2⟩ := cycO_orb h hnn x (by omega)
  have hno := (nwB_iff h hnn hx).1 hn
  obtain ⟨L, p1, p2, _⟩ := cycF_orb h hnn hx (C := fun y => ∃ j, j < x ∧ Rch p j y) (fun k ⟨j, a, b⟩ => hno j a (b.trans (Rch.symm h hx ⟨k, rfl⟩))) _ 0 (m := (cycO p x).1) rfl h1 (fun j a b => absurd b (Nat.not_lt_zero j)) (fun y hy => by rw [h2 y hy]; simp)
  exact ⟨L, p1, p2⟩
def cN (p : List Int) : Nat → Nat
  | 0 => 0
  | i + 1 => cN p i + if nwB p i = true then 1 else 0
theorem cyc_cN {n : Int} : (cyc p n).length = cN p n.toNat := by
  unfold cyc
  rw [cycO_list, List.length_map]
  generalize n.toNat = k
  induction k with
  | zero => rfl
  | succ k ih =>
    rw [List.range_succ, List.filter_append, List.length_append, ih]
    simp only [cN, List.filter_cons, List.filter_nil]
    cases nwB p k <;> simp
def Vs (p : List Int) (v : Nat → Nat) (x : Nat) : Nat → Nat
  | 0 => 0
  | k + 1 => Vs p v x k + v (it p k x)
theorem Vs_add {v : Nat → Nat} {x L : Nat} : ∀ k, Vs p v x (k + L) = Vs p v x L + Vs p v (it p L x) k
  | 0 => by simp [Vs]
  | k + 1 => by
    rw [Nat.add_right_comm]
    simp only [Vs]
    rw [Vs_add k, it_add]; omega
structure Cov (p q : List Int) (N m : Nat) (v : Nat → Nat) : Prop where
  hp : Pf p N
  hq : Pf q (N * m)
  np : ∀ x : Nat, 0 ≤ gi p x
  nq : ∀ x : Nat, 0 ≤ gi q x
  m0 : 1 ≤ m
  at_ : ∀ x i, x < N → i < m → fp q (m * x + i) = m * fp p x + (i + v x) % m
variable {q : List Int} {m : Nat} {v : Nat → Nat}
theorem Cov.it (h : Cov p q N m v) {x i : Nat} (hx : x < N) (hi : i < m) : ∀ k, it q k (m * x + i) = m * Sep.it p k x + (i + Vs p v x k) % m
  | 0 => by simp only [Sep.it, Vs, Nat.add_zero]; rw [Nat.mod_eq_of_lt hi]
  | k + 1 => by
    simp only [Sep.it, Vs]
    rw [Cov.it h hx hi k, h.at_ _ _ (it_lt h.hp hx k) (Nat.mod_lt _ h.m0), Nat.mod_add_mod, Nat.add_assoc]
theorem idx_lt {x i : Nat} (hx : x < N) (hi : i < m) : m * x + i < N * m := by
  have : m * (x + 1) ≤ m * N := Nat.mul_le_mul_left m hx
  rw [Nat.mul_succ] at this
  rw [Nat.mul_comm N m]; omega
theorem idx_div {x i y j : Nat} (hi : i < m) (hj : j < m) (e : m * x + i = m * y + j) : x = y ∧ i = j := by
  have h1 : (m * x + i) / m = x := by rw [Nat.mul_add_div (by omega), Nat.div_eq_of_lt hi, Nat.add_zero]
  have h2 : (m * y + j) / m = y := by rw [Nat.mul_add_div (by omega), Nat.div_eq_of_lt hj, Nat.add_zero]
  have : x = y := by rw [← h1, e, h2]
  subst this
  exact ⟨rfl, by omega⟩
theorem Cov.nw_no (h : Cov p q N m v) {x i : Nat} (hx : x < N) (hi : i < m) (hn : ¬ nwB p x = true) : ¬ nwB q (m * x + i) = true := by
  rw [nwB_iff h.hp h.np hx] at hn
  rw [nwB_iff h.hq h.nq (idx_lt hx hi)]
  intro hall
  refine hn fun j hj ⟨k, e⟩ => ?_
  -- from (j, i') with the right i' one comes to (x, i)
  have hm := h.m0
  refine hall (m * j + (i + (m - Vs p v j k % m)) % m) ?_ ⟨k, ?_⟩
  · have h1 := Nat.mod_lt (i + (m - Vs p v j k % m)) hm
    have h2 : m * (j + 1) ≤ m * x := Nat.mul_le_mul_left m hj
    rw [Nat.mul_succ] at h2
    omega
  · rw [h.it (by omega) (Nat.mod_lt _ hm), e, Nat.mod_add_mod]
    congr 1
    have h1 := Nat.mod_lt (Vs p v j k) hm
    have h2 := Nat.mod_add_div (Vs p v j k) m
    rw [show i + (m - Vs p v j k % m) + Vs p v j k = i + m * (1 + Vs p v j k / m) from by rw [Nat.mul_add]; omega, Nat.add_mul_mod_self_left, Nat.mod_eq_of_lt hi]
def rw_ (q : List Int) (a : Nat) : Nat → Nat
  | 0 => 0
  | j + 1 => rw_ q a j + if nwB q (a + j) = true then 1 else 0
theorem cN_row {a : Nat} : ∀ j, cN q (a + j) = cN q a + rw_ q a j
  | 0 => rfl
  | j + 1 => by rw [← Nat.add_assoc]; simp only [cN, rw_]; rw [cN_row j]; omega
theorem rw_le {a : Nat} : ∀ j, rw_ q a j ≤ j
  | 0 => Nat.le_refl _
  | j + 1 => by have := rw_le (a := a) j; simp only [rw_]; split <;> omega
theorem rw_zero {a : Nat} : ∀ j, (∀ i, i < j → ¬ nwB q (a + i) = true) → rw_ q a j = 0
  | 0, _ => rfl
  | j + 1, h => by simp only [rw_]; rw [rw_zero j fun i hi => h i (by omega), if_neg (h j (by omega))]
theorem rw_all {a : Nat} : ∀ j, (∀ i, i < j → nwB q (a + i) = true) → rw_ q a j = j
  | 0, _ => rfl
  | j + 1, h => by simp only [rw_]; rw [rw_all j fun i hi => h i (by omega), if_pos (h j (by omega))]
theorem rw_lt {a i : Nat} : ∀ j, i < j → ¬ nwB q (a + i) = true → rw_ q a j < j
  | 0, h, _ => absurd h (Nat.not_lt_zero i)
  | j + 1, h, hn => by
    simp only [rw_]
    by_cases e : i = j
    · subst e; rw [if_neg hn]; have := rw_le (q := q) (a := a) i; omega
    · have := rw_lt (a := a) j (by omega) hn
      split <;> omega
theorem Vs_mul {x L : Nat} (hL : Per p x L) (hS : Vs p v x L % m = 0) : ∀ k, it p k x = x → Vs p v x k % m = 0 := by
  intro k
  induction k using Nat.strongRecOn with
  | ind k ih =>
    intro e
    by_cases h0 : k = 0
    · subst h0; simp [Vs]
    · by_cases hk : k < L
      · exact absurd e (hL.min k (by omega) hk)
      · have hpos := hL.pos
        have e1 : it p (k - L) x = x := by
          have := e
          rw [show k = (k - L) + L from by omega, it_add, hL.ret] at this; exact this
        have := ih (k - L) (by omega) e1
        rw [show k = (k - L) + L from by omega, Vs_add, hL.ret, Nat.add_mod, hS, this]; simp
theorem Cov.row (h : Cov p q N m v) {x L : Nat} (hx : x < N) (hn : nwB p x = true) (hL : Per p x L) : (Vs p v x L % m = 0 → rw_ q (m * x) m = m) ∧ (Vs p v x L % m ≠ 0 → rw_ q (m * x) m < m) := by
  have hm := h.m0
  have hnew := (nwB_iff h.hp h.np hx).1 hn
  constructor
  · intro hS
    refine rw_all m fun i hi => ?_
    rw [nwB_iff h.hq h.nq (idx_lt hx hi)]
    rintro j hj ⟨k, e⟩
    have hjd := Nat.div_add_mod j m
    have hjm := Nat.mod_lt j hm
    have hyx : j / m ≤ x := by
      have := Nat.div_le_div_right (c := m) (Nat.le_of_lt hj)
      rwa [Nat.mul_add_div (by omega), Nat.div_eq_of_lt hi, Nat.add_zero] at this
    rw [← hjd, h.it (by omega) hjm] at e
    obtain ⟨e1, e2⟩ := idx_div (Nat.mod_lt _ hm) hi e
    by_cases hlt : j / m < x
    · exact hnew _ hlt ⟨k, e1⟩
    · have hyx' : j / m = x := by omega
      rw [hyx'] at e1 e2
      have := Vs_mul (m := m) hL hS k e1
      rw [Nat.add_mod, this, Nat.add_zero, Nat.mod_mod, Nat.mod_mod] at e2
      rw [hyx'] at hjd
      omega
  · intro hS
    have hSl := Nat.mod_lt (Vs p v x L) hm
    refine rw_lt (i := Vs p v x L % m) m hSl ?_
    rw [nwB_iff h.hq h.nq (idx_lt hx hSl)]
    intro hall
    refine hall (m * x + 0) (by omega) ⟨L, ?_⟩
    rw [h.it hx (by omega), hL.ret, Nat.zero_add]
theorem Cov.row0 (h : Cov p q N m v) {x : Nat} (hx : x < N) (hn : ¬ nwB p x = true) : rw_ q (m * x) m = 0 := rw_zero m fun i hi => h.nw_no hx hi hn
theorem Cov.le (h : Cov p q N m v) : ∀ k, k ≤ N → cN q (m * k) ≤ m * cN p k
  | 0, _ => Nat.le_refl _
  | k + 1, hk => by
    have ih := Cov.le h k (by omega)
    rw [Nat.mul_succ, cN_row]
    simp only [cN]
    by_cases hn : nwB p k = true
    · rw [if_pos hn, Nat.mul_add]
      have := rw_le (q := q) (a := m * k) m
      omega
    · rw [if_neg hn, h.row0 (by omega) hn]; omega
theorem Cov.eq (h : Cov p q N m v) (hS : ∀ x, x < N → nwB p x = true → ∀ L, Per p x L → Vs p v x L % m = 0) : ∀ k, k ≤ N → cN q (m * k) = m * cN p k
  | 0, _ => rfl
  | k + 1, hk => by
    have ih := Cov.eq h hS k (by omega)
    rw [Nat.mul_succ, cN_row]
    simp only [cN]
    by_cases hn : nwB p k = true
    · obtain ⟨L, hL, _⟩ := cyF_orb h.hp h.np (x := k) (by omega) hn
      rw [if_pos hn, Nat.mul_add, (h.row (by omega) hn hL).1 (hS k (by omega) hn L hL), ih]; omega
    · rw [if_neg hn, h.row0 (by omega) hn, ih, Nat.add_zero, Nat.add_zero]
theorem Cov.lt (h : Cov p q N m v) {x L : Nat} (hx : x < N) (hn : nwB p x = true) (hL : Per p x L) (hS : Vs p v x L % m ≠ 0) : ∀ k, x < k → k ≤ N → cN q (m * k) < m * cN p k
  | 0, hk, _ => absurd hk (Nat.not_lt_zero x)
  | k + 1, hk, hkN => by
    rw [Nat.mul_succ, cN_row]
    simp only [cN]
    by_cases hxk : x = k
    · subst hxk
      have ih := Cov.le h x (by omega)
      have := (h.row hx hn hL).2 hS
      rw [if_pos hn, Nat.mul_add]; omega
    · have ih := Cov.lt h hx hn hL hS k (by omega) (by omega)
      by_cases hn' : nwB p k = true
      · rw [if_pos hn', Nat.mul_add]
        have := rw_le (q := q) (a := m * k) m
        omega
      · rw [if_neg hn', h.row0 (by omega) hn']; omega
end
section
set_option maxHeartbeats 1000000
theorem smE_sub {f g : Nat → Int} (n : Nat) : smE n (fun e => f e - g e) = smE n f - smE n g := by
  have := smE_add (f := f) (g := fun e => - g e) n
  rw [smE_neg] at this
  rw [Int.sub_eq_add_neg, ← this]
  exact smE_congr n fun e _ => Int.sub_eq_add_neg
theorem smE_mul {c : Int} {f : Nat → Int} : ∀ n, smE n (fun e => c * f e) = c * smE n f
  | 0 => by simp [smE]
  | n + 1 => by simp only [smE]; rw [smE_mul n, Int.mul_add]
theorem smE_swap {f : Nat → Nat → Int} {n : Nat} : ∀ m, smE m (fun i => smE n (f i)) = smE n (fun j => smE m fun i => f i j)
  | 0 => (smE_zero n).symm
  | m + 1 => by simp only [smE]; rw [smE_swap m, ← smE_add]
theorem smE_pick {f : Nat → Int} {x : Nat} {n : Nat} (hx : x < n) : smE n (fun e => if e = x then f e else 0) = f x := by
  have : smE n (fun e => if e = x then f e else 0) = smE n (fun e => if e = x then f x else 0) := smE_congr n fun e _ => by
    by_cases h : e = x
    · subst h; rfl
    · rw [if_neg h, if_neg h]
  rw [this, smE_one, if_pos hx]
variable {p q : List Int} {N : Nat}
theorem Pf.onto (h : Pf p N) {y : Nat} (hy : y < N) : ∃ x, x < N ∧ fp p x = y := by
  obtain ⟨k, h1, h2⟩ := it_ret h hy
  refine ⟨it p (k - 1) y, it_lt h hy _, ?_⟩
  have : it p (k - 1 + 1) y = y := by rw [Nat.sub_add_cancel h1]; exact h2
  exact this
theorem smE_perm (h : Pf p N) {g : Nat → Int} : smE N (fun x => g (fp p x)) = smE N g := by
  have e1 : smE N (fun x => g (fp p x)) = smE N (fun x => smE N fun y => if y = fp p x then g y else 0) := smE_congr N fun x hx => (smE_pick (h.lt x hx)).symm
  rw [e1, smE_swap]
  refine smE_congr N fun y hy => ?_
  obtain ⟨x0, h1, h2⟩ := h.onto hy
  have e2 : smE N (fun x => if y = fp p x then g y else 0) = smE N (fun x => if x = x0 then g y else 0) := smE_congr N fun x hx => by
    by_cases e : x = x0
    · subst e; rw [if_pos h2.symm, if_pos rfl]
    · rw [if_neg e, if_neg fun e' => e (h.inj x x0 hx h1 (by rw [h2]; exact e'.symm))]
  rw [e2, smE_one, if_pos h1]
theorem Pf.off {p : List Int} {n : Int} (ho : okP p) (h : isPm p n) : Pf p n.toNat := by
  have hn := h.1
  have hl := h.ltP ho
  refine ⟨fun x hx => ?_, fun x y hx hy e => ?_, by omega⟩
  · have := hl x (by omega); unfold fp; omega
  · have h1 := hl x (by omega)
    have h2 := hl y (by omega)
    unfold fp at e
    have e' : gi p x = gi p y := by omega
    rcases Nat.lt_trichotomy x y with hl | hl | hl
    · exact absurd e' (((h.2 y (by omega)).1 (by omega)).2 x hl)
    · exact hl
    · exact absurd e'.symm (((h.2 x (by omega)).1 (by omega)).2 y hl)
theorem Per.same {x L L' : Nat} (h : Per p x L) (h' : Per p x L') : L = L' := by
  rcases Nat.lt_trichotomy L L' with e | e | e
  · exact absurd h.ret (h'.min L h.pos e)
  · exact e
  · exact absurd h'.ret (h.min L' h'.pos e)
theorem Per.inj (hp : Pf p N) {x L : Nat} (hx : x < N) (h : Per p x L) {i j : Nat} (hi : i < L) (hj : j < L) (e : it p i x = it p j x) : i = j := by
  have key : ∀ i j, i < j → j < L → it p i x = it p j x → False := fun i j hij hj e => by
    have e2 : it p i x = it p i (it p (j - i) x) := by rw [← it_add, show i + (j - i) = j by omega]; exact e
    exact h.min (j - i) (by omega) (by omega) (it_inj hp hx (it_lt hp hx _) i e2).symm
  rcases Nat.lt_trichotomy i j with h1 | h1 | h1
  · exact (key i j h1 hj e).elim
  · exact h1
  · exact (key j i h1 hi e.symm).elim
theorem orb_len {x L : Nat} : (orb p x L).length = L := by simp [orb]
theorem orb_at {x L j : Nat} (hj : j < L) : gi (orb p x L) j = (it p j x : Int) := by
  rw [gi_of (by rw [orb_len]; exact hj)]; simp [orb]
theorem orb_mem {x L y : Nat} : (y : Int) ∈ orb p x L ↔ ∃ j, j < L ∧ it p j x = y := by
  unfold orb
  simp only [List.mem_map, List.mem_range]
  constructor
  · rintro ⟨j, a, b⟩; exact ⟨j, a, by omega⟩
  · rintro ⟨j, a, b⟩; exact ⟨j, a, by omega⟩
theorem orb_step {x L y : Nat} (hL : Per p x L) (h : (y : Int) ∈ orb p x L) : (fp p y : Int) ∈ orb p x L := by
  obtain ⟨j, a, rfl⟩ := orb_mem.1 h
  refine orb_mem.2 ?_
  by_cases e : j + 1 < L
  · exact ⟨j + 1, e, rfl⟩
  · exact ⟨0, hL.pos, by
      have h1 := hL.ret
      rw [show L = j + 1 by omega] at h1
      exact h1.symm⟩
theorem cyc_orb {n : Int} (hp : Pf p n.toNat) (np : ∀ x : Nat, 0 ≤ gi p x) {v : Nat} (hv : v < (cyc p n).length) : ∃ r L, r < n.toNat ∧ nwB p r = true ∧ Per p r L ∧ gl (cyc p n) v = orb p r L := by
  have h : gl (cyc p n) v ∈ cyc p n := gl_mem hv
  unfold cyc at h
  rw [cycO_list] at h
  obtain ⟨r, h1, h2⟩ := List.mem_map.1 h
  obtain ⟨h3, h4⟩ := List.mem_filter.1 h1
  have h3 := List.mem_range.1 h3
  obtain ⟨L, h5, h6⟩ := cyF_orb hp np h3 h4
  refine ⟨r, L, h3, h4, h5, ?_⟩
  rw [← h6, h2]; unfold cyc; rw [cycO_list]
structure Pd (p : List Int) (n : Int) : Prop where
  lo : lo16 p
  lt : ltP p n
  hn : 1 ≤ n ∧ n ≤ 16
  pf : Pf p n.toNat
section
variable {n : Int}
theorem Pd.nn (h : Pd p n) : ∀ x : Nat, 0 ≤ gi p x := lo16_nn h.lo
theorem isPm.pd (h : isPm p n) (ho : okP p) : Pd p n := ⟨h.lo ho, h.ltP ho, h.1, Pf.off ho h⟩
def wh (p : List Int) (n : Int) (x : Nat) : Nat := (gi (whichL p n) x).toNat
theorem Pd.wh_lt (h : Pd p n) {x : Nat} : wh p n x < (cyc p n).length := by
  have := whichL_lim (x := x) h.hn h.lt
  unfold wh; omega
theorem Pd.wh_iff (h : Pd p n) {x v : Nat} (hx : x < n.toNat) (hv : v < (cyc p n).length) : (x : Int) ∈ gl (cyc p n) v ↔ v = wh p n x := by
  have h1 := which_iff h.lo h.lt h.hn (x := x) (v := v) (by omega) hv
  have h2 := whichL_lim (x := x) h.hn h.lt
  rw [h1]; unfold wh; omega
theorem Pd.wh_step (h : Pd p n) {x : Nat} (hx : x < n.toNat) : wh p n (fp p x) = wh p n x := by
  have hv := h.wh_lt (x := x)
  have h1 := (h.wh_iff hx hv).2 rfl
  obtain ⟨r, L, _, _, h2, h3⟩ := cyc_orb h.pf h.nn hv
  rw [h3] at h1
  have h4 := orb_step h2 h1
  rw [← h3] at h4
  exact ((h.wh_iff (h.pf.lt x hx) hv).1 h4).symm
theorem Pd.all (h : Pd p n) {g : Nat → Int} : smE (cyc p n).length (fun v => smE n.toNat fun e => if (e : Int) ∈ gl (cyc p n) v then g e else 0) = smE n.toNat g := by
  rw [smE_swap]
  refine smE_congr _ fun e he => ?_
  have : smE (cyc p n).length (fun v => if (e : Int) ∈ gl (cyc p n) v then g e else 0) = smE (cyc p n).length (fun v => if v = wh p n e then g e else 0) := smE_congr _ fun v hv => by
    have := h.wh_iff he hv
    by_cases q : v = wh p n e
    · rw [if_pos q, if_pos (this.2 q)]
    · rw [if_neg q, if_neg fun q' => q (this.1 q')]
  rw [this, smE_one, if_pos h.wh_lt]
def tab (n : Int) (g : Nat → Int) : List Int := (List.range n.toNat).map g
theorem tab_at {g : Nat → Int} {e : Nat} (he : e < n.toNat) : gi (tab n g) e = g e := by
  unfold tab; rw [gi_of (by simpa using he)]; simp
theorem Pd.nd (h : Pd p n) {v : Nat} (hv : v < (cyc p n).length) : (gl (cyc p n) v).Nodup := (flat_at (cyc_nd (n := n) h.lo)).1 v hv
theorem Pd.sumT (h : Pd p n) {a : List Int} {v : Nat} (hv : v < (cyc p n).length) : sumT a (gl (cyc p n) v) (gl (cyc p n) v).length = smE n.toNat fun e => if (e : Int) ∈ gl (cyc p n) v then gi a e else 0 := by
  have := sumT_sm (a := a) (n := n.toNat) (h.nd hv) (fun y hy => by have := (cyc_at h.lt h.hn _ (gl_mem hv)).1 y hy; omega) (gl (cyc p n) v).length (Nat.le_refl _)
  rw [List.take_length] at this
  exact this
def Pot (p : List Int) (N : Nat) (a : Nat → Int) (P : Nat → Int) : Prop := ∀ x, x < N → P (fp p x) = P x + a x
theorem Pd.pot (h : Pd p n) {a : List Int} (hz : ∀ v, v < (cyc p n).length → Sep.sumT a (gl (cyc p n) v) (gl (cyc p n) v).length = 0) : ∃ P, Pot p n.toNat (gi a) P := by
  have ex : ∀ x, x < n.toNat → ∃ r L j, r < n.toNat ∧ nwB p r = true ∧ Per p r L ∧ j < L ∧ it p j r = x ∧ Sep.sumT a (orb p r L) L = 0 := fun x hx => by
    have hv := h.wh_lt (x := x)
    have h1 := (h.wh_iff hx hv).2 rfl
    obtain ⟨r, L, h2, h3, h4, h5⟩ := cyc_orb h.pf h.nn hv
    have h6 := hz _ hv
    rw [h5, orb_len] at h6
    rw [h5] at h1
    obtain ⟨j, h7, h8⟩ := orb_mem.1 h1
    exact ⟨r, L, j, h2, h3, h4, h7, h8, h6⟩
  have ex2 : ∀ x, ∃ q : Int, x < n.toNat → ∃ r L j, r < n.toNat ∧ nwB p r = true ∧ Per p r L ∧ j < L ∧ it p j r = x ∧ Sep.sumT a (orb p r L) L = 0 ∧ q = Sep.sumT a (orb p r L) j := fun x => by
    by_cases hx : x < n.toNat
    · obtain ⟨r, L, j, h1, h2, h3, h4, h5, h6⟩ := ex x hx
      exact ⟨_, fun _ => ⟨r, L, j, h1, h2, h3, h4, h5, h6, rfl⟩⟩
    · exact ⟨0, fun h => absurd h hx⟩
  refine ⟨fun x => (ex2 x).choose, fun x hx => ?_⟩
  obtain ⟨r, L, j, h1, h2, h3, h4, h5, h6, h7⟩ := (ex2 x).choose_spec hx
  obtain ⟨r', L', j', g1, g2, g3, g4, g5, g6, g7⟩ := (ex2 (fp p x)).choose_spec (h.pf.lt x hx)
  have e5 : it p (j + 1) r = fp p x := by simp only [it]; rw [h5]
  have hr : r = r' := by
    have q1 := (nwB_iff h.pf h.nn h1).1 h2
    have q2 := (nwB_iff h.pf h.nn g1).1 g2
    have w1 : Rch p r r' := Rch.trans ⟨j + 1, e5⟩ (Rch.symm h.pf g1 ⟨j', g5⟩)
    have w2 : Rch p r' r := Rch.symm h.pf h1 w1
    rcases Nat.lt_trichotomy r r' with e | e | e
    · exact absurd w1 (q2 r e)
    · exact e
    · exact absurd w2 (q1 r' e)
  subst hr
  obtain rfl := h3.same g3
  show (ex2 (fp p x)).choose = (ex2 x).choose + gi a x
  rw [g7, h7]
  have es : Sep.sumT a (orb p r L) (j + 1) = Sep.sumT a (orb p r L) j + gi a x := by
    simp only [Sep.sumT]; rw [orb_at h4, h5, Int.toNat_natCast]
  by_cases hj : j + 1 < L
  · have : j' = j + 1 := h3.inj h.pf h1 g4 hj (g5.trans e5.symm)
    rw [this, es]
  · have e0 : j + 1 = L := by omega
    have : j' = 0 := h3.inj h.pf h1 g4 h3.pos (by rw [g5, ← e5, e0]; exact h3.ret)
    rw [this, ← es, e0, h6]; rfl
theorem mtI_eq {a b c : List Int} {y s : Int} : ∀ i, mtI a b c y i s = s + Sep.sumT a c i * gi b y.toNat - gi a y.toNat * Sep.sumT b c i
  | 0 => by simp [mtI, Sep.sumT]
  | i + 1 => by
    simp only [mtI, Sep.sumT]; rw [mtI_eq i]; grind
theorem mtJ_neg {a b c : List Int} : ∀ j (s : Int), mtJ b a c j (-s) = - mtJ a b c j s
  | 0, s => rfl
  | j + 1, s => by simp only [mtJ]; rw [mtI_eq, mtI_eq, mtJ_neg j s]; grind
theorem mtV_neg {a b : List Int} {A : List (List Int)} : ∀ v, mtV b a A v = - mtV a b A v
  | 0 => rfl
  | v + 1 => by simp only [mtV]; rw [mtV_neg v, mtJ_neg]
theorem meet_neg {b w x y : List Int} : meetV b w n y x = - meetV b w n x y := by
  unfold meetV; rw [mtV_neg, Int.neg_tdiv]
theorem mtJ_pot {a b : List Int} {P : Nat → Int} (hp : Pf p N) {r L : Nat} (hr : r < N) (hP : Pot p N (gi b) P) {s : Int} : ∀ j, j ≤ L →
    mtJ a b (orb p r L) j s = s + Sep.sumT a (orb p r L) j * (P (it p j r) + P r) - smE j (fun t => gi a (it p t r) * (P (it p t r) + P (fp p (it p t r)))) ∧ Sep.sumT b (orb p r L) j = P (it p j r) - P r
  | 0, _ => by simp [mtJ, Sep.sumT, smE, it]
  | j + 1, hj => by
    obtain ⟨h1, h2⟩ := mtJ_pot hp hr hP (L := L) (s := s) j (by omega)
    have h3 := hP _ (it_lt hp hr j)
    have h4 := orb_at (p := p) (x := r) (show j < L by omega)
    simp only [mtJ, Sep.sumT, smE, it]
    rw [mtI_eq, h1, h2, h4, Int.toNat_natCast, h3]
    generalize it p j r = x at *
    constructor <;> grind
theorem Pd.mtJ (h : Pd p n) {a b : List Int} {P : Nat → Int} (hP : Pot p n.toNat (gi b) P) {v : Nat} (hv : v < (cyc p n).length) (hz : Sep.sumT a (gl (cyc p n) v) (gl (cyc p n) v).length = 0) {s : Int} :
    Sep.mtJ a b (gl (cyc p n) v) (gl (cyc p n) v).length s = s - smE n.toNat fun e => if (e : Int) ∈ gl (cyc p n) v then gi a e * (P e + P (fp p e)) else 0 := by
  obtain ⟨r, L, h2, h3, h4, h5⟩ := cyc_orb h.pf h.nn hv
  have h6 := h.sumT (a := tab n fun e => gi a e * (P e + P (fp p e))) hv
  have h7 : smE n.toNat (fun e => if (e : Int) ∈ gl (cyc p n) v then gi (tab n fun e => gi a e * (P e + P (fp p e))) e else 0) = smE n.toNat (fun e => if (e : Int) ∈ gl (cyc p n) v then gi a e * (P e + P (fp p e)) else 0) := smE_congr _ fun e he => by rw [tab_at he]
  rw [← h7, ← h6]
  rw [h5, orb_len] at hz ⊢
  rw [(mtJ_pot h.pf h2 hP L (Nat.le_refl _)).1, hz, Int.zero_mul, Int.add_zero]
  congr 1
  have : ∀ j, j ≤ L → Sep.sumT (tab n fun e => gi a e * (P e + P (fp p e))) (orb p r L) j = smE j fun t => gi a (it p t r) * (P (it p t r) + P (fp p (it p t r))) := by
    intro j
    induction j with
    | zero => intro _; rfl
    | succ j ih =>
      intro hj
      simp only [Sep.sumT, smE]
      rw [ih (by omega), orb_at (by omega), Int.toNat_natCast, tab_at (it_lt h.pf h2 j)]
  exact (this L (Nat.le_refl _)).symm
end
end
section
theorem isD.lo {n : Int} {b w : List Int} (hb : okP b) (hw : okP w) (h : isD n b w) : lo16 b ∧ lo16 w ∧ (1 ≤ n ∧ n ≤ 16) := ⟨h.pb.lo hb, h.pw.lo hw, h.pb.1⟩
theorem c_impl_BoundariesOf {n : Int} {b w : List Int} (hb : okP b) (hw : okP w) (h0 : isDB n b w = true) : PSpec Tryz.prog 10 [vD n b w] fun v => v = .tup [.own 32 1 (bndL b w n).length (vo 2 (bndL b w n)), .int .i64 0] := by
  have hl := hb.len
  have hk := hw.len
  obtain ⟨lb, lw, hn⟩ := (isDB_iff.1 h0).lo hb hw
  refine impl_BoundariesOf_f.f ?_
  unfold vD
  simp (disch := first | omega | (simp only [LN]; omega)) only [↓EC, EW, seval, ↓reduceIte, impl_BoundariesOf_F, hl, hk]
  refine pcd_v (c_impl_IsDessin hb hw) ?_
  (try simp (disch := first | omega | (simp only [LN]; omega)) only [↓EC, EW, seval, ↓reduceIte, hl, hk, h0])
  refine pcd_v (c_impl_face lb lw hn) ?_
  (try simp (disch := first | omega | (simp only [LN]; omega)) only [↓EC, EW, seval, ↓reduceIte, hl, hk])
  refine pcd_v (c_impl_cycles (backP_lo hn) hn) ?_
  (try simp (disch := first | omega | (simp only [LN]; omega)) only [↓EC, EW, seval, ↓reduceIte, hl, hk])
  have hcl : ∀ l ∈ cyc (faceP b w n) n, (∀ y ∈ l, 0 ≤ y ∧ y < n) ∧ l.length ≤ 16 := cycO_lt (backP_lt (p := thenP b w n) hn) n.toNat (by omega)
  have hcn : (cyc (faceP b w n) n).length ≤ 16 := Nat.le_trans (cycO_len (p := faceP b w n) n.toNat).2 (by omega)
  unfold bndL
  generalize cyc (faceP b w n) n = C at *
  refine LP_ofE (σ := Nat) [1, 1] 100000 [(65, 27, 1)] (fun s => [.own 32 1 s (vo 2 ((C.take s).map fun c => chT b n c c.length)), .int .i64 s]) (fun s => [.int .i64 n :: vi .u8 (b ++ w)])
    (fun s => s ≤ C.length) (fun s => C.length - s) 0 (by simp [frameOk, names, lpz, sclp, scv, scvs, nrfs, nrf, FRB]) (Nat.zero_le _) ?_ ?_
  · simp (disch := first | omega | (simp only [LN]; omega)) only [↓EC, EW, seval, ↓reduceIte, ColV_def]
    exact ⟨fun _ => trivial, trivial⟩
  · rintro i h1
    simp (disch := first | omega | (simp only [LN]; omega)) only [↓EC, EW, seval, ↓reduceIte, ColV_def, lheap_def]
    (refine Split.mk (fun h => ?_) (fun h => ?_) <;> (try simp only [SD] at h))
    · have hi : i < C.length := by omega
      have hci := hcl _ (gl_mem hi)
      (try simp (disch := first | omega | (simp only [LN]; omega)) only [↓EC, EW, seval, ↓reduceIte, hl, hk])
      refine LP_of (σ := Nat) 200000 [(65, 27, 1), (90, 2, 1), (100000, 32, 1)] (fun s => [.int .i64 s])
        (fun s => [.int .i64 n :: vi .u8 (b ++ w), vi .i64 (chT b n (gl C i) s), vo 2 ((C.take i).map fun c => chT b n c c.length)])
        (fun s => s ≤ (gl C i).length) (fun s => (gl C i).length - s) 0 (by simp [frameOk, names, lpz, sclp, scv, scvs, nrfs, nrf, FRB]) (Nat.zero_le _) ?_ ?_
      · simp (disch := first | omega | (simp only [LN]; omega)) only [↓EC, EW, seval, ↓reduceIte, ColV_def]
        rfl
      · rintro s g1
        have hlt := chT_len (b := b) (n := n) (c := gl C i) s
        simp (disch := first | omega | (simp only [LN]; omega)) only [↓EC, EW, seval, ↓reduceIte, ColV_def, lheap_def]
        (refine Split.mk (fun h => ?_) (fun h => ?_) <;> (try simp only [SD] at h))
        · have hs : s < (gl C i).length := by omega
          have hv := hci.1 (gi (gl C i) s) (by rw [gi_of hs]; exact List.getElem_mem hs)
          have hbv := (isDB_iff.1 h0).pb.ltP hb (gi (gl C i) s).toNat (by omega)
          have q1 := chT_lim (b := b) (n := n) (c := gl C i) s (gi b (gi (gl C i) s).toNat).toNat
          have q2 := chT_lim (b := b) (n := n) (c := gl C i) s (gi (gl C i) s).toNat
          have q3 : -(2 * (s : Int) + 1) ≤ gi ((chT b n (gl C i) s).set (gi b (gi (gl C i) s).toNat).toNat (gi (chT b n (gl C i) s) (gi b (gi (gl C i) s).toNat).toNat + 1)) (gi (gl C i) s).toNat := by
            rw [gi_set]; split <;> omega
          have q4 : gi ((chT b n (gl C i) s).set (gi b (gi (gl C i) s).toNat).toNat (gi (chT b n (gl C i) s) (gi b (gi (gl C i) s).toNat).toNat + 1)) (gi (gl C i) s).toNat ≤ 2 * (s : Int) + 1 := by
            rw [gi_set]; split <;> omega
          have q5 := hci.2
          (try simp (disch := first | omega | (simp only [LN]; omega)) only [↓EC, EW, seval, ↓reduceIte, hl, hk])
          exact ⟨s + 1, rfl, rfl, by omega, by omega⟩
        · have hml : ((C.take i).map fun c => chT b n c c.length).length = i := by simp; omega
          have hse : s = (gl C i).length := by omega
          subst hse
          (try simp (disch := first | omega | (simp only [LN]; omega)) only [↓EC, EW, seval, ↓reduceIte, hml])
          refine ⟨i + 1, ?_, by omega, by omega⟩
          rw [take_gl hi, List.map_append]
          rfl
    · have hie : i = C.length := by omega
      subst hie
      (try simp (disch := first | omega | (simp only [LN]; omega)) only [↓EC, EW, seval, ↓reduceIte, List.length_map])
      rw [List.take_of_length_le (by simp)]
theorem c_spec_BoundariesOf {n : Int} {b w : List Int} (hb : okP b) (hw : okP w) (h0 : isDB n b w = true) : PSpec Tryz.prog 11 [vD n b w] fun v => v = .tup [.own 32 1 (bndL b w n).length (vo 2 (bndL b w n)), .int .i64 0] := by
  have hl := hb.len
  have hk := hw.len
  obtain ⟨lb, lw, hn⟩ := (isDB_iff.1 h0).lo hb hw
  refine spec_BoundariesOf_f.f ?_
  unfold vD
  simp (disch := first | omega | (simp only [LN]; omega)) only [↓EC, EW, seval, ↓reduceIte, spec_BoundariesOf_F, hl, hk]
  refine pcd_v (c_spec_l01Is hb hw) ?_
  (try simp (disch := first | omega | (simp only [LN]; omega)) only [↓EC, EW, seval, ↓reduceIte, hl, hk, h0])
  refine pcd_v (c_spec_l01Face lb lw hn) ?_
  (try simp (disch := first | omega | (simp only [LN]; omega)) only [↓EC, EW, seval, ↓reduceIte, hl, hk])
  refine pcd_v (c_spec_l01Cycles (backP_lo hn) hn) ?_
  (try simp (disch := first | omega | (simp only [LN]; omega)) only [↓EC, EW, seval, ↓reduceIte, hl, hk])
  have hcl : ∀ l ∈ cyc (faceP b w n) n, (∀ y ∈ l, 0 ≤ y ∧ y < n) ∧ l.length ≤ 16 := cycO_lt (backP_lt (p := thenP b w n) hn) n.toNat (by omega)
  have hcn : (cyc (faceP b w n) n).length ≤ 16 := Nat.le_trans (cycO_len (p := faceP b w n) n.toNat).2 (by omega)
  unfold bndL
  generalize cyc (faceP b w n) n = C at *
  refine LP_ofE (σ := Nat) [1, 1] 100000 [(65, 27, 1)] (fun s => [.own 32 1 s (vo 2 ((C.take s).map fun c => chT b n c c.length)), .int .i64 s]) (fun s => [.int .i64 n :: vi .u8 (b ++ w)])
    (fun s => s ≤ C.length) (fun s => C.length - s) 0 (by simp [frameOk, names, lpz, sclp, scv, scvs, nrfs, nrf, FRB]) (Nat.zero_le _) ?_ ?_
  · simp (disch := first | omega | (simp only [LN]; omega)) only [↓EC, EW, seval, ↓reduceIte, ColV_def]
    exact ⟨fun _ => trivial, trivial⟩
  · rintro i h1
    simp (disch := first | omega | (simp only [LN]; omega)) only [↓EC, EW, seval, ↓reduceIte, ColV_def, lheap_def]
    (refine Split.mk (fun h => ?_) (fun h => ?_) <;> (try simp only [SD] at h))
    · have hi : i < C.length := by omega
      have hci := hcl _ (gl_mem hi)
      (try simp (disch := first | omega | (simp only [LN]; omega)) only [↓EC, EW, seval, ↓reduceIte, hl, hk])
      refine LP_of (σ := Nat) 200000 [(65, 27, 1), (91, 2, 1), (100000, 32, 1)] (fun s => [.int .i64 s])
        (fun s => [.int .i64 n :: vi .u8 (b ++ w), vi .i64 (chT b n (gl C i) s), vo 2 ((C.take i).map fun c => chT b n c c.length)])
        (fun s => s ≤ (gl C i).length) (fun s => (gl C i).length - s) 0 (by simp [frameOk, names, lpz, sclp, scv, scvs, nrfs, nrf, FRB]) (Nat.zero_le _) ?_ ?_
      · simp (disch := first | omega | (simp only [LN]; omega)) only [↓EC, EW, seval, ↓reduceIte, ColV_def]
        rfl
      · rintro s g1
        have hlt := chT_len (b := b) (n := n) (c := gl C i) s
        simp (disch := first | omega | (simp only [LN]; omega)) only [↓EC, EW, seval, ↓reduceIte, ColV_def, lheap_def]
        (refine Split.mk (fun h => ?_) (fun h => ?_) <;> (try simp only [SD] at h))
        · have hs : s < (gl C i).length := by omega
          have hv := hci.1 (gi (gl C i) s) (by rw [gi_of hs]; exact List.getElem_mem hs)
          have hbv := (isDB_iff.1 h0).pb.ltP hb (gi (gl C i) s).toNat (by omega)
          have q1 := chT_lim (b := b) (n := n) (c := gl C i) s (gi b (gi (gl C i) s).toNat).toNat
          have q2 := chT_lim (b := b) (n := n) (c := gl C i) s (gi (gl C i) s).toNat
          have q3 : -(2 * (s : Int) + 1) ≤ gi ((chT b n (gl C i) s).set (gi b (gi (gl C i) s).toNat).toNat (gi (chT b n (gl C i) s) (gi b (gi (gl C i) s).toNat).toNat + 1)) (gi (gl C i) s).toNat := by
            rw [gi_set]; split <;> omega
          have q4 : gi ((chT b n (gl C i) s).set (gi b (gi (gl C i) s).toNat).toNat (gi (chT b n (gl C i) s) (gi b (gi (gl C i) s).toNat).toNat + 1)) (gi (gl C i) s).toNat ≤ 2 * (s : Int) + 1 := by
            rw [gi_set]; split <;> omega
          have q5 := hci.2
          (try simp (disch := first | omega | (simp only [LN]; omega)) only [↓EC, EW, seval, ↓reduceIte, hl, hk])
          exact ⟨s + 1, rfl, rfl, by omega, by omega⟩
        · have hml : ((C.take i).map fun c => chT b n c c.length).length = i := by simp; omega
          have hse : s = (gl C i).length := by omega
          subst hse
          (try simp (disch := first | omega | (simp only [LN]; omega)) only [↓EC, EW, seval, ↓reduceIte, hml])
          refine ⟨i + 1, ?_, by omega, by omega⟩
          rw [take_gl hi, List.map_append]
          rfl
    · have hie : i = C.length := by omega
      subst hie
      (try simp (disch := first | omega | (simp only [LN]; omega)) only [↓EC, EW, seval, ↓reduceIte, List.length_map])
      rw [List.take_of_length_le (by simp)]
theorem c_impl_BoundariesOf_no {n : Int} {b w : List Int} (hb : okP b) (hw : okP w) (h0 : isDB n b w = false) : PSpec Tryz.prog 10 [vD n b w] fun v => v = .tup [.nils, .int .i64 1] := by
  have hl := hb.len
  have hk := hw.len
  refine impl_BoundariesOf_f.f ?_
  unfold vD
  simp (disch := first | omega | (simp only [LN]; omega)) only [↓EC, EW, seval, ↓reduceIte, impl_BoundariesOf_F, hl, hk]
  refine pcd_v (c_impl_IsDessin hb hw) ?_
  (try simp (disch := first | omega | (simp only [LN]; omega)) only [↓EC, EW, seval, ↓reduceIte, hl, hk, h0])
theorem c_spec_BoundariesOf_no {n : Int} {b w : List Int} (hb : okP b) (hw : okP w) (h0 : isDB n b w = false) : PSpec Tryz.prog 11 [vD n b w] fun v => v = .tup [.nils, .int .i64 1] := by
  have hl := hb.len
  have hk := hw.len
  refine spec_BoundariesOf_f.f ?_
  unfold vD
  simp (disch := first | omega | (simp only [LN]; omega)) only [↓EC, EW, seval, ↓reduceIte, spec_BoundariesOf_F, hl, hk]
  refine pcd_v (c_spec_l01Is hb hw) ?_
  (try simp (disch := first | omega | (simp only [LN]; omega)) only [↓EC, EW, seval, ↓reduceIte, hl, hk, h0])
theorem bndL_lim {b w : List Int} {n : Int} (hn : 1 ≤ n ∧ n ≤ 16) : (bndL b w n).length ≤ 16 ∧ (∀ l ∈ bndL b w n, l.length ≤ 16) := by
  have hcn : (cyc (faceP b w n) n).length ≤ 16 := Nat.le_trans (cycO_len (p := faceP b w n) n.toNat).2 (by omega)
  refine ⟨by unfold bndL; simpa using hcn, fun l hl => ?_⟩
  unfold bndL at hl
  simp only [List.mem_map] at hl
  obtain ⟨c, _, rfl⟩ := hl
  rw [chT_len]; omega
end
section
set_option maxHeartbeats 1000000
theorem putL_atH {f : Nat → Nat × Int} : ∀ k : Nat, (∀ i, i < k → (f i).1 < 16) → (∀ i j, i < j → j < k → (f i).1 ≠ (f j).1) → ∀ i, i < k → gi (putL f k) (f i).1 = (f i).2
  | 0, _, _, i, hi => absurd hi (Nat.not_lt_zero i)
  | k + 1, h1, h2, i, hi => by
    simp only [putL]
    rw [gi_set]
    by_cases h : (f k).1 = (f i).1
    · rw [if_pos ⟨h, by rw [putL_len]; exact h1 i hi⟩]
      by_cases hk : i = k
      · rw [hk]
      · exact absurd h.symm (h2 i k (by omega) (by omega))
    · rw [if_neg fun h' => h h'.1]
      refine putL_atH k (fun i hi => h1 i (by omega)) (fun i j a b => h2 i j a (by omega)) i ?_
      by_cases hk : i = k
      · exact absurd (by rw [hk]) h
      · omega
section
variable {p q b w : List Int} {n : Int}
theorem then_fp (hn : 1 ≤ n ∧ n ≤ 16) {x : Nat} (hx : x < n.toNat) : fp (thenP p q n) x = fp q (fp p x) := by
  unfold fp
  have := putL_atH (f := thenF p q) n.toNat (fun i hi => by simp only [thenF]; omega) (fun i j a b => by simp only [thenF]; omega) x hx
  simp only [thenF] at this
  unfold thenP; rw [this]
theorem back_fp (h : Pf p n.toNat) {x : Nat} (hx : x < n.toNat) : fp (backP p n) (fp p x) = x := by
  have hle := h.le
  have := putL_atH (f := backF p) n.toNat (fun i hi => by have := h.lt i hi; simp only [backF]; unfold fp at this; omega) (fun i j a b => by
    simp only [backF]
    intro e
    have := h.inj i j (by omega) b e
    omega) x hx
  simp only [backF] at this
  unfold backP fp; rw [this]; rfl
theorem back_fp' (h : Pf p n.toNat) {y : Nat} (hy : y < n.toNat) : fp p (fp (backP p n) y) = y := by
  obtain ⟨x, hx, rfl⟩ := h.onto hy
  rw [back_fp h hx]
theorem then_pf (hn : 1 ≤ n ∧ n ≤ 16) (h1 : Pf p n.toNat) (h2 : Pf q n.toNat) : Pf (thenP p q n) n.toNat := by
  refine ⟨fun x hx => ?_, fun x y hx hy e => ?_, h1.le⟩
  · rw [then_fp hn hx]; exact h2.lt _ (h1.lt _ hx)
  · rw [then_fp hn hx, then_fp hn hy] at e
    exact h1.inj _ _ hx hy (h2.inj _ _ (h1.lt _ hx) (h1.lt _ hy) e)
theorem back_pf (hn : 1 ≤ n ∧ n ≤ 16) (h : Pf p n.toNat) : Pf (backP p n) n.toNat := by
  refine ⟨fun x hx => ?_, fun x y hx hy e => ?_, h.le⟩
  · have := backP_lt (p := p) hn x (by omega); unfold fp; omega
  · rw [← back_fp' h hx, ← back_fp' h hy, e]
structure Dz (n : Int) (b w : List Int) : Prop where
  D : isD n b w
  B : Pd b n
  W : Pd w n
  F : Pd (faceP b w n) n
theorem isD.dz (D : isD n b w) (hb : okP b) (hw : okP w) : Dz n b w := by
  have B := D.pb.pd hb
  have W := D.pw.pd hw
  exact ⟨D, B, W, backP_lo B.hn, backP_lt B.hn, B.hn, back_pf B.hn (then_pf B.hn B.pf W.pf)⟩
def fc (b w : List Int) (n : Int) (x : Nat) : Nat := wh (faceP b w n) n x
theorem Dz.face (h : Dz n b w) {x : Nat} (hx : x < n.toNat) : fp (faceP b w n) (fp w (fp b x)) = x := by
  have := back_fp (then_pf h.B.hn h.B.pf h.W.pf) hx
  rw [then_fp h.B.hn hx] at this
  exact this
theorem Dz.face' (h : Dz n b w) {x : Nat} (hx : x < n.toNat) : fp w (fp b (fp (faceP b w n) x)) = x := by
  have h1 : fp (thenP b w n) (fp (faceP b w n) x) = x := back_fp' (then_pf h.B.hn h.B.pf h.W.pf) hx
  rw [then_fp (x := fp (faceP b w n) x) h.B.hn (h.F.pf.lt x hx)] at h1
  exact h1
theorem Dz.fc_wb (h : Dz n b w) {x : Nat} (hx : x < n.toNat) : fc b w n (fp w (fp b x)) = fc b w n x := by
  have h1 := h.F.wh_step (h.W.pf.lt _ (h.B.pf.lt _ hx))
  rw [h.face hx] at h1
  exact h1.symm
theorem Dz.sh (h : Dz n b w) {g : Nat → Int} : smE n.toNat (fun x => g (fp w (fp b x))) = smE n.toNat g :=
  (smE_perm h.B.pf (g := fun x => g (fp w x))).trans (smE_perm h.W.pf)
theorem Dz.shf (h : Dz n b w) {k : Nat} {H : Nat → Int} : smE n.toNat (fun e => if k = fc b w n e then H (fp w (fp b e)) else 0) = smE n.toNat (fun e => if k = fc b w n e then H e else 0) := by
  rw [← h.sh (g := fun e => if k = fc b w n e then H e else 0)]
  exact smE_congr _ fun e he => by simp only [h.fc_wb he]
theorem chT_at {c : List Int} {y : Nat} (hb : ∀ x : Nat, x < n.toNat → fp b x < n.toNat) (hc : ∀ z ∈ c, 0 ≤ z ∧ z < n) (hy : y < n.toNat) : ∀ s, s ≤ c.length → gi (chT b n c s) y = sumT (tab n fun x => (if y = fp b x then 1 else 0) - (if y = x then 1 else 0)) c s
  | 0, _ => by simp only [chT, sumT]; rw [gi_rep]; split <;> rfl
  | s + 1, hs => by
    have ih := chT_at hb hc hy s (by omega)
    have hcs := hc (gi c s) (by rw [gi_of (show s < c.length by omega)]; exact List.getElem_mem _)
    have hb' := hb (gi c s).toNat (by omega)
    have hl := chT_len (b := b) (n := n) (c := c) s
    simp only [chT, chStep, sumT]
    rw [tab_at (show (gi c s).toNat < n.toNat by omega), ← ih]
    have hx : (gi c s).toNat < n.toNat := by omega
    generalize (gi c s).toNat = x at *
    have e : (gi b x).toNat = fp b x := rfl
    rw [e, gi_set, gi_set, gi_set, List.length_set, hl]
    by_cases h1 : x = y <;> by_cases h2 : fp b x = y
    · rw [if_pos ⟨h1, hy⟩, if_pos ⟨h2.trans h1.symm, hx⟩, if_pos h2.symm, if_pos h1.symm, h2]; omega
    · rw [if_pos ⟨h1, hy⟩, if_neg (fun h => h2 (h.1.trans h1)), if_neg (fun h => h2 h.symm), if_pos h1.symm, h1]; omega
    · rw [if_neg (fun h => h1 h.1), if_pos ⟨h2, hy⟩, if_pos h2.symm, if_neg (fun h => h1 h.symm), h2]; omega
    · rw [if_neg (fun h => h1 h.1), if_neg (fun h => h2 h.1), if_neg (fun h => h2 h.symm), if_neg (fun h => h1 h.symm)]; omega
theorem bnd_gl {k : Nat} (hk : k < (cyc (faceP b w n) n).length) : gl (bndL b w n) k = chT b n (gl (cyc (faceP b w n) n) k) (gl (cyc (faceP b w n) n) k).length := by
  have : k < (bndL b w n).length := by unfold bndL; simpa using hk
  rw [gl_of this, gl_of hk]; simp [bndL]
theorem bnd_len : (bndL b w n).length = (cyc (faceP b w n) n).length := by simp [bndL]
theorem Dz.bnd (h : Dz n b w) {k y : Nat} (hk : k < (cyc (faceP b w n) n).length) (hy : y < n.toNat) :
    gi (gl (bndL b w n) k) y = smE n.toNat fun e => if k = fc b w n e then (if y = fp b e then 1 else 0) - (if y = e then 1 else 0) else 0 := by
  rw [bnd_gl hk, chT_at (fun x hx => h.B.pf.lt x hx) (fun z hz => (cyc_at h.F.lt h.F.hn _ (gl_mem hk)).1 z hz) hy _ (Nat.le_refl _), h.F.sumT hk]
  refine smE_congr _ fun e he => ?_
  rw [tab_at he]
  have := h.F.wh_iff he hk
  by_cases q : k = fc b w n e
  · rw [if_pos q, if_pos (this.2 q)]
  · rw [if_neg q, if_neg fun q' => q (this.1 q')]
theorem Dz.bndG (h : Dz n b w) {k : Nat} (hk : k < (cyc (faceP b w n) n).length) {G : Nat → Int} :
    smE n.toNat (fun y => gi (gl (bndL b w n) k) y * G y) = smE n.toNat fun e => if k = fc b w n e then G (fp b e) - G e else 0 := by
  have e1 : smE n.toNat (fun y => gi (gl (bndL b w n) k) y * G y) = smE n.toNat fun y => smE n.toNat fun e => if k = fc b w n e then (if y = fp b e then G y else 0) - (if y = e then G y else 0) else 0 := smE_congr _ fun y hy => by
    rw [h.bnd hk hy, Int.mul_comm, ← smE_mul]
    refine smE_congr _ fun e he => ?_
    by_cases q : k = fc b w n e
    · rw [if_pos q, if_pos q, Int.mul_sub]
      congr 1 <;> (split <;> simp)
    · rw [if_neg q, if_neg q, Int.mul_zero]
  rw [e1, smE_swap]
  refine smE_congr _ fun e he => ?_
  by_cases q : k = fc b w n e
  · simp only [if_pos q]
    rw [smE_sub, smE_pick (h.B.pf.lt e he), smE_pick he]
  · simp only [if_neg q]
    exact smE_zero _
theorem Dz.bnd_sum (h : Dz n b w) {y : Nat} (hy : y < n.toNat) : smE (bndL b w n).length (fun k => gi (gl (bndL b w n) k) y) = 0 := by
  rw [bnd_len]
  have e1 : smE (cyc (faceP b w n) n).length (fun k => gi (gl (bndL b w n) k) y) = smE (cyc (faceP b w n) n).length fun k => smE n.toNat fun e => if k = fc b w n e then (if y = fp b e then 1 else 0) - (if y = e then 1 else 0) else 0 := smE_congr _ fun k hk => h.bnd hk hy
  rw [e1, smE_swap]
  have e2 : (fun e => smE (cyc (faceP b w n) n).length fun k => if k = fc b w n e then ((if y = fp b e then 1 else 0) - (if y = e then 1 else 0) : Int) else 0) = fun e => (if y = fp b e then 1 else 0) - (if y = e then 1 else 0) := by
    funext e
    rw [smE_one]; exact if_pos h.F.wh_lt
  rw [e2, smE_sub, smE_perm h.B.pf (g := fun x => if y = x then 1 else 0), Int.sub_self]
theorem Pd.sums (h : Pd p n) {a : List Int} {v : Nat} (hv : v < (cyc p n).length) : Sep.sumT a (gl (cyc p n) v) (gl (cyc p n) v).length = smE n.toNat fun e => gi a e * (if v = wh p n e then 1 else 0) := by
  rw [h.sumT hv]
  refine smE_congr _ fun e he => ?_
  have := h.wh_iff he hv
  by_cases q : v = wh p n e
  · rw [if_pos q, if_pos (this.2 q), Int.mul_one]
  · rw [if_neg q, if_neg (fun q' => q (this.1 q')), Int.mul_zero]
theorem cyc_zero {a : List Int} (h : cycB a (allV b w n) = true) : (∀ v, v < (cyc b n).length → sumT a (gl (cyc b n) v) (gl (cyc b n) v).length = 0) ∧ ∀ v, v < (cyc w n).length → sumT a (gl (cyc w n) v) (gl (cyc w n) v).length = 0 := by
  have h1 : ∀ v, v < (allV b w n).length → sumT a (gl (allV b w n) v) (gl (allV b w n) v).length = 0 := fun v hv => by
    refine Classical.byContradiction fun hne => ?_
    rw [cycB_no hv hne] at h; cases h
  have hl : (allV b w n).length = (cyc b n).length + (cyc w n).length := by unfold allV; simp
  refine ⟨fun v hv => ?_, fun v hv => ?_⟩
  · have := h1 v (by omega)
    have e : gl (allV b w n) v = gl (cyc b n) v := by unfold allV; rw [gl_app, if_pos hv]
    rwa [e] at this
  · have := h1 ((cyc b n).length + v) (by omega)
    have e : gl (allV b w n) ((cyc b n).length + v) = gl (cyc w n) v := by unfold allV; rw [gl_app, if_neg (by omega), Nat.add_sub_cancel_left]
    rwa [e] at this
theorem cyc_zero' {a : List Int} (h1 : ∀ v, v < (cyc b n).length → sumT a (gl (cyc b n) v) (gl (cyc b n) v).length = 0) (h2 : ∀ v, v < (cyc w n).length → sumT a (gl (cyc w n) v) (gl (cyc w n) v).length = 0) : cycB a (allV b w n) = true := by
  have hl : (allV b w n).length = (cyc b n).length + (cyc w n).length := by unfold allV; simp
  refine cycB_yes fun v hv => ?_
  by_cases hb : v < (cyc b n).length
  · have e : gl (allV b w n) v = gl (cyc b n) v := by unfold allV; rw [gl_app, if_pos hb]
    rw [e]; exact h1 v hb
  · have e : gl (allV b w n) v = gl (cyc w n) (v - (cyc b n).length) := by unfold allV; rw [gl_app, if_neg hb]
    rw [e]; exact h2 _ (by omega)
theorem Dz.bnd_cyc (h : Dz n b w) {k : Nat} (hk : k < (cyc (faceP b w n) n).length) : cycB (gl (bndL b w n) k) (allV b w n) = true := by
  refine cyc_zero' (fun v hv => ?_) fun v hv => ?_
  · rw [h.B.sums hv, h.bndG hk (G := fun e => if v = wh b n e then 1 else 0)]
    refine (smE_congr _ fun e he => ?_).trans (smE_zero _)
    simp only [h.B.wh_step he, Int.sub_self, ite_self]
  · rw [h.W.sums hv, h.bndG hk (G := fun e => if v = wh w n e then 1 else 0)]
    have e1 : smE n.toNat (fun e => if k = fc b w n e then (if v = wh w n (fp b e) then (1 : Int) else 0) - (if v = wh w n e then 1 else 0) else 0) =
        smE n.toNat (fun e => if k = fc b w n e then (if v = wh w n (fp b e) then (1 : Int) else 0) else 0) - smE n.toNat (fun e => if k = fc b w n e then (if v = wh w n e then 1 else 0) else 0) := by
      rw [← smE_sub]
      exact smE_congr _ fun e _ => by split <;> simp
    rw [e1, ← h.shf (k := k) (H := fun e => if v = wh w n e then 1 else 0)]
    have e2 : smE n.toNat (fun e => if k = fc b w n e then (if v = wh w n (fp w (fp b e)) then (1 : Int) else 0) else 0) = smE n.toNat (fun e => if k = fc b w n e then (if v = wh w n (fp b e) then (1 : Int) else 0) else 0) := smE_congr _ fun e he => by
      rw [h.W.wh_step (h.B.pf.lt e he)]
    rw [e2, Int.sub_self]
theorem Dz.mt (h : Dz n b w) {x y : List Int} {P Q : Nat → Int} (hx : cycB x (allV b w n) = true) (hP : Pot b n.toNat (gi y) P) (hQ : Pot w n.toNat (gi y) Q) :
    mtV x y (allV b w n) (allV b w n).length = - smE n.toNat fun e => gi x e * ((P e + P (fp b e)) + (Q e + Q (fp w e))) := by
  have hl : (allV b w n).length = (cyc b n).length + (cyc w n).length := by unfold allV; simp
  obtain ⟨z1, z2⟩ := cyc_zero hx
  have m1 : ∀ k, k ≤ (cyc b n).length → mtV x y (allV b w n) k = - smE k fun v => smE n.toNat fun e => if (e : Int) ∈ gl (cyc b n) v then gi x e * (P e + P (fp b e)) else 0 := fun k => by
    induction k with
    | zero => intro _; rfl
    | succ k ih =>
      intro hk
      have e : gl (allV b w n) k = gl (cyc b n) k := by unfold allV; rw [gl_app, if_pos (by omega)]
      simp only [mtV, smE]
      rw [e, h.B.mtJ hP (by omega) (z1 k (by omega)), ih (by omega)]; omega
  have m2 : ∀ k, k ≤ (cyc w n).length → mtV x y (allV b w n) ((cyc b n).length + k) = mtV x y (allV b w n) (cyc b n).length - smE k fun v => smE n.toNat fun e => if (e : Int) ∈ gl (cyc w n) v then gi x e * (Q e + Q (fp w e)) else 0 := fun k => by
    induction k with
    | zero => intro _; simp [smE]
    | succ k ih =>
      intro hk
      have e : gl (allV b w n) ((cyc b n).length + k) = gl (cyc w n) k := by unfold allV; rw [gl_app, if_neg (by omega), Nat.add_sub_cancel_left]
      rw [← Nat.add_assoc]
      simp only [mtV, smE]
      rw [e, h.W.mtJ hQ (by omega) (z2 k (by omega)), ih (by omega)]; omega
  rw [hl, m2 _ (Nat.le_refl _), m1 _ (Nat.le_refl _), h.B.all (g := fun e => gi x e * (P e + P (fp b e))), h.W.all (g := fun e => gi x e * (Q e + Q (fp w e)))]
  have e1 : smE n.toNat (fun e => gi x e * ((P e + P (fp b e)) + (Q e + Q (fp w e)))) = smE n.toNat (fun e => gi x e * (P e + P (fp b e)) + gi x e * (Q e + Q (fp w e))) := smE_congr _ fun e _ => by rw [Int.mul_add]
  rw [e1, smE_add]; omega
theorem Dz.pots (h : Dz n b w) {y : List Int} (hy : cycB y (allV b w n) = true) : (∃ P, Pot b n.toNat (gi y) P) ∧ ∃ Q, Pot w n.toNat (gi y) Q := by
  obtain ⟨z1, z2⟩ := cyc_zero hy
  exact ⟨h.B.pot z1, h.W.pot z2⟩
theorem Dz.bnd_meet (h : Dz n b w) {k : Nat} (hk : k < (cyc (faceP b w n) n).length) {y : List Int} (hy : cycB y (allV b w n) = true) : meetV b w n (gl (bndL b w n) k) y = 0 := by
  obtain ⟨⟨P, hP⟩, Q, hQ⟩ := h.pots hy
  unfold meetV
  rw [h.mt (h.bnd_cyc hk) hP hQ, h.bndG hk (G := fun e => (P e + P (fp b e)) + (Q e + Q (fp w e)))]
  have e1 : smE n.toNat (fun e => if k = fc b w n e then (P (fp b e) + P (fp b (fp b e)) + (Q (fp b e) + Q (fp w (fp b e)))) - (P e + P (fp b e) + (Q e + Q (fp w e))) else 0) =
      smE n.toNat (fun e => if k = fc b w n e then gi y e + gi y (fp b e) + (Q (fp b e) + Q (fp w (fp b e))) else 0) - smE n.toNat (fun e => if k = fc b w n e then Q e + Q (fp w e) else 0) := by
    rw [← smE_sub]
    refine smE_congr _ fun e he => ?_
    have h1 := hP e he
    have h2 := hP (fp b e) (h.B.pf.lt e he)
    split <;> omega
  have e2 : smE n.toNat (fun e => if k = fc b w n e then gi y e + gi y (fp b e) + (Q (fp b e) + Q (fp w (fp b e))) else 0) - smE n.toNat (fun e => if k = fc b w n e then Q (fp w (fp b e)) + Q (fp w (fp w (fp b e))) else 0) =
      smE n.toNat (fun e => if k = fc b w n e then gi y e else 0) - smE n.toNat (fun e => if k = fc b w n e then gi y (fp w (fp b e)) else 0) := by
    rw [← smE_sub, ← smE_sub]
    refine smE_congr _ fun e he => ?_
    have h1 := hQ (fp b e) (h.B.pf.lt e he)
    have h2 := hQ (fp w (fp b e)) (h.W.pf.lt _ (h.B.pf.lt e he))
    split <;> omega
  rw [e1, ← h.shf (k := k) (H := fun e => Q e + Q (fp w e)), e2, h.shf (k := k) (H := fun e => gi y e), Int.sub_self]
  rfl
end
end
section
theorem infoE : (Tryz.prog.info? 2).map (fun i => (i.zero, i.size, i.bytes)) = some (some (.int .i64 0), 1, 8) := by kernel_rfl
theorem zeroE : ∀ w, (zeroValue 2).run Tryz.prog w = .ok (.int .i64 0) w := by intro w; kernel_rfl
def movedD (zs : List Int) (i : Nat) : List Value := (zs.drop (i + 1)).map (Value.int .i64)
theorem movedD_length {zs : List Int} {i : Nat} : (movedD zs i).length = zs.length - (i + 1) := by simp [movedD]
theorem movedD_get {zs : List Int} {i j : Nat} (hj : j < zs.length - (i + 1)) : (movedD zs i)[j]? = some (.int .i64 (zs.getD (i + 1 + j) 0)) := by
  simp [movedD, List.getD, show i + 1 + j < zs.length by omega]
set_option maxHeartbeats 4000000 in
set_option maxRecDepth 1000000 in
theorem delete_walk (b off n cap i j : Nat) (zs : List Int) (w : World) (hn : zs.length = n) (hi : i < n) (hj : j = i + 1) (hl : n ≤ cap) (hm : cap ≤ 9223372036854775807)
    (hc : ∀ j, j < n → w.cell? ⟨b, off + j, none⟩ = some (.int .i64 (zs.getD j 0))) (hf : ∀ j, j < n → w.frozen? ⟨b, off + j, none⟩ = false) :
    Calls Tryz.prog 79 #[.slice (some ⟨b, off, none⟩) n cap, .int .i64 i, .int .i64 j] w fun e w' => e = .returned (.slice (some ⟨b, off, none⟩) (n - 1) cap) ∧
      w' = (w.drew.setCells b (off + i) (movedD zs i)).setCells b (off + (n - 1)) [.int .i64 0] := by
  obtain ⟨i0, hi0, hz0, hz1, hz2⟩ := info_parts infoE
  obtain ⟨A, hA, hnews⟩ : ∃ A : Addr, (if cap = j then some (⟨b, off, none⟩ : Addr) else some ⟨b, off + j, none⟩) = some A ∧ Hid (∀ t u, (movedD zs i)[t]? = some u → w.drew.cell? (A.add t) = some u) := by
    by_cases h : cap = j
    · refine ⟨⟨b, off, none⟩, by simp [h], fun t u hu => ?_⟩
      have h0 : (movedD zs i).length = 0 := by rw [movedD_length]; omega
      rw [List.length_eq_zero_iff.1 h0] at hu
      simp at hu
    · refine ⟨⟨b, off + j, none⟩, by simp [h], fun t u hu => ?_⟩
      have ht : t < zs.length - (i + 1) := by
        have := (List.getElem?_eq_some_iff.1 hu).1
        rwa [movedD_length] at this
      rw [movedD_get ht] at hu
      rw [Addr.add_lit, show off + j + t = off + (i + 1 + t) by omega]
      exact (hc (i + 1 + t) (by omega)).trans hu
  have s1 : Hid ((movedD zs i).length = (n - j) * 1) := by rw [Nat.mul_one]; show (movedD zs i).length = n - j; rw [movedD_length]; omega
  have s2 : Hid (∀ u ∈ movedD zs i, u.oneCell' = true) := by
    intro u hu
    obtain ⟨x, _, rfl⟩ := List.mem_map.1 hu
    rfl
  have s3 : Hid (∀ t, t < (movedD zs i).length → (w.drew.cell? ⟨b, off + i * 1 + t, none⟩).isSome = true ∧ w.drew.frozen? ⟨b, off + i * 1 + t, none⟩ = false) := by
    intro t ht
    rw [movedD_length] at ht
    rw [Nat.mul_one, Nat.add_assoc]
    exact ⟨by show (w.cell? _).isSome = true; rw [hc (i + t) (by omega)]; rfl, hf (i + t) (by omega)⟩
  obtain ⟨W1, hW1⟩ : ∃ W1, W1 = w.drew.setCells b (off + i * 1) (movedD zs i) := ⟨_, rfl⟩
  have hcl : ∀ ty, (Builtin.clear_ #[32] ty #[.slice (some ⟨b, off + (i + (n - j)), none⟩) (n - (i + (n - j))) (cap - (i + (n - j)))]).run Tryz.prog W1 = .ok (.tuple #[]) (W1.setCells b (off + (i + (n - j))) (List.replicate (n - (i + (n - j))) (.int .i64 0))) :=
    fun ty => Lib.run_clear_slice W1 _ _ ty _ (by kernel_rfl) zeroE rfl rfl b (off + (i + (n - j))) _ _ (by omega)
      (fun t ht => by
        rw [hW1]
        by_cases h : i + (n - j) + t < i * 1 + (movedD zs i).length
        · have := World.cell?_setCells_in b (movedD zs i) (off + i * 1) w.drew (fun q hq => (s3 q hq).1) (i + (n - j) + t - i) (by omega)
          rw [show off + (i + (n - j)) + t = off + i * 1 + (i + (n - j) + t - i) by omega, this]; rfl
        · rw [World.cell?_setCells_out b _ _ _ _ (fun _ _ => .inr (by simp only; omega))]
          show (w.cell? _).isSome = true
          rw [show off + (i + (n - j)) + t = off + (i + (n - j) + t) by omega, hc _ (by omega)]; rfl)
      (fun t ht => by
        rw [hW1, World.frozen?_setCells]
        rw [show off + (i + (n - j)) + t = off + (i + (n - j) + t) by omega]
        exact hf _ (by omega))
  have hW : Hid (W1 = w.drew.setCells b (off + i * 1) (movedD zs i)) := hW1
  have hic : i ≤ cap := by omega
  have hjc : j ≤ cap := by omega
  have hij : ¬ i = j := by omega
  have hij2 : i ≤ j := by omega
  have hjn : j ≤ n := by omega
  have hfin : Hid (n - 1 = i + (n - j) ∧ n - (i + (n - j)) = 1) := ⟨by omega, by omega⟩
  clear hW1 hc hf hj hn
  go_enter Tryz.func79, Tryz.ntmps79
  go_wp2_with fail
  go_region_law (refine step_append_room rfl (.tmp 22) (.tmp 25) 32 rfl 2 i0 1 (by kernel_rfl) hi0 hz1 b off i cap (by simp [Act.eval, Act.put]) A (n - j) (cap - j) (movedD zs i) (by first | (simp [Act.eval, Act.put]; done) | (simp [Act.eval, Act.put]; simpa using hA)) s1.out hnews.out s2.out (by omega) s3.out ?_; rw [← hW.out])
  go_wp2
  go_ret
  refine ⟨by rw [hfin.out.1]; rfl, ?_⟩
  rw [hW.out, hfin.out.2, ← hfin.out.1, Nat.mul_one]
  rfl
theorem OL_vi {ι : Iota} {F : H} : ∀ {l : List Int} {r : List Value} {d : H}, OL ι F (vi .i64 l) r d → r = l.map (Value.int .i64) ∧ d = emp
  | [], r, d, h => by simp only [vi, List.map_nil, OL] at h; exact ⟨by rw [h.1]; rfl, h.2⟩
  | a :: l, r, d, h => by
    have h' : OL ι F (V.int .i64 a :: vi .i64 l) r d := h
    simp only [OL] at h'
    obtain ⟨v, r', d1, d2, rfl, rfl, _, h1, h2⟩ := h'
    simp only [OV, R] at h1
    obtain ⟨rfl, rfl⟩ := h1
    obtain ⟨rfl, rfl⟩ := OL_vi h2
    exact ⟨rfl, by funext x; rfl⟩
theorem OL_vi_of {ι : Iota} {F : H} : ∀ {l : List Int}, OL ι F (vi .i64 l) (l.map (Value.int .i64)) emp
  | [] => ⟨rfl, rfl⟩
  | a :: l => ⟨.int .i64 a, l.map (Value.int .i64), emp, emp, rfl, by funext x; rfl, fun x => .inl rfl, ⟨rfl, rfl⟩, OL_vi_of⟩
theorem setL_eq {cs vs : List Value} {off : Nat} (h : off + vs.length ≤ cs.length) : setL cs off vs = cs.take off ++ vs ++ cs.drop (off + vs.length) := by
  unfold setL
  split
  · rename_i v
    rw [List.set_eq_take_append_cons_drop, if_pos (by simp at h; omega)]
    simp
  · rfl
theorem setL_len {cs vs : List Value} {off : Nat} (h : off + vs.length ≤ cs.length) : (setL cs off vs).length = cs.length := by
  rw [setL_eq h]; simp; omega
theorem sat_set {B : Bd} {w0 w : World} {h : H} (hs : Sat B w0 w h) {b off : Nat} {e : TypeId} {cs : List Value} {ex : Nat}
    (hb : h b = some (.row true e cs ex)) {vs : List Value} (hoff : off + vs.length ≤ cs.length) (h1 : all1 vs = true) (hw : ∀ v ∈ vs, v.oneCell' = true) :
    Sat B w0 (w.setCells b off vs) (upd h b (.row true e (setL cs off vs) ex)) := by
  obtain ⟨w', hr, hs'⟩ := stc_run (P := Tryz.prog) hs hb rfl hoff h1
  have hfz : ∀ t, w.frozen? ⟨b, t, none⟩ = false := fun t => by
    obtain ⟨⟨o, ho, c, fr, rfl, _, _, hfr, _⟩, _⟩ := hs.blk b _ hb
    obtain rfl := hfr rfl
    simp [World.frozen?, ho]
  have hr2 := run_storeCells_cells (P := Tryz.prog) b off vs 0 w (fun j hj => by
    rw [hs.cell hb (by omega)]; rfl) (fun j hj => hfz _) hw
  rw [hr] at hr2
  simp only [Nat.add_zero] at hr2
  cases hr2
  exact hs'
theorem c_slices_Delete {zs : List Int} {n i j : Nat} (hn : zs.length = n) (hi : i < n) (hj : j = i + 1) :
    PSpecMR Tryz.prog 79 [.rf 0 0 n, .int .i64 i, .int .i64 j] [(0, 2, 1)] [vi .i64 zs]
      fun q o k c => q = 0 ∧ o = 0 ∧ k = n - 1 ∧ c = [vi .i64 (zs.take i ++ zs.drop (i + 1) ++ [0])] := by
  intro ι F D rs g hH hR B w0 w hs
  have hlive := hH.live 0 2 1 (vi .i64 zs) rfl
  obtain ⟨b', rcs, ex, d', hι, hD, hd', hlen, hol⟩ := hlive
  rw [vi_len, hn] at hlen
  rw [vi_len, hn] at hol
  obtain ⟨htake, rfl⟩ := OL_vi hol
  simp only [RL, R] at hR
  obtain ⟨v0, r0, rfl, ⟨b2, tot, sz, off', c, hι2, rfl, hoff, hnc, hcm, hcap⟩, v1, r1, rfl, rfl, v2, r2, rfl, rfl, rfl⟩ := hR
  rw [hι] at hι2
  simp only [Option.some.injEq, Prod.mk.injEq] at hι2
  obtain ⟨rfl, rfl, rfl⟩ := hι2
  obtain rfl := hoff (.inr trivial)
  have hgb : g b' = some (.row true 2 rcs ex) := hH.sub 0 _ _ (by rw [hD]; simp [join, single, emp])
  have hcell : ∀ j, j < n → w.cell? ⟨b', 0 + j, none⟩ = some (.int .i64 (zs.getD j 0)) := fun t ht => by
    rw [Nat.zero_add, hs.cell hgb (by omega)]
    have h1 : (rcs.take n)[t]? = some (.int .i64 (zs.getD t 0)) := by
      rw [htake, List.getElem?_map]; simp [List.getD, show t < zs.length by omega]
    rw [List.getElem?_take, if_pos ht] at h1
    rw [List.getD, h1]; rfl
  have hfz : ∀ t, w.frozen? ⟨b', t, none⟩ = false := fun t => by
    obtain ⟨⟨o, ho, c, fr, rfl, _, _, hfr, _⟩, _⟩ := hs.blk b' _ hgb
    obtain rfl := hfr rfl
    simp [World.frozen?, ho]
  have hm9 : c ≤ 9223372036854775807 := hcm
  refine (delete_walk b' 0 n c i j zs w hn hi hj hnc hm9 hcell (fun t _ => hfz _)).mono ?_
  rintro e w' ⟨rfl, rfl⟩
  have hml : (movedD zs i).length = n - (i + 1) := by rw [movedD_length, hn]
  have s1 := sat_set (B := B) (w0 := w0) hs.drew hgb (off := 0 + i) (vs := movedD zs i) (by omega) (by
      simp only [all1, List.all_eq_true]; intro v hv; obtain ⟨x, _, rfl⟩ := List.mem_map.1 hv; rfl)
    (fun v hv => by obtain ⟨x, _, rfl⟩ := List.mem_map.1 hv; rfl)
  have hl1 : (setL rcs (0 + i) (movedD zs i)).length = rcs.length := setL_len (by omega)
  have s2 := sat_set (B := B) (w0 := w0) s1 (b := b') (off := 0 + (n - 1)) (vs := [.int .i64 0]) (e := 2) (cs := setL rcs (0 + i) (movedD zs i)) (ex := ex) (by simp [upd]) (by simp only [List.length_cons, List.length_nil]; omega) rfl
    (fun v hv => by simp only [List.mem_cons, List.not_mem_nil, or_false] at hv; subst hv; rfl)
  have hl2 : (setL (setL rcs (0 + i) (movedD zs i)) (0 + (n - 1)) [.int .i64 0]).length = rcs.length := by rw [setL_len (by simp only [List.length_cons, List.length_nil]; omega), hl1]
  generalize hrc : setL (setL rcs (0 + i) (movedD zs i)) (0 + (n - 1)) [.int .i64 0] = rc at *
  have hrt : rc.take n = (zs.take i ++ zs.drop (i + 1) ++ [0]).map (Value.int .i64) := by
    have q1 : setL rcs (0 + i) (movedD zs i) = (zs.take i).map (Value.int .i64) ++ movedD zs i ++ rcs.drop (n - 1) := by
      rw [setL_eq (by omega), hml]
      have : rcs.take (0 + i) = (zs.take i).map (Value.int .i64) := by
        have h2 := congrArg (List.take i) htake
        rw [List.take_take, Nat.min_eq_left (by omega), ← List.map_take] at h2
        rw [Nat.zero_add]; exact h2
      rw [this, show 0 + i + (n - (i + 1)) = n - 1 by omega]
    have q2 : ((zs.take i).map (Value.int .i64) ++ movedD zs i).length = n - 1 := by rw [List.length_append, List.length_map, List.length_take, hml]; omega
    rw [← hrc, setL_eq (by simp only [List.length_cons, List.length_nil]; omega), q1, Nat.zero_add, List.take_left' q2]
    rw [List.take_append, List.take_append, q2]
    simp only [List.length_append, q2, List.length_cons, List.length_nil]
    rw [show n - 1 + (0 + 1) = n by omega, show n - (n - 1) = 1 by omega]
    rw [List.take_of_length_le (show ((zs.take i).map (Value.int .i64) ++ movedD zs i).length ≤ n by omega)]
    simp [movedD]
  refine ⟨_, _, rfl, ⟨0, 0, n - 1, _, ⟨rfl, rfl, rfl, rfl⟩, ⟨.inl vi_clo, trivial⟩, rfl, F, fun b => if b = 0 then single b' (.row true 2 rc ex) else D b, fun _ _ h => h, ?_, ?_⟩, s2⟩
  · have hF : F b' = none := by
      rcases hH.djF 0 b' with h1 | h1
      · rw [hD] at h1; simp [join, single, emp] at h1
      · exact h1
    have hDo : ∀ b, b ≠ 0 → D b = emp := fun b hb => hH.idle b fun e sz cs h => by
      simp only [hputb, hput] at h
      rw [if_neg hb] at h
      cases h
    refine ⟨fun b e sz cs h => ?_, fun b h => ?_, fun b x k h => ?_, fun b b2 hb x => ?_, fun b x => ?_, fun b hb h => hH.dom b hb (by simpa [hputb, hput, show b ≠ 0 by omega] using h), fun x k h => ?_⟩
    · by_cases hb : b = 0
      · subst hb
        simp only [hputb, hput, if_true] at h
        cases h
        refine ⟨b', rc, ex, emp, by rw [hι, hl2], by simp only [if_true]; funext x; simp [join, emp], rfl, by rw [vi_len]; simp; omega, ?_⟩
        rw [vi_len]
        have : (zs.take i ++ zs.drop (i + 1) ++ [0]).length = n := by simp; omega
        rw [this, hrt]
        exact OL_vi_of
      · simp only [hputb, hput] at h
        rw [if_neg hb] at h
        cases h
    · by_cases hb : b = 0
      · subst hb
        exact absurd rfl (h _ _ _)
      · simp only [if_neg hb]; exact hDo b hb
    · by_cases hb : b = 0
      · subst hb
        simp only [if_true, single] at h
        split at h
        · rename_i hx; subst hx
          cases h
          simp [upd]
        · cases h
      · simp only [if_neg hb] at h
        rw [hDo b hb] at h
        cases h
    · by_cases hb0 : b = 0
      · right
        have : b2 ≠ 0 := fun e => hb (hb0.trans e.symm)
        simp only [if_neg this]
        rw [hDo b2 this]; rfl
      · left
        simp only [if_neg hb0]
        rw [hDo b hb0]; rfl
    · by_cases hb0 : b = 0
      · subst hb0
        by_cases hx : x = b'
        · subst hx; exact .inr hF
        · left; simp [single, hx]
      · left; simp only [if_neg hb0]; rw [hDo b hb0]; rfl
    · have hx : x ≠ b' := by rintro rfl; rw [hF] at h; cases h
      simp only [upd, if_neg hx]
      exact hH.leF x k h
  · simp only [R]
    exact ⟨b', _, _, 0, c, hι, rfl, fun _ => rfl, by omega, hcm, hcap⟩
end
section
set_option maxHeartbeats 1000000
theorem c_Index0 {l : List Int} {x : Int} (hl : l.length ≤ 1048576) : PSpec Tryz.prog 77 [.sl l.length (vi .i64 l), .int .i64 x] fun v => ∃ k : Int, v = .int .i64 k ∧ (0 ≤ k ↔ x ∈ l) ∧ -1 ≤ k ∧ k ≤ 1048576 := by
  refine slices_Index_int64_int64_i_f.f ?_
  simp (disch := first | omega | (simp only [LN]; omega)) only [↓EC, EW, seval, ↓reduceIte, slices_Index_int64_int64_i_F]
  refine LP_of (σ := Nat) 100000 [] (fun s => [.int .i64 s]) (fun s => [])
    (fun s => s ≤ l.length ∧ ∀ j, j < s → gi l j ≠ x) (fun s => l.length - s) 0 (by simp [frameOk, names, lpz, sclp, scv, scvs, nrfs, nrf, FRB]) ⟨Nat.zero_le _, fun j hj => absurd hj (Nat.not_lt_zero j)⟩ ?_ ?_
  · simp (disch := first | omega | (simp only [LN]; omega)) only [↓EC, EW, seval, ↓reduceIte, ColV_def]
  · rintro i ⟨h1, h2⟩
    simp (disch := first | omega | (simp only [LN]; omega)) only [↓EC, EW, seval, ↓reduceIte, ColV_def, lheap_def]
    (refine Split.mk (fun h => ?_) (fun h => ?_) <;> (try simp only [SD] at h))
    · (try simp (disch := first | omega | (simp only [LN]; omega)) only [↓EC, EW, seval, ↓reduceIte])
      (refine Split.mk (fun h => ?_) (fun h => ?_) <;> (try simp only [SD] at h))
      · (try simp (disch := first | omega | (simp only [LN]; omega)) only [↓EC, EW, seval, ↓reduceIte])
        refine ⟨i, rfl, ⟨fun _ => ?_, fun _ => by omega⟩, by omega, by omega⟩
        rw [h, gi_of (by omega)]
        exact List.getElem_mem _
      · (try simp (disch := first | omega | (simp only [LN]; omega)) only [↓EC, EW, seval, ↓reduceIte])
        refine ⟨i + 1, by simp, ⟨by omega, fun j hj => ?_⟩, by omega⟩
        by_cases e : j = i
        · subst e; exact fun h' => h h'.symm
        · exact h2 j (by omega)
    · (try simp (disch := first | omega | (simp only [LN]; omega)) only [↓EC, EW, seval, ↓reduceIte])
      refine ⟨-1, rfl, ⟨fun h => by omega, fun hx => ?_⟩, by omega, by omega⟩
      obtain ⟨j, hj, rfl⟩ := List.getElem_of_mem hx
      exact absurd (gi_of hj) (h2 j (by omega))
theorem c_Contains0 {l : List Int} {x : Int} {n : Nat} (hn : l.length = n) (hl : n ≤ 1048576) : PSpec Tryz.prog 53 [.sl n (vi .i64 l), .int .i64 x] fun v => v = .bool (decide (x ∈ l)) := by
  subst hn
  refine slices_Contains_int64_int64_i_f.f ?_
  simp (disch := first | omega | (simp only [LN]; omega)) only [↓EC, EW, seval, ↓reduceIte, slices_Contains_int64_int64_i_F]
  refine pcd_r (c_Index0 hl) ?_
  rintro _ ⟨k, rfl, h1, h2, h3⟩
  (try simp (disch := first | omega | (simp only [LN]; omega)) only [↓EC, EW, seval, ↓reduceIte])
  simp only [h1]
theorem c_slices_Clone0 {l : List Int} (h0 : 0 < l.length) (hl : l.length ≤ 1048576) : PSpec Tryz.prog 78 [.sl l.length (vi .i64 l)] fun v => v = .own 2 1 l.length (vi .i64 l) := by
  refine slices_Clone_int64_int64_i_f.f ?_
  simp (disch := first | omega | (simp only [LN]; omega)) only [↓EC, EW, seval, ↓reduceIte, slices_Clone_int64_int64_i_F, vnilS_pos h0]
def cnt (r c : List Int) (s : Nat) : Nat := (r.take s).countP fun y => decide (y ∈ c)
theorem cnt_succ {r c : List Int} {s : Nat} (h : s < r.length) : cnt r c (s + 1) = if gi r s ∈ c then cnt r c s + 1 else cnt r c s := by
  unfold cnt
  rw [← List.take_append_getElem h, List.countP_append, ← gi_of h]
  by_cases hc : gi r s ∈ c <;> simp [hc]
theorem cnt_le {r c : List Int} {s : Nat} : cnt r c s ≤ s := by
  unfold cnt
  exact Nat.le_trans (List.countP_le_length) (by rw [List.length_take]; omega)
theorem cnt_one {r c : List Int} {e : Int} (hr : r.Nodup) (he : e ∈ r) (hc : e ∈ c) : cnt r c r.length = 1 ↔ ∀ y ∈ r, y ∈ c → y = e := by
  unfold cnt
  rw [List.take_length, List.countP_eq_length_filter]
  have hm : e ∈ r.filter fun y => decide (y ∈ c) := by rw [List.mem_filter]; exact ⟨he, by simpa using hc⟩
  constructor
  · intro h y hy hyc
    obtain ⟨z, hz⟩ := List.length_eq_one_iff.1 h
    have h1 : y ∈ r.filter fun y => decide (y ∈ c) := by rw [List.mem_filter]; exact ⟨hy, by simpa using hyc⟩
    rw [hz] at h1 hm
    simp only [List.mem_cons, List.not_mem_nil, or_false] at h1 hm
    rw [h1, hm]
  · intro h
    have hn : (r.filter fun y => decide (y ∈ c)).Nodup := hr.filter _
    have hall : ∀ y ∈ r.filter (fun y => decide (y ∈ c)), y = e := fun y hy => by
      rw [List.mem_filter] at hy
      exact h y hy.1 (by simpa using hy.2)
    generalize r.filter (fun y => decide (y ∈ c)) = f at *
    match f, hm, hn, hall with
    | [], hm, _, _ => exact absurd hm (by simp)
    | [_], _, _, _ => rfl
    | x :: y :: _, _, hn, hall =>
      have h1 := hall x (by simp)
      have h2 := hall y (by simp)
      rw [List.nodup_cons] at hn
      exact absurd (by rw [h1, h2]; simp) hn.1
structure Cy (b w : List Int) (n : Int) (a : Nat → Int) (rest out left : List Int) : Prop where
  nd : rest.Nodup
  mem : ∀ y ∈ rest, ∃ e : Nat, y = e ∧ e < n.toNat ∧ treE (E0F b n) (E1F b w n) (clF b w n) e
  ol : out.length = n.toNat
  ll : left.length = (allV b w n).length
  zero : ∀ e : Nat, e < n.toNat → (e : Int) ∈ rest → gi out e = 0
  don : ∀ e : Nat, e < n.toNat → (e : Int) ∉ rest → gi out e = a e
  sum : ∀ v, v < (allV b w n).length → gi left v = Sv n.toNat (E0F b n) (E1F b w n) (fun e => gi out e) v
abbrev SolD (b w : List Int) (n : Int) (x : Nat) (a : Nat → Int) : Prop := Sol n.toNat (allV b w n).length (E0F b n) (E1F b w n) (clF b w n) x a
section
variable {b w : List Int} {n : Int} {a : Nat → Int} {rest out left : List Int} {x : Nat}
theorem Cy.lim (h : Cy b w n a rest out left) (hs : SolD b w n x a) : ∀ e : Nat, -65536 ≤ gi out e ∧ gi out e ≤ 65536 := fun e => by
  by_cases he : e < n.toNat
  · by_cases hr : (e : Int) ∈ rest
    · rw [h.zero e he hr]; omega
    · rw [h.don e he hr]; exact hs.lim e
  · rw [gi_over (by rw [h.ol]; omega)]; omega
theorem Sv_lim {a : Nat → Int} {M : Int} {n : Nat} {E0 E1 : Nat → Nat} {v : Nat} (hM : 0 ≤ M) (h : ∀ e, -M ≤ a e ∧ a e ≤ M) : -(M * n) ≤ Sv n E0 E1 a v ∧ Sv n E0 E1 a v ≤ M * n :=
  smE_lim (fun e => by have := h e; split <;> omega) n
theorem Cy.llim (h : Cy b w n a rest out left) (hs : SolD b w n x a) (hn : 1 ≤ n ∧ n ≤ 16) : ∀ v : Nat, -1048576 ≤ gi left v ∧ gi left v ≤ 1048576 := fun v => by
  by_cases hv : v < (allV b w n).length
  · rw [h.sum v hv]
    have := Sv_lim (a := fun e => gi out e) (M := 65536) (n := n.toNat) (E0 := E0F b n) (E1 := E1F b w n) (v := v) (by omega) (h.lim hs)
    omega
  · rw [gi_over (by rw [h.ll]; omega)]; omega
theorem take_drop_mem {l : List Int} {i : Nat} (hi : i < l.length) (hn : l.Nodup) (y : Int) : y ∈ l.take i ++ l.drop (i + 1) ↔ y ∈ l ∧ y ≠ gi l i := by
  have e : l = l.take i ++ gi l i :: l.drop (i + 1) := by
    conv => lhs; rw [← List.take_append_drop i l, drop_getD (d := 0) hi]
    rfl
  rw [e, List.nodup_append, List.nodup_cons] at hn
  obtain ⟨h1, ⟨h2, h3⟩, h4⟩ := hn
  have h5 : gi l i ∉ l.take i := fun h => h4 _ h _ (by simp) rfl
  conv => rhs; lhs; rw [e]
  simp only [List.mem_append, List.mem_cons]
  constructor
  · rintro (h | h)
    · exact ⟨.inl h, fun h' => h5 (h' ▸ h)⟩
    · exact ⟨.inr (.inr h), fun h' => h2 (h' ▸ h)⟩
  · rintro ⟨h | h | h, h'⟩
    · exact .inl h
    · exact absurd h h'
    · exact .inr h
theorem Cy.step (hb : lo16 b) (hw : lo16 w) (pb : ltP b n) (pw : ltP w n) (hn : 1 ≤ n ∧ n ≤ 16) (h : Cy b w n a rest out left) (hs : SolD b w n x a) {i t : Nat} (hi : i < rest.length) (ht : t < (allV b w n).length)
    (hin : incE (E0F b n) (E1F b w n) (gi rest i).toNat t) (hc : cnt rest (gl (allV b w n) t) rest.length = 1) :
    Cy b w n a (rest.take i ++ rest.drop (i + 1)) (out.set (gi rest i).toNat (-gi left t)) ((left.set (E0F b n (gi rest i).toNat) (gi left (E0F b n (gi rest i).toNat) + -gi left t)).set (E1F b w n (gi rest i).toNat) (gi left (E1F b w n (gi rest i).toNat) + -gi left t)) := by
  have F := dFo hb hw pb pw hn
  have hmem : gi rest i ∈ rest := by rw [gi_of hi]; exact List.getElem_mem _
  obtain ⟨e, he, hel, het⟩ := h.mem _ hmem
  rw [he] at hmem hin ⊢
  simp only [Int.toNat_natCast] at hin ⊢
  have hmi := take_drop_mem hi h.nd
  rw [he] at hmi
  have hec : (e : Int) ∈ gl (allV b w n) t := (inc_iff hb hw pb pw hn (by omega) ht).2 hin
  have hone := (cnt_one h.nd hmem hec).1 hc
  -- the number of the edge
  have hval : -gi left t = a e := by
    have h1 : Sv n.toNat (E0F b n) (E1F b w n) a t = Sv n.toNat (E0F b n) (E1F b w n) (fun y => gi out y + (if y = e then a e else 0)) t := by
      unfold Sv
      refine smE_congr _ fun y hy => ?_
      by_cases hi2 : incE (E0F b n) (E1F b w n) y t
      · rw [if_pos hi2, if_pos hi2]
        show a y = gi out y + (if y = e then a e else 0)
        by_cases hye : y = e
        · subst hye; rw [if_pos rfl, h.zero y hy hmem]; omega
        · rw [if_neg hye, h.don y hy (fun hm => hye (by have := hone y hm ((inc_iff hb hw pb pw hn (by omega) ht).2 hi2); omega))]; omega
      · rw [if_neg hi2, if_neg hi2]
    rw [hs.sum t ht, Sv_add (a := fun y => gi out y), ← h.sum t ht, Sv_one hel, if_pos hin] at h1
    omega
  have e0 := F.e0 e hel
  have e1 := F.e1 e hel
  have hgo : ∀ y : Nat, gi (out.set e (a e)) y = if e = y ∧ y < n.toNat then a e else gi out y := fun y => by rw [gi_set, h.ol]
  rw [hval]
  refine ⟨?_, fun y hy => h.mem y ((hmi y).1 hy).1, by rw [List.length_set]; exact h.ol, by simp only [List.length_set]; exact h.ll, fun y hy hm => ?_, fun y hy hm => ?_, fun v hv => ?_⟩
  · rw [← List.eraseIdx_eq_take_drop_succ]
    exact h.nd.sublist (List.eraseIdx_sublist _ _)
  · have h1 := (hmi y).1 hm
    rw [hgo, if_neg (by rintro ⟨rfl, _⟩; exact h1.2 rfl)]
    exact h.zero y hy h1.1
  · rw [hgo]
    by_cases hye : e = y
    · subst hye; rw [if_pos ⟨rfl, hy⟩]
    · rw [if_neg (fun h' => hye h'.1)]
      refine h.don y hy fun hr => hm ((hmi y).2 ⟨hr, fun h' => hye (by omega)⟩)
  · have h1 : Sv n.toNat (E0F b n) (E1F b w n) (fun y => gi (out.set e (a e)) y) v = Sv n.toNat (E0F b n) (E1F b w n) (fun y => gi out y + (if y = e then a e else 0)) v := by
      refine Sv_congr fun y hy => ?_
      show gi (out.set e (a e)) y = gi out y + (if y = e then a e else 0)
      rw [hgo]
      by_cases hye : e = y
      · subst hye; rw [if_pos ⟨rfl, hy⟩, if_pos rfl, h.zero e hel hmem]; omega
      · rw [if_neg (fun h' => hye h'.1), if_neg (fun h' => hye h'.symm)]; omega
    rw [h1, Sv_add (a := fun y => gi out y), Sv_one hel, ← h.sum v hv, gi_set, gi_set, inc_if]
    simp only [List.length_set, h.ll]
    by_cases v1 : E1F b w n e = v
    · rw [if_pos ⟨v1, hv⟩, if_neg (show ¬ v = E0F b n e by omega), if_pos v1.symm, v1]
    · rw [if_neg (fun h' => v1 h'.1)]
      by_cases v0 : E0F b n e = v
      · rw [if_pos ⟨v0, hv⟩, if_pos v0.symm, v0]
      · rw [if_neg (fun h' => v0 h'.1), if_neg (fun h' => v0 h'.symm), if_neg (fun h' => v1 h'.symm)]; omega
theorem Cy.leaf (hb : lo16 b) (hw : lo16 w) (pb : ltP b n) (pw : ltP w n) (hn : 1 ≤ n ∧ n ≤ 16) (h : Cy b w n a rest out left) (h0 : 0 < rest.length) :
    ∃ i t, i < rest.length ∧ t < (allV b w n).length ∧ incE (E0F b n) (E1F b w n) (gi rest i).toNat t ∧ cnt rest (gl (allV b w n) t) rest.length = 1 := by
  have F := dFo hb hw pb pw hn
  obtain ⟨e0, q1, q2, q3⟩ := h.mem (gi rest 0) (by rw [gi_of h0]; exact List.getElem_mem _)
  have hV : 0 < (allV b w n).length := by have := F.e1 e0 q2; omega
  obtain ⟨t, e, -, ht, hr, hin, hu⟩ := leaf_ex F n.toNat (Nat.le_refl _) (fun e => (e : Int) ∈ rest) (fun e he => by
    obtain ⟨e', h1, h2, h3⟩ := h.mem _ he
    have : e = e' := by omega
    subst this; exact ⟨h2, h3⟩) ⟨e0, by rw [← q1, gi_of h0]; exact List.getElem_mem _⟩ 0 hV
  obtain ⟨i, hi, hie⟩ := List.getElem_of_mem hr
  obtain ⟨e', h1, h2, h3⟩ := h.mem _ hr
  have hee : e = e' := by omega
  subst hee
  have hec : (e : Int) ∈ gl (allV b w n) t := (inc_iff hb hw pb pw hn (by omega) ht).2 hin
  refine ⟨i, t, hi, ht, by rw [gi_of hi, hie]; simpa using hin, (cnt_one h.nd hr hec).2 fun y hy hyc => ?_⟩
  obtain ⟨e', g1, g2, g3⟩ := h.mem y hy
  subst g1
  have := hu e' hy ((inc_iff hb hw pb pw hn (by omega) ht).1 hyc)
  rw [this]
theorem treeL_mem (hb : lo16 b) (hw : lo16 w) (pb : ltP b n) (pw : ltP w n) (hn : 1 ≤ n ∧ n ≤ 16) (y : Int) : y ∈ treeL b w n ↔ ∃ e : Nat, y = e ∧ e < n.toNat ∧ treE (E0F b n) (E1F b w n) (clF b w n) e := by
  unfold treeL
  rw [collect_mem]
  constructor
  · rintro ⟨e, h1, h2, h3⟩; exact ⟨e, h1, h2, (tree_iff hb hw pb pw hn (by omega)).1 h3⟩
  · rintro ⟨e, h1, h2, h3⟩; exact ⟨e, h1, h2, (tree_iff hb hw pb pw hn (by omega)).2 h3⟩
theorem treeL_pos (hb : lo16 b) (hw : lo16 w) (pb : ltP b n) (pw : ltP w n) (hn : 1 ≤ n ∧ n ≤ 16) : 0 < (treeL b w n).length := by
  have F := dFo hb hw pb pw hn
  have h : (0 : Int) ∈ treeL b w n := by
    refine (treeL_mem hb hw pb pw hn 0).2 ⟨0, rfl, by omega, fun h => ?_⟩
    have h0 := F.e0 0 (by omega)
    have h1 := F.e1 0 (by omega)
    have := (F.z _ _ (by omega) h1.2).1 h
    omega
  exact List.length_pos_of_mem h
theorem gi_rep0 {k j : Nat} : gi (List.replicate k 0) j = 0 := by rw [gi_rep]; split <;> rfl
theorem Cy.init (hb : lo16 b) (hw : lo16 w) (pb : ltP b n) (pw : ltP w n) (hn : 1 ≤ n ∧ n ≤ 16) (hs : SolD b w n x a) (hx : x < n.toNat) (hxt : (x : Int) ∉ treeL b w n) :
    Cy b w n a (treeL b w n) ((List.replicate n.toNat 0).set x 1) (((List.replicate (allV b w n).length 0).set (E0F b n x) 1).set (E1F b w n x) 1) := by
  have F := dFo hb hw pb pw hn
  have hm := treeL_mem hb hw pb pw hn
  have e0 := F.e0 x hx
  have e1 := F.e1 x hx
  have hg : ∀ e : Nat, gi ((List.replicate n.toNat 0).set x 1) e = if e = x then 1 else 0 := fun e => by
    rw [gi_set, gi_rep0, List.length_replicate]
    by_cases h : x = e
    · subst h; rw [if_pos ⟨rfl, hx⟩, if_pos rfl]
    · rw [if_neg (fun h' => h h'.1), if_neg (fun h' => h h'.symm)]
  refine ⟨collect_nd _, fun y hy => (hm y).1 hy, by simp, by simp, fun e he hr => ?_, fun e he hr => ?_, fun v hv => ?_⟩
  · rw [hg, if_neg (by rintro rfl; exact hxt hr)]
  · rw [hg]
    by_cases h : e = x
    · subst h; rw [if_pos rfl, hs.one]
    · rw [if_neg h, hs.off e he (fun h' => hr ((hm _).2 ⟨e, rfl, he, h'⟩)) h]
  · have h1 : Sv n.toNat (E0F b n) (E1F b w n) (fun y => gi ((List.replicate n.toNat 0).set x 1) y) v = Sv n.toNat (E0F b n) (E1F b w n) (fun y => if y = x then 1 else 0) v := Sv_congr fun y _ => hg y
    rw [h1, Sv_one hx, gi_set, gi_set, gi_rep0, inc_if]
    simp only [List.length_set, List.length_replicate]
    by_cases v1 : E1F b w n x = v
    · rw [if_pos ⟨v1, hv⟩, if_neg (show ¬ v = E0F b n x by omega), if_pos v1.symm]
    · rw [if_neg (fun h' => v1 h'.1)]
      by_cases v0 : E0F b n x = v
      · rw [if_pos ⟨v0, hv⟩, if_pos v0.symm]
      · rw [if_neg (fun h' => v0 h'.1), if_neg (fun h' => v0 h'.symm), if_neg (fun h' => v1 h'.symm)]
end
end
section
set_option maxHeartbeats 4000000
theorem callMR_q {P : Program} {f : FuncId} {h : Hp} {K : V → Hp → Prop} {bs : List Nat} {bx : List (Nat × TypeId × Nat)} {cells : List (List V)} {ws : List V} {Φ : Nat → Nat → Nat → List (List V) → Prop}
    (hs : PSpecMR P f ws bx cells Φ) (hK : ∀ j o n cs, Φ j o n cs → ∀ b, bs[j]? = some b → K (.rf b o n) (hputs2 h bs bx cs)) : CallMR P f h K bs bx cells ws := ⟨Φ, hs, hK⟩
theorem c_slices_Delete1 {zs : List Int} {n i : Nat} (hn : zs.length = n) (hi : i < n) :
    PSpecMR Tryz.prog 79 [.rf 0 0 n, .int .i64 i, .int .i64 ((i : Int) + 1)] [(0, 2, 1)] [vi .i64 zs]
      fun q o k c => q = 0 ∧ o = 0 ∧ k = n - 1 ∧ c = [vi .i64 (zs.take i ++ zs.drop (i + 1) ++ [0])] := by
  have h := c_slices_Delete (zs := zs) hn hi rfl
  rw [Int.natCast_add] at h
  exact h
theorem take2 {l : List Int} {k : Nat} (h : k + 2 ≤ l.length) : (l.drop k).take 2 = [gi l k, gi l (k + 1)] := by
  refine gi_ext (by simp; omega) fun j hj => ?_
  have hj2 : j < 2 := by simp at hj; omega
  have h1 : gi ((l.drop k).take 2) j = gi l (k + j) := by
    simp [gi, List.getD, List.getElem?_take, List.getElem?_drop, hj2]
  rw [h1]
  have : j = 0 ∨ j = 1 := by omega
  rcases this with rfl | rfl <;> rfl
theorem c_impl_cycleOf {n : Int} {b w : List Int} {x : Nat} {a : Nat → Int} (hb : okP b) (hw : okP w) (h0 : isD n b w) (hx : x < n.toNat) (hxt : (x : Int) ∉ treeL b w n) (hs : SolD b w n x a) :
    PSpec Tryz.prog 54 [vD n b w, .int .i64 x, .sl (treeL b w n).length (vi .i64 (treeL b w n))] fun v => v = .own 2 1 n.toNat (vi .i64 ((List.range n.toNat).map a)) := by
  have hl := hb.len
  have hk := hw.len
  have hn := h0.pb.1
  have lb := h0.pb.lo hb
  have lw := h0.pw.lo hw
  have pb := h0.pb.ltP hb
  have pw := h0.pw.ltP hw
  obtain ⟨hal, hal2⟩ := allV_len (b := b) (w := w) hn
  have hat := allV_at pb pw hn
  have hel : (endV b w n).length = n.toNat * 2 := eO_len _
  have F := dFo lb lw pb pw hn
  have hends : ∀ e : Nat, e < n.toNat → gi (endV b w n) (e * 2) = E0F b n e ∧ gi (endV b w n) (e * 2 + 1) = E1F b w n e := fun e he => ends_at pb pw lw hn (by omega)
  have hE0 : ∀ e : Nat, e < n.toNat → E0F b n e < (allV b w n).length := fun e he => F.l0 he
  have hE1 : ∀ e : Nat, e < n.toNat → E1F b w n e < (allV b w n).length := fun e he => (F.e1 e he).2
  have hinit := Cy.init lb lw pb pw hn hs hx hxt
  have htl : (treeL b w n).length ≤ 16 := by
    have h1 := collect_len (m := treeM b w n) n.toNat; unfold treeL; omega
  refine impl_cycleOf_f.f ?_
  have hvs := c_impl_vertices hb hw h0
  unfold vD at hvs ⊢
  simp (config := { maxSteps := 10000000 }) (disch := first | omega | (simp only [LN]; omega)) only [↓EC, EW, seval, ↓reduceIte, impl_cycleOf_F, hl, hk]
  refine pcd_wv (by simp [nrfs_cons, nrf_agg, nrf_int, vi_nrf, nrfs_nil]) hvs ?_
  obtain ⟨x0, x1⟩ := hends x hx
  have q0 := hE0 x hx
  have q1 := hE1 x hx
  (try simp (disch := first | omega | (simp only [LN]; omega)) only [↓EC, EW, seval, ↓reduceIte, hl, hk, hel, x0, x1])
  refine pcd_o (c_slices_Clone0 (treeL_pos lb lw pb pw hn) (by omega)) ?_
  (try simp (disch := first | omega | (simp only [LN]; omega)) only [↓EC, EW, seval, ↓reduceIte, hl, hk, hel])
  refine LP_of (σ := List Int × List Int × List Int) 100000 [(67, 27, 1), (92, 2, 1), (98, 2, 1)] (fun s => [.own 2 1 s.1.length (vi .i64 s.1)])
    (fun s => [.int .i64 n :: vi .u8 (b ++ w), vi .i64 s.2.1, vi .i64 s.2.2])
    (fun s => s.1.length ≤ 16 ∧ Cy b w n a s.1 s.2.1 s.2.2) (fun s => s.1.length) (treeL b w n, (List.replicate n.toNat 0).set x 1, ((List.replicate (allV b w n).length 0).set (E0F b n x) 1).set (E1F b w n x) 1) (by simp [frameOk, names, lpz, sclp, scv, scvs, nrfs, nrf, FRB]) ⟨htl, hinit⟩ ?_ ?_
  · simp (disch := first | omega | (simp only [LN]; omega)) only [↓EC, EW, seval, ↓reduceIte, ColV_def]
  · rintro ⟨R, O, L⟩ ⟨hR, hC⟩
    simp only at hR hC
    have ol := hC.ol
    have ll := hC.ll
    simp (disch := first | omega | (simp only [LN]; omega)) only [↓EC, EW, seval, ↓reduceIte, ColV_def, lheap_def, hl, hk, ol, ll]
    (refine Split.mk (fun h => ?_) (fun h => ?_) <;> (try simp only [SD] at h))
    · (try simp (disch := first | omega | (simp only [LN]; omega)) only [↓EC, EW, seval, ↓reduceIte, hl, hk, ol, ll])
      refine LP_of (σ := Nat) 200000 [(67, 27, 1), (92, 2, 1), (98, 2, 1), (100000, 2, 1)] (fun i => [.int .i64 i]) (fun i => [.int .i64 n :: vi .u8 (b ++ w), vi .i64 O, vi .i64 L, vi .i64 R])
        (fun i => i ≤ R.length ∧ ∀ q t, q < i → t < (allV b w n).length → incE (E0F b n) (E1F b w n) (gi R q).toNat t → cnt R (gl (allV b w n) t) R.length ≠ 1) (fun i => R.length - i) 0 (by simp [frameOk, names, lpz, sclp, scv, scvs, nrfs, nrf, FRB]) ⟨Nat.zero_le _, fun q t hq => absurd hq (Nat.not_lt_zero q)⟩ ?_ ?_
      · simp (disch := first | omega | (simp only [LN]; omega)) only [↓EC, EW, seval, ↓reduceIte, ColV_def]
      · rintro i ⟨i1, i2⟩
        simp (disch := first | omega | (simp only [LN]; omega)) only [↓EC, EW, seval, ↓reduceIte, ColV_def, lheap_def, hl, hk, ol, ll]
        (refine Split.mk (fun h => ?_) (fun h => ?_) <;> (try simp only [SD] at h))
        · have hi : i < R.length := by omega
          obtain ⟨e, he, hen, het⟩ := hC.mem (gi R i) (by rw [gi_of hi]; exact List.getElem_mem _)
          obtain ⟨ea, eb⟩ := hends e hen
          have htk := take2 (l := endV b w n) (k := e * 2) (by rw [hel]; omega)
          rw [ea, eb] at htk
          have t0 := hE0 e hen
          have t1 := hE1 e hen
          have hCl := hC.llim hs hn
          (try simp (disch := first | omega | (simp only [LN]; omega)) only [↓EC, EW, seval, ↓reduceIte, hl, hk, ol, ll, he, hel, htk])
          refine LP_of (σ := Int × Nat) 300000 [(67, 27, 1), (92, 2, 1), (98, 2, 1), (100000, 2, 1)] (fun s => [.int .i64 s.1, .int .i64 s.2]) (fun s => [.int .i64 n :: vi .u8 (b ++ w), vi .i64 O, vi .i64 L, vi .i64 R])
            (fun s => s.2 ≤ 2 ∧ ((s.1 = -1 ∧ (0 < s.2 → cnt R (gl (allV b w n) (E0F b n e)) R.length ≠ 1) ∧ (1 < s.2 → cnt R (gl (allV b w n) (E1F b w n e)) R.length ≠ 1)) ∨
              ∃ t : Nat, s.1 = t ∧ t < (allV b w n).length ∧ incE (E0F b n) (E1F b w n) e t ∧ cnt R (gl (allV b w n) t) R.length = 1)) (fun s => 2 - s.2) (-1, 0) (by simp [frameOk, names, lpz, sclp, scv, scvs, nrfs, nrf, FRB]) ⟨by simp, .inl ⟨rfl, fun h => absurd h (by simp), fun h => absurd h (by simp)⟩⟩ ?_ ?_
          · simp (disch := first | omega | (simp only [LN]; omega)) only [↓EC, EW, seval, ↓reduceIte, ColV_def]
          · rintro ⟨v, k⟩ ⟨k1, k2⟩
            simp only at k1 k2
            have k3 : k = 0 ∨ k = 1 ∨ k = 2 := by omega
            rcases k3 with rfl | rfl | rfl
            · have hin : incE (E0F b n) (E1F b w n) e (E0F b n e) := .inl rfl
              have htA : (E0F b n e) < (allV b w n).length := t0
              simp (disch := first | omega | (simp only [LN]; omega)) only [↓EC, EW, seval, ↓reduceIte, ColV_def, lheap_def, hl, hk, ol, ll]
              refine LP_of (σ := Nat) 400000 [(67, 27, 1), (92, 2, 1), (98, 2, 1), (100000, 2, 1)] (fun s => [.int .i64 (cnt R (gl (allV b w n) (E0F b n e)) s), .int .i64 s]) (fun s => [.int .i64 n :: vi .u8 (b ++ w), vi .i64 O, vi .i64 L, vi .i64 R])
                (fun s => s ≤ R.length) (fun s => R.length - s) 0 (by simp [frameOk, names, lpz, sclp, scv, scvs, nrfs, nrf, FRB]) (Nat.zero_le _) ?_ ?_
              · simp (disch := first | omega | (simp only [LN]; omega)) only [↓EC, EW, seval, ↓reduceIte, ColV_def]
                simp [cnt]
              · rintro q g1
                have hcl := cnt_le (r := R) (c := gl (allV b w n) (E0F b n e)) (s := q)
                simp (disch := first | omega | (simp only [LN]; omega)) only [↓EC, EW, seval, ↓reduceIte, ColV_def, lheap_def, hl, hk, ol, ll]
                (refine Split.mk (fun h => ?_) (fun h => ?_) <;> (try simp only [SD] at h))
                · have hq : q < R.length := by omega
                  have hcs := cnt_succ (c := gl (allV b w n) (E0F b n e)) hq
                  (try simp (disch := first | omega | (simp only [LN]; omega)) only [↓EC, EW, seval, ↓reduceIte, hl, hk, ol, ll])
                  refine pcd_v (c_Contains0 (l := gl (allV b w n) (E0F b n e)) rfl (by have := (hat _ (gl_mem htA)).2; omega)) ?_
                  (try simp (disch := first | omega | (simp only [LN]; omega)) only [↓EC, EW, seval, ↓reduceIte, hl, hk, ol, ll])
                  (refine Split.mk (fun h => ?_) (fun h => ?_) <;> (try simp only [SD] at h))
                  · (try simp (disch := first | omega | (simp only [LN]; omega)) only [↓EC, EW, seval, ↓reduceIte, hl, hk, ol, ll])
                    rw [if_pos h] at hcs
                    exact ⟨q + 1, by rw [hcs]; simp, by omega, by omega⟩
                  · (try simp (disch := first | omega | (simp only [LN]; omega)) only [↓EC, EW, seval, ↓reduceIte, hl, hk, ol, ll])
                    rw [if_neg h] at hcs
                    exact ⟨q + 1, by rw [hcs]; simp, by omega, by omega⟩
                · have hq : q = R.length := by omega
                  subst hq
                  (try simp (disch := first | omega | (simp only [LN]; omega)) only [↓EC, EW, seval, ↓reduceIte, hl, hk, ol, ll])
                  (refine Split.mk (fun h => ?_) (fun h => ?_) <;> (try simp only [SD] at h))
                  · (try simp (disch := first | omega | (simp only [LN]; omega)) only [↓EC, EW, seval, ↓reduceIte, hl, hk, ol, ll])
                    exact ⟨(((E0F b n e) : Int), 0 + 1), by simp, ⟨by simp, .inr ⟨(E0F b n e), rfl, htA, hin, by omega⟩⟩, by simp⟩
                  · (try simp (disch := first | omega | (simp only [LN]; omega)) only [↓EC, EW, seval, ↓reduceIte, hl, hk, ol, ll])
                    refine ⟨(v, 0 + 1), by simp, ⟨by simp, ?_⟩, by simp⟩
                    rcases k2 with ⟨z1, z2, z3⟩ | z1
                    · exact .inl ⟨z1, fun _ => by omega, fun h => absurd h (by simp)⟩
                    · exact .inr z1
            · have hin : incE (E0F b n) (E1F b w n) e (E1F b w n e) := .inr rfl
              have htA : (E1F b w n e) < (allV b w n).length := t1
              simp (disch := first | omega | (simp only [LN]; omega)) only [↓EC, EW, seval, ↓reduceIte, ColV_def, lheap_def, hl, hk, ol, ll]
              refine LP_of (σ := Nat) 400000 [(67, 27, 1), (92, 2, 1), (98, 2, 1), (100000, 2, 1)] (fun s => [.int .i64 (cnt R (gl (allV b w n) (E1F b w n e)) s), .int .i64 s]) (fun s => [.int .i64 n :: vi .u8 (b ++ w), vi .i64 O, vi .i64 L, vi .i64 R])
                (fun s => s ≤ R.length) (fun s => R.length - s) 0 (by simp [frameOk, names, lpz, sclp, scv, scvs, nrfs, nrf, FRB]) (Nat.zero_le _) ?_ ?_
              · simp (disch := first | omega | (simp only [LN]; omega)) only [↓EC, EW, seval, ↓reduceIte, ColV_def]
                simp [cnt]
              · rintro q g1
                have hcl := cnt_le (r := R) (c := gl (allV b w n) (E1F b w n e)) (s := q)
                simp (disch := first | omega | (simp only [LN]; omega)) only [↓EC, EW, seval, ↓reduceIte, ColV_def, lheap_def, hl, hk, ol, ll]
                (refine Split.mk (fun h => ?_) (fun h => ?_) <;> (try simp only [SD] at h))
                · have hq : q < R.length := by omega
                  have hcs := cnt_succ (c := gl (allV b w n) (E1F b w n e)) hq
                  (try simp (disch := first | omega | (simp only [LN]; omega)) only [↓EC, EW, seval, ↓reduceIte, hl, hk, ol, ll])
                  refine pcd_v (c_Contains0 (l := gl (allV b w n) (E1F b w n e)) rfl (by have := (hat _ (gl_mem htA)).2; omega)) ?_
                  (try simp (disch := first | omega | (simp only [LN]; omega)) only [↓EC, EW, seval, ↓reduceIte, hl, hk, ol, ll])
                  (refine Split.mk (fun h => ?_) (fun h => ?_) <;> (try simp only [SD] at h))
                  · (try simp (disch := first | omega | (simp only [LN]; omega)) only [↓EC, EW, seval, ↓reduceIte, hl, hk, ol, ll])
                    rw [if_pos h] at hcs
                    exact ⟨q + 1, by rw [hcs]; simp, by omega, by omega⟩
                  · (try simp (disch := first | omega | (simp only [LN]; omega)) only [↓EC, EW, seval, ↓reduceIte, hl, hk, ol, ll])
                    rw [if_neg h] at hcs
                    exact ⟨q + 1, by rw [hcs]; simp, by omega, by omega⟩
                · have hq : q = R.length := by omega
                  subst hq
                  (try simp (disch := first | omega | (simp only [LN]; omega)) only [↓EC, EW, seval, ↓reduceIte, hl, hk, ol, ll])
                  (refine Split.mk (fun h => ?_) (fun h => ?_) <;> (try simp only [SD] at h))
                  · (try simp (disch := first | omega | (simp only [LN]; omega)) only [↓EC, EW, seval, ↓reduceIte, hl, hk, ol, ll])
                    exact ⟨(((E1F b w n e) : Int), 1 + 1), by simp, ⟨by simp, .inr ⟨(E1F b w n e), rfl, htA, hin, by omega⟩⟩, by simp⟩
                  · (try simp (disch := first | omega | (simp only [LN]; omega)) only [↓EC, EW, seval, ↓reduceIte, hl, hk, ol, ll])
                    refine ⟨(v, 1 + 1), by simp, ⟨by simp, ?_⟩, by simp⟩
                    rcases k2 with ⟨z1, z2, z3⟩ | z1
                    · exact .inl ⟨z1, fun _ => z2 (by omega), fun _ => by omega⟩
                    · exact .inr z1
            · simp (disch := first | omega | (simp only [LN]; omega)) only [↓EC, EW, seval, ↓reduceIte, ColV_def, lheap_def, hl, hk, ol, ll]
              rcases k2 with ⟨rfl, z2, z3⟩ | ⟨t, rfl, z2, z3, z4⟩
              · (try simp (disch := first | omega | (simp only [LN]; omega)) only [↓EC, EW, seval, ↓reduceIte, hl, hk, ol, ll])
                refine ⟨i + 1, by simp, ⟨by omega, fun q t hq ht hin => ?_⟩, by omega⟩
                by_cases hqi : q = i
                · subst hqi
                  rw [he] at hin
                  rcases hin with rfl | rfl
                  · exact z2 (by omega)
                  · exact z3 (by omega)
                · exact i2 q t (by omega) ht hin
              · have hCs := hC.step lb lw pb pw hn hs hi z2 (by rw [he]; exact z3) z4
                rw [he] at hCs
                simp only [Int.toNat_natCast] at hCs
                have n1 := hCl t
                have n2 := hCl (E0F b n e)
                have n3 := hCl (E1F b w n e)
                have hne : E0F b n e ≠ E1F b w n e := by have := F.e0 e hen; have := F.e1 e hen; omega
                have g01 : gi (L.set (E0F b n e) (gi L (E0F b n e) + -gi L t)) (E1F b w n e) = gi L (E1F b w n e) := by rw [gi_set, if_neg (fun h => hne h.1)]
                (try simp (disch := first | omega | (simp only [LN]; omega)) only [↓EC, EW, seval, ↓reduceIte, hl, hk, ol, ll, hel, ea, eb, g01])
                (refine Split.mk (fun h => ?_) (fun h => ?_) <;> (try simp only [SD] at h))
                · omega
                (try simp (disch := first | omega | (simp only [LN]; omega)) only [↓EC, EW, seval, ↓reduceIte, hl, hk, ol, ll, hel, ea, eb, g01])
                refine pcmr [100000] rfl ?_
                (try simp (disch := first | omega | (simp only [LN]; omega)) only [↓EC, EW, seval, ↓reduceIte, hl, hk, ol, ll, hel, ea, eb, g01])
                refine callMR_q (c_slices_Delete1 (zs := R) rfl hi) ?_
                rintro j o m c ⟨rfl, rfl, rfl, rfl⟩ bq hb
                simp only [List.getElem?_cons_zero, Option.some.injEq] at hb
                subst hb
                have hlen : (R.take i ++ R.drop (i + 1)).length = R.length - 1 := by simp; omega
                have htk2 : (R.take i ++ R.drop (i + 1) ++ [0]).take (R.length - 1) = R.take i ++ R.drop (i + 1) := List.take_left' hlen
                (try simp (disch := first | omega | (simp only [LN]; omega)) only [↓EC, EW, seval, ↓reduceIte, hl, hk, ol, ll, htk2])
                refine ⟨(R.take i ++ R.drop (i + 1), _, _), ?_, rfl, ⟨?_, hCs⟩, ?_⟩
                · simp only [hlen]
                · simp only [hlen]; omega
                · simp only [hlen]; omega
        · obtain ⟨q, t, h1, h2, h3, h4⟩ := hC.leaf lb lw pb pw hn (by omega)
          exact absurd h4 (i2 q t (by omega) h2 h3)
    · (try simp (disch := first | omega | (simp only [LN]; omega)) only [↓EC, EW, seval, ↓reduceIte, hl, hk, ol, ll])
      have hO : O = (List.range n.toNat).map a := gi_ext (by simp [ol]) fun j hj => by
        have hR0 : R = [] := List.length_eq_zero_iff.1 (by omega)
        rw [hC.don j (by omega) (by rw [hR0]; simp), gi_of (by simp; omega)]
        simp
      rw [hO]
end
section
set_option maxHeartbeats 1000000
def unk (kn : List Bool) : Nat → Nat
  | 0 => 0
  | k + 1 => unk kn k + if gb kn k = true then 0 else 1
theorem unk_le {kn : List Bool} : ∀ k, unk kn k ≤ k
  | 0 => Nat.le_refl _
  | k + 1 => by have := unk_le (kn := kn) k; simp only [unk]; split <;> omega
theorem unk_set {kn : List Bool} {e : Nat} (he : e < kn.length) (hu : gb kn e = false) : ∀ k, unk (kn.set e true) k + (if e < k then 1 else 0) = unk kn k
  | 0 => by simp [unk]
  | k + 1 => by
    have ih := unk_set he hu k
    have hg : gb (kn.set e true) k = if e = k then true else gb kn k := by
      rw [gb_set]
      by_cases h : e = k
      · subst h; rw [if_pos ⟨rfl, he⟩, if_pos rfl]
      · rw [if_neg (fun h' => h h'.1), if_neg h]
    simp only [unk, hg]
    by_cases h : e = k
    · subst h
      simp only [Nat.lt_irrefl, if_false] at ih
      simp only [hu, if_true, Bool.false_eq_true, if_false]
      rw [if_pos (by omega)]
      omega
    · rw [if_neg h]
      by_cases h2 : e < k
      · rw [if_pos h2] at ih; rw [if_pos (show e < k + 1 by omega)]; omega
      · rw [if_neg h2] at ih; rw [if_neg (show ¬ e < k + 1 by omega)]; omega
theorem unk_zero {kn : List Bool} : ∀ k, unk kn k = 0 → ∀ e, e < k → gb kn e = true
  | 0, _, e, he => absurd he (Nat.not_lt_zero e)
  | k + 1, h, e, he => by
    simp only [unk] at h
    by_cases h2 : e = k
    · subst h2
      cases hg : gb kn e with
      | true => rfl
      | false => rw [hg] at h; simp at h
    · exact unk_zero k (by omega) e (by omega)
theorem unk_pos {kn : List Bool} : ∀ k, 0 < unk kn k → ∃ e, e < k ∧ gb kn e = false
  | 0, h => by simp [unk] at h
  | k + 1, h => by
    simp only [unk] at h
    cases hg : gb kn k with
    | false => exact ⟨k, by omega, hg⟩
    | true =>
      rw [hg] at h
      obtain ⟨e, h1, h2⟩ := unk_pos k (by simpa using h)
      exact ⟨e, by omega, h2⟩
def mis (kn : List Bool) (c : List Int) : Nat → Nat
  | 0 => 0
  | s + 1 => if gb kn (gi c s).toNat = true then mis kn c s else mis kn c s + 1
def atF (kn : List Bool) (c : List Int) : Nat → Int
  | 0 => 0
  | s + 1 => if gb kn (gi c s).toNat = true then atF kn c s else gi c s
theorem mis_le {kn : List Bool} {c : List Int} : ∀ s, mis kn c s ≤ s
  | 0 => Nat.le_refl _
  | s + 1 => by have := mis_le (kn := kn) (c := c) s; simp only [mis]; split <;> omega
theorem mis_zero {kn : List Bool} {c : List Int} : ∀ s, mis kn c s = 0 → ∀ j, j < s → gb kn (gi c j).toNat = true
  | 0, _, j, hj => absurd hj (Nat.not_lt_zero j)
  | s + 1, h, j, hj => by
    simp only [mis] at h
    split at h
    · rename_i hg
      by_cases e : j = s
      · subst e; exact hg
      · exact mis_zero s h j (by omega)
    · omega
theorem mis_one {kn : List Bool} {c : List Int} : ∀ s, mis kn c s = 1 → ∃ j, j < s ∧ atF kn c s = gi c j ∧ gb kn (gi c j).toNat = false ∧ ∀ j', j' < s → gb kn (gi c j').toNat = false → j' = j
  | 0, h => by simp [mis] at h
  | s + 1, h => by
    simp only [mis] at h
    simp only [atF]
    split at h
    · rename_i hg
      obtain ⟨j, h1, h2, h3, h4⟩ := mis_one s h
      refine ⟨j, by omega, by rw [if_pos hg]; exact h2, h3, fun j' hj' hu => ?_⟩
      by_cases e : j' = s
      · subst e; rw [hg] at hu; cases hu
      · exact h4 j' (by omega) hu
    · rename_i hg
      have hg' : gb kn (gi c s).toNat = false := by simpa using hg
      refine ⟨s, by omega, by rw [if_neg hg], hg', fun j' hj' hu => ?_⟩
      by_cases e : j' = s
      · exact e
      · have := mis_zero (kn := kn) (c := c) s (by omega) j' (by omega)
        rw [this] at hu; cases hu
theorem mis_is_one {kn : List Bool} {c : List Int} {j : Nat} : ∀ s, j < s → gb kn (gi c j).toNat = false → (∀ j', j' < s → gb kn (gi c j').toNat = false → j' = j) → mis kn c s = 1
  | 0, h, _, _ => absurd h (Nat.not_lt_zero j)
  | s + 1, h, hu, hone => by
    simp only [mis]
    by_cases e : j = s
    · subst e
      rw [if_neg (by rw [hu]; simp)]
      have : ∀ k, k ≤ j → mis kn c k = 0 := by
        intro k
        induction k with
        | zero => intro _; rfl
        | succ k ih =>
          intro hk
          simp only [mis]
          rw [if_pos, ih (by omega)]
          cases hg : gb kn (gi c k).toNat with
          | true => rfl
          | false => have := hone k (by omega) hg; omega
      rw [this j (Nat.le_refl _)]
    · have hs : gb kn (gi c s).toNat = true := by
        cases hg : gb kn (gi c s).toNat with
        | true => rfl
        | false => have := hone s (by omega) hg; omega
      rw [if_pos hs]
      exact mis_is_one s (by omega) hu fun j' hj' hu' => hone j' (by omega) hu'
structure Cs (b w : List Int) (n : Int) (a : Nat → Int) (out : List Int) (kn : List Bool) : Prop where
  ol : out.length = n.toNat
  kl : kn.length = 16
  tr : ∀ e : Nat, e < n.toNat → gb kn e = false → treE (E0F b n) (E1F b w n) (clF b w n) e
  zero : ∀ e : Nat, e < n.toNat → gb kn e = false → gi out e = 0
  don : ∀ e : Nat, e < n.toNat → gb kn e = true → gi out e = a e
section
variable {b w : List Int} {n : Int} {a : Nat → Int} {out : List Int} {kn : List Bool} {x : Nat}
theorem Cs.lim (h : Cs b w n a out kn) (hs : SolD b w n x a) : ∀ e : Nat, -65536 ≤ gi out e ∧ gi out e ≤ 65536 := fun e => by
  by_cases he : e < n.toNat
  · cases hk : gb kn e with
    | false => rw [h.zero e he hk]; omega
    | true => rw [h.don e he hk]; exact hs.lim e
  · rw [gi_over (by rw [h.ol]; omega)]; omega
theorem Cs.step (hb : lo16 b) (hw : lo16 w) (pb : ltP b n) (pw : ltP w n) (hn : 1 ≤ n ∧ n ≤ 16) (h : Cs b w n a out kn) (hs : SolD b w n x a) {v : Nat} (hv : v < (allV b w n).length)
    (hm : mis kn (gl (allV b w n) v) (gl (allV b w n) v).length = 1) :
    ∃ e : Nat, atF kn (gl (allV b w n) v) (gl (allV b w n) v).length = e ∧ e < n.toNat ∧ gb kn e = false ∧
      Cs b w n a (out.set e (-sumT out (gl (allV b w n) v) (gl (allV b w n) v).length)) (kn.set e true) := by
  obtain ⟨j, h1, h2, h3, h4⟩ := mis_one _ hm
  have hA := (allV_at pb pw hn _ (gl_mem hv)).1
  have hmem : gi (gl (allV b w n) v) j ∈ gl (allV b w n) v := by rw [gi_of h1]; exact List.getElem_mem _
  have hr := hA _ hmem
  obtain ⟨e, he⟩ : ∃ e : Nat, gi (gl (allV b w n) v) j = e := ⟨(gi (gl (allV b w n) v) j).toNat, by omega⟩
  rw [he] at h2 h3 hmem hr
  simp only [Int.toNat_natCast] at h3
  have hen : e < n.toNat := by omega
  have hin : incE (E0F b n) (E1F b w n) e v := (inc_iff hb hw pb pw hn (by omega) hv).1 hmem
  have hval : -sumT out (gl (allV b w n) v) (gl (allV b w n) v).length = a e := by
    rw [sumT_Sv hb hw pb pw hn hv]
    have g1 : Sv n.toNat (E0F b n) (E1F b w n) a v = Sv n.toNat (E0F b n) (E1F b w n) (fun y => gi out y + (if y = e then a e else 0)) v := by
      unfold Sv
      refine smE_congr _ fun y hy => ?_
      by_cases hi2 : incE (E0F b n) (E1F b w n) y v
      · rw [if_pos hi2, if_pos hi2]
        show a y = gi out y + (if y = e then a e else 0)
        by_cases hye : y = e
        · subst hye; rw [if_pos rfl, h.zero y hy h3]; omega
        · rw [if_neg hye]
          have hk : gb kn y = true := by
            cases hk : gb kn y with
            | true => rfl
            | false =>
              obtain ⟨j', hj', hje⟩ := List.getElem_of_mem ((inc_iff hb hw pb pw hn (by omega) hv).2 hi2)
              have := h4 j' hj' (by rw [gi_of hj', hje]; simpa using hk)
              subst this
              rw [gi_of hj', hje] at he
              exact absurd (by omega) hye
          rw [h.don y hy hk]; omega
      · rw [if_neg hi2, if_neg hi2]
    rw [hs.sum v hv, Sv_add (a := fun y => gi out y), Sv_one hen, if_pos hin] at g1
    omega
  refine ⟨e, h2, hen, h3, ?_⟩
  rw [hval]
  have hg : ∀ y, gb (kn.set e true) y = if e = y then true else gb kn y := fun y => by
    rw [gb_set]
    by_cases hy : e = y
    · subst hy; rw [if_pos ⟨rfl, by rw [h.kl]; omega⟩, if_pos rfl]
    · rw [if_neg (fun h' => hy h'.1), if_neg hy]
  have ho : ∀ y : Nat, y < n.toNat → gi (out.set e (a e)) y = if e = y then a e else gi out y := fun y hy => by
    rw [gi_set, h.ol]
    by_cases hye : e = y
    · subst hye; rw [if_pos ⟨rfl, hy⟩, if_pos rfl]
    · rw [if_neg (fun h' => hye h'.1), if_neg hye]
  refine ⟨by rw [List.length_set]; exact h.ol, by rw [List.length_set]; exact h.kl, fun y hy hk => ?_, fun y hy hk => ?_, fun y hy hk => ?_⟩
  · rw [hg] at hk
    split at hk
    · cases hk
    · exact h.tr y hy hk
  · rw [hg] at hk
    rw [ho y hy]
    split at hk
    · cases hk
    · rename_i hne; rw [if_neg hne]; exact h.zero y hy hk
  · rw [hg] at hk
    rw [ho y hy]
    split at hk
    · rename_i hye; subst hye; rw [if_pos rfl]
    · rename_i hne; rw [if_neg hne]; exact h.don y hy hk
theorem Cs.leaf (hb : lo16 b) (hw : lo16 w) (pb : ltP b n) (pw : ltP w n) (hn : 1 ≤ n ∧ n ≤ 16) (h : Cs b w n a out kn) (h0 : 0 < unk kn n.toNat) :
    ∃ t, t < (allV b w n).length ∧ mis kn (gl (allV b w n) t) (gl (allV b w n) t).length = 1 := by
  have F := dFo hb hw pb pw hn
  obtain ⟨e0, q1, q2⟩ := unk_pos _ h0
  have hV : 0 < (allV b w n).length := by have := F.e1 e0 q1; omega
  obtain ⟨t, e, -, ht, ⟨hen, hek⟩, hin, hu⟩ := leaf_ex F n.toNat (Nat.le_refl _) (fun e => e < n.toNat ∧ gb kn e = false) (fun e he => ⟨he.1, h.tr e he.1 he.2⟩) ⟨e0, q1, q2⟩ 0 hV
  have hA := (allV_at pb pw hn _ (gl_mem ht)).1
  have hnd := allV_nd hb hw ht
  obtain ⟨j, hj, hje⟩ := List.getElem_of_mem ((inc_iff hb hw pb pw hn (by omega) ht).2 hin)
  refine ⟨t, ht, mis_is_one (j := j) _ hj (by rw [gi_of hj, hje]; simpa using hek) fun j' hj' hk => ?_⟩
  have hm' : gi (gl (allV b w n) t) j' ∈ gl (allV b w n) t := by rw [gi_of hj']; exact List.getElem_mem _
  have hr := hA _ hm'
  have h1 := hu (gi (gl (allV b w n) t) j').toNat ⟨by omega, hk⟩ ((inc_iff hb hw pb pw hn (by omega) ht).1 (by rw [show (((gi (gl (allV b w n) t) j').toNat : Nat) : Int) = gi (gl (allV b w n) t) j' by omega]; exact hm'))
  have h2 : (gl (allV b w n) t)[j'] = (gl (allV b w n) t)[j] := by
    rw [hje, ← gi_of hj']; omega
  exact (List.getElem_inj hnd).1 h2
theorem Cs.init (hb : lo16 b) (hw : lo16 w) (pb : ltP b n) (pw : ltP w n) (hn : 1 ≤ n ∧ n ≤ 16) (hs : SolD b w n x a) (hx : x < n.toNat) (hxt : gb (treeM b w n) x = false) (hkl : kn.length = 16)
    (hk : ∀ e, e < n.toNat → gb kn e = !gb (treeM b w n) e) : Cs b w n a ((List.replicate n.toNat 0).set x 1) kn := by
  have hg : ∀ e : Nat, gi ((List.replicate n.toNat 0).set x 1) e = if e = x then 1 else 0 := fun e => by
    rw [gi_set, gi_rep0, List.length_replicate]
    by_cases h : x = e
    · subst h; rw [if_pos ⟨rfl, hx⟩, if_pos rfl]
    · rw [if_neg (fun h' => h h'.1), if_neg (fun h' => h h'.symm)]
  refine ⟨by simp, hkl, fun e he h => ?_, fun e he h => ?_, fun e he h => ?_⟩
  · rw [hk e he] at h
    exact (tree_iff hb hw pb pw hn (by omega)).1 (by simpa using h)
  · rw [hk e he] at h
    rw [hg, if_neg]
    rintro rfl
    rw [hxt] at h; cases h
  · rw [hk e he] at h
    rw [hg]
    by_cases hex : e = x
    · subst hex; rw [if_pos rfl, hs.one]
    · rw [if_neg hex, hs.off e he (fun ht => ?_) hex]
      rw [(tree_iff hb hw pb pw hn (by omega)).2 ht] at h
      cases h
end
end
section
set_option maxHeartbeats 4000000
def knL (t : List Bool) : Nat → List Bool
  | 0 => List.replicate 16 false
  | k + 1 => (knL t k).set k (!gb t k)
theorem knL_len {t : List Bool} : ∀ k, (knL t k).length = 16
  | 0 => by simp [knL]
  | k + 1 => by simp [knL, knL_len k]
theorem knL_at {t : List Bool} : ∀ k, k ≤ 16 → ∀ e, e < k → gb (knL t k) e = !gb t e
  | 0, _, e, he => absurd he (Nat.not_lt_zero e)
  | k + 1, hk, e, he => by
    simp only [knL]
    rw [gb_set, knL_len]
    by_cases h : k = e
    · subst h; rw [if_pos ⟨rfl, by omega⟩]
    · rw [if_neg (fun h' => h h'.1)]; exact knL_at k (by omega) e (by omega)
theorem c_spec_l09Of {n : Int} {b w : List Int} {x : Nat} {a : Nat → Int} (hb : okP b) (hw : okP w) (h0 : isD n b w) (hx : x < n.toNat) (hxt : gb (treeM b w n) x = false) (hs : SolD b w n x a) :
    PSpec Tryz.prog 51 [vD n b w, .agg (vb (treeM b w n)), .int .i64 x] fun v => v = .own 2 1 n.toNat (vi .i64 ((List.range n.toNat).map a)) := by
  have hl := hb.len
  have hk := hw.len
  have hn := h0.pb.1
  have lb := h0.pb.lo hb
  have lw := h0.pw.lo hw
  have pb := h0.pb.ltP hb
  have pw := h0.pw.ltP hw
  obtain ⟨-, hal2⟩ := allV_len (b := b) (w := w) hn
  have hat := allV_at pb pw hn
  have hbl := cyc_lim (p := b) hn
  have hwl := cyc_lim (p := w) hn
  have htl : (treeM b w n).length = 16 := (trS_len _).2
  have hinit := Cs.init lb lw pb pw hn hs hx hxt (knL_len n.toNat) (knL_at (t := treeM b w n) n.toNat (by omega))
  refine spec_l09Of_f.f ?_
  unfold vD
  simp (config := { maxSteps := 10000000 }) (disch := first | omega | (simp only [LN]; omega)) only [↓EC, EW, seval, ↓reduceIte, spec_l09Of_F, hl, hk, htl]
  refine LP_of (σ := Nat) 100000 [(67, 27, 1), (68, 58, 1), (72, 58, 1), (84, 2, 1)] (fun s => [.int .i64 s])
    (fun s => [.int .i64 n :: vi .u8 (b ++ w), vb (treeM b w n), vb (knL (treeM b w n) s), vi .i64 (List.replicate n.toNat 0)])
    (fun s => (s : Int) ≤ n) (fun s => (n - s).toNat) 0 (by simp [frameOk, names, lpz, sclp, scv, scvs, nrfs, nrf, FRB]) (by simp only [Int.natCast_zero]; omega) ?_ ?_
  · simp (disch := first | omega | (simp only [LN]; omega)) only [↓EC, EW, seval, ↓reduceIte, ColV_def]
    try rfl
  · rintro s h1
    have hkl := knL_len (t := treeM b w n) s
    simp (disch := first | omega | (simp only [LN]; omega)) only [↓EC, EW, seval, ↓reduceIte, ColV_def, lheap_def, hl, hk, htl, hkl]
    (refine Split.mk (fun h => ?_) (fun h => ?_) <;> (try simp only [SD] at h))
    · (try simp (disch := first | omega | (simp only [LN]; omega)) only [↓EC, EW, seval, ↓reduceIte, hl, hk, htl, hkl])
      exact ⟨s + 1, by simp, rfl, by omega, by omega⟩
    · have hsn : s = n.toNat := by omega
      subst hsn
      (try simp (disch := first | omega | (simp only [LN]; omega)) only [↓EC, EW, seval, ↓reduceIte, hl, hk, htl, hkl])
      refine pcd_v (c_spec_l01Cycles lb hn) ?_
      (try simp (disch := first | omega | (simp only [LN]; omega)) only [↓EC, EW, seval, ↓reduceIte, hl, hk, htl, hkl])
      refine pcd_v (c_spec_l01Cycles lw hn) ?_
      (try simp (disch := first | omega | (simp only [LN]; omega)) only [↓EC, EW, seval, ↓reduceIte, hl, hk, htl, hkl, vl_app])
      have hA : cyc b n ++ cyc w n = allV b w n := rfl
      have hA2 : (cyc b n).length + (cyc w n).length = (allV b w n).length := by rw [← hA]; simp
      rw [hA, hA2]
      refine LP_of (σ := Nat × List Int × List Bool) 200000 [(67, 27, 1), (68, 58, 1), (72, 58, 1), (84, 2, 1), (113, 32, 1)] (fun s => [.int .i64 s.1]) (fun s => [.int .i64 n :: vi .u8 (b ++ w), vb (treeM b w n), vb (s.2.2), vi .i64 (s.2.1), vl (allV b w n)])
        (fun s => s.1 ≤ n.toNat + 1 ∧ Cs b w n a s.2.1 s.2.2 ∧ unk s.2.2 n.toNat ≤ n.toNat - s.1) (fun s => n.toNat + 1 - s.1) (0, (List.replicate n.toNat 0).set x 1, knL (treeM b w n) n.toNat) (by simp [frameOk, names, lpz, sclp, scv, scvs, nrfs, nrf, FRB]) ⟨by simp, hinit, unk_le _⟩ ?_ ?_
      · simp (disch := first | omega | (simp only [LN]; omega)) only [↓EC, EW, seval, ↓reduceIte, ColV_def]
      · rintro ⟨r, O, K⟩ ⟨r1, hC0, hU⟩
        simp only at r1 hC0 hU
        have ol0 := hC0.ol
        have kl0 := hC0.kl
        simp (disch := first | omega | (simp only [LN]; omega)) only [↓EC, EW, seval, ↓reduceIte, ColV_def, lheap_def, hl, hk, ol0, kl0]
        (refine Split.mk (fun h => ?_) (fun h => ?_) <;> (try simp only [SD] at h))
        · (try simp (disch := first | omega | (simp only [LN]; omega)) only [↓EC, EW, seval, ↓reduceIte, hl, hk, ol0, kl0])
          refine LP_of (σ := Nat × List Int × List Bool) 300000 [(67, 27, 1), (68, 58, 1), (72, 58, 1), (84, 2, 1), (113, 32, 1)] (fun s => [.int .i64 s.1]) (fun s => [.int .i64 n :: vi .u8 (b ++ w), vb (treeM b w n), vb (s.2.2), vi .i64 (s.2.1), vl (allV b w n)])
            (fun s => s.1 ≤ (allV b w n).length ∧ Cs b w n a s.2.1 s.2.2 ∧ (unk s.2.2 n.toNat < unk K n.toNat ∨ s.2.2 = K ∧ ∀ t, t < s.1 → mis K (gl (allV b w n) t) (gl (allV b w n) t).length ≠ 1))
            (fun s => (allV b w n).length - s.1) (0, O, K) (by simp [frameOk, names, lpz, sclp, scv, scvs, nrfs, nrf, FRB]) ⟨by simp, hC0, .inr ⟨rfl, fun t ht => absurd ht (Nat.not_lt_zero t)⟩⟩ ?_ ?_
          · simp (disch := first | omega | (simp only [LN]; omega)) only [↓EC, EW, seval, ↓reduceIte, ColV_def]
          · rintro ⟨v, O, K2⟩ ⟨v1, hC, hV⟩
            simp only at v1 hC hV
            have ol := hC.ol
            have kl := hC.kl
            simp (disch := first | omega | (simp only [LN]; omega)) only [↓EC, EW, seval, ↓reduceIte, ColV_def, lheap_def, hl, hk, ol, kl]
            (refine Split.mk (fun h => ?_) (fun h => ?_) <;> (try simp only [SD] at h))
            · have hv : v < (allV b w n).length := by omega
              have hva := hat _ (gl_mem hv)
              have hstep := fun hm => hC.step lb lw pb pw hn hs hv hm
              (try simp (disch := first | omega | (simp only [LN]; omega)) only [↓EC, EW, seval, ↓reduceIte, hl, hk, ol, kl])
              refine LP_of (σ := Nat) 400000 [(67, 27, 1), (68, 58, 1), (72, 58, 1), (84, 2, 1), (113, 32, 1)] (fun s => [.int .i64 (sumT O (gl (allV b w n) v) s), .int .i64 (mis K2 (gl (allV b w n) v) s), .int .i64 (atF K2 (gl (allV b w n) v) s), .int .i64 s]) (fun s => [.int .i64 n :: vi .u8 (b ++ w), vb (treeM b w n), vb (K2), vi .i64 (O), vl (allV b w n)])
                (fun s => s ≤ (gl (allV b w n) v).length) (fun s => (gl (allV b w n) v).length - s) 0 (by simp [frameOk, names, lpz, sclp, scv, scvs, nrfs, nrf, FRB]) (Nat.zero_le _) ?_ ?_
              · simp (disch := first | omega | (simp only [LN]; omega)) only [↓EC, EW, seval, ↓reduceIte, ColV_def]
                rfl
              · rintro s g1
                have q1 := sumT_lim (a := O) (c := gl (allV b w n) v) (M := 65536) (hC.lim hs) s
                have q2 := mis_le (kn := K2) (c := gl (allV b w n) v) s
                simp (disch := first | omega | (simp only [LN]; omega)) only [↓EC, EW, seval, ↓reduceIte, ColV_def, lheap_def, hl, hk, ol, kl]
                (refine Split.mk (fun h => ?_) (fun h => ?_) <;> (try simp only [SD] at h))
                · have hsl : s < (gl (allV b w n) v).length := by omega
                  have hxr := hva.1 (gi (gl (allV b w n) v) s) (by rw [gi_of hsl]; exact List.getElem_mem hsl)
                  have q3 := hC.lim hs (gi (gl (allV b w n) v) s).toNat
                  (try simp (disch := first | omega | (simp only [LN]; omega)) only [↓EC, EW, seval, ↓reduceIte, hl, hk, ol, kl])
                  (refine Split.mk (fun h => ?_) (fun h => ?_) <;> (try simp only [SD] at h))
                  · (try simp (disch := first | omega | (simp only [LN]; omega)) only [↓EC, EW, seval, ↓reduceIte, hl, hk, ol, kl])
                    refine ⟨s + 1, ?_, by omega, by omega⟩
                    simp [sumT, mis, atF, h]
                  · (try simp (disch := first | omega | (simp only [LN]; omega)) only [↓EC, EW, seval, ↓reduceIte, hl, hk, ol, kl])
                    refine ⟨s + 1, ?_, by omega, by omega⟩
                    simp [sumT, mis, atF, h]
                · have hsl : s = (gl (allV b w n) v).length := by omega
                  subst hsl
                  (try simp (disch := first | omega | (simp only [LN]; omega)) only [↓EC, EW, seval, ↓reduceIte, hl, hk, ol, kl])
                  (refine Split.mk (fun h => ?_) (fun h => ?_) <;> (try simp only [SD] at h))
                  · have hm : mis K2 (gl (allV b w n) v) (gl (allV b w n) v).length = 1 := by omega
                    obtain ⟨e, e1, e2, e3, e4⟩ := hstep hm
                    have hun := unk_set (kn := K2) (e := e) (by omega) e3 n.toNat
                    rw [if_pos e2] at hun
                    (try simp (disch := first | omega | (simp only [LN]; omega)) only [↓EC, EW, seval, ↓reduceIte, hl, hk, ol, kl, e1])
                    refine ⟨(v + 1, _, _), ?_, rfl, ⟨by simp only; omega, e4, .inl ?_⟩, by simp only; omega⟩
                    · simp
                    · simp only
                      rcases hV with hV | ⟨hV, -⟩
                      · omega
                      · subst hV; omega
                  · (try simp (disch := first | omega | (simp only [LN]; omega)) only [↓EC, EW, seval, ↓reduceIte, hl, hk, ol, kl])
                    refine ⟨(v + 1, O, K2), ?_, rfl, ⟨by simp only; omega, hC, ?_⟩, by simp only; omega⟩
                    · simp
                    · rcases hV with hV | ⟨rfl, hV⟩
                      · exact .inl hV
                      · refine .inr ⟨rfl, fun t ht => ?_⟩
                        by_cases htv : t = v
                        · subst htv; omega
                        · exact hV t (by simp only at ht; omega)
            · have hvl : v = (allV b w n).length := by omega
              subst hvl
              (try simp (disch := first | omega | (simp only [LN]; omega)) only [↓EC, EW, seval, ↓reduceIte, hl, hk, ol, kl])
              refine ⟨(r + 1, O, K2), ?_, rfl, ⟨by simp only; omega, hC, ?_⟩, by simp only; omega⟩
              · simp
              · simp only
                by_cases hz : unk K2 n.toNat = 0
                · omega
                · rcases hV with hV | ⟨rfl, hV⟩
                  · omega
                  · obtain ⟨t, t1, t2⟩ := hC.leaf lb lw pb pw hn (by omega)
                    exact absurd t2 (hV t t1)
        · (try simp (disch := first | omega | (simp only [LN]; omega)) only [↓EC, EW, seval, ↓reduceIte, hl, hk, ol0, kl0])
          have hz := unk_zero (kn := K) n.toNat (by omega)
          have hO : O = (List.range n.toNat).map a := gi_ext (by simp [ol0]) fun j hj => by
            rw [hC0.don j (by omega) (hz j (by omega)), gi_of (by simp; omega)]
            simp
          rw [hO]
end
section
set_option maxHeartbeats 4000000
noncomputable def cyA (b w : List Int) (n : Int) (x : Nat) : Nat → Int := open Classical in if h : ∃ a, SolD b w n x a then h.choose else fun _ => 0
noncomputable def cyL (b w : List Int) (n : Int) (x : Nat) : List Int := (List.range n.toNat).map (cyA b w n x)
theorem cyL_len {b w : List Int} {n : Int} {x : Nat} : (cyL b w n x).length = n.toNat := by simp [cyL]
section
variable {n : Int} {b w : List Int}
theorem cyA_sol (hb : okP b) (hw : okP w) (h0 : isD n b w) {x : Nat} (hx : x < n.toNat) (hxt : gb (treeM b w n) x = false) : SolD b w n x (cyA b w n x) := by
  have hn := h0.pb.1
  have lb := h0.pb.lo hb
  have lw := h0.pw.lo hw
  have pb := h0.pb.ltP hb
  have pw := h0.pw.ltP hw
  have h := sol_ex (dFo lb lw pb pw hn) (by omega) hx (fun ht => by
    rw [(tree_iff lb lw pb pw hn (by omega)).2 ht] at hxt; cases hxt)
  unfold cyA
  rw [dif_pos h]
  exact h.choose_spec
theorem cyL_lm (hb : okP b) (hw : okP w) (h0 : isD n b w) {x : Nat} (hx : x < n.toNat) (hxt : gb (treeM b w n) x = false) : lmM (cyL b w n x) := fun k => by
  by_cases hk : k < n.toNat
  · rw [gi_of (by rw [cyL_len]; exact hk)]
    have := (cyA_sol hb hw h0 hx hxt).lim k
    simp only [cyL, List.getElem_map, List.getElem_range]
    omega
  · rw [gi_over (by rw [cyL_len]; omega)]; omega
theorem tree_mem (hb : okP b) (hw : okP w) (h0 : isD n b w) {x : Nat} (hx : x < n.toNat) : (x : Int) ∈ treeL b w n ↔ gb (treeM b w n) x = true := by
  unfold treeL
  rw [collect_mem]
  constructor
  · rintro ⟨e, h1, h2, h3⟩
    have : e = x := by omega
    subst this; exact h3
  · intro h; exact ⟨x, rfl, hx, h⟩
theorem c_impl_cycleOf1 (hb : okP b) (hw : okP w) (h0 : isD n b w) {x : Nat} (hx : x < n.toNat) (hxt : gb (treeM b w n) x = false) :
    PSpec Tryz.prog 54 [vD n b w, .int .i64 x, .sl (treeL b w n).length (vi .i64 (treeL b w n))] fun v => v = .own 2 1 (cyL b w n x).length (vi .i64 (cyL b w n x)) := by
  rw [cyL_len]
  exact c_impl_cycleOf hb hw h0 hx (fun h => by rw [(tree_mem hb hw h0 hx).1 h] at hxt; cases hxt) (cyA_sol hb hw h0 hx hxt)
theorem c_spec_l09Of1 (hb : okP b) (hw : okP w) (h0 : isD n b w) {x : Nat} (hx : x < n.toNat) (hxt : gb (treeM b w n) x = false) :
    PSpec Tryz.prog 51 [vD n b w, .agg (vb (treeM b w n)), .int .i64 x] fun v => v = .own 2 1 (cyL b w n x).length (vi .i64 (cyL b w n x)) := by
  rw [cyL_len]
  exact c_spec_l09Of hb hw h0 hx hxt (cyA_sol hb hw h0 hx hxt)
theorem treeM_len : (treeM b w n).length = 16 := (trS_len _).2
theorem treeL_le (hn : 1 ≤ n ∧ n ≤ 16) : (treeL b w n).length ≤ 16 := by
  have h1 := collect_len (m := treeM b w n) n.toNat; unfold treeL; omega
theorem c_impl_isDart {x : Int} (hb : b.length = 16) (hw : w.length = 16) : PSpec Tryz.prog 52 [vD n b w, .sl 1 (vi .i64 [x])] fun v => v = .bool (decide (0 ≤ x ∧ x < n)) := by
  refine impl_isDart_f.f ?_
  unfold vD
  simp (disch := first | omega | (simp only [LN]; omega)) only [↓EC, EW, seval, ↓reduceIte, impl_isDart_F, hb, hw]
  refine LP_of (σ := Nat) 100000 [(66, 27, 1)] (fun s => [.int .i64 s]) (fun s => [.int .i64 n :: vi .u8 (b ++ w)])
    (fun s => s ≤ 1 ∧ (0 < s → 0 ≤ x ∧ x < n)) (fun s => 1 - s) 0 (by simp [frameOk, names, lpz, sclp, scv, scvs, nrfs, nrf, FRB]) ⟨by omega, fun h => absurd h (by omega)⟩ ?_ ?_
  · simp (disch := first | omega | (simp only [LN]; omega)) only [↓EC, EW, seval, ↓reduceIte, ColV_def]
  · rintro s ⟨h1, h2⟩
    have hs : s = 0 ∨ s = 1 := by omega
    rcases hs with rfl | rfl
    · simp (disch := first | omega | (simp only [LN]; omega)) only [↓EC, EW, seval, ↓reduceIte, ColV_def, lheap_def, hb, hw]
      repeat' (refine Split.mk (fun h => ?_) (fun h => ?_) <;> (try simp only [SD] at h))
      · (try simp (disch := first | omega | (simp only [LN]; omega)) only [↓EC, EW, seval, ↓reduceIte])
        rw [eq_comm, V.bool.injEq, decide_eq_false_iff_not]; omega
      · (try simp (disch := first | omega | (simp only [LN]; omega)) only [↓EC, EW, seval, ↓reduceIte])
        rw [eq_comm, V.bool.injEq, decide_eq_false_iff_not]; omega
      · (try simp (disch := first | omega | (simp only [LN]; omega)) only [↓EC, EW, seval, ↓reduceIte])
        exact ⟨1, by simp, ⟨by omega, fun _ => by omega⟩, by omega⟩
    · simp (disch := first | omega | (simp only [LN]; omega)) only [↓EC, EW, seval, ↓reduceIte, ColV_def, lheap_def, hb, hw]
      have := h2 (by omega)
      rw [eq_comm, V.bool.injEq, decide_eq_true_eq]; omega
noncomputable def ceO (n : Int) (b w : List Int) (x : Int) : Option (List Int) × Int :=
  if isDB n b w = true then (if 0 ≤ x ∧ x < n then (if gb (treeM b w n) x.toNat = true then (none, 5) else (some (cyL b w n x.toNat), 0)) else (none, 2)) else (none, 1)
def ceV : Option (List Int) × Int → V
  | (some r, c) => .tup [.own 2 1 r.length (vi .i64 r), .int .i64 c]
  | (none, c) => .tup [.nils, .int .i64 c]
theorem ceO_cases (n : Int) (b w : List Int) (x : Int) : (∃ r, ceO n b w x = (some r, 0) ∧ r.length ≤ 16) ∨ ∃ c, ceO n b w x = (none, c) := by
  unfold ceO
  split
  · rename_i h
    have hn := (isDB_iff.1 h).pb.1
    split
    · split
      · exact .inr ⟨_, rfl⟩
      · exact .inl ⟨_, rfl, by rw [cyL_len]; omega⟩
    · exact .inr ⟨_, rfl⟩
  · exact .inr ⟨_, rfl⟩
theorem c_impl_CycleOfEdge {x : Int} (hb : okP b) (hw : okP w) : PSpec Tryz.prog 27 [vD n b w, .int .i64 x] fun v => v = ceV (ceO n b w x) := by
  have hl := hb.len
  have hk := hw.len
  refine impl_CycleOfEdge_f.f ?_
  have hI := c_impl_IsDessin hb hw (n := n)
  have hD := c_impl_isDart (n := n) (b := b) (w := w) (x := x) hl hk
  cases h0 : isDB n b w with
  | false =>
    unfold vD at hI hD ⊢
    simp (disch := first | omega | (simp only [LN]; omega)) only [↓EC, EW, seval, ↓reduceIte, impl_CycleOfEdge_F, hl, hk]
    refine pcd_v hI ?_
    (try simp (disch := first | omega | (simp only [LN]; omega)) only [↓EC, EW, seval, ↓reduceIte, hl, hk, h0])
    unfold ceO; rw [if_neg (by rw [h0]; decide)]; rfl
  | true =>
    have hd := isDB_iff.1 h0
    have hn := hd.pb.1
    have htl := treeL_le (b := b) (w := w) hn
    have hT := c_impl_treeEdges hb hw hd
    have hC := fun (h1 : x.toNat < n.toNat) h2 => c_impl_cycleOf1 hb hw hd (x := x.toNat) h1 h2
    unfold ceO
    rw [if_pos h0]
    unfold vD at hI hD hT hC ⊢
    simp (disch := first | omega | (simp only [LN]; omega)) only [↓EC, EW, seval, ↓reduceIte, impl_CycleOfEdge_F, hl, hk]
    refine pcd_v hI ?_
    (try simp (disch := first | omega | (simp only [LN]; omega)) only [↓EC, EW, seval, ↓reduceIte, hl, hk, h0])
    refine pcd_v hD ?_
    (try simp (disch := first | omega | (simp only [LN]; omega)) only [↓EC, EW, seval, ↓reduceIte, hl, hk])
    (refine Split.mk (fun h => ?_) (fun h => ?_) <;> (try simp only [SD] at h))
    · rw [if_neg (by omega)]; rfl
    · have hx : 0 ≤ x ∧ x < n := by omega
      rw [if_pos hx]
      obtain ⟨k, rfl⟩ : ∃ k : Nat, x = k := ⟨x.toNat, by omega⟩
      simp only [Int.toNat_natCast] at hC ⊢
      (try simp (disch := first | omega | (simp only [LN]; omega)) only [↓EC, EW, seval, ↓reduceIte, hl, hk])
      refine pcd_v hT ?_
      (try simp (disch := first | omega | (simp only [LN]; omega)) only [↓EC, EW, seval, ↓reduceIte, hl, hk])
      refine pcd_v (c_Contains0 rfl (by omega)) ?_
      (try simp (disch := first | omega | (simp only [LN]; omega)) only [↓EC, EW, seval, ↓reduceIte, hl, hk])
      have htm := tree_mem hb hw hd (x := k) (by omega)
      (refine Split.mk (fun h => ?_) (fun h => ?_) <;> (try simp only [SD] at h))
      · rw [if_pos (htm.1 h)]; (try simp (disch := first | omega | (simp only [LN]; omega)) only [↓EC, EW, seval, ↓reduceIte]); rfl
      · have hg : gb (treeM b w n) k = false := by
          cases hg : gb (treeM b w n) k with
          | false => rfl
          | true => exact absurd (htm.2 hg) h
        rw [hg]
        (try simp (disch := first | omega | (simp only [LN]; omega)) only [↓EC, EW, seval, ↓reduceIte, hl, hk])
        refine pcd_o (hC (by omega) hg) ?_
        (try simp (disch := first | omega | (simp only [LN]; omega)) only [↓EC, EW, seval, ↓reduceIte, ceV])
theorem c_spec_CycleOfEdge {x : Int} (hx1 : -9223372036854775808 ≤ x ∧ x ≤ 9223372036854775807) (hb : okP b) (hw : okP w) : PSpec Tryz.prog 28 [vD n b w, .int .i64 x] fun v => v = ceV (ceO n b w x) := by
  have hl := hb.len
  have hk := hw.len
  refine spec_CycleOfEdge_f.f ?_
  have hI := c_spec_l01Is hb hw (n := n)
  cases h0 : isDB n b w with
  | false =>
    unfold vD at hI ⊢
    simp (disch := first | omega | (simp only [LN]; omega)) only [↓EC, EW, seval, ↓reduceIte, spec_CycleOfEdge_F, hl, hk]
    refine pcd_v hI ?_
    (try simp (disch := first | omega | (simp only [LN]; omega)) only [↓EC, EW, seval, ↓reduceIte, hl, hk, h0])
    unfold ceO; rw [if_neg (by rw [h0]; decide)]; rfl
  | true =>
    have hd := isDB_iff.1 h0
    have hn := hd.pb.1
    have htl := treeM_len (b := b) (w := w) (n := n)
    have hT := c_spec_l09Tree hb hw hd
    have hC := fun (h1 : x.toNat < n.toNat) h2 => c_spec_l09Of1 hb hw hd (x := x.toNat) h1 h2
    unfold ceO
    rw [if_pos h0]
    unfold vD at hI hT hC ⊢
    simp (disch := first | omega | (simp only [LN]; omega)) only [↓EC, EW, seval, ↓reduceIte, spec_CycleOfEdge_F, hl, hk]
    refine pcd_v hI ?_
    (try simp (disch := first | omega | (simp only [LN]; omega)) only [↓EC, EW, seval, ↓reduceIte, hl, hk, h0])
    refine pcd_v c_spec_l01In ?_
    (try simp (disch := first | omega | (simp only [LN]; omega)) only [↓EC, EW, seval, ↓reduceIte, hl, hk])
    (refine Split.mk (fun h => ?_) (fun h => ?_) <;> (try simp only [SD] at h))
    · (try simp (disch := first | omega | (simp only [LN]; omega)) only [↓EC, EW, seval, ↓reduceIte])
      rw [if_neg (by omega)]; rfl
    · have hx : 0 ≤ x ∧ x < n := by omega
      rw [if_pos hx]
      obtain ⟨k, rfl⟩ : ∃ k : Nat, x = k := ⟨x.toNat, by omega⟩
      simp only [Int.toNat_natCast] at hC ⊢
      (try simp (disch := first | omega | (simp only [LN]; omega)) only [↓EC, EW, seval, ↓reduceIte, hl, hk])
      refine pcd_v hT ?_
      (try simp (disch := first | omega | (simp only [LN]; omega)) only [↓EC, EW, seval, ↓reduceIte, hl, hk, htl])
      (refine Split.mk (fun h => ?_) (fun h => ?_) <;> (try simp only [SD] at h))
      · rw [if_pos h]; (try simp (disch := first | omega | (simp only [LN]; omega)) only [↓EC, EW, seval, ↓reduceIte]); rfl
      · have hg : gb (treeM b w n) k = false := by simpa using h
        rw [hg]
        (try simp (disch := first | omega | (simp only [LN]; omega)) only [↓EC, EW, seval, ↓reduceIte, hl, hk, htl])
        refine pcd_o (hC (by omega) hg) ?_
        (try simp (disch := first | omega | (simp only [LN]; omega)) only [↓EC, EW, seval, ↓reduceIte, ceV])
end
end
end Go.Proofs.YtpeglkcbhffaaaaGreat.Sep

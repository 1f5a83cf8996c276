/- Trees of dessins: plain lists. -/
import Derived.Test.YtcleiehdddjicaaC25
import Derived.Test.YtcleiehdddjicaaC30
namespace Go.Proofs.Ytcleiehdddjicaa.Sep
open Go.RowKit
set_option linter.unusedVariables false
set_option linter.unusedSimpArgs false
set_option maxRecDepth 20000

/-! ### Each number lies on a cycle -/
theorem gb_set_iff {m : List Bool} {k x : Nat} (hk : k < m.length) : gb (m.set k true) x = true ↔ x = k ∨ gb m x = true := by
  rw [gb_set]
  by_cases h : k = x
  · subst h; simp [hk]
  · rw [if_neg (fun h' => h h'.1)]
    exact ⟨.inr, fun h' => h'.elim (fun e => absurd e.symm h) id⟩
theorem cycF_mem {p : List Int} (hp : ∀ x : Nat, 0 ≤ gi p x) : ∀ (c : Nat) {k : Int} {m : List Bool} {acc : List Int}, m.count false = c → 0 ≤ k →
    (∀ y ∈ acc, y ∈ (cycF p k m acc).2) ∧ (∀ x : Nat, gb (cycF p k m acc).1 x = true → gb m x = true ∨ (x : Int) ∈ (cycF p k m acc).2) ∧ (∀ x : Nat, gb m x = true → gb (cycF p k m acc).1 x = true) ∧ (k.toNat < m.length → gb (cycF p k m acc).1 k.toNat = true) := by
  intro c
  induction c using Nat.strongRecOn with
  | ind c ih =>
    intro k m acc hc h0
    by_cases h : gb m k.toNat = false ∧ k.toNat < m.length
    · rw [cycF_go h.1 h.2]
      have hlt := count_false_lt h.1 h.2
      obtain ⟨h1, h2, h3, h4⟩ := @ih _ (by omega) (gi p k.toNat) (m.set k.toNat true) (acc ++ [k]) rfl (hp _)
      refine ⟨fun y hy => h1 y (by simp [hy]), fun x hx => ?_, fun x hx => h3 x ((gb_set_iff h.2).2 (.inr hx)), fun _ => h3 _ ((gb_set_iff h.2).2 (.inl rfl))⟩
      rcases h2 x hx with h' | h'
      · rcases (gb_set_iff h.2).1 h' with rfl | h'
        · exact .inr (h1 _ (by simp; omega))
        · exact .inl h'
      · exact .inr h'
    · rw [cycF, dif_neg h]
      refine ⟨fun _ h => h, fun x hx => .inl hx, fun _ h => h, fun hk => ?_⟩
      cases hg : gb m k.toNat with
      | true => rfl
      | false => exact absurd ⟨hg, hk⟩ h
theorem cycO_mem {p : List Int} (hp : ∀ x : Nat, 0 ≤ gi p x) : ∀ i : Nat, i ≤ 16 → (∀ j, j < i → gb (cycO p i).1 j = true) ∧ ∀ x : Nat, gb (cycO p i).1 x = true → ∃ l ∈ (cycO p i).2, (x : Int) ∈ l
  | 0, _ => ⟨fun j hj => absurd hj (Nat.not_lt_zero j), fun x hx => by simp only [cycO] at hx; rw [gb_rep] at hx; simp at hx⟩
  | i + 1, hi => by
    obtain ⟨h1, h2⟩ := cycO_mem hp i (by omega)
    simp only [cycO]
    split
    · rename_i h
      refine ⟨fun j hj => ?_, h2⟩
      by_cases e : j = i
      · subst e; exact h
      · exact h1 j (by omega)
    · rename_i h
      obtain ⟨g1, g2, g3, g4⟩ := cycF_mem hp _ (k := (i : Int)) (m := (cycO p i).1) (acc := []) rfl (by omega)
      refine ⟨fun j hj => ?_, fun x hx => ?_⟩
      · by_cases e : j = i
        · subst e
          have := g4 (by rw [(cycO_len j).1]; simp only [Int.toNat_natCast]; omega)
          simpa using this
        · exact g3 j (h1 j (by omega))
      · rcases g2 x hx with h | h
        · obtain ⟨l, h3, h4⟩ := h2 x h
          exact ⟨l, by simp [h3], h4⟩
        · exact ⟨_, by simp, h⟩
theorem cyc_mem {p : List Int} {n : Int} (hp : lo16 p) (hn : 1 ≤ n ∧ n ≤ 16) {x : Nat} (hx : (x : Int) < n) : ∃ l ∈ cyc p n, (x : Int) ∈ l := by
  have h0 : ∀ x : Nat, 0 ≤ gi p x := fun x => by
    by_cases h : x < 16
    · exact (hp.2 x h).1
    · rw [gi_over (by rw [hp.1]; omega)]; omega
  obtain ⟨h1, h2⟩ := cycO_mem h0 n.toNat (by omega)
  exact h2 x (h1 x (by omega))

/-! ### On which cycle a number lies -/
def wI (v : Nat) (c : List Int) : Nat → List Int → List Int
  | 0, L => L
  | s + 1, L => (wI v c s L).set (gi c s).toNat v
def wO (A : List (List Int)) : Nat → List Int
  | 0 => List.replicate 16 0
  | v + 1 => wI v (gl A v) (gl A v).length (wO A v)
theorem wI_len {v : Nat} {c L : List Int} : ∀ s, (wI v c s L).length = L.length
  | 0 => rfl
  | s + 1 => by simp [wI, wI_len s]
theorem wO_len {A : List (List Int)} : ∀ v, (wO A v).length = 16
  | 0 => by simp [wO]
  | v + 1 => by simp [wO, wI_len, wO_len v]
def whichL (p : List Int) (n : Int) : List Int := wO (cyc p n) (cyc p n).length
theorem take_mem_succ {c : List Int} {s : Nat} (hs : s < c.length) (x : Int) : x ∈ c.take (s + 1) ↔ x ∈ c.take s ∨ x = gi c s := by
  rw [List.take_add_one, List.mem_append]
  simp [gi, List.getD, hs]
theorem wI_at {v : Nat} {c L : List Int} (hc : ∀ y ∈ c, 0 ≤ y ∧ y < 16) (hL : L.length = 16) {x : Nat} (hx : x < 16) : ∀ s, s ≤ c.length → gi (wI v c s L) x = if (x : Int) ∈ c.take s then (v : Int) else gi L x
  | 0, _ => by simp [wI]
  | s + 1, hs => by
    have ih := wI_at (v := v) hc hL hx s (by omega)
    have hcs := hc (gi c s) (by rw [gi_of (show s < c.length by omega)]; exact List.getElem_mem _)
    simp only [wI]
    rw [gi_set, wI_len, hL]
    by_cases e : (gi c s).toNat = x
    · rw [if_pos ⟨e, hx⟩, if_pos ((take_mem_succ (by omega) _).2 (.inr (by omega)))]
    · rw [if_neg (fun h => e h.1), ih]
      by_cases h : (x : Int) ∈ c.take s
      · rw [if_pos h, if_pos ((take_mem_succ (by omega) _).2 (.inl h))]
      · rw [if_neg h, if_neg]
        intro h'
        rcases (take_mem_succ (by omega) _).1 h' with h' | h'
        · exact h h'
        · omega
theorem eI_at {B v n : Nat} {c E : List Int} (hc : ∀ y ∈ c, 0 ≤ y ∧ y < n) (hE : E.length = n * 2) {x d : Nat} (hx : x < n) (hd : d < 2) : ∀ s, s ≤ c.length →
    gi (eI B v c s E) (x * 2 + d) = if d = (if v < B then 0 else 1) ∧ (x : Int) ∈ c.take s then (v : Int) else gi E (x * 2 + d)
  | 0, _ => by simp [eI]
  | s + 1, hs => by
    have ih := eI_at (B := B) (v := v) hc hE hx hd s (by omega)
    have hcs := hc (gi c s) (by rw [gi_of (show s < c.length by omega)]; exact List.getElem_mem _)
    have h01 : (if v < B then 0 else 1) < 2 := by split <;> omega
    simp only [eI]
    generalize (if v < B then 0 else 1) = q at *
    rw [gi_set, eI_len, hE]
    by_cases e : (gi c s).toNat * 2 + q = x * 2 + d
    · rw [if_pos ⟨e, by omega⟩, if_pos ⟨by omega, (take_mem_succ (by omega) _).2 (.inr (by omega))⟩]
    · rw [if_neg (fun h => e h.1), ih]
      by_cases h : d = q ∧ (x : Int) ∈ c.take s
      · rw [if_pos h, if_pos ⟨h.1, (take_mem_succ (by omega) _).2 (.inl h.2)⟩]
      · rw [if_neg h, if_neg]
        rintro ⟨h1, h'⟩
        rcases (take_mem_succ (by omega) _).1 h' with h' | h'
        · exact h ⟨h1, h'⟩
        · omega
theorem wO_at {A : List (List Int)} (hA : ∀ l ∈ A, ∀ y ∈ l, 0 ≤ y ∧ y < 16) {v x : Nat} (hv : v < A.length) (hx : x < 16) : gi (wO A (v + 1)) x = if (x : Int) ∈ gl A v then (v : Int) else gi (wO A v) x := by
  have := wI_at (v := v) (hA _ (gl_mem hv)) (wO_len (A := A) v) hx (gl A v).length (Nat.le_refl _)
  rw [List.take_length] at this
  exact this
theorem eO_at {B : Nat} {A : List (List Int)} {n : Int} (hA : ∀ l ∈ A, ∀ y ∈ l, 0 ≤ y ∧ y < n) {v x d : Nat} (hv : v < A.length) (hx : (x : Int) < n) (hd : d < 2) :
    gi (eO B A n (v + 1)) (x * 2 + d) = if d = (if v < B then 0 else 1) ∧ (x : Int) ∈ gl A v then (v : Int) else gi (eO B A n v) (x * 2 + d) := by
  have := eI_at (B := B) (v := v) (n := n.toNat) (c := gl A v) (E := eO B A n v) (fun y hy => by have := hA _ (gl_mem hv) y hy; omega) (eO_len v) (x := x) (d := d) (by omega) hd (gl A v).length (Nat.le_refl _)
  rw [List.take_length] at this
  exact this
section
variable {b w : List Int} {n : Int}
theorem ends0 (hb : ltP b n) (hw : ltP w n) (hn : 1 ≤ n ∧ n ≤ 16) {x : Nat} (hx : (x : Int) < n) : gi (endV b w n) (x * 2) = gi (whichL b n) x := by
  have hA : ∀ l ∈ allV b w n, ∀ y ∈ l, 0 ≤ y ∧ y < n := fun l hl => (allV_at hb hw hn l hl).1
  have hB : ∀ l ∈ cyc b n, ∀ y ∈ l, 0 ≤ y ∧ y < 16 := fun l hl y hy => by have := (cyc_at hb hn l hl).1 y hy; omega
  have hlen := (allV_len (b := b) (w := w) hn).1
  have h1 : ∀ v, v ≤ (cyc b n).length → gi (eO (cyc b n).length (allV b w n) n v) (x * 2) = gi (wO (cyc b n) v) x := by
    intro v hv
    induction v with
    | zero => simp only [eO, wO]; rw [gi_rep, gi_rep]; split <;> split <;> rfl
    | succ v ih =>
      have e1 := eO_at (B := (cyc b n).length) (d := 0) hA (v := v) (by omega) hx (by omega)
      simp only [Nat.add_zero] at e1
      rw [e1, wO_at hB (by omega) (by omega), if_pos (show v < (cyc b n).length by omega), ih (by omega)]
      have : gl (allV b w n) v = gl (cyc b n) v := by unfold allV; rw [gl_app, if_pos (by omega)]
      rw [this]; simp
  have h2 : ∀ v, gi (eO (cyc b n).length (allV b w n) n ((cyc b n).length + v)) (x * 2) = gi (eO (cyc b n).length (allV b w n) n (cyc b n).length) (x * 2) ∨ (allV b w n).length < (cyc b n).length + v := by
    intro v
    induction v with
    | zero => exact .inl rfl
    | succ v ih =>
      rcases ih with ih | ih
      · by_cases hlt : (cyc b n).length + v < (allV b w n).length
        · have e1 := eO_at (B := (cyc b n).length) (d := 0) hA (v := (cyc b n).length + v) hlt hx (by omega)
          simp only [Nat.add_zero] at e1
          left
          rw [← Nat.add_assoc, e1, if_neg (show ¬ (cyc b n).length + v < (cyc b n).length by omega), if_neg (fun h => by omega), ih]
        · right; omega
      · right; omega
  unfold endV whichL
  rw [hlen]
  rcases h2 (cyc w n).length with h | h
  · rw [h, h1 _ (Nat.le_refl _)]
  · omega
theorem ends1 (hb : ltP b n) (hw : ltP w n) (lw : lo16 w) (hn : 1 ≤ n ∧ n ≤ 16) {x : Nat} (hx : (x : Int) < n) : gi (endV b w n) (x * 2 + 1) = (cyc b n).length + gi (whichL w n) x := by
  have hA : ∀ l ∈ allV b w n, ∀ y ∈ l, 0 ≤ y ∧ y < n := fun l hl => (allV_at hb hw hn l hl).1
  have hB : ∀ l ∈ cyc w n, ∀ y ∈ l, 0 ≤ y ∧ y < 16 := fun l hl y hy => by have := (cyc_at hw hn l hl).1 y hy; omega
  have hlen := (allV_len (b := b) (w := w) hn).1
  have h1 : ∀ v, v ≤ (cyc w n).length → (∃ j, j < v ∧ (x : Int) ∈ gl (cyc w n) j) → gi (eO (cyc b n).length (allV b w n) n ((cyc b n).length + v)) (x * 2 + 1) = (cyc b n).length + gi (wO (cyc w n) v) x := by
    intro v hv
    induction v with
    | zero => rintro ⟨j, hj, _⟩; omega
    | succ v ih =>
      rintro ⟨j, hj, hm⟩
      have e1 := eO_at (B := (cyc b n).length) (d := 1) hA (v := (cyc b n).length + v) (by omega) hx (by omega)
      have e2 : gl (allV b w n) ((cyc b n).length + v) = gl (cyc w n) v := by unfold allV; rw [gl_app, if_neg (by omega), Nat.add_sub_cancel_left]
      rw [← Nat.add_assoc, e1, wO_at hB (by omega) (by omega), if_neg (show ¬ (cyc b n).length + v < (cyc b n).length by omega), e2]
      by_cases h : (x : Int) ∈ gl (cyc w n) v
      · rw [if_pos ⟨rfl, h⟩, if_pos h]; omega
      · rw [if_neg (fun h' => h h'.2), if_neg h]
        refine ih (by omega) ⟨j, ?_, hm⟩
        by_cases e : j = v
        · subst e; exact absurd hm h
        · omega
  unfold endV whichL
  rw [hlen]
  refine h1 _ (Nat.le_refl _) ?_
  obtain ⟨l, hl, hm⟩ := cyc_mem lw hn hx
  obtain ⟨j, hj, rfl⟩ := List.mem_iff_getElem.1 hl
  exact ⟨j, hj, by simpa [gl, List.getD, hj] using hm⟩
end
theorem whichL_lim {p : List Int} {n : Int} (hn : 1 ≤ n ∧ n ≤ 16) (hp : ltP p n) {x : Nat} : 0 ≤ gi (whichL p n) x ∧ gi (whichL p n) x < (cyc p n).length := by
  have hB : ∀ l ∈ cyc p n, ∀ y ∈ l, 0 ≤ y ∧ y < 16 := fun l hl y hy => by have := (cyc_at hp hn l hl).1 y hy; omega
  have h0 := cyc_pos (p := p) hn
  by_cases hx : x < 16
  · have : ∀ v, v ≤ (cyc p n).length → 0 ≤ gi (wO (cyc p n) v) x ∧ gi (wO (cyc p n) v) x < (cyc p n).length := by
      intro v hv
      induction v with
      | zero => simp only [wO]; rw [gi_rep]; split <;> omega
      | succ v ih =>
        rw [wO_at hB (by omega) hx]
        split
        · omega
        · exact ih (by omega)
    exact this _ (Nat.le_refl _)
  · unfold whichL; rw [gi_over (by rw [wO_len]; omega)]; omega

/-! ### Classes -/
def jnL (c : List Int) (f t : Int) : List Int := c.map fun z => if z = f then t else z
theorem jnL_len {c : List Int} {f t : Int} : (jnL c f t).length = c.length := by simp [jnL]
theorem jnL_at {c : List Int} {f t : Int} {i : Nat} (hi : i < c.length) : gi (jnL c f t) i = if gi c i = f then t else gi c i := by
  rw [gi_of (by rw [jnL_len]; exact hi), gi_of hi]; simp [jnL]
theorem jnL_self {c : List Int} {f : Int} : jnL c f f = c := by
  unfold jnL
  conv => rhs; rw [← List.map_id c]
  refine List.map_congr_left fun z _ => ?_
  split
  · rename_i h; exact h.symm
  · rfl
theorem jnL_rel {c : List Int} {f t : Int} {i j : Nat} (hi : i < c.length) (hj : j < c.length) : gi (jnL c f t) i = gi (jnL c f t) j ↔ gi c i = gi c j ∨ ((gi c i = f ∨ gi c i = t) ∧ (gi c j = f ∨ gi c j = t)) := by
  rw [jnL_at hi, jnL_at hj]
  split <;> split <;> omega
/-- The reference's run: classes, marks. -/
def trS (b w : List Int) (n : Int) : Nat → List Int × List Bool
  | 0 => (iota 0 32, List.replicate 16 false)
  | x + 1 => (jnL (trS b w n x).1 (gi (trS b w n x).1 (16 + gi (whichL w n) x).toNat) (gi (trS b w n x).1 (gi (whichL b n) x).toNat),
      (trS b w n x).2.set x (decide (¬ gi (trS b w n x).1 (16 + gi (whichL w n) x).toNat = gi (trS b w n x).1 (gi (whichL b n) x).toNat)))
/-- The program's run: classes, edges. -/
def trI (b w : List Int) (n : Int) : Nat → List Int × List Int
  | 0 => (iota 0 (allV b w n).length, [])
  | x + 1 => (jnL (trI b w n x).1 (max (gi (trI b w n x).1 (gi (endV b w n) (x * 2)).toNat) (gi (trI b w n x).1 (gi (endV b w n) (x * 2 + 1)).toNat)) (min (gi (trI b w n x).1 (gi (endV b w n) (x * 2)).toNat) (gi (trI b w n x).1 (gi (endV b w n) (x * 2 + 1)).toNat)),
      if gi (trI b w n x).1 (gi (endV b w n) (x * 2)).toNat = gi (trI b w n x).1 (gi (endV b w n) (x * 2 + 1)).toNat then (trI b w n x).2 else (trI b w n x).2 ++ [(x : Int)])
theorem trS_len {b w : List Int} {n : Int} : ∀ x, (trS b w n x).1.length = 32 ∧ (trS b w n x).2.length = 16
  | 0 => by simp [trS, iota_len]
  | x + 1 => by simp [trS, jnL_len, trS_len x]
theorem trI_len {b w : List Int} {n : Int} : ∀ x, (trI b w n x).1.length = (allV b w n).length ∧ (trI b w n x).2.length ≤ x
  | 0 => by simp [trI, iota_len]
  | x + 1 => by
    obtain ⟨h1, h2⟩ := trI_len (b := b) (w := w) (n := n) x
    refine ⟨by simp [trI, jnL_len, h1], ?_⟩
    simp only [trI]
    split
    · omega
    · simp; omega
def collect (m : List Bool) : Nat → List Int
  | 0 => []
  | x + 1 => if gb m x = true then collect m x ++ [(x : Int)] else collect m x
theorem collect_congr {m m' : List Bool} : ∀ x, (∀ y, y < x → gb m y = gb m' y) → collect m x = collect m' x
  | 0, _ => rfl
  | x + 1, h => by simp only [collect]; rw [collect_congr x fun y hy => h y (by omega), h x (by omega)]
theorem collect_len {m : List Bool} : ∀ x, (collect m x).length ≤ x
  | 0 => by simp [collect]
  | x + 1 => by
    have := collect_len (m := m) x
    simp only [collect]; split <;> simp <;> omega
def phi (B : Nat) (i : Nat) : Nat := if i < B then i else 16 + (i - B)
theorem tr_rel {b w : List Int} {n : Int} (hb : ltP b n) (hw : ltP w n) (lw : lo16 w) (hn : 1 ≤ n ∧ n ≤ 16) : ∀ x : Nat, (x : Int) ≤ n →
    (∀ i j, i < (allV b w n).length → j < (allV b w n).length → (gi (trI b w n x).1 i = gi (trI b w n x).1 j ↔ gi (trS b w n x).1 (phi (cyc b n).length i) = gi (trS b w n x).1 (phi (cyc b n).length j))) ∧
    (trI b w n x).2 = collect (trS b w n x).2 x := by
  have hlen := (allV_len (b := b) (w := w) hn).1
  have hB := cyc_lim (p := b) hn
  have hW := cyc_lim (p := w) hn
  have hph : ∀ i, i < (allV b w n).length → phi (cyc b n).length i < 32 := fun i hi => by unfold phi; split <;> omega
  intro x
  induction x with
  | zero =>
    intro _
    refine ⟨fun i j hi hj => ?_, rfl⟩
    have h1 := hph i hi
    have h2 := hph j hj
    simp only [trI, trS]
    rw [iota_at hi, iota_at hj, iota_at h1, iota_at h2]
    unfold phi at h1 h2 ⊢
    split <;> split <;> omega
  | succ x ih =>
    intro hx
    obtain ⟨h1, h2⟩ := ih (by omega)
    obtain ⟨q1, q2⟩ := trS_len (b := b) (w := w) (n := n) x
    have q3 := (trI_len (b := b) (w := w) (n := n) x).1
    have e0 := ends0 hb hw hn (x := x) (by omega)
    have e1 := ends1 hb hw lw hn (x := x) (by omega)
    have b0 := whichL_lim (x := x) hn hb
    have w0 := whichL_lim (x := x) hn hw
    have hE0 : (gi (endV b w n) (x * 2)).toNat < (allV b w n).length := by omega
    have hE1 : (gi (endV b w n) (x * 2 + 1)).toNat < (allV b w n).length := by omega
    have p0 : phi (cyc b n).length (gi (endV b w n) (x * 2)).toNat = (gi (whichL b n) x).toNat := by unfold phi; rw [if_pos (by omega)]; omega
    have p1 : phi (cyc b n).length (gi (endV b w n) (x * 2 + 1)).toNat = (16 + gi (whichL w n) x).toNat := by unfold phi; rw [if_neg (by omega)]; omega
    have k01 := h1 _ _ hE0 hE1
    rw [p0, p1] at k01
    refine ⟨fun i j hi hj => ?_, ?_⟩
    · have ki0 := h1 _ _ hi hE0
      have ki1 := h1 _ _ hi hE1
      have kj0 := h1 _ _ hj hE0
      have kj1 := h1 _ _ hj hE1
      have kij := h1 _ _ hi hj
      rw [p0] at ki0 kj0
      rw [p1] at ki1 kj1
      simp only [trI, trS]
      rw [jnL_rel (by omega) (by omega), jnL_rel (by have := hph i hi; omega) (by have := hph j hj; omega)]
      omega
    · have hg : ∀ y, y < x → gb (trS b w n (x + 1)).2 y = gb (trS b w n x).2 y := fun y hy => by simp only [trS]; rw [gb_set, if_neg (by omega)]
      have hgx : gb (trS b w n (x + 1)).2 x = decide (¬ gi (trS b w n x).1 (16 + gi (whichL w n) x).toNat = gi (trS b w n x).1 (gi (whichL b n) x).toNat) := by
        simp only [trS]; rw [gb_set, if_pos ⟨rfl, by omega⟩]
      simp only [collect]
      rw [collect_congr x hg, ← h2]
      simp only [hgx, decide_eq_true_eq, trI]
      split <;> split <;> first | rfl | (exfalso; omega)
def treeM (b w : List Int) (n : Int) : List Bool := (trS b w n n.toNat).2
def treeL (b w : List Int) (n : Int) : List Int := collect (treeM b w n) n.toNat
end Go.Proofs.Ytcleiehdddjicaa.Sep

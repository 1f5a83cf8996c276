/- The trees of dessins as forests. -/
import Derived.Test.YtcleiehdddjicaaC35
namespace Go.Proofs.Ytcleiehdddjicaa.Sep
open Go.RowKit
set_option linter.unusedVariables false
set_option linter.unusedSimpArgs false
set_option maxRecDepth 20000

/-! ### Cycles have no number twice -/
theorem cycF_nd {p : List Int} (hp : ∀ x : Nat, 0 ≤ gi p x) : ∀ (c : Nat) {k : Int} {m : List Bool} {acc : List Int}, m.count false = c → 0 ≤ k → acc.Nodup → (∀ y ∈ acc, 0 ≤ y ∧ gb m y.toNat = true) →
    (cycF p k m acc).2.Nodup ∧ (∀ y ∈ (cycF p k m acc).2, 0 ≤ y ∧ gb (cycF p k m acc).1 y.toNat = true) ∧ (∀ y ∈ (cycF p k m acc).2, y ∈ acc ∨ gb m y.toNat = false) ∧ (∀ x : Nat, gb m x = true → gb (cycF p k m acc).1 x = true) := by
  intro c
  induction c using Nat.strongRecOn with
  | ind c ih =>
    intro k m acc hc h0 ha hm
    by_cases h : gb m k.toNat = false ∧ k.toNat < m.length
    · rw [cycF_go h.1 h.2]
      have hlt := count_false_lt h.1 h.2
      have hka : k ∉ acc := fun hk => by have := (hm k hk).2; rw [h.1] at this; cases this
      obtain ⟨g1, g2, g3, g4⟩ := @ih _ (by omega) (gi p k.toNat) (m.set k.toNat true) (acc ++ [k]) rfl (hp _)
        (by rw [List.nodup_append]; exact ⟨ha, by simp, fun x hx y hy => by simp only [List.mem_cons, List.not_mem_nil, or_false] at hy; subst hy; rintro rfl; exact hka hx⟩)
        (fun y hy => by
          rcases List.mem_append.1 hy with hy | hy
          · exact ⟨(hm y hy).1, (gb_set_iff h.2).2 (.inr (hm y hy).2)⟩
          · simp only [List.mem_cons, List.not_mem_nil, or_false] at hy
            subst hy; exact ⟨h0, (gb_set_iff h.2).2 (.inl rfl)⟩)
      refine ⟨g1, g2, fun y hy => ?_, fun x hx => g4 x ((gb_set_iff h.2).2 (.inr hx))⟩
      rcases g3 y hy with h' | h'
      · rcases List.mem_append.1 h' with h' | h'
        · exact .inl h'
        · simp only [List.mem_cons, List.not_mem_nil, or_false] at h'
          subst h'; exact .inr h.1
      · right
        cases hg : gb m y.toNat with
        | false => rfl
        | true => rw [(gb_set_iff h.2).2 (.inr hg)] at h'; cases h'
    · rw [cycF, dif_neg h]
      exact ⟨ha, hm, fun y hy => .inl hy, fun x hx => hx⟩
theorem cycO_nd {p : List Int} (hp : ∀ x : Nat, 0 ≤ gi p x) : ∀ i : Nat, ((cycO p i).2.flatten).Nodup ∧ ∀ y ∈ (cycO p i).2.flatten, 0 ≤ y ∧ gb (cycO p i).1 y.toNat = true
  | 0 => by simp [cycO]
  | i + 1 => by
    obtain ⟨h1, h2⟩ := cycO_nd hp i
    simp only [cycO]
    split
    · exact ⟨h1, h2⟩
    · obtain ⟨g1, g2, g3, g4⟩ := cycF_nd hp _ (k := (i : Int)) (m := (cycO p i).1) (acc := []) rfl (by omega) (by simp) (fun y hy => absurd hy (by simp))
      simp only [List.flatten_append, List.flatten_cons, List.flatten_nil, List.append_nil]
      refine ⟨?_, fun y hy => ?_⟩
      · rw [List.nodup_append]
        refine ⟨h1, g1, fun x hx y hy => ?_⟩
        rintro rfl
        rcases g3 x hy with h | h
        · exact absurd h (by simp)
        · rw [(h2 x hx).2] at h; cases h
      · rcases List.mem_append.1 hy with hy | hy
        · exact ⟨(h2 y hy).1, g4 _ (h2 y hy).2⟩
        · exact g2 y hy
theorem lo16_nn {p : List Int} (hp : lo16 p) : ∀ x : Nat, 0 ≤ gi p x := fun x => by
  by_cases h : x < 16
  · exact (hp.2 x h).1
  · rw [gi_over (by rw [hp.1]; omega)]; omega
theorem gl_of {ls : List (List Int)} {i : Nat} (hi : i < ls.length) : gl ls i = ls[i] := by simp [gl, List.getD, hi]
theorem flat_at {A : List (List Int)} (h : A.flatten.Nodup) : (∀ v, v < A.length → (gl A v).Nodup) ∧ ∀ v v', v < A.length → v' < A.length → ∀ x, x ∈ gl A v → x ∈ gl A v' → v = v' := by
  unfold List.Nodup at h
  rw [List.pairwise_flatten] at h
  refine ⟨fun v hv => h.1 _ (gl_mem hv), fun v v' hv hv' x hx hx' => ?_⟩
  have h2 := List.pairwise_iff_getElem.1 h.2
  rw [gl_of hv] at hx
  rw [gl_of hv'] at hx'
  rcases Nat.lt_trichotomy v v' with h3 | h3 | h3
  · exact absurd rfl (h2 v v' hv hv' h3 x hx x hx')
  · exact h3
  · exact absurd rfl (h2 v' v hv' hv h3 x hx' x hx)
section
variable {p b w : List Int} {n : Int}
theorem cyc_nd (hp : lo16 p) : (cyc p n).flatten.Nodup := (cycO_nd (lo16_nn hp) n.toNat).1
theorem which_iff (hp : lo16 p) (hpn : ltP p n) (hn : 1 ≤ n ∧ n ≤ 16) {x v : Nat} (hx : (x : Int) < n) (hv : v < (cyc p n).length) : (x : Int) ∈ gl (cyc p n) v ↔ gi (whichL p n) x = v := by
  have hB : ∀ l ∈ cyc p n, ∀ y ∈ l, 0 ≤ y ∧ y < 16 := fun l hl y hy => by have := (cyc_at hpn hn l hl).1 y hy; omega
  have h1 : ∀ k, k ≤ (cyc p n).length → (∃ j, j < k ∧ (x : Int) ∈ gl (cyc p n) j) → ∃ j, j < k ∧ (x : Int) ∈ gl (cyc p n) j ∧ gi (wO (cyc p n) k) x = j := by
    intro k hk
    induction k with
    | zero => rintro ⟨j, hj, _⟩; omega
    | succ k ih =>
      rintro ⟨j, hj, hm⟩
      rw [wO_at hB (by omega) (by omega)]
      by_cases h : (x : Int) ∈ gl (cyc p n) k
      · exact ⟨k, by omega, h, by rw [if_pos h]⟩
      · have hjk : j < k := by
          have : j ≠ k := by rintro rfl; exact h hm
          omega
        obtain ⟨j', q1, q2, q3⟩ := ih (by omega) ⟨j, hjk, hm⟩
        exact ⟨j', by omega, q2, by rw [if_neg h]; exact q3⟩
  obtain ⟨l, hl, hm⟩ := cyc_mem hp hn hx
  obtain ⟨j, hj, rfl⟩ := List.mem_iff_getElem.1 hl
  obtain ⟨j', q1, q2, q3⟩ := h1 _ (Nat.le_refl _) ⟨j, hj, by rw [gl_of hj]; exact hm⟩
  have hu := (flat_at (cyc_nd (n := n) hp)).2
  unfold whichL
  rw [q3]
  constructor
  · intro h; rw [hu v j' hv q1 _ h q2]
  · intro h
    have : j' = v := by omega
    subst this; exact q2
/-! ### Ends -/
def E0F (b : List Int) (n : Int) (e : Nat) : Nat := (gi (whichL b n) e).toNat
def E1F (b w : List Int) (n : Int) (e : Nat) : Nat := (cyc b n).length + (gi (whichL w n) e).toNat
theorem inc_iff (hb : lo16 b) (hw : lo16 w) (pb : ltP b n) (pw : ltP w n) (hn : 1 ≤ n ∧ n ≤ 16) {e v : Nat} (he : (e : Int) < n) (hv : v < (allV b w n).length) :
    (e : Int) ∈ gl (allV b w n) v ↔ incE (E0F b n) (E1F b w n) e v := by
  have hlen := (allV_len (b := b) (w := w) hn).1
  have b0 := whichL_lim (x := e) hn pb
  have w0 := whichL_lim (x := e) hn pw
  unfold incE E0F E1F
  by_cases h : v < (cyc b n).length
  · have : gl (allV b w n) v = gl (cyc b n) v := by unfold allV; rw [gl_app, if_pos h]
    rw [this, which_iff hb pb hn he h]
    omega
  · have : gl (allV b w n) v = gl (cyc w n) (v - (cyc b n).length) := by unfold allV; rw [gl_app, if_neg h]
    rw [this, which_iff hw pw hn he (by omega)]
    omega
theorem allV_nd (hb : lo16 b) (hw : lo16 w) {v : Nat} (hv : v < (allV b w n).length) : (gl (allV b w n) v).Nodup := by
  unfold allV at hv ⊢
  rw [List.length_append] at hv
  rw [gl_app]
  split
  · rename_i h; exact (flat_at (cyc_nd (n := n) hb)).1 v h
  · exact (flat_at (cyc_nd (n := n) hw)).1 _ (by omega)
theorem ends_at (pb : ltP b n) (pw : ltP w n) (hw : lo16 w) (hn : 1 ≤ n ∧ n ≤ 16) {e : Nat} (he : (e : Int) < n) : gi (endV b w n) (e * 2) = E0F b n e ∧ gi (endV b w n) (e * 2 + 1) = E1F b w n e := by
  have b0 := whichL_lim (x := e) hn pb
  have w0 := whichL_lim (x := e) hn pw
  rw [ends0 pb pw hn he, ends1 pb pw hw hn he]
  unfold E0F E1F
  omega
def clF (b w : List Int) (n : Int) (x i : Nat) : Int := gi (trI b w n x).1 i
theorem dFo (hb : lo16 b) (hw : lo16 w) (pb : ltP b n) (pw : ltP w n) (hn : 1 ≤ n ∧ n ≤ 16) : Fo n.toNat (allV b w n).length (cyc b n).length (E0F b n) (E1F b w n) (clF b w n) := by
  have hlen := (allV_len (b := b) (w := w) hn).1
  refine ⟨fun e he => ?_, fun e he => ?_, fun i j hi hj => ?_, fun x i j hx hi hj => ?_⟩
  · have := whichL_lim (x := e) hn pb; unfold E0F; omega
  · have := whichL_lim (x := e) hn pw; unfold E1F; omega
  · unfold clF
    simp only [trI]
    rw [iota_at hi, iota_at hj]
    omega
  · have q := (trI_len (b := b) (w := w) (n := n) x).1
    obtain ⟨e0, e1⟩ := ends_at pb pw hw hn (e := x) (by omega)
    unfold clF
    simp only [trI]
    rw [jnL_rel (by omega) (by omega), e0, e1]
    simp only [Int.toNat_natCast]
    omega
theorem tree_iff (hb : lo16 b) (hw : lo16 w) (pb : ltP b n) (pw : ltP w n) (hn : 1 ≤ n ∧ n ≤ 16) {e : Nat} (he : (e : Int) < n) : gb (treeM b w n) e = true ↔ treE (E0F b n) (E1F b w n) (clF b w n) e := by
  have hlen := (allV_len (b := b) (w := w) hn).1
  have hB := cyc_lim (p := b) hn
  have hW := cyc_lim (p := w) hn
  have b0 := whichL_lim (x := e) hn pb
  have w0 := whichL_lim (x := e) hn pw
  have k01 := (tr_rel pb pw hw hn e (by omega)).1 (E0F b n e) (E1F b w n e) (by unfold E0F; omega) (by unfold E1F; omega)
  have p0 : phi (cyc b n).length (E0F b n e) = (gi (whichL b n) e).toNat := by unfold phi E0F; rw [if_pos (by omega)]
  have p1 : phi (cyc b n).length (E1F b w n e) = (16 + gi (whichL w n) e).toNat := by unfold phi E1F; rw [if_neg (by omega)]; omega
  rw [p0, p1] at k01
  have hk : ∀ k, e < k → k ≤ n.toNat → gb (trS b w n k).2 e = decide (¬ gi (trS b w n e).1 (16 + gi (whichL w n) e).toNat = gi (trS b w n e).1 (gi (whichL b n) e).toNat) := by
    intro k
    induction k with
    | zero => intro h; omega
    | succ k ih =>
      intro h1 h2
      have q := (trS_len (b := b) (w := w) (n := n) k).2
      simp only [trS]
      rw [gb_set]
      by_cases h : k = e
      · subst h; rw [if_pos ⟨rfl, by omega⟩]
      · rw [if_neg (by omega)]; exact ih (by omega) (by omega)
  unfold treeM
  rw [hk _ (by omega) (Nat.le_refl _), decide_eq_true_eq]
  unfold treE clF
  rw [ne_eq, k01]
  exact ⟨fun h h' => h h'.symm, fun h h' => h h'.symm⟩
end
theorem collect_mem {m : List Bool} {x : Int} : ∀ k : Nat, x ∈ collect m k ↔ ∃ e : Nat, x = e ∧ e < k ∧ gb m e = true
  | 0 => by simp [collect]
  | k + 1 => by
    simp only [collect]
    split
    · rename_i h
      rw [List.mem_append, collect_mem k]
      simp only [List.mem_cons, List.not_mem_nil, or_false]
      constructor
      · rintro (⟨e, h1, h2, h3⟩ | h1)
        · exact ⟨e, h1, by omega, h3⟩
        · exact ⟨k, h1, by omega, h⟩
      · rintro ⟨e, h1, h2, h3⟩
        by_cases h4 : e = k
        · subst h4; exact .inr h1
        · exact .inl ⟨e, h1, by omega, h3⟩
    · rename_i h
      rw [collect_mem k]
      constructor
      · rintro ⟨e, h1, h2, h3⟩; exact ⟨e, h1, by omega, h3⟩
      · rintro ⟨e, h1, h2, h3⟩
        by_cases h4 : e = k
        · subst h4; exact absurd h3 h
        · exact ⟨e, h1, by omega, h3⟩
theorem collect_nd {m : List Bool} : ∀ k : Nat, (collect m k).Nodup
  | 0 => by simp [collect]
  | k + 1 => by
    have ih := collect_nd (m := m) k
    simp only [collect]
    split
    · rw [List.nodup_append]
      refine ⟨ih, by simp, fun x hx y hy => ?_⟩
      simp only [List.mem_cons, List.not_mem_nil, or_false] at hy
      obtain ⟨e, h1, h2, _⟩ := (collect_mem k).1 hx
      omega
    · exact ih
/-! ### Sums at vertices -/
theorem sumT_sm {a c : List Int} {n : Nat} (hc : c.Nodup) (hl : ∀ y ∈ c, 0 ≤ y ∧ y < n) : ∀ s, s ≤ c.length → sumT a c s = smE n fun e => if (e : Int) ∈ c.take s then gi a e else 0 := by
  intro s
  induction s with
  | zero => intro _; simp only [sumT, List.take_zero, List.not_mem_nil, if_false]; exact (smE_zero n).symm
  | succ s ih =>
    intro hs
    have hy := hl (gi c s) (by rw [gi_of (show s < c.length by omega)]; exact List.getElem_mem _)
    have hn : gi c s ∉ c.take s := by
      intro hm
      obtain ⟨j, hj, he⟩ := List.getElem_of_mem hm
      rw [List.getElem_take] at he
      rw [gi_of (show s < c.length by omega)] at he
      rw [List.length_take] at hj
      have := (List.getElem_inj hc).1 he
      omega
    simp only [sumT]
    rw [ih (by omega)]
    have h1 : (if (gi c s).toNat < n then gi a (gi c s).toNat else 0) = gi a (gi c s).toNat := if_pos (by omega)
    rw [← h1, ← smE_one, ← smE_add]
    refine smE_congr n fun e he => ?_
    by_cases h2 : (e : Int) = gi c s
    · have e1 : e = (gi c s).toNat := by omega
      rw [if_neg (by rw [h2]; exact hn), if_pos e1, if_pos ((take_mem_succ (by omega) _).2 (.inr h2)), ← e1]
      omega
    · rw [if_neg (show ¬ e = (gi c s).toNat by omega)]
      by_cases h3 : (e : Int) ∈ c.take s
      · rw [if_pos h3, if_pos ((take_mem_succ (by omega) _).2 (.inl h3))]; omega
      · rw [if_neg h3, if_neg (fun h4 => ((take_mem_succ (by omega) _).1 h4).elim h3 h2)]; omega
theorem sumT_Sv {a b w : List Int} {n : Int} (hb : lo16 b) (hw : lo16 w) (pb : ltP b n) (pw : ltP w n) (hn : 1 ≤ n ∧ n ≤ 16) {v : Nat} (hv : v < (allV b w n).length) :
    sumT a (gl (allV b w n) v) (gl (allV b w n) v).length = Sv n.toNat (E0F b n) (E1F b w n) (fun e => gi a e) v := by
  have hA := (allV_at pb pw hn _ (gl_mem hv)).1
  rw [sumT_sm (n := n.toNat) (allV_nd hb hw hv) (fun y hy => by have := hA y hy; omega) _ (Nat.le_refl _), List.take_length]
  unfold Sv
  refine smE_congr _ fun e he => ?_
  have := inc_iff hb hw pb pw hn (e := e) (v := v) (by omega) hv
  by_cases h : incE (E0F b n) (E1F b w n) e v
  · rw [if_pos h, if_pos (this.2 h)]
  · rw [if_neg h, if_neg (fun h' => h (this.1 h'))]
end Go.Proofs.Ytcleiehdddjicaa.Sep

/- Forests: classes joined edge by edge; each set of tree edges has a leaf; the cycle of an edge exists. -/
import Derived.Test.YtcleiehdddjicaaC33
namespace Go.Proofs.Ytcleiehdddjicaa.Sep
open Go.RowKit
set_option linter.unusedVariables false
set_option linter.unusedSimpArgs false
set_option maxRecDepth 20000

/-! ### Sums over edges -/
def smE : Nat → (Nat → Int) → Int
  | 0, _ => 0
  | n + 1, f => smE n f + f n
theorem smE_congr {f g : Nat → Int} : ∀ n, (∀ e, e < n → f e = g e) → smE n f = smE n g
  | 0, _ => rfl
  | n + 1, h => by simp only [smE]; rw [smE_congr n fun e he => h e (by omega), h n (by omega)]
theorem smE_add {f g : Nat → Int} : ∀ n, smE n (fun e => f e + g e) = smE n f + smE n g
  | 0 => rfl
  | n + 1 => by simp only [smE]; rw [smE_add n]; omega
theorem smE_neg {f : Nat → Int} : ∀ n, smE n (fun e => - f e) = - smE n f
  | 0 => rfl
  | n + 1 => by simp only [smE]; rw [smE_neg n]; omega
theorem smE_zero : ∀ n, smE n (fun _ => 0) = 0
  | 0 => rfl
  | n + 1 => by simp only [smE]; rw [smE_zero n]; rfl
theorem smE_one {x : Nat} {c : Int} : ∀ n, smE n (fun e => if e = x then c else 0) = if x < n then c else 0
  | 0 => rfl
  | n + 1 => by
    simp only [smE]; rw [smE_one n]
    by_cases h : n = x
    · subst h; simp
    · rw [if_neg h]
      by_cases h2 : x < n
      · rw [if_pos h2, if_pos (by omega)]; omega
      · rw [if_neg h2, if_neg (by omega)]; omega
theorem smE_lim {f : Nat → Int} {M : Int} (h : ∀ e, -M ≤ f e ∧ f e ≤ M) : ∀ n : Nat, -(M * n) ≤ smE n f ∧ smE n f ≤ M * n
  | 0 => by simp [smE]
  | n + 1 => by
    have h1 := smE_lim h n
    have h2 := h n
    simp only [smE]
    have h3 : M * ((n + 1 : Nat) : Int) = M * n + M := by rw [Int.natCast_add, Int.mul_add]; simp
    omega

/-! ### Joining classes edge by edge -/
structure Fo (n V B : Nat) (E0 E1 : Nat → Nat) (cl : Nat → Nat → Int) : Prop where
  e0 : ∀ e, e < n → E0 e < B
  e1 : ∀ e, e < n → B ≤ E1 e ∧ E1 e < V
  z : ∀ i j, i < V → j < V → (cl 0 i = cl 0 j ↔ i = j)
  s : ∀ x i j, x < n → i < V → j < V → (cl (x + 1) i = cl (x + 1) j ↔ cl x i = cl x j ∨ ((cl x i = cl x (E0 x) ∨ cl x i = cl x (E1 x)) ∧ (cl x j = cl x (E0 x) ∨ cl x j = cl x (E1 x))))
def treE (E0 E1 : Nat → Nat) (cl : Nat → Nat → Int) (e : Nat) : Prop := cl e (E0 e) ≠ cl e (E1 e)
def incE (E0 E1 : Nat → Nat) (e t : Nat) : Prop := E0 e = t ∨ E1 e = t
instance {E0 E1 : Nat → Nat} {e t : Nat} : Decidable (incE E0 E1 e t) := by unfold incE; infer_instance
section
variable {n V B : Nat} {E0 E1 : Nat → Nat} {cl : Nat → Nat → Int}
theorem inc_if {x v : Nat} {c : Int} : (if incE E0 E1 x v then c else 0) = if v = E0 x then c else if v = E1 x then c else 0 := by
  by_cases v0 : v = E0 x
  · rw [if_pos v0, if_pos (.inl v0.symm)]
  · rw [if_neg v0]
    by_cases v1 : v = E1 x
    · rw [if_pos v1, if_pos (.inr v1.symm)]
    · rw [if_neg v1, if_neg (fun hh => hh.elim (fun e => v0 e.symm) (fun e => v1 e.symm))]
theorem Fo.l0 (F : Fo n V B E0 E1 cl) {e : Nat} (h : e < n) : E0 e < V := by have := F.e0 e h; have := F.e1 e h; omega
theorem Fo.mono (F : Fo n V B E0 E1 cl) {i j : Nat} (hi : i < V) (hj : j < V) {e : Nat} : ∀ x, e ≤ x → x ≤ n → cl e i = cl e j → cl x i = cl x j := by
  intro x
  induction x with
  | zero => intro h1 _ h; have : e = 0 := by omega
            subst this; exact h
  | succ x ih =>
    intro h1 h2 h
    by_cases he : e = x + 1
    · subst he; exact h
    · exact (F.s x i j (by omega) hi hj).2 (.inl (ih (by omega) (by omega) h))
theorem Fo.joined (F : Fo n V B E0 E1 cl) {e x : Nat} (he : e < x) (hx : x ≤ n) : cl x (E0 e) = cl x (E1 e) := by
  have h0 := F.l0 (e := e) (by omega)
  have h1 := (F.e1 e (by omega)).2
  exact F.mono h0 h1 (e := e + 1) x he hx ((F.s e _ _ (by omega) h0 h1).2 (.inr ⟨.inl rfl, .inr rfl⟩))
/-- The only edge of 'R' at 't'. -/
def leafE (E0 E1 : Nat → Nat) (R : Nat → Prop) (t e : Nat) : Prop := R e ∧ incE E0 E1 e t ∧ ∀ e', R e' → incE E0 E1 e' t → e' = e
theorem leaf_step (F : Fo n V B E0 E1 cl) {x : Nat} (hx : x < n)
    (ih : ∀ R : Nat → Prop, (∀ e, R e → e < x ∧ treE E0 E1 cl e) → (∃ e, R e) → ∀ w, w < V → ∃ t e, t ≠ w ∧ t < V ∧ leafE E0 E1 R t e)
    {R : Nat → Prop} (hR : ∀ e, R e → e < x + 1 ∧ treE E0 E1 cl e) (hRx : R x) {u v w : Nat} (hv : v < V) (hw : w < V) (huv : cl x u ≠ cl x v) (hwv : cl x w ≠ cl x v)
    (hin : ∀ t, incE E0 E1 x t ↔ t = u ∨ t = v) : ∃ t e, t ≠ w ∧ t < V ∧ leafE E0 E1 R t e := by
  have hcl : ∀ e, R e → e ≠ x → ∀ t, incE E0 E1 e t → cl x t = cl x (E0 e) := by
    intro e he hne t ht
    have := (hR e he).1
    rcases ht with rfl | rfl
    · rfl
    · exact (F.joined (by omega) (by omega)).symm
  by_cases hE : ∃ e, R e ∧ e ≠ x ∧ cl x (E0 e) = cl x v
  · obtain ⟨t, e, h1, h2, h3, h4, h5⟩ := ih (fun e => R e ∧ e ≠ x ∧ cl x (E0 e) = cl x v) (fun e he => ⟨by have := (hR e he.1).1; have := he.2.1; omega, (hR e he.1).2⟩) hE v hv
    have htv : cl x t = cl x v := (hcl e h3.1 h3.2.1 t h4).trans h3.2.2
    refine ⟨t, e, ?_, h2, h3.1, h4, fun e' he' hi' => ?_⟩
    · rintro rfl; exact hwv htv
    · by_cases hex : e' = x
      · subst hex
        rcases (hin t).1 hi' with rfl | rfl
        · exact absurd htv huv
        · exact absurd rfl h1
      · exact h5 e' ⟨he', hex, by rw [← hcl e' he' hex t hi']; exact htv⟩ hi'
  · refine ⟨v, x, ?_, hv, hRx, (hin v).2 (.inr rfl), fun e' he' hi' => ?_⟩
    · rintro rfl; exact hwv rfl
    · by_cases hex : e' = x
      · exact hex
      · exact absurd ⟨e', he', hex, (hcl e' he' hex v hi').symm⟩ hE
theorem leaf_ex (F : Fo n V B E0 E1 cl) : ∀ x, x ≤ n → ∀ R : Nat → Prop, (∀ e, R e → e < x ∧ treE E0 E1 cl e) → (∃ e, R e) → ∀ w, w < V → ∃ t e, t ≠ w ∧ t < V ∧ leafE E0 E1 R t e := by
  intro x
  induction x with
  | zero => rintro _ R hR ⟨e, he⟩; have := (hR e he).1; omega
  | succ x ih =>
    intro hx R hR hE w hw
    by_cases hRx : R x
    · have h0 := F.l0 (e := x) (by omega)
      have h1 := (F.e1 x (by omega)).2
      have ht : cl x (E0 x) ≠ cl x (E1 x) := (hR x hRx).2
      by_cases hc : cl x w = cl x (E1 x)
      · exact leaf_step F (by omega) (ih (by omega)) hR hRx (u := E1 x) (v := E0 x) h0 hw (fun h => ht h.symm) (fun h => ht (h.symm.trans hc)) (fun t => by unfold incE; constructor <;> rintro (h | h) <;> first | exact .inl h.symm | exact .inr h.symm)
      · exact leaf_step F (by omega) (ih (by omega)) hR hRx (u := E0 x) (v := E1 x) h1 hw ht hc (fun t => by unfold incE; constructor <;> rintro (h | h) <;> first | exact .inl h.symm | exact .inr h.symm)
    · refine ih (by omega) R (fun e he => ⟨?_, (hR e he).2⟩) hE w hw
      have := (hR e he).1
      have : e ≠ x := by rintro rfl; exact hRx he
      omega

/-! ### Chains between two vertices -/
def Sv (n : Nat) (E0 E1 : Nat → Nat) (a : Nat → Int) (v : Nat) : Int := smE n fun e => if incE E0 E1 e v then a e else 0
theorem Sv_add {a b : Nat → Int} {v : Nat} : Sv n E0 E1 (fun e => a e + b e) v = Sv n E0 E1 a v + Sv n E0 E1 b v := by
  unfold Sv
  rw [← smE_add]
  exact smE_congr n fun e _ => by simp only; split <;> simp
theorem Sv_neg {a : Nat → Int} {v : Nat} : Sv n E0 E1 (fun e => - a e) v = - Sv n E0 E1 a v := by
  unfold Sv
  rw [← smE_neg]
  exact smE_congr n fun e _ => by simp only; split <;> simp
theorem Sv_one {x v : Nat} {c : Int} (hx : x < n) : Sv n E0 E1 (fun e => if e = x then c else 0) v = if incE E0 E1 x v then c else 0 := by
  unfold Sv
  have : (fun e => if incE E0 E1 e v then (if e = x then c else 0) else 0) = fun e => if e = x then (if incE E0 E1 x v then c else 0) else 0 := by
    funext e
    by_cases h : e = x
    · subst h; simp
    · simp [h]
  rw [this, smE_one, if_pos hx]
theorem Sv_zero {v : Nat} : Sv n E0 E1 (fun _ => 0) v = 0 := by
  unfold Sv
  exact (smE_congr n fun e _ => by simp).trans (smE_zero n)
theorem Sv_congr {a b : Nat → Int} {v : Nat} (h : ∀ e, e < n → a e = b e) : Sv n E0 E1 a v = Sv n E0 E1 b v := by
  unfold Sv
  exact smE_congr n fun e he => by rw [h e he]
def sgV (B v : Nat) : Int := if v < B then 1 else -1
structure Con (n V B : Nat) (E0 E1 : Nat → Nat) (cl : Nat → Nat → Int) (x : Nat) (M : Int) (i j : Nat) (a : Nat → Int) : Prop where
  sup : ∀ e, a e ≠ 0 → e < x ∧ treE E0 E1 cl e
  lim : ∀ e, -M ≤ a e ∧ a e ≤ M
  sum : ∀ v, v < V → Sv n E0 E1 a v = (if v = i then sgV B i else 0) - (if v = j then sgV B j else 0)
theorem con_ex (F : Fo n V B E0 E1 cl) : ∀ x, x ≤ n → ∀ i j, i < V → j < V → cl x i = cl x j → ∃ a, Con n V B E0 E1 cl x (2 ^ x - 1) i j a := by
  intro x
  induction x with
  | zero =>
    intro _ i j hi hj h
    have := (F.z i j hi hj).1 h
    subst this
    exact ⟨fun _ => 0, fun e he => absurd rfl he, fun e => by simp, fun v hv => by rw [Sv_zero]; omega⟩
  | succ x ih =>
    intro hx i j hi hj h
    have h0 := F.l0 (e := x) (by omega)
    have h1 := (F.e1 x (by omega)).2
    have pw : (2 : Int) ^ (x + 1) = 2 ^ x + 2 ^ x := by rw [Int.pow_succ]; omega
    have pp : (0 : Int) < 2 ^ x := Int.pow_pos (by omega)
    have hd : E0 x ≠ E1 x := by have := F.e0 x (by omega); have := F.e1 x (by omega); omega
    have s0 : sgV B (E0 x) = 1 := by unfold sgV; rw [if_pos (F.e0 x (by omega))]
    have s1 : sgV B (E1 x) = -1 := by unfold sgV; rw [if_neg (by have := (F.e1 x (by omega)).1; omega)]
    by_cases hc : cl x i = cl x j
    · obtain ⟨a, h2, h3, h4⟩ := ih (by omega) i j hi hj hc
      exact ⟨a, fun e he => ⟨by have := (h2 e he).1; omega, (h2 e he).2⟩, fun e => by have := h3 e; omega, h4⟩
    · obtain ⟨hi', hj'⟩ := ((F.s x i j (by omega) hi hj).1 h).resolve_left hc
      have ht : treE E0 E1 cl x := by
        intro he
        rcases hi' with h' | h' <;> rcases hj' with h'' | h''
        · exact hc (h'.trans h''.symm)
        · exact hc (h'.trans (he.trans h''.symm))
        · exact hc (h'.trans (he.symm.trans h''.symm))
        · exact hc (h'.trans h''.symm)
      have key : ∀ (c : Int) (p q : Nat) (a1 a2 : Nat → Int), (c = 1 ∨ c = -1) → Con n V B E0 E1 cl x (2 ^ x - 1) i p a1 → Con n V B E0 E1 cl x (2 ^ x - 1) q j a2 →
          (∀ v, (if incE E0 E1 x v then c else 0) = (if v = p then sgV B p else 0) - (if v = q then sgV B q else 0)) → ∃ a, Con n V B E0 E1 cl (x + 1) (2 ^ (x + 1) - 1) i j a := by
        intro c p q a1 a2 hcc g1 g2 g3
        have z1 : a1 x = 0 := by
          by_cases e : a1 x = 0
          · exact e
          · have := (g1.sup x e).1; omega
        have z2 : a2 x = 0 := by
          by_cases e : a2 x = 0
          · exact e
          · have := (g2.sup x e).1; omega
        refine ⟨fun e => (a1 e + (if e = x then c else 0)) + a2 e, fun e he => ?_, fun e => ?_, fun v hv => ?_⟩
        · by_cases e1 : a1 e = 0
          · by_cases e2 : a2 e = 0
            · by_cases e3 : e = x
              · subst e3; exact ⟨by omega, ht⟩
              · exact absurd (by simp [e1, e2, e3]) he
            · have := g2.sup e e2; exact ⟨by omega, this.2⟩
          · have := g1.sup e e1; exact ⟨by omega, this.2⟩
        · have k1 := g1.lim e
          have k2 := g2.lim e
          have k3 : -1 ≤ (if e = x then c else 0) ∧ (if e = x then c else 0) ≤ 1 := by split <;> omega
          omega
        · rw [Sv_add (a := fun e => a1 e + (if e = x then c else 0)) (b := a2), Sv_add (a := a1), Sv_one (by omega), g1.sum v hv, g2.sum v hv, g3 v]
          omega
      rcases hi' with h' | h' <;> rcases hj' with h'' | h''
      · exact absurd (h'.trans h''.symm) hc
      · obtain ⟨a1, g1⟩ := ih (by omega) i (E0 x) hi h0 h'
        obtain ⟨a2, g2⟩ := ih (by omega) (E1 x) j h1 hj h''.symm
        refine key 1 _ _ a1 a2 (.inl rfl) g1 g2 fun v => ?_
        rw [s0, s1]
        rw [inc_if]
        by_cases v0 : v = E0 x
        · have v1 : ¬ v = E1 x := fun e => hd (v0.symm.trans e)
          simp [v0, v1, hd]
        · by_cases v1 : v = E1 x
          · simp [v0, v1, hd.symm]
          · simp [v0, v1]
      · obtain ⟨a1, g1⟩ := ih (by omega) i (E1 x) hi h1 h'
        obtain ⟨a2, g2⟩ := ih (by omega) (E0 x) j h0 hj h''.symm
        refine key (-1) _ _ a1 a2 (.inr rfl) g1 g2 fun v => ?_
        rw [s0, s1]
        rw [inc_if]
        by_cases v0 : v = E0 x
        · have v1 : ¬ v = E1 x := fun e => hd (v0.symm.trans e)
          simp [v0, v1, hd]
        · by_cases v1 : v = E1 x
          · simp [v0, v1, hd.symm]
          · simp [v0, v1]
      · exact absurd (h'.trans h''.symm) hc
/-- The cycle of an edge that is no tree edge. -/
structure Sol (n V : Nat) (E0 E1 : Nat → Nat) (cl : Nat → Nat → Int) (x : Nat) (a : Nat → Int) : Prop where
  one : a x = 1
  off : ∀ e, e < n → ¬ treE E0 E1 cl e → e ≠ x → a e = 0
  sum : ∀ v, v < V → Sv n E0 E1 a v = 0
  lim : ∀ e, -65536 ≤ a e ∧ a e ≤ 65536
theorem sol_ex (F : Fo n V B E0 E1 cl) (hn : n ≤ 16) {x : Nat} (hx : x < n) (ht : ¬ treE E0 E1 cl x) : ∃ a, Sol n V E0 E1 cl x a := by
  have hc : cl x (E0 x) = cl x (E1 x) := by
    by_cases h : cl x (E0 x) = cl x (E1 x)
    · exact h
    · exact absurd h ht
  have h0 := F.l0 hx
  have h1 := (F.e1 x hx).2
  have hd : E0 x ≠ E1 x := by have := F.e0 x hx; have := F.e1 x hx; omega
  have s0 : sgV B (E0 x) = 1 := by unfold sgV; rw [if_pos (F.e0 x hx)]
  have s1 : sgV B (E1 x) = -1 := by unfold sgV; rw [if_neg (by have := (F.e1 x hx).1; omega)]
  obtain ⟨a, g1, g2, g3⟩ := con_ex F x (by omega) _ _ h0 h1 hc
  have ax : a x = 0 := by
    by_cases e : a x = 0
    · exact e
    · have := (g1 x e).1; omega
  have pl : (2 : Int) ^ x ≤ 65536 := by
    have : (2 : Int) ^ x ≤ 2 ^ 16 := by
      rw [show (2 : Int) ^ x = ((2 ^ x : Nat) : Int) by simp, show (2 : Int) ^ 16 = ((2 ^ 16 : Nat) : Int) by simp]
      exact Int.ofNat_le.2 (Nat.pow_le_pow_right (by omega) (by omega))
    simpa using this
  refine ⟨fun e => (if e = x then 1 else 0) + - a e, by simp [ax], fun e he hne hex => ?_, fun v hv => ?_, fun e => ?_⟩
  · have : a e = 0 := by
      by_cases h : a e = 0
      · exact h
      · exact absurd (g1 e h).2 hne
    simp [hex, this]
  · rw [Sv_add (a := fun e => if e = x then 1 else 0) (b := fun e => - a e), Sv_one hx, Sv_neg, g3 v hv, s0, s1]
    rw [inc_if]
    by_cases v0 : v = E0 x
    · have v1 : ¬ v = E1 x := fun e => hd (v0.symm.trans e)
      simp [v0, v1, hd]
    · by_cases v1 : v = E1 x
      · simp [v0, v1, hd.symm]
      · simp [v0, v1]
  · have := g2 e
    split <;> omega
end
end Go.Proofs.Ytcleiehdddjicaa.Sep

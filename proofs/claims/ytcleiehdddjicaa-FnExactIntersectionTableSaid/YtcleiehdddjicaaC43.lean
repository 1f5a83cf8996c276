/- The cycle of an edge: the plain law of the reference's rounds. -/
import Derived.Test.YtcleiehdddjicaaC38
namespace Go.Proofs.Ytcleiehdddjicaa.Sep
open Go.RowKit
set_option linter.unusedVariables false
set_option linter.unusedSimpArgs false
set_option maxRecDepth 20000
set_option maxHeartbeats 1000000

/-- How many have no number yet. -/
def unk (kn : List Bool) : Nat → Nat
  | 0 => 0
  | k + 1 => unk kn k + if gb kn k = true then 0 else 1
theorem unk_le {kn : List Bool} : ∀ k, unk kn k ≤ k
  | 0 => Nat.le_refl _
  | k + 1 => by have := unk_le (kn := kn) k; simp only [unk]; split <;> omega
theorem unk_set {kn : List Bool} {e : Nat} (he : e < kn.length) (hu : gb kn e = false) : ∀ k, unk (kn.set e true) k + (if e < k then 1 else 0) = unk kn k
  | 0 => by simp [unk]
  | k + 1 => by
    have ih := unk_set he hu k
    have hg : gb (kn.set e true) k = if e = k then true else gb kn k := by
      rw [gb_set]
      by_cases h : e = k
      · subst h; rw [if_pos ⟨rfl, he⟩, if_pos rfl]
      · rw [if_neg (fun h' => h h'.1), if_neg h]
    simp only [unk, hg]
    by_cases h : e = k
    · subst h
      simp only [Nat.lt_irrefl, if_false] at ih
      simp only [hu, if_true, Bool.false_eq_true, if_false]
      rw [if_pos (by omega)]
      omega
    · rw [if_neg h]
      by_cases h2 : e < k
      · rw [if_pos h2] at ih; rw [if_pos (show e < k + 1 by omega)]; omega
      · rw [if_neg h2] at ih; rw [if_neg (show ¬ e < k + 1 by omega)]; omega
theorem unk_zero {kn : List Bool} : ∀ k, unk kn k = 0 → ∀ e, e < k → gb kn e = true
  | 0, _, e, he => absurd he (Nat.not_lt_zero e)
  | k + 1, h, e, he => by
    simp only [unk] at h
    by_cases h2 : e = k
    · subst h2
      cases hg : gb kn e with
      | true => rfl
      | false => rw [hg] at h; simp at h
    · exact unk_zero k (by omega) e (by omega)
theorem unk_pos {kn : List Bool} : ∀ k, 0 < unk kn k → ∃ e, e < k ∧ gb kn e = false
  | 0, h => by simp [unk] at h
  | k + 1, h => by
    simp only [unk] at h
    cases hg : gb kn k with
    | false => exact ⟨k, by omega, hg⟩
    | true =>
      rw [hg] at h
      obtain ⟨e, h1, h2⟩ := unk_pos k (by simpa using h)
      exact ⟨e, by omega, h2⟩
/-- How many of a list have no number yet, and the last of these. -/
def mis (kn : List Bool) (c : List Int) : Nat → Nat
  | 0 => 0
  | s + 1 => if gb kn (gi c s).toNat = true then mis kn c s else mis kn c s + 1
def atF (kn : List Bool) (c : List Int) : Nat → Int
  | 0 => 0
  | s + 1 => if gb kn (gi c s).toNat = true then atF kn c s else gi c s
theorem mis_le {kn : List Bool} {c : List Int} : ∀ s, mis kn c s ≤ s
  | 0 => Nat.le_refl _
  | s + 1 => by have := mis_le (kn := kn) (c := c) s; simp only [mis]; split <;> omega
theorem mis_zero {kn : List Bool} {c : List Int} : ∀ s, mis kn c s = 0 → ∀ j, j < s → gb kn (gi c j).toNat = true
  | 0, _, j, hj => absurd hj (Nat.not_lt_zero j)
  | s + 1, h, j, hj => by
    simp only [mis] at h
    split at h
    · rename_i hg
      by_cases e : j = s
      · subst e; exact hg
      · exact mis_zero s h j (by omega)
    · omega
theorem mis_one {kn : List Bool} {c : List Int} : ∀ s, mis kn c s = 1 → ∃ j, j < s ∧ atF kn c s = gi c j ∧ gb kn (gi c j).toNat = false ∧ ∀ j', j' < s → gb kn (gi c j').toNat = false → j' = j
  | 0, h => by simp [mis] at h
  | s + 1, h => by
    simp only [mis] at h
    simp only [atF]
    split at h
    · rename_i hg
      obtain ⟨j, h1, h2, h3, h4⟩ := mis_one s h
      refine ⟨j, by omega, by rw [if_pos hg]; exact h2, h3, fun j' hj' hu => ?_⟩
      by_cases e : j' = s
      · subst e; rw [hg] at hu; cases hu
      · exact h4 j' (by omega) hu
    · rename_i hg
      have hg' : gb kn (gi c s).toNat = false := by simpa using hg
      refine ⟨s, by omega, by rw [if_neg hg], hg', fun j' hj' hu => ?_⟩
      by_cases e : j' = s
      · exact e
      · have := mis_zero (kn := kn) (c := c) s (by omega) j' (by omega)
        rw [this] at hu; cases hu
theorem mis_is_one {kn : List Bool} {c : List Int} {j : Nat} : ∀ s, j < s → gb kn (gi c j).toNat = false → (∀ j', j' < s → gb kn (gi c j').toNat = false → j' = j) → mis kn c s = 1
  | 0, h, _, _ => absurd h (Nat.not_lt_zero j)
  | s + 1, h, hu, hone => by
    simp only [mis]
    by_cases e : j = s
    · subst e
      rw [if_neg (by rw [hu]; simp)]
      have : ∀ k, k ≤ j → mis kn c k = 0 := by
        intro k
        induction k with
        | zero => intro _; rfl
        | succ k ih =>
          intro hk
          simp only [mis]
          rw [if_pos, ih (by omega)]
          cases hg : gb kn (gi c k).toNat with
          | true => rfl
          | false => have := hone k (by omega) hg; omega
      rw [this j (Nat.le_refl _)]
    · have hs : gb kn (gi c s).toNat = true := by
        cases hg : gb kn (gi c s).toNat with
        | true => rfl
        | false => have := hone s (by omega) hg; omega
      rw [if_pos hs]
      exact mis_is_one s (by omega) hu fun j' hj' hu' => hone j' (by omega) hu'
structure Cs (b w : List Int) (n : Int) (a : Nat → Int) (out : List Int) (kn : List Bool) : Prop where
  ol : out.length = n.toNat
  kl : kn.length = 16
  tr : ∀ e : Nat, e < n.toNat → gb kn e = false → treE (E0F b n) (E1F b w n) (clF b w n) e
  zero : ∀ e : Nat, e < n.toNat → gb kn e = false → gi out e = 0
  don : ∀ e : Nat, e < n.toNat → gb kn e = true → gi out e = a e
section
variable {b w : List Int} {n : Int} {a : Nat → Int} {out : List Int} {kn : List Bool} {x : Nat}
theorem Cs.lim (h : Cs b w n a out kn) (hs : SolD b w n x a) : ∀ e : Nat, -65536 ≤ gi out e ∧ gi out e ≤ 65536 := fun e => by
  by_cases he : e < n.toNat
  · cases hk : gb kn e with
    | false => rw [h.zero e he hk]; omega
    | true => rw [h.don e he hk]; exact hs.lim e
  · rw [gi_over (by rw [h.ol]; omega)]; omega
theorem Cs.step (hb : lo16 b) (hw : lo16 w) (pb : ltP b n) (pw : ltP w n) (hn : 1 ≤ n ∧ n ≤ 16) (h : Cs b w n a out kn) (hs : SolD b w n x a) {v : Nat} (hv : v < (allV b w n).length)
    (hm : mis kn (gl (allV b w n) v) (gl (allV b w n) v).length = 1) :
    ∃ e : Nat, atF kn (gl (allV b w n) v) (gl (allV b w n) v).length = e ∧ e < n.toNat ∧ gb kn e = false ∧
      Cs b w n a (out.set e (-sumT out (gl (allV b w n) v) (gl (allV b w n) v).length)) (kn.set e true) := by
  obtain ⟨j, h1, h2, h3, h4⟩ := mis_one _ hm
  have hA := (allV_at pb pw hn _ (gl_mem hv)).1
  have hmem : gi (gl (allV b w n) v) j ∈ gl (allV b w n) v := by rw [gi_of h1]; exact List.getElem_mem _
  have hr := hA _ hmem
  obtain ⟨e, he⟩ : ∃ e : Nat, gi (gl (allV b w n) v) j = e := ⟨(gi (gl (allV b w n) v) j).toNat, by omega⟩
  rw [he] at h2 h3 hmem hr
  simp only [Int.toNat_natCast] at h3
  have hen : e < n.toNat := by omega
  have hin : incE (E0F b n) (E1F b w n) e v := (inc_iff hb hw pb pw hn (by omega) hv).1 hmem
  have hval : -sumT out (gl (allV b w n) v) (gl (allV b w n) v).length = a e := by
    rw [sumT_Sv hb hw pb pw hn hv]
    have g1 : Sv n.toNat (E0F b n) (E1F b w n) a v = Sv n.toNat (E0F b n) (E1F b w n) (fun y => gi out y + (if y = e then a e else 0)) v := by
      unfold Sv
      refine smE_congr _ fun y hy => ?_
      by_cases hi2 : incE (E0F b n) (E1F b w n) y v
      · rw [if_pos hi2, if_pos hi2]
        show a y = gi out y + (if y = e then a e else 0)
        by_cases hye : y = e
        · subst hye; rw [if_pos rfl, h.zero y hy h3]; omega
        · rw [if_neg hye]
          have hk : gb kn y = true := by
            cases hk : gb kn y with
            | true => rfl
            | false =>
              obtain ⟨j', hj', hje⟩ := List.getElem_of_mem ((inc_iff hb hw pb pw hn (by omega) hv).2 hi2)
              have := h4 j' hj' (by rw [gi_of hj', hje]; simpa using hk)
              subst this
              rw [gi_of hj', hje] at he
              exact absurd (by omega) hye
          rw [h.don y hy hk]; omega
      · rw [if_neg hi2, if_neg hi2]
    rw [hs.sum v hv, Sv_add (a := fun y => gi out y), Sv_one hen, if_pos hin] at g1
    omega
  refine ⟨e, h2, hen, h3, ?_⟩
  rw [hval]
  have hg : ∀ y, gb (kn.set e true) y = if e = y then true else gb kn y := fun y => by
    rw [gb_set]
    by_cases hy : e = y
    · subst hy; rw [if_pos ⟨rfl, by rw [h.kl]; omega⟩, if_pos rfl]
    · rw [if_neg (fun h' => hy h'.1), if_neg hy]
  have ho : ∀ y : Nat, y < n.toNat → gi (out.set e (a e)) y = if e = y then a e else gi out y := fun y hy => by
    rw [gi_set, h.ol]
    by_cases hye : e = y
    · subst hye; rw [if_pos ⟨rfl, hy⟩, if_pos rfl]
    · rw [if_neg (fun h' => hye h'.1), if_neg hye]
  refine ⟨by rw [List.length_set]; exact h.ol, by rw [List.length_set]; exact h.kl, fun y hy hk => ?_, fun y hy hk => ?_, fun y hy hk => ?_⟩
  · rw [hg] at hk
    split at hk
    · cases hk
    · exact h.tr y hy hk
  · rw [hg] at hk
    rw [ho y hy]
    split at hk
    · cases hk
    · rename_i hne; rw [if_neg hne]; exact h.zero y hy hk
  · rw [hg] at hk
    rw [ho y hy]
    split at hk
    · rename_i hye; subst hye; rw [if_pos rfl]
    · rename_i hne; rw [if_neg hne]; exact h.don y hy hk
theorem Cs.leaf (hb : lo16 b) (hw : lo16 w) (pb : ltP b n) (pw : ltP w n) (hn : 1 ≤ n ∧ n ≤ 16) (h : Cs b w n a out kn) (h0 : 0 < unk kn n.toNat) :
    ∃ t, t < (allV b w n).length ∧ mis kn (gl (allV b w n) t) (gl (allV b w n) t).length = 1 := by
  have F := dFo hb hw pb pw hn
  obtain ⟨e0, q1, q2⟩ := unk_pos _ h0
  have hV : 0 < (allV b w n).length := by have := F.e1 e0 q1; omega
  obtain ⟨t, e, -, ht, ⟨hen, hek⟩, hin, hu⟩ := leaf_ex F n.toNat (Nat.le_refl _) (fun e => e < n.toNat ∧ gb kn e = false) (fun e he => ⟨he.1, h.tr e he.1 he.2⟩) ⟨e0, q1, q2⟩ 0 hV
  have hA := (allV_at pb pw hn _ (gl_mem ht)).1
  have hnd := allV_nd hb hw ht
  obtain ⟨j, hj, hje⟩ := List.getElem_of_mem ((inc_iff hb hw pb pw hn (by omega) ht).2 hin)
  refine ⟨t, ht, mis_is_one (j := j) _ hj (by rw [gi_of hj, hje]; simpa using hek) fun j' hj' hk => ?_⟩
  have hm' : gi (gl (allV b w n) t) j' ∈ gl (allV b w n) t := by rw [gi_of hj']; exact List.getElem_mem _
  have hr := hA _ hm'
  have h1 := hu (gi (gl (allV b w n) t) j').toNat ⟨by omega, hk⟩ ((inc_iff hb hw pb pw hn (by omega) ht).1 (by rw [show (((gi (gl (allV b w n) t) j').toNat : Nat) : Int) = gi (gl (allV b w n) t) j' by omega]; exact hm'))
  have h2 : (gl (allV b w n) t)[j'] = (gl (allV b w n) t)[j] := by
    rw [hje, ← gi_of hj']; omega
  exact (List.getElem_inj hnd).1 h2
theorem Cs.init (hb : lo16 b) (hw : lo16 w) (pb : ltP b n) (pw : ltP w n) (hn : 1 ≤ n ∧ n ≤ 16) (hs : SolD b w n x a) (hx : x < n.toNat) (hxt : gb (treeM b w n) x = false) (hkl : kn.length = 16)
    (hk : ∀ e, e < n.toNat → gb kn e = !gb (treeM b w n) e) : Cs b w n a ((List.replicate n.toNat 0).set x 1) kn := by
  have hg : ∀ e : Nat, gi ((List.replicate n.toNat 0).set x 1) e = if e = x then 1 else 0 := fun e => by
    rw [gi_set, gi_rep0, List.length_replicate]
    by_cases h : x = e
    · subst h; rw [if_pos ⟨rfl, hx⟩, if_pos rfl]
    · rw [if_neg (fun h' => h h'.1), if_neg (fun h' => h h'.symm)]
  refine ⟨by simp, hkl, fun e he h => ?_, fun e he h => ?_, fun e he h => ?_⟩
  · rw [hk e he] at h
    exact (tree_iff hb hw pb pw hn (by omega)).1 (by simpa using h)
  · rw [hk e he] at h
    rw [hg, if_neg]
    rintro rfl
    rw [hxt] at h; cases h
  · rw [hk e he] at h
    rw [hg]
    by_cases hex : e = x
    · subst hex; rw [if_pos rfl, hs.one]
    · rw [if_neg hex, hs.off e he (fun ht => ?_) hex]
      rw [(tree_iff hb hw pb pw hn (by omega)).2 ht] at h
      cases h
end
end Go.Proofs.Ytcleiehdddjicaa.Sep

/- Sets of fractions in order: the plain law. -/
import Derived.Test.YtppkppmkjjbbgaaC65
namespace Go.Proofs.Ytppkppmkjjbbgaa.Sep
open Go.RowKit
set_option linter.unusedVariables false
set_option linter.unusedSimpArgs false
set_option maxRecDepth 20000

/-! ### The order of fractions -/
theorem cmpF_refl {a : Int × Int} : cmpF a a = 0 := by unfold cmpF cmpFr; simp
theorem cmpF_eq {a b : Int × Int} (h : cmpF a b = 0) : a = b := by
  unfold cmpF cmpFr at h
  split at h
  · rename_i e; exact Prod.ext e.1 e.2
  · split at h
    · cases h
    · split at h
      · cases h
      · split at h <;> cases h
theorem cross_ne {n d m e : Int} (h1 : 0 < d) (h2 : 0 < e) (c1 : cop n d) (c2 : cop m e) (h : n * e = m * d) : n = m ∧ d = e := rd_uniq h1 h2 c1 c2 h
theorem isF_iff {a : Int × Int} : isF a = true ↔ (-1000000000 ≤ a.1 ∧ a.1 ≤ 1000000000 ∧ 0 ≤ a.2 ∧ a.2 ≤ 1000000000 ∧ Int.gcd a.1 a.2 = 1 ∧ (0 < a.2 ∨ a.1 = 1)) := isFr_iff
theorem cmpF_lt {a b : Int × Int} (ha : isF a = true) (hb : isF b = true) : cmpF a b < 0 ↔ a.2 ≠ 0 ∧ (b.2 = 0 ∨ a.1 * b.2 < b.1 * a.2) := by
  rw [isF_iff] at ha hb
  obtain ⟨n, d⟩ := a
  obtain ⟨m, e⟩ := b
  simp only at *
  unfold cmpF cmpFr
  simp only
  split
  · rename_i h; obtain ⟨rfl, rfl⟩ := h
    constructor
    · intro h; omega
    · rintro ⟨h1, h2 | h2⟩
      · exact absurd h2 h1
      · omega
  · split
    · constructor
      · intro h; omega
      · rintro ⟨h1, _⟩; exact absurd (by assumption) h1
    · split
      · constructor
        · intro _; exact ⟨by assumption, .inl (by assumption)⟩
        · intro _; omega
      · split
        · constructor
          · intro _; exact ⟨by assumption, .inr (by assumption)⟩
          · intro _; omega
        · constructor
          · intro h; omega
          · rintro ⟨_, h | h⟩
            · exact absurd h (by assumption)
            · exact absurd h (by assumption)
theorem cmpF_trans {a b c : Int × Int} (ha : isF a = true) (hb : isF b = true) (hc : isF c = true) (h1 : cmpF a b < 0) (h2 : cmpF b c < 0) : cmpF a c < 0 := by
  rw [cmpF_lt ha hb] at h1
  rw [cmpF_lt hb hc] at h2
  rw [cmpF_lt ha hc]
  rw [isF_iff] at ha hb hc
  refine ⟨h1.1, ?_⟩
  by_cases hz : c.2 = 0
  · exact .inl hz
  · right
    have g1 : a.1 * b.2 < b.1 * a.2 := by rcases h1.2 with h | h; exact absurd h h2.1; exact h
    have g2 : b.1 * c.2 < c.1 * b.2 := by rcases h2.2 with h | h; exact absurd h hz; exact h
    have e0 : 0 < b.2 := by omega
    have k1 : a.1 * b.2 * c.2 < b.1 * a.2 * c.2 := Int.mul_lt_mul_of_pos_right g1 (by omega)
    have k2 : b.1 * c.2 * a.2 < c.1 * b.2 * a.2 := Int.mul_lt_mul_of_pos_right g2 (by omega)
    refine Int.lt_of_mul_lt_mul_left (a := b.2) ?_ (by omega)
    calc b.2 * (a.1 * c.2) = a.1 * b.2 * c.2 := by ac_rfl
      _ < b.1 * a.2 * c.2 := k1
      _ = b.1 * c.2 * a.2 := by ac_rfl
      _ < c.1 * b.2 * a.2 := k2
      _ = _ := by ac_rfl
theorem cmpF_gt {a b : Int × Int} (ha : isF a = true) (hb : isF b = true) (h : ¬ cmpF a b < 0) (hne : a ≠ b) : cmpF b a < 0 := by
  rw [cmpF_lt hb ha]
  rw [cmpF_lt ha hb] at h
  rw [isF_iff] at ha hb
  have b2 : b.2 ≠ 0 := by
    intro hz
    by_cases ha2 : a.2 = 0
    · exact hne (Prod.ext (by omega) (by omega))
    · exact h ⟨ha2, .inl hz⟩
  refine ⟨b2, ?_⟩
  by_cases ha2 : a.2 = 0
  · exact .inl ha2
  · right
    have h1 : ¬ a.1 * b.2 < b.1 * a.2 := fun h' => h ⟨ha2, .inr h'⟩
    have h2 : a.1 * b.2 ≠ b.1 * a.2 := by
      intro h'
      obtain ⟨e1, e2⟩ := cross_ne (by omega) (by omega) ha.2.2.2.2.1 hb.2.2.2.2.1 h'
      exact hne (Prod.ext e1 e2)
    omega
theorem cmpF_asym {a b : Int × Int} (ha : isF a = true) (hb : isF b = true) (h : cmpF a b < 0) : ¬ cmpF b a < 0 := fun h' => by
  have := cmpF_trans ha hb ha h h'
  rw [cmpF_refl] at this; omega
theorem leF_trans {a b c : Int × Int} (ha : isF a = true) (hb : isF b = true) (hc : isF c = true) (h1 : ¬ cmpF b a < 0) (h2 : ¬ cmpF c b < 0) : ¬ cmpF c a < 0 := by
  intro h
  by_cases e1 : a = b
  · subst e1; exact h2 h
  · exact h2 (cmpF_trans hc ha hb h (cmpF_gt hb ha h1 (fun e => e1 e.symm)))

/-! ### Lists in strict order -/
def allF (l : List (Int × Int)) : Prop := ∀ a ∈ l, isF a = true
def strF (l : List (Int × Int)) : Prop := l.Pairwise fun a b => cmpF a b < 0
theorem strF_ext {l m : List (Int × Int)} (hl : allF l) (hm : allF m) (sl : strF l) (sm : strF m) (h : ∀ x, x ∈ l ↔ x ∈ m) : l = m := by
  induction l generalizing m with
  | nil =>
    cases m with
    | nil => rfl
    | cons b m => exact absurd ((h b).2 (by simp)) (by simp)
  | cons a l ih =>
    cases m with
    | nil => exact absurd ((h a).1 (by simp)) (by simp)
    | cons b m =>
      unfold strF at sl sm
      rw [List.pairwise_cons] at sl sm
      have fa := hl a (by simp)
      have fb := hm b (by simp)
      have hab : a = b := by
        rcases List.mem_cons.1 ((h a).1 (by simp)) with h1 | h1
        · exact h1
        · rcases List.mem_cons.1 ((h b).2 (by simp)) with h2 | h2
          · exact h2.symm
          · exact absurd (sl.1 b h2) (cmpF_asym fb fa (sm.1 a h1))
      subst hab
      rw [ih (m := m) (fun x hx => hl x (by simp [hx])) (fun x hx => hm x (by simp [hx])) sl.2 sm.2 ?_]
      intro x
      have irr : ∀ x, cmpF a x < 0 → x ≠ a := by rintro x h1 rfl; rw [cmpF_refl] at h1; omega
      constructor
      · intro hx
        rcases List.mem_cons.1 ((h x).1 (by simp [hx])) with h1 | h1
        · exact absurd h1 (irr x (sl.1 x hx))
        · exact h1
      · intro hx
        rcases List.mem_cons.1 ((h x).2 (by simp [hx])) with h1 | h1
        · exact absurd h1 (irr x (sm.1 x hx))
        · exact h1
/-- A fraction put into its place. -/
def insF (y : Int × Int) : List (Int × Int) → List (Int × Int)
  | [] => [y]
  | a :: s => if cmpF a y < 0 then a :: insF y s else if a = y then a :: s else y :: a :: s
theorem insF_mem {y : Int × Int} {s : List (Int × Int)} : ∀ x, x ∈ insF y s ↔ x = y ∨ x ∈ s := by
  induction s with
  | nil => intro x; simp [insF]
  | cons a s ih =>
    intro x
    simp only [insF]
    split
    · simp only [List.mem_cons, ih x]
      constructor
      · rintro (h | h | h) <;> simp [h]
      · rintro (h | h | h) <;> simp [h]
    · split
      · rename_i e; subst e
        simp
      · simp
theorem insF_all {y : Int × Int} {s : List (Int × Int)} (hy : isF y = true) (hs : allF s) : allF (insF y s) := by
  intro x hx
  rcases (insF_mem x).1 hx with rfl | h
  · exact hy
  · exact hs x h
theorem insF_str {y : Int × Int} {s : List (Int × Int)} (hy : isF y = true) (hs : allF s) (h : strF s) : strF (insF y s) := by
  induction s with
  | nil => simp [insF, strF]
  | cons a s ih =>
    unfold strF at h
    rw [List.pairwise_cons] at h
    have fa := hs a (by simp)
    have fs : allF s := fun x hx => hs x (by simp [hx])
    simp only [insF]
    split
    · rename_i h1
      unfold strF
      rw [List.pairwise_cons]
      refine ⟨fun x hx => ?_, ih fs h.2⟩
      rcases (insF_mem x).1 hx with rfl | h2
      · exact h1
      · exact h.1 x h2
    · split
      · unfold strF; rw [List.pairwise_cons]; exact h
      · rename_i h1 h2
        have h3 := cmpF_gt fa hy h1 h2
        unfold strF
        rw [List.pairwise_cons]
        refine ⟨fun x hx => ?_, by rw [List.pairwise_cons]; exact h⟩
        rcases List.mem_cons.1 hx with rfl | h4
        · exact h3
        · exact cmpF_trans hy fa (fs x h4) h3 (h.1 x h4)
theorem insF_len {y : Int × Int} {s : List (Int × Int)} : (insF y s).length ≤ s.length + 1 := by
  induction s with
  | nil => simp [insF]
  | cons a s ih =>
    simp only [insF]
    split
    · simp only [List.length_cons]; omega
    · split <;> simp
/-- How spec finds the place. -/
theorem insF_at {y : Int × Int} {s : List (Int × Int)} {k : Nat} (hk : k ≤ s.length) (h1 : ∀ j, j < k → cmpF (g2 s j) y < 0) (h2 : k < s.length → ¬ cmpF (g2 s k) y < 0) :
    insF y s = if k = s.length ∨ g2 s k ≠ y then s.take k ++ y :: s.drop k else s := by
  induction s generalizing k with
  | nil =>
    have : k = 0 := by simpa using hk
    subst this
    simp [insF]
  | cons a s ih =>
    cases k with
    | zero =>
      have h3 : ¬ cmpF a y < 0 := h2 (by simp)
      have h4 : g2 (a :: s) 0 = a := rfl
      simp only [insF]
      rw [if_neg h3, h4]
      by_cases e : a = y
      · subst e; simp
      · simp [e]
    | succ k =>
      have h3 : cmpF a y < 0 := h1 0 (by omega)
      have h4 : ∀ j, g2 (a :: s) (j + 1) = g2 s j := fun j => rfl
      simp only [insF]
      rw [if_pos h3, ih (k := k) (by simpa using hk) (fun j hj => h1 (j + 1) (by omega)) (fun h => h2 (by simpa using h)), h4]
      simp only [List.length_cons, Nat.add_right_cancel_iff, List.take_succ_cons, List.drop_succ_cons, List.cons_append]
      split <;> rfl
def srtF (l : List (Int × Int)) : List (Int × Int) := l.foldl (fun s y => insF y s) []
theorem srtF_snoc {l : List (Int × Int)} {y : Int × Int} : srtF (l ++ [y]) = insF y (srtF l) := by simp [srtF]
theorem srtF_spec {l : List (Int × Int)} (h : allF l) : allF (srtF l) ∧ strF (srtF l) ∧ (∀ x, x ∈ srtF l ↔ x ∈ l) ∧ (srtF l).length ≤ l.length := by
  generalize hn : l.length = n
  induction n generalizing l with
  | zero =>
    have : l = [] := List.length_eq_zero_iff.1 hn
    subst this
    exact ⟨fun a ha => absurd ha (by simp [srtF]), by simp [srtF, strF], by simp [srtF], by simp [srtF]⟩
  | succ n ih =>
    obtain ⟨m, y, rfl⟩ : ∃ m y, l = m ++ [y] := ⟨l.dropLast, l.getLast (by intro e; subst e; simp at hn), (List.dropLast_concat_getLast _).symm⟩
    have hm : allF m := fun a ha => h a (by simp [ha])
    have hy : isF y = true := h y (by simp)
    obtain ⟨i1, i2, i3, i4⟩ := ih hm (by simpa using hn)
    rw [srtF_snoc]
    refine ⟨insF_all hy i1, insF_str hy i1 i2, fun x => ?_, ?_⟩
    · rw [insF_mem x, i3 x]; simp [or_comm]
    · have := insF_len (y := y) (s := srtF m)
      omega

/-! ### Lists in weak order, without what is there twice -/
def wkF (l : List (Int × Int)) (n : Nat) : Prop := ∀ p q, p < q → q < n → ¬ cmpF (g2 l q) (g2 l p) < 0
def ddF (l : List (Int × Int)) : Nat → List (Int × Int)
  | 0 => []
  | 1 => [g2 l 0]
  | i + 2 => if g2 l (i + 1) = g2 l i then ddF l (i + 1) else ddF l (i + 1) ++ [g2 l (i + 1)]
theorem ddF_len {l : List (Int × Int)} {i : Nat} : (ddF l i).length ≤ i := by
  induction i with
  | zero => simp [ddF]
  | succ i ih =>
    cases i with
    | zero => simp [ddF]
    | succ i =>
      simp only [ddF]
      split
      · omega
      · simp only [List.length_append, List.length_cons, List.length_nil]; omega
theorem ddF_mem {l : List (Int × Int)} {i : Nat} : ∀ x, x ∈ ddF l i ↔ ∃ j, j < i ∧ x = g2 l j := by
  induction i with
  | zero => intro x; simp [ddF]
  | succ i ih =>
    intro x
    cases i with
    | zero => simp [ddF]
    | succ i =>
      simp only [ddF]
      split
      · rename_i e
        rw [ih x]
        constructor
        · rintro ⟨j, hj, rfl⟩; exact ⟨j, by omega, rfl⟩
        · rintro ⟨j, hj, rfl⟩
          by_cases h : j = i + 1
          · subst h; exact ⟨i, by omega, e⟩
          · exact ⟨j, by omega, rfl⟩
      · rw [List.mem_append, ih x]
        simp only [List.mem_cons, List.not_mem_nil, or_false]
        constructor
        · rintro (⟨j, hj, rfl⟩ | rfl)
          · exact ⟨j, by omega, rfl⟩
          · exact ⟨i + 1, by omega, rfl⟩
        · rintro ⟨j, hj, rfl⟩
          by_cases h : j = i + 1
          · subst h; exact .inr rfl
          · exact .inl ⟨j, by omega, rfl⟩
theorem ddF_str {l : List (Int × Int)} {i n : Nat} (hF : ∀ j, j < n → isF (g2 l j) = true) (h : wkF l n) (hi : i ≤ n) : strF (ddF l i) := by
  induction i with
  | zero => simp [ddF, strF]
  | succ i ih =>
    cases i with
    | zero => simp [ddF, strF]
    | succ i =>
      have hs := ih (by omega)
      simp only [ddF]
      split
      · exact hs
      · rename_i hne
        unfold strF
        rw [List.pairwise_append]
        refine ⟨hs, by simp, fun a ha b hb => ?_⟩
        simp only [List.mem_cons, List.not_mem_nil, or_false] at hb
        subst hb
        obtain ⟨j, hj, rfl⟩ := (ddF_mem a).1 ha
        -- g2 l j ≤ g2 l i < g2 l (i+1)
        have h1 : cmpF (g2 l i) (g2 l (i + 1)) < 0 := cmpF_gt (hF _ (by omega)) (hF _ (by omega)) (h i (i + 1) (by omega) (by omega)) hne
        by_cases e : g2 l j = g2 l i
        · rw [e]; exact h1
        · have hj2 : j < i := by
            have : j ≠ i := by rintro rfl; exact e rfl
            omega
          exact cmpF_trans (hF _ (by omega)) (hF _ (by omega)) (hF _ (by omega)) (cmpF_gt (hF _ (by omega)) (hF _ (by omega)) (h j i hj2 (by omega)) (fun e' => e e'.symm)) h1
theorem mem_g2 {l : List (Int × Int)} {x : Int × Int} : x ∈ l ↔ ∃ j, j < l.length ∧ x = g2 l j := by
  constructor
  · intro h
    obtain ⟨j, hj, rfl⟩ := List.getElem_of_mem h
    exact ⟨j, hj, by simp [g2, List.getD, hj]⟩
  · rintro ⟨j, hj, rfl⟩
    have : g2 l j = l[j] := by simp [g2, List.getD, hj]
    rw [this]; exact List.getElem_mem _
/-- Sorting and leaving out doubles is putting into place one by one. -/
theorem ddF_srt {l m : List (Int × Int)} (hl : allF l) (hm : ∀ x, x ∈ m ↔ x ∈ l) (hw : wkF m m.length) : ddF m m.length = srtF l := by
  obtain ⟨s1, s2, s3, _⟩ := srtF_spec hl
  have hF : ∀ j, j < m.length → isF (g2 m j) = true := fun j hj => hl _ ((hm _).1 (mem_g2.2 ⟨j, hj, rfl⟩))
  refine strF_ext (fun a ha => ?_) s1 (ddF_str hF hw (Nat.le_refl _)) s2 fun x => ?_
  · obtain ⟨j, hj, rfl⟩ := (ddF_mem a).1 ha
    exact hF j hj
  · rw [s3 x, ddF_mem x, ← hm x, mem_g2]
/-! ### The image of a list -/
def imO (k f l : Int) : List (Int × Int) → Option (List (Int × Int))
  | [] => some []
  | x :: s => (mvO k f l x.1 x.2).bind fun y => (imO k f l s).map (y :: ·)
theorem imO_app {k f l : Int} {s t : List (Int × Int)} : imO k f l (s ++ t) = (imO k f l s).bind fun a => (imO k f l t).map (a ++ ·) := by
  induction s with
  | nil => simp [imO]
  | cons x s ih =>
    simp only [List.cons_append, imO, ih]
    cases mvO k f l x.1 x.2 with
    | none => rfl
    | some y =>
      simp only [Option.bind_some]
      cases imO k f l s with
      | none => rfl
      | some a =>
        simp only [Option.bind_some, Option.map_some]
        cases imO k f l t <;> rfl
theorem imO_yes {k f l : Int} {s a : List (Int × Int)} {i : Nat} {y : Int × Int} (hi : i < s.length) (h : imO k f l (s.take i) = some a) (hy : mvO k f l (g2 s i).1 (g2 s i).2 = some y) :
    imO k f l (s.take (i + 1)) = some (a ++ [y]) := by
  have e : s.take (i + 1) = s.take i ++ [g2 s i] := by
    rw [← List.take_append_getElem hi]; congr 2; simp [g2, List.getD, hi]
  rw [e, imO_app, h]
  simp only [imO, hy, Option.bind_some, Option.map_some]
theorem imO_no {k f l : Int} {s : List (Int × Int)} {i : Nat} (hi : i < s.length) (hy : mvO k f l (g2 s i).1 (g2 s i).2 = none) : imO k f l s = none := by
  have e : s = s.take i ++ g2 s i :: s.drop (i + 1) := by
    conv => lhs; rw [← List.take_append_drop i s]
    rw [drop_getD (d := (0, 0)) hi]; rfl
  rw [e, imO_app]
  simp only [imO, hy, Option.bind_none, Option.map_none]
  cases imO k f l (s.take i) <;> rfl
theorem imO_all {k f l : Int} {s a : List (Int × Int)} (hm : isMoveB k f l = true) (hs : allF s) (h : imO k f l s = some a) : allF a ∧ a.length = s.length := by
  induction s generalizing a with
  | nil => simp only [imO, Option.some.injEq] at h; subst h; exact ⟨fun a ha => absurd ha (by simp), rfl⟩
  | cons x s ih =>
    simp only [imO] at h
    cases hx : mvO k f l x.1 x.2 with
    | none => rw [hx] at h; simp at h
    | some y =>
      rw [hx] at h
      simp only [Option.bind_some] at h
      cases ht : imO k f l s with
      | none => rw [ht] at h; simp at h
      | some b =>
        rw [ht] at h
        simp only [Option.map_some, Option.some.injEq] at h
        subst h
        obtain ⟨i1, i2⟩ := ih (fun z hz => hs z (by simp [hz])) ht
        refine ⟨fun z hz => ?_, by simp [i2]⟩
        rcases List.mem_cons.1 hz with rfl | hz
        · exact mvO_fr (hs x (by simp)) hm hx
        · exact i1 z hz
/-- The image of a set. -/
def imS (k f l : Int) (s : List (Int × Int)) : Option (List (Int × Int)) := (imO k f l s).map srtF
end Go.Proofs.Ytppkppmkjjbbgaa.Sep

/- Stabiliser words: as many as the dart's number tells and one more, all of them words, each leads the dart 0 to itself. -/
import Derived.Test.YtjklebickfcddaaDoorC85
namespace Go.Proofs.YtjklebickfcddaaDoor.Sep
open Go.RowKit
set_option linter.unusedVariables false
set_option linter.unusedSimpArgs false
set_option maxRecDepth 20000
set_option maxHeartbeats 1000000

/-! ### Positive words -/
def posI (l : List Int) : Prop := ∀ x ∈ l, x = 120 ∨ x = 121
theorem redT_fold {t : List Int} : ∀ i, i ≤ t.length → redT t i = (t.take i).foldl redS []
  | 0, _ => by simp [redT]
  | i + 1, h => by rw [take_one (by omega), List.foldl_append, ← redT_fold i (by omega)]; rfl
theorem fold_pos : ∀ {r u : List Int}, posI u → posI r → r.foldl redS u = u ++ r
  | [], u, _, _ => by simp
  | x :: r, u, hu, hr => by
    have hx := hr x (List.mem_cons_self ..)
    have e : redS u x = u ++ [x] := by
      rcases snoc_cases u with rfl | ⟨m, a, rfl⟩
      · rw [redS_nil]; rfl
      · have ha := hu a (by simp)
        rw [redS_snoc, if_neg]
        rcases hx with rfl | rfl <;> rcases ha with rfl | rfl <;> decide
    simp only [List.foldl_cons]
    rw [e, fold_pos (fun y hy => by
      rcases List.mem_append.1 hy with h | h
      · exact hu y h
      · rw [List.mem_singleton.1 h]; exact hx) fun y hy => hr y (List.mem_cons_of_mem _ hy)]
    simp
theorem fold_neg : ∀ {r o : List Int} {a : Int}, (a = 88 ∨ a = 89) → posI r → (r.map othL).foldl redS (o ++ [a]) ≠ []
  | [], o, a, _, _ => by simp
  | x :: r, o, a, ha, hr => by
    have hx := hr x (List.mem_cons_self ..)
    simp only [List.map_cons, List.foldl_cons]
    rw [redS_snoc, if_neg (by rcases hx with rfl | rfl <;> rcases ha with rfl | rfl <;> decide)]
    exact fold_neg (by rcases hx with rfl | rfl <;> decide) fun y hy => hr y (List.mem_cons_of_mem _ hy)
theorem fold_back : ∀ {r u : List Int}, posI u → posI r → ((r.map othL).foldl redS u = [] ↔ u = r.reverse)
  | [], u, _, _ => by simp
  | x :: r, u, hu, hr => by
    have hx := hr x (List.mem_cons_self ..)
    have hr' : posI r := fun y hy => hr y (List.mem_cons_of_mem _ hy)
    have hneg : othL x = 88 ∨ othL x = 89 := by rcases hx with rfl | rfl <;> decide
    have htw : othL (othL x) = x := by rcases hx with rfl | rfl <;> rfl
    simp only [List.map_cons, List.foldl_cons, List.reverse_cons]
    rcases snoc_cases u with rfl | ⟨m, a, rfl⟩
    · rw [redS_nil]
      constructor
      · intro h; exact absurd h (fold_neg (o := []) hneg hr')
      · intro h; have := congrArg List.length h; simp at this
    · rw [redS_snoc, htw]
      by_cases h : a = x
      · rw [if_pos h, fold_back (fun y hy => hu y (List.mem_append_left _ hy)) hr', h]
        constructor
        · intro e; rw [e]
        · intro e; exact List.append_cancel_right e
      · rw [if_neg h]
        constructor
        · intro e; exact absurd e (fold_neg hneg hr')
        · intro e
          have := (List.append_inj' e rfl).2
          simp at this; exact absurd this h
def posB (s : List UInt8) : Prop := ∀ c ∈ s, c = 120 ∨ c = 121
theorem posB.ub {s : List UInt8} (h : posB s) : posI (ub s) := fun x hx => by
  obtain ⟨c, hc, rfl⟩ := List.mem_map.1 hx
  rcases h c hc with rfl | rfl
  · exact .inl rfl
  · exact .inr rfl
theorem posB.lets {s : List UInt8} (h : posB s) : lets (Sep.ub s) := mem_lets fun x hx => by
  rcases h.ub x hx with rfl | rfl
  · exact .inl rfl
  · exact .inr (.inr (.inl rfl))
theorem red_nil {u v : List UInt8} {c : UInt8} (hu : posB u) (hc : c = 120 ∨ c = 121) (hv : posB v) : red (u ++ [c] ++ inv v) = [] ↔ u ++ [c] = v := by
  have hp : posB (u ++ [c]) := fun d hd => by
    rcases List.mem_append.1 hd with h | h
    · exact hu d h
    · rw [List.mem_singleton.1 h]; exact hc
  have e : redT (ub (u ++ [c] ++ inv v)) (u ++ [c] ++ inv v).length = ((ub v).reverse.map othL).foldl redS (ub (u ++ [c])) := by
    rw [redT_fold _ (by rw [ub_len]; exact Nat.le_refl _), List.take_of_length_le (by rw [ub_len]; exact Nat.le_refl _), ub_app (s := u ++ [c]), List.foldl_append, fold_pos (fun x hx => by simp at hx) hp.ub, ub_inv', List.map_reverse]
    rfl
  have hs : red (u ++ [c] ++ inv v) = [] ↔ ((ub v).reverse.map othL).foldl redS (ub (u ++ [c])) = [] := by
    unfold red; rw [e]; simp [sb]
  rw [hs, fold_back hp.ub fun x hx => hv.ub x (List.mem_reverse.1 hx), List.reverse_reverse]
  constructor
  · intro h; rw [← sb_ub (s := u ++ [c]), h, sb_ub]
  · intro h; rw [h]

/-! ### The search, step by step -/
def srT (p q : List Int) : Nat → Sr
  | 0 => srX 0
  | k + 1 => srStep p q k (srT p q k)
theorem srRun_T {p q : List Int} : ∀ (m i : Nat), ∃ k, srRun p q m i (srT p q i) = srT p q k ∧ i ≤ k ∧ (∀ j, i ≤ j → j < k → j < (srT p q j).1.length) ∧ (k = i + m ∨ (srT p q k).1.length ≤ k)
  | 0, i => ⟨i, rfl, Nat.le_refl _, fun j a b => absurd b (by omega), .inl rfl⟩
  | m + 1, i => by
    simp only [srRun]
    split
    · rename_i hi
      obtain ⟨k, e, h1, h2, h3⟩ := srRun_T (p := p) (q := q) m (i + 1)
      refine ⟨k, e, by omega, fun j a b => ?_, by omega⟩
      by_cases hj : j = i
      · rw [hj]; exact hi
      · exact h2 j (by omega) b
    · exact ⟨i, rfl, Nat.le_refl _, fun j a b => absurd b (by omega), .inr (by omega)⟩
structure Sx (n : Int) (s : Sr) : Prop where
  l2 : s.2.length = 16
  nd : s.1.Nodup
  has : ∀ y : Nat, y < 16 → (gb s.2 y = true ↔ (y : Int) ∈ s.1)
  lt : ∀ y ∈ s.1, 0 ≤ y ∧ y < n
variable {n : Int} {b w : List Int}
theorem Sx.zero (hn : 1 ≤ n ∧ n ≤ 16) : Sx n (srX 0) := by
  refine ⟨by simp [srX], by simp [srX], fun y hy => ?_, fun y hy => ?_⟩
  · simp only [srX, List.mem_singleton]
    rw [gb_set, gb_rep]
    simp
    omega
  · simp only [srX, List.mem_singleton] at hy; omega
theorem Sx.visit (hn : 1 ≤ n ∧ n ≤ 16) {s : Sr} (h : Sx n s) {y : Int} (hy : 0 ≤ y ∧ y < n) : Sx n (visit y s) := by
  unfold Sep.visit
  split
  · exact h
  · rename_i hv
    have hno : y ∉ s.1 := fun hm => hv ((h.has y.toNat (by omega)).2 (by rw [show ((y.toNat : Nat) : Int) = y from by omega]; exact hm))
    refine ⟨by simp [h.l2], ?_, fun x hx => ?_, fun x hx => ?_⟩
    · refine List.nodup_append.2 ⟨h.nd, by simp, fun a ha c hc e => ?_⟩
      rw [List.mem_singleton.1 hc] at e
      exact hno (e ▸ ha)
    · simp only [List.mem_append, List.mem_singleton]
      rw [gb_set, h.l2]
      by_cases e : y.toNat = x
      · rw [if_pos ⟨e, hx⟩]
        exact ⟨fun _ => .inr (by omega), fun _ => rfl⟩
      · rw [if_neg fun h' => e h'.1, h.has x hx]
        exact ⟨fun h => .inl h, fun h => h.elim id fun h' => absurd (by omega) e⟩
    · rcases List.mem_append.1 hx with hx | hx
      · exact h.lt x hx
      · rw [List.mem_singleton.1 hx]; exact hy
theorem srT_ok (D : Dn n b w) : ∀ k, (∀ j, j < k → j < (srT b w j).1.length) → Sx n (srT b w k)
  | 0, _ => Sx.zero D.hn
  | k + 1, h => by
    have ih := srT_ok D k fun j hj => h j (by omega)
    have hk := h k (by omega)
    have hm : gi (srT b w k).1 k ∈ (srT b w k).1 := by rw [gi_of hk]; exact List.getElem_mem hk
    have hz := ih.lt _ hm
    have h1 := D.pb.ltP D.ob (gi (srT b w k).1 k).toNat (by omega)
    have h2 := D.pw.ltP D.ow (gi (srT b w k).1 k).toNat (by omega)
    exact Sx.visit D.hn (Sx.visit D.hn ih h1) h2
theorem nd_sub : ∀ {l m : List Nat}, l.Nodup → (∀ x ∈ l, x ∈ m) → l.length ≤ m.length
  | [], m, _, _ => Nat.zero_le _
  | x :: l, m, hl, h => by
    have hx := h x (List.mem_cons_self ..)
    have ih := nd_sub (l := l) (m := m.erase x) (List.nodup_cons.1 hl).2 fun y hy => by
      have hne : y ≠ x := fun e => (List.nodup_cons.1 hl).1 (e ▸ hy)
      exact (List.mem_erase_of_ne hne).2 (h y (List.mem_cons_of_mem _ hy))
    rw [List.length_erase_of_mem hx] at ih
    have := List.length_pos_of_mem hx
    simp only [List.length_cons]; omega
/-- What the search from 0 in a dessin yields. -/
structure Srch (n : Int) (b w : List Int) : Prop where
  len : (stbO b w).length = n.toNat
  at_ : ∀ j, j < n.toNat → j < (srT b w j).1.length
  pre : ∀ k, k ≤ n.toNat → ∀ j, j < (srT b w k).1.length → gi (srT b w k).1 j = gi (stbO b w) j
  nd : (stbO b w).Nodup
  lt : ∀ y ∈ stbO b w, 0 ≤ y ∧ y < n
  all : ∀ y : Nat, (y : Int) < n → (y : Int) ∈ stbO b w
  fin : stbO b w = (srT b w n.toNat).1
theorem srch (D : Dn n b w) (hc : (cntR b w : Int) = n) : Srch n b w := by
  have hn := D.hn
  obtain ⟨k, e, _, h2, h3⟩ := srRun_T (p := b) (q := w) 17 0
  have hL : stbO b w = (srT b w k).1 := by
    show (srRun b w 17 0 (srX 0)).1 = _
    rw [← e]; rfl
  have hlen : (stbO b w).length = n.toNat := by
    have : (stbO b w).length = cntR b w := rfl
    omega
  have hmono : ∀ i j, i ≤ j → (srT b w i).1.length ≤ (srT b w j).1.length := fun i j hij => by
    induction j with
    | zero => rw [show i = 0 from by omega]; exact Nat.le_refl _
    | succ j ih =>
      by_cases h : i = j + 1
      · rw [h]; exact Nat.le_refl _
      · exact Nat.le_trans (ih (by omega)) srStep_len
  rw [hL] at hlen
  have hk : k = n.toNat := by
    have h4 : k ≤ n.toNat := by
      by_cases h0 : k = 0
      · omega
      · have := h2 (k - 1) (by omega) (by omega)
        have := hmono (k - 1) k (by omega)
        omega
    rcases h3 with h3 | h3 <;> omega
  subst hk
  have h2' : ∀ j, j < n.toNat → j < (srT b w j).1.length := fun j hj => h2 j (Nat.zero_le _) hj
  have hx := srT_ok D n.toNat h2'
  have hpre : ∀ d k, k + d = n.toNat → ∀ j, j < (srT b w k).1.length → gi (srT b w k).1 j = gi (srT b w n.toNat).1 j := fun d => by
    induction d with
    | zero => intro k hk j hj; rw [show k = n.toNat from by omega]
    | succ d ih =>
      intro k hk j hj
      rw [← ih (k + 1) (by omega) j (Nat.lt_of_lt_of_le hj srStep_len)]
      exact (srStep_pre hj).symm
  refine ⟨by rw [hL]; exact hlen, h2', fun k hk j hj => ?_, by rw [hL]; exact hx.nd, by rw [hL]; exact hx.lt, fun y hy => ?_, hL⟩
  · rw [hL]; exact hpre (n.toNat - k) k (by omega) j hj
  · rw [hL]
    refine Classical.byContradiction fun hno => ?_
    have hnd : (y :: (srT b w n.toNat).1.map Int.toNat).Nodup := by
      refine List.nodup_cons.2 ⟨fun hm => ?_, List.pairwise_map.2 (List.Pairwise.imp_of_mem ?_ hx.nd)⟩
      · obtain ⟨z, hz, ez⟩ := List.mem_map.1 hm
        have := hx.lt z hz
        rw [show z = (y : Int) from by omega] at hz
        exact hno hz
      · intro a c ha hc hne ee
        have := hx.lt a ha
        have := hx.lt c hc
        omega
    have := nodup_len n.toNat _ hnd fun z hz => by
      rcases List.mem_cons.1 hz with rfl | hz
      · omega
      · obtain ⟨u, hu, rfl⟩ := List.mem_map.1 hz
        have := hx.lt u hu
        omega
    simp [hlen] at this
    omega

/-! ### The ways -/
abbrev Pr := Nat × UInt8
def tg (n : Int) (b w : List Int) (e : Pr) : Int := stp n b w e.1 (e.2.toNat : Int)
theorem tg_x {z : Nat} : tg n b w (z, 120) = gi b z := by simp [tg, stp, ltrP]
theorem tg_y {z : Nat} : tg n b w (z, 121) = gi w z := by simp [tg, stp, ltrP]
structure Wi (n : Int) (b w : List Int) (s : Wy) : Prop where
  l1 : s.1.length = 16
  l2 : s.2.length = 16
  h0 : gb s.2 0 = true
  w0 : gt s.1 0 = []
  pos : ∀ y, posB (gt s.1 y)
  run : ∀ y : Nat, gb s.2 y = true → Sep.run n b w (ub (gt s.1 y)) 0 = y
  par : ∀ y : Nat, gb s.2 y = true → y = 0 ∨ ∃ (z : Nat) (c : UInt8), gb s.2 z = true ∧ (c = 120 ∨ c = 121) ∧ gt s.1 y = gt s.1 z ++ [c]
theorem Wi.zero : Wi n b w wy0 := by
  have hg : ∀ y, gt wy0.1 y = [] := fun y => by simp only [wy0]; rw [gt_rep]
  refine ⟨by simp [wy0], by simp [wy0], rfl, hg 0, fun y c hc => by rw [hg] at hc; simp at hc, fun y hy => ?_, fun y hy => .inl ?_⟩
  · rw [hg]
    simp only [wy0, gb_set, gb_rep] at hy
    simp at hy
    rw [← hy.1]; rfl
  · simp only [wy0, gb_set, gb_rep] at hy
    simp at hy
    omega
theorem ub_one {c : UInt8} : ub [c] = [(c.toNat : Int)] := rfl
theorem Wi.v {s : Wy} (h : Wi n b w s) {z : Nat} {c : UInt8} {y : Int} (hc : c = 120 ∨ c = 121) (hz : gb s.2 z = true) (hy : 0 ≤ y ∧ y < 16) (e : stp n b w z (c.toNat : Int) = y) : Wi n b w (wyV z c y s) := by
  by_cases hv : gb s.2 y.toNat = true
  · rw [wyV_yes hv]; exact h
  · have hv' : gb s.2 y.toNat = false := by simpa using hv
    rw [wyV_no hv']
    have hzy : y.toNat ≠ z := fun e => hv (e ▸ hz)
    have h0y : y.toNat ≠ 0 := fun e => hv (e ▸ h.h0)
    refine ⟨by simp [h.l1], by simp [h.l2], ?_, ?_, fun x => ?_, fun x hx => ?_, fun x hx => ?_⟩
    · simp only [gb_set]; rw [if_neg fun h' => h0y h'.1]; exact h.h0
    · simp only [gt_set]; rw [if_neg fun h' => h0y h'.1]; exact h.w0
    · simp only [gt_set]
      split
      · intro d hd
        rcases List.mem_append.1 hd with hd | hd
        · exact h.pos z d hd
        · rw [List.mem_singleton.1 hd]; exact hc
      · exact h.pos x
    · simp only [gt_set, gb_set] at hx ⊢
      by_cases e' : y.toNat = x
      · rw [if_pos ⟨e', by rw [h.l1]; omega⟩, ub_app, run_app, h.run z hz, ub_one, run_one, e]; omega
      · rw [if_neg fun h' => e' h'.1] at hx ⊢
        exact h.run x hx
    · simp only [gt_set, gb_set] at hx ⊢
      by_cases e' : y.toNat = x
      · right
        refine ⟨z, c, ?_, hc, ?_⟩
        · rw [if_neg fun h' => hzy h'.1]; exact hz
        · rw [if_pos ⟨e', by rw [h.l1]; omega⟩, if_neg fun h' => hzy h'.1]
      · rw [if_neg fun h' => e' h'.1] at hx
        rcases h.par x hx with h1 | ⟨z', c', h1, h2, h3⟩
        · exact .inl h1
        · right
          have hz' : y.toNat ≠ z' := fun e => hv (e ▸ h1)
          refine ⟨z', c', ?_, h2, ?_⟩
          · rw [if_neg fun h' => hz' h'.1]; exact h1
          · rw [if_neg fun h' => e' h'.1, if_neg fun h' => hz' h'.1]; exact h3
theorem wyV_has {s : Wy} {z x : Nat} {c : UInt8} {y : Int} (hz : gb s.2 x = true) : gb (wyV z c y s).2 x = true ∧ gt (wyV z c y s).1 x = gt s.1 x := by
  by_cases hv : gb s.2 y.toNat = true
  · rw [wyV_yes hv]; exact ⟨hz, rfl⟩
  · rw [wyV_no (by simpa using hv)]
    have hzy : y.toNat ≠ x := fun e => hv (e ▸ hz)
    simp only [gb_set, gt_set]
    rw [if_neg fun h' => hzy h'.1, if_neg fun h' => hzy h'.1]
    exact ⟨hz, rfl⟩
theorem wyV_ln {s : Wy} {z m : Nat} {c : UInt8} {y : Int} (h : ∀ j, (gt s.1 j).length ≤ m) (hz : (gt s.1 z).length + 1 ≤ m) : ∀ j, (gt (wyV z c y s).1 j).length ≤ m := fun j => by
  unfold wyV
  split
  · exact h j
  · simp only [gt_set]
    split
    · simp; omega
    · exact h j
theorem wy_all (D : Dn n b w) (hs : Srch n b w) : ∀ k, k ≤ n.toNat → Wi n b w (wyR b w (stbO b w) k) ∧ (∀ j, (gt (wyR b w (stbO b w) k).1 j).length ≤ k) ∧ (wyR b w (stbO b w) k).2 = (srT b w k).2
  | 0, _ => ⟨Wi.zero, fun j => by simp only [wyR, wy0]; rw [gt_rep]; exact Nat.le_refl _, rfl⟩
  | k + 1, hk => by
    have hn := D.hn
    obtain ⟨h1, h2, h3⟩ := wy_all D hs k (by omega)
    have hkl := hs.at_ k (by omega)
    have hx := srT_ok D k fun j hj => hs.at_ j (by omega)
    have hg := hs.pre k (by omega) k hkl
    have hm : gi (srT b w k).1 k ∈ (srT b w k).1 := by rw [gi_of hkl]; exact List.getElem_mem hkl
    have hz := hx.lt _ hm
    have e0 : ((gi (stbO b w) k).toNat : Int) = gi (stbO b w) k := by rw [← hg]; omega
    have hhas : gb (wyR b w (stbO b w) k).2 (gi (stbO b w) k).toNat = true := by
      rw [h3]
      refine (hx.has _ (by rw [← hg]; omega)).2 ?_
      rw [e0, ← hg]; exact hm
    have y1 := D.pb.ltP D.ob (gi (stbO b w) k).toNat (by rw [e0, ← hg]; omega)
    have y2 := D.pw.ltP D.ow (gi (stbO b w) k).toNat (by rw [e0, ← hg]; omega)
    simp only [wyR, wyS]
    have ha := h1.v (c := 120) (.inl rfl) hhas (y := gi b (gi (stbO b w) k).toNat) (by omega) tg_x
    have hb := wyV_has (z := (gi (stbO b w) k).toNat) (c := 120) (y := gi b (gi (stbO b w) k).toNat) hhas
    refine ⟨ha.v (.inr rfl) hb.1 (by omega) tg_y, ?_, ?_⟩
    · refine wyV_ln (wyV_ln (fun j => Nat.le_succ_of_le (h2 j)) (Nat.succ_le_succ (h2 _))) ?_
      rw [hb.2]; exact Nat.succ_le_succ (h2 _)
    · simp only [srT, srStep, hg]
      exact wyV_mk (wyV_mk h3)
/-- The ways at the end. -/
structure Fw (n : Int) (b w : List Int) (W : List (List UInt8)) : Prop where
  w0 : gt W 0 = []
  pos : ∀ y, posB (gt W y)
  run : ∀ y : Nat, (y : Int) < n → Sep.run n b w (ub (gt W y)) 0 = y
  par : ∀ y : Nat, (y : Int) < n → y = 0 ∨ ∃ (z : Nat) (c : UInt8), (z : Int) < n ∧ (c = 120 ∨ c = 121) ∧ gt W y = gt W z ++ [c]
  len : ∀ y, (gt W y).length ≤ 16
theorem fw (D : Dn n b w) (hs : Srch n b w) : Fw n b w (stbW b w) := by
  have hn := D.hn
  obtain ⟨h1, h2, h3⟩ := wy_all D hs n.toNat (Nat.le_refl _)
  have hx := srT_ok D n.toNat hs.at_
  have he : stbW b w = (wyR b w (stbO b w) n.toNat).1 := by unfold stbW; rw [hs.len]
  have hhas : ∀ y : Nat, y < 16 → (gb (wyR b w (stbO b w) n.toNat).2 y = true ↔ (y : Int) < n) := fun y hy => by
    rw [h3, hx.has y hy, ← hs.fin]
    exact ⟨fun h => (hs.lt _ h).2, fun h => hs.all y h⟩
  rw [he]
  refine ⟨h1.w0, h1.pos, fun y hy => h1.run y ((hhas y (by omega)).2 hy), fun y hy => ?_, fun y => Nat.le_trans (h2 y) (by omega)⟩
  rcases h1.par y ((hhas y (by omega)).2 hy) with h | ⟨z, c, a1, a2, a3⟩
  · exact .inl h
  · have hz : z < 16 := by
      refine Classical.byContradiction fun h => ?_
      rw [gb_over (by rw [h1.l2]; omega)] at a1; cases a1
    exact .inr ⟨z, c, (hhas z hz).1 a1, a2, a3⟩

/-! ### How many words -/
def prR (L : List Int) : Nat → List Pr
  | 0 => []
  | k + 1 => prR L k ++ [((gi L k).toNat, 120), ((gi L k).toNat, 121)]
def emp2 (n : Int) (b w : List Int) (W : List (List UInt8)) (e : Pr) : Bool := decide (red (outW W e.1 e.2 (tg n b w e)) = [])
theorem out_cnt {W : List (List UInt8)} {L : List Int} : ∀ k, (outR b w W L k).length + ((prR L k).filter (emp2 n b w W)).length = 2 * k
  | 0 => rfl
  | k + 1 => by
    have ih := out_cnt (W := W) (L := L) k
    have hv : ∀ {z : Nat} {c : UInt8} {y : Int} {o : List (List UInt8)}, (outV W z c y o).length + (if red (outW W z c y) = [] then 1 else 0) = o.length + 1 := by
      intro z c y o
      unfold outV
      split <;> simp
    have e1 : emp2 n b w W ((gi L k).toNat, 120) = decide (red (outW W (gi L k).toNat 120 (gi b (gi L k).toNat)) = []) := by unfold emp2; rw [tg_x]
    have e2 : emp2 n b w W ((gi L k).toNat, 121) = decide (red (outW W (gi L k).toNat 121 (gi w (gi L k).toNat)) = []) := by unfold emp2; rw [tg_y]
    have a1 := hv (z := (gi L k).toNat) (c := 120) (y := gi b (gi L k).toNat) (o := outR b w W L k)
    have a2 := hv (z := (gi L k).toNat) (c := 121) (y := gi w (gi L k).toNat) (o := outV W (gi L k).toNat 120 (gi b (gi L k).toNat) (outR b w W L k))
    have f : ∀ (p q : Prop) [Decidable p] [Decidable q] (x y : Pr), (if decide p = true then x :: (if decide q = true then [y] else []) else if decide q = true then [y] else []).length = (if p then 1 else 0) + if q then 1 else 0 := by
      intro p q _ _ x y
      by_cases hp : p <;> by_cases hq : q <;> simp [hp, hq]
    simp only [outR, outS, prR, List.filter_append, List.length_append, List.filter_cons, List.filter_nil, e1, e2]
    rw [f]
    omega
theorem prR_mem {L : List Int} {e : Pr} : ∀ k, e ∈ prR L k ↔ ∃ j, j < k ∧ e.1 = (gi L j).toNat ∧ (e.2 = 120 ∨ e.2 = 121)
  | 0 => by simp [prR]
  | k + 1 => by
    simp only [prR, List.mem_append, List.mem_cons, List.not_mem_nil, or_false]
    rw [prR_mem k]
    constructor
    · rintro (⟨j, h1, h2, h3⟩ | rfl | rfl)
      · exact ⟨j, by omega, h2, h3⟩
      · exact ⟨k, by omega, rfl, .inl rfl⟩
      · exact ⟨k, by omega, rfl, .inr rfl⟩
    · rintro ⟨j, h1, h2, h3⟩
      by_cases hj : j = k
      · subst hj
        rcases h3 with h3 | h3
        · exact .inr (.inl (by rw [← h2, ← h3]))
        · exact .inr (.inr (by rw [← h2, ← h3]))
      · exact .inl ⟨j, by omega, h2, h3⟩
theorem prR_nd {L : List Int} (hl : ∀ i j, i < j → j < L.length → (gi L i).toNat ≠ (gi L j).toNat) : ∀ k, k ≤ L.length → (prR L k).Nodup
  | 0, _ => List.nodup_nil
  | k + 1, hk => by
    refine List.nodup_append.2 ⟨prR_nd hl k (by omega), by simp, fun a ha c hc e => ?_⟩
    subst e
    obtain ⟨j, h1, h2, _⟩ := (prR_mem k).1 ha
    have : a.1 = (gi L k).toNat := by
      simp only [List.mem_cons, List.not_mem_nil, or_false] at hc
      rcases hc with rfl | rfl <;> rfl
    exact hl j k h1 (by omega) (by rw [← h2, this])
theorem emp_iff {W : List (List UInt8)} (F : Fw n b w W) {e : Pr} (he : e.2 = 120 ∨ e.2 = 121) : emp2 n b w W e = true ↔ gt W e.1 ++ [e.2] = gt W (tg n b w e).toNat := by
  unfold emp2 outW
  rw [decide_eq_true_eq]
  exact red_nil (F.pos _) he (F.pos _)
theorem emp_cnt (D : Dn n b w) (hs : Srch n b w) {W : List (List UInt8)} (F : Fw n b w W) : ((prR (stbO b w) n.toNat).filter (emp2 n b w W)).length + 1 = n.toNat := by
  have hn := D.hn
  have hmem : ∀ e ∈ (prR (stbO b w) n.toNat).filter (emp2 n b w W), (e.1 : Int) < n ∧ (e.2 = 120 ∨ e.2 = 121) ∧ gt W e.1 ++ [e.2] = gt W (tg n b w e).toNat ∧ 0 ≤ tg n b w e ∧ tg n b w e < n := by
    intro e he
    obtain ⟨h1, h2⟩ := List.mem_filter.1 he
    obtain ⟨j, hj, e1, e2⟩ := (prR_mem _).1 h1
    have hm : gi (stbO b w) j ∈ stbO b w := by rw [gi_of (by rw [hs.len]; exact hj)]; exact List.getElem_mem _
    have hz := hs.lt _ hm
    have hlt : (e.1 : Int) < n := by omega
    exact ⟨hlt, e2, (emp_iff F e2).1 h2, stp_lt D (x := (e.1 : Int)) ⟨by omega, hlt⟩⟩
  have hpn : (prR (stbO b w) n.toNat).Nodup := by
    refine prR_nd (fun i j hij hj e => ?_) _ (by rw [hs.len]; exact Nat.le_refl _)
    have hi : i < (stbO b w).length := by omega
    have a1 := hs.lt _ (by rw [gi_of hi]; exact List.getElem_mem hi : gi (stbO b w) i ∈ stbO b w)
    have a2 := hs.lt _ (by rw [gi_of hj]; exact List.getElem_mem hj : gi (stbO b w) j ∈ stbO b w)
    have : gi (stbO b w) i = gi (stbO b w) j := by omega
    rw [gi_of hi, gi_of hj] at this
    have := (List.getElem_inj hs.nd).1 this
    omega
  have hmn : (0 :: ((prR (stbO b w) n.toNat).filter (emp2 n b w W)).map fun e => (tg n b w e).toNat).Nodup := by
    refine List.nodup_cons.2 ⟨fun h0 => ?_, List.pairwise_map.2 (List.Pairwise.imp_of_mem ?_ (hpn.filter _))⟩
    · obtain ⟨e, he, e0⟩ := List.mem_map.1 h0
      obtain ⟨_, _, h3, _⟩ := hmem e he
      rw [e0, F.w0] at h3
      simp at h3
    · intro a c ha hc hne e
      obtain ⟨a1, a2, a3, a4⟩ := hmem a ha
      obtain ⟨c1, c2, c3, c4⟩ := hmem c hc
      rw [e] at a3
      have h := List.append_inj' (a3.trans c3.symm) rfl
      have r1 := F.run a.1 a1
      have r2 := F.run c.1 c1
      rw [h.1, r2] at r1
      exact hne (Prod.ext (by omega) (by simpa using h.2))
  have hle := nodup_len n.toNat _ hmn fun x hx => by
    rcases List.mem_cons.1 hx with rfl | hx
    · omega
    · obtain ⟨e, he, rfl⟩ := List.mem_map.1 hx
      have := (hmem e he).2.2.2
      omega
  have hge := nd_sub (l := List.range n.toNat) (m := 0 :: ((prR (stbO b w) n.toNat).filter (emp2 n b w W)).map fun e => (tg n b w e).toNat) List.nodup_range fun y hy => by
    have hy := List.mem_range.1 hy
    rcases F.par y (by omega) with h | ⟨z, c, h1, h2, h3⟩
    · rw [h]; exact List.mem_cons_self ..
    · refine List.mem_cons_of_mem _ (List.mem_map.2 ⟨(z, c), List.mem_filter.2 ⟨?_, ?_⟩, ?_⟩)
      · obtain ⟨j, hj, ej⟩ := List.mem_iff_getElem.1 (hs.all z h1)
        refine (prR_mem _).2 ⟨j, by rw [← hs.len]; exact hj, ?_, h2⟩
        simp only; rw [gi_of hj, ej]; omega
      all_goals
        have ht : tg n b w (z, c) = y := by
          have := F.run y (by omega)
          rw [h3, ub_app, run_app, F.run z h1, ub_one, run_one] at this
          exact this
      · refine (emp_iff F h2).2 ?_
        rw [ht, Int.toNat_natCast, h3]
      · show (tg n b w (z, c)).toNat = y
        rw [ht, Int.toNat_natCast]
  simp only [List.length_cons, List.length_map, List.length_range] at hle hge
  omega
/-- The number of stabiliser words. -/
theorem stbL_cnt (D : Dn n b w) (hs : Srch n b w) : (stbL b w).length = n.toNat + 1 := by
  have h1 := out_cnt (n := n) (b := b) (w := w) (W := stbW b w) (L := stbO b w) n.toNat
  have h2 := emp_cnt D hs (fw D hs)
  unfold stbL
  rw [hs.len]
  omega
theorem outR_mem {W : List (List UInt8)} {L : List Int} {s : List UInt8} : ∀ k, s ∈ outR b w W L k → ∃ j, j < k ∧ ∃ c : UInt8, (c = 120 ∨ c = 121) ∧ s = red (outW W (gi L j).toNat c (tg n b w ((gi L j).toNat, c)))
  | 0, h => by simp [outR] at h
  | k + 1, h => by
    have hv : ∀ {z : Nat} {c : UInt8} {y : Int} {o : List (List UInt8)}, s ∈ outV W z c y o → s ∈ o ∨ s = red (outW W z c y) := by
      intro z c y o h
      unfold outV at h
      split at h
      · exact .inl h
      · rcases List.mem_append.1 h with h | h
        · exact .inl h
        · exact .inr (List.mem_singleton.1 h)
    rcases hv h with h | h
    · rcases hv h with h | h
      · obtain ⟨j, h1, h2⟩ := outR_mem k h
        exact ⟨j, by omega, h2⟩
      · exact ⟨k, by omega, 120, .inl rfl, by rw [tg_x]; exact h⟩
    · exact ⟨k, by omega, 121, .inr rfl, by rw [tg_y]; exact h⟩
/-- The stabiliser words are words and lead 0 to itself. -/
theorem stbL_word (D : Dn n b w) (hs : Srch n b w) {s : List UInt8} (h : s ∈ stbL b w) : lets (ub s) ∧ s.length ≤ 60 ∧ gi (wpA n b w (ub s)) 0 = 0 := by
  have hn := D.hn
  have F := fw D hs
  unfold stbL at h
  obtain ⟨j, hj, c, hc, rfl⟩ := outR_mem (n := n) _ h
  have hm : gi (stbO b w) j ∈ stbO b w := by rw [gi_of hj]; exact List.getElem_mem _
  have hz := hs.lt _ hm
  have hzn : ((gi (stbO b w) j).toNat : Int) < n := by omega
  generalize (gi (stbO b w) j).toNat = z at *
  have hcl : ltr (c.toNat : Int) := by
    rcases hc with rfl | rfl
    · exact ltr120
    · exact ltr121
  obtain ⟨o1, o2⟩ := outW_ok (z := z) (c := c) (y := tg n b w (z, c)) hcl (fun j => (F.pos j).lets) F.len
  refine ⟨red_lets o1, Nat.le_trans red_len (by omega), ?_⟩
  rw [wp_red D o1, wpA_at D (x := 0) (by omega)]
  have ht : 0 ≤ tg n b w (z, c) ∧ tg n b w (z, c) < n := stp_lt D (x := (z : Int)) ⟨by omega, hzn⟩
  have hr := F.run (tg n b w (z, c)).toNat (by omega)
  unfold outW
  rw [ub_app, ub_app, run_app, run_app, ub_one, run_one, ub_inv', show ((0 : Nat) : Int) = 0 from rfl, F.run z hzn]
  have e : stp n b w z (c.toNat : Int) = Sep.run n b w (ub (gt (stbW b w) (tg n b w (z, c)).toNat)) 0 := by
    rw [hr]; show tg n b w (z, c) = _; omega
  rw [e]
  exact run_back D (fun L hL => lets_mem (F.pos _).lets hL) ⟨by omega, by omega⟩
end Go.Proofs.YtjklebickfcddaaDoor.Sep

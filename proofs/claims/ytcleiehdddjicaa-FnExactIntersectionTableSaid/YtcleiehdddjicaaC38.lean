/- The cycle of an edge: the plain law of peeling. -/
import Derived.Test.YtcleiehdddjicaaC36
import Derived.Test.YtcleiehdddjicaaC37
namespace Go.Proofs.Ytcleiehdddjicaa.Sep
open Go.RowKit
set_option linter.unusedVariables false
set_option linter.unusedSimpArgs false
set_option maxRecDepth 20000
set_option maxHeartbeats 1000000

/-! ### Whether a list holds a number -/
theorem c_Index0 {l : List Int} {x : Int} (hl : l.length ≤ 1048576) : PSpec Try.prog 52 [.sl l.length (vi .i64 l), .int .i64 x] fun v => ∃ k : Int, v = .int .i64 k ∧ (0 ≤ k ↔ x ∈ l) ∧ -1 ≤ k ∧ k ≤ 1048576 := by
  refine slices_Index_int64_int64_i_f.f ?_
  simp (disch := first | omega | (simp only [List.length_append, List.length_cons, List.length_nil, List.length_replicate, List.length_set, List.length_take, List.length_drop, vi_len, vb_len, vo_len, vl_len, vn_len]; omega)) only [↓EC, EV, EL, E2, E3, ER, seval, ↓reduceIte, false_imp_iff, slices_Index_int64_int64_i_F]
  refine LP_of (σ := Nat) 100000 [] (fun s => [.int .i64 s]) (fun s => [])
    (fun s => s ≤ l.length ∧ ∀ j, j < s → gi l j ≠ x) (fun s => l.length - s) 0 (by simp [frameOk, names, lpz, sclp, scv, scvs, vi_nrf, vb_nrf, vt_nrf, v2_nrf, v3_nrf, nrfs, nrf, sc_vi, sc_vb, sc_vt, sc_v2, sc_v3, sc_vo, sc_vl, vo_nrf, vl_nrf, sc_vn, vn_nrf]) ⟨Nat.zero_le _, fun j hj => absurd hj (Nat.not_lt_zero j)⟩ ?_ ?_
  · simp (disch := first | omega | (simp only [List.length_append, List.length_cons, List.length_nil, List.length_replicate, List.length_set, List.length_take, List.length_drop, vi_len, vb_len, vo_len, vl_len, vn_len]; omega)) only [↓EC, EV, EL, E2, E3, ER, seval, ↓reduceIte, false_imp_iff, ColV_def]
  · rintro i ⟨h1, h2⟩
    simp (disch := first | omega | (simp only [List.length_append, List.length_cons, List.length_nil, List.length_replicate, List.length_set, List.length_take, List.length_drop, vi_len, vb_len, vo_len, vl_len, vn_len]; omega)) only [↓EC, EV, EL, E2, E3, ER, seval, ↓reduceIte, false_imp_iff, ColV_def, lheap_def]
    (refine Split.mk (fun h => ?_) (fun h => ?_) <;> (try simp only [decide_eq_true_eq, decide_eq_false_iff_not, beq_iff_eq, bne_iff_ne, beq_eq_false_iff_ne, bne_eq_false_iff_eq, Bool.not_eq_true', Bool.not_eq_false', Bool.and_eq_true, Bool.or_eq_true, Bool.and_eq_false_iff, Bool.or_eq_false_iff, Int.not_lt, Int.not_le, Bool.false_eq_true, Bool.true_eq_false, false_and, and_false, true_and, and_true, or_false, false_or, or_true, true_or, not_true_eq_false, not_false_eq_true] at h))
    · (try simp (disch := first | omega | (simp only [List.length_append, List.length_cons, List.length_nil, List.length_replicate, List.length_set, List.length_take, List.length_drop, vi_len, vb_len, vo_len, vl_len, vn_len]; omega)) only [↓EC, EV, EL, E2, E3, ER, seval, ↓reduceIte, false_imp_iff])
      (refine Split.mk (fun h => ?_) (fun h => ?_) <;> (try simp only [decide_eq_true_eq, decide_eq_false_iff_not, beq_iff_eq, bne_iff_ne, beq_eq_false_iff_ne, bne_eq_false_iff_eq, Bool.not_eq_true', Bool.not_eq_false', Bool.and_eq_true, Bool.or_eq_true, Bool.and_eq_false_iff, Bool.or_eq_false_iff, Int.not_lt, Int.not_le, Bool.false_eq_true, Bool.true_eq_false, false_and, and_false, true_and, and_true, or_false, false_or, or_true, true_or, not_true_eq_false, not_false_eq_true] at h))
      · (try simp (disch := first | omega | (simp only [List.length_append, List.length_cons, List.length_nil, List.length_replicate, List.length_set, List.length_take, List.length_drop, vi_len, vb_len, vo_len, vl_len, vn_len]; omega)) only [↓EC, EV, EL, E2, E3, ER, seval, ↓reduceIte, false_imp_iff])
        refine ⟨i, rfl, ⟨fun _ => ?_, fun _ => by omega⟩, by omega, by omega⟩
        rw [h, gi_of (by omega)]
        exact List.getElem_mem _
      · (try simp (disch := first | omega | (simp only [List.length_append, List.length_cons, List.length_nil, List.length_replicate, List.length_set, List.length_take, List.length_drop, vi_len, vb_len, vo_len, vl_len, vn_len]; omega)) only [↓EC, EV, EL, E2, E3, ER, seval, ↓reduceIte, false_imp_iff])
        refine ⟨i + 1, by simp, ⟨by omega, fun j hj => ?_⟩, by omega⟩
        by_cases e : j = i
        · subst e; exact fun h' => h h'.symm
        · exact h2 j (by omega)
    · (try simp (disch := first | omega | (simp only [List.length_append, List.length_cons, List.length_nil, List.length_replicate, List.length_set, List.length_take, List.length_drop, vi_len, vb_len, vo_len, vl_len, vn_len]; omega)) only [↓EC, EV, EL, E2, E3, ER, seval, ↓reduceIte, false_imp_iff])
      refine ⟨-1, rfl, ⟨fun h => by omega, fun hx => ?_⟩, by omega, by omega⟩
      obtain ⟨j, hj, rfl⟩ := List.getElem_of_mem hx
      exact absurd (gi_of hj) (h2 j (by omega))
theorem c_Contains0 {l : List Int} {x : Int} {n : Nat} (hn : l.length = n) (hl : n ≤ 1048576) : PSpec Try.prog 31 [.sl n (vi .i64 l), .int .i64 x] fun v => v = .bool (decide (x ∈ l)) := by
  subst hn
  refine slices_Contains_int64_int64_i_f.f ?_
  simp (disch := first | omega | (simp only [List.length_append, List.length_cons, List.length_nil, List.length_replicate, List.length_set, List.length_take, List.length_drop, vi_len, vb_len, vo_len, vl_len, vn_len]; omega)) only [↓EC, EV, EL, E2, E3, ER, seval, ↓reduceIte, false_imp_iff, slices_Contains_int64_int64_i_F]
  refine pcd_r (c_Index0 hl) ?_
  rintro _ ⟨k, rfl, h1, h2, h3⟩
  (try simp (disch := first | omega | (simp only [List.length_append, List.length_cons, List.length_nil, List.length_replicate, List.length_set, List.length_take, List.length_drop, vi_len, vb_len, vo_len, vl_len, vn_len]; omega)) only [↓EC, EV, EL, E2, E3, ER, seval, ↓reduceIte, false_imp_iff])
  simp only [h1]
theorem c_slices_Clone0 {l : List Int} (h0 : 0 < l.length) (hl : l.length ≤ 1048576) : PSpec Try.prog 53 [.sl l.length (vi .i64 l)] fun v => v = .own 2 1 l.length (vi .i64 l) := by
  refine slices_Clone_int64_int64_i_f.f ?_
  simp (disch := first | omega | (simp only [List.length_append, List.length_cons, List.length_nil, List.length_replicate, List.length_set, List.length_take, List.length_drop, vi_len, vb_len, vo_len, vl_len, vn_len]; omega)) only [↓EC, EV, EL, E2, E3, ER, seval, ↓reduceIte, false_imp_iff, slices_Clone_int64_int64_i_F, vnilS_pos h0]

/-! ### How many of a list lie in another -/
def cnt (r c : List Int) (s : Nat) : Nat := (r.take s).countP fun y => decide (y ∈ c)
theorem cnt_succ {r c : List Int} {s : Nat} (h : s < r.length) : cnt r c (s + 1) = if gi r s ∈ c then cnt r c s + 1 else cnt r c s := by
  unfold cnt
  rw [← List.take_append_getElem h, List.countP_append, ← gi_of h]
  by_cases hc : gi r s ∈ c <;> simp [hc]
theorem cnt_le {r c : List Int} {s : Nat} : cnt r c s ≤ s := by
  unfold cnt
  exact Nat.le_trans (List.countP_le_length) (by rw [List.length_take]; omega)
theorem cnt_one {r c : List Int} {e : Int} (hr : r.Nodup) (he : e ∈ r) (hc : e ∈ c) : cnt r c r.length = 1 ↔ ∀ y ∈ r, y ∈ c → y = e := by
  unfold cnt
  rw [List.take_length, List.countP_eq_length_filter]
  have hm : e ∈ r.filter fun y => decide (y ∈ c) := by rw [List.mem_filter]; exact ⟨he, by simpa using hc⟩
  constructor
  · intro h y hy hyc
    obtain ⟨z, hz⟩ := List.length_eq_one_iff.1 h
    have h1 : y ∈ r.filter fun y => decide (y ∈ c) := by rw [List.mem_filter]; exact ⟨hy, by simpa using hyc⟩
    rw [hz] at h1 hm
    simp only [List.mem_cons, List.not_mem_nil, or_false] at h1 hm
    rw [h1, hm]
  · intro h
    have hn : (r.filter fun y => decide (y ∈ c)).Nodup := hr.filter _
    have hall : ∀ y ∈ r.filter (fun y => decide (y ∈ c)), y = e := fun y hy => by
      rw [List.mem_filter] at hy
      exact h y hy.1 (by simpa using hy.2)
    generalize r.filter (fun y => decide (y ∈ c)) = f at *
    match f, hm, hn, hall with
    | [], hm, _, _ => exact absurd hm (by simp)
    | [_], _, _, _ => rfl
    | x :: y :: _, _, hn, hall =>
      have h1 := hall x (by simp)
      have h2 := hall y (by simp)
      rw [List.nodup_cons] at hn
      exact absurd (by rw [h1, h2]; simp) hn.1

/-! ### Peeling -/
structure Cy (b w : List Int) (n : Int) (a : Nat → Int) (rest out left : List Int) : Prop where
  nd : rest.Nodup
  mem : ∀ y ∈ rest, ∃ e : Nat, y = e ∧ e < n.toNat ∧ treE (E0F b n) (E1F b w n) (clF b w n) e
  ol : out.length = n.toNat
  ll : left.length = (allV b w n).length
  zero : ∀ e : Nat, e < n.toNat → (e : Int) ∈ rest → gi out e = 0
  don : ∀ e : Nat, e < n.toNat → (e : Int) ∉ rest → gi out e = a e
  sum : ∀ v, v < (allV b w n).length → gi left v = Sv n.toNat (E0F b n) (E1F b w n) (fun e => gi out e) v
abbrev SolD (b w : List Int) (n : Int) (x : Nat) (a : Nat → Int) : Prop := Sol n.toNat (allV b w n).length (E0F b n) (E1F b w n) (clF b w n) x a
section
variable {b w : List Int} {n : Int} {a : Nat → Int} {rest out left : List Int} {x : Nat}
theorem Cy.lim (h : Cy b w n a rest out left) (hs : SolD b w n x a) : ∀ e : Nat, -65536 ≤ gi out e ∧ gi out e ≤ 65536 := fun e => by
  by_cases he : e < n.toNat
  · by_cases hr : (e : Int) ∈ rest
    · rw [h.zero e he hr]; omega
    · rw [h.don e he hr]; exact hs.lim e
  · rw [gi_over (by rw [h.ol]; omega)]; omega
theorem Sv_lim {a : Nat → Int} {M : Int} {n : Nat} {E0 E1 : Nat → Nat} {v : Nat} (hM : 0 ≤ M) (h : ∀ e, -M ≤ a e ∧ a e ≤ M) : -(M * n) ≤ Sv n E0 E1 a v ∧ Sv n E0 E1 a v ≤ M * n :=
  smE_lim (fun e => by have := h e; split <;> omega) n
theorem Cy.llim (h : Cy b w n a rest out left) (hs : SolD b w n x a) (hn : 1 ≤ n ∧ n ≤ 16) : ∀ v : Nat, -1048576 ≤ gi left v ∧ gi left v ≤ 1048576 := fun v => by
  by_cases hv : v < (allV b w n).length
  · rw [h.sum v hv]
    have := Sv_lim (a := fun e => gi out e) (M := 65536) (n := n.toNat) (E0 := E0F b n) (E1 := E1F b w n) (v := v) (by omega) (h.lim hs)
    omega
  · rw [gi_over (by rw [h.ll]; omega)]; omega
theorem take_drop_mem {l : List Int} {i : Nat} (hi : i < l.length) (hn : l.Nodup) (y : Int) : y ∈ l.take i ++ l.drop (i + 1) ↔ y ∈ l ∧ y ≠ gi l i := by
  have e : l = l.take i ++ gi l i :: l.drop (i + 1) := by
    conv => lhs; rw [← List.take_append_drop i l, drop_getD (d := 0) hi]
    rfl
  rw [e, List.nodup_append, List.nodup_cons] at hn
  obtain ⟨h1, ⟨h2, h3⟩, h4⟩ := hn
  have h5 : gi l i ∉ l.take i := fun h => h4 _ h _ (by simp) rfl
  conv => rhs; lhs; rw [e]
  simp only [List.mem_append, List.mem_cons]
  constructor
  · rintro (h | h)
    · exact ⟨.inl h, fun h' => h5 (h' ▸ h)⟩
    · exact ⟨.inr (.inr h), fun h' => h2 (h' ▸ h)⟩
  · rintro ⟨h | h | h, h'⟩
    · exact .inl h
    · exact absurd h h'
    · exact .inr h
theorem Cy.step (hb : lo16 b) (hw : lo16 w) (pb : ltP b n) (pw : ltP w n) (hn : 1 ≤ n ∧ n ≤ 16) (h : Cy b w n a rest out left) (hs : SolD b w n x a) {i t : Nat} (hi : i < rest.length) (ht : t < (allV b w n).length)
    (hin : incE (E0F b n) (E1F b w n) (gi rest i).toNat t) (hc : cnt rest (gl (allV b w n) t) rest.length = 1) :
    Cy b w n a (rest.take i ++ rest.drop (i + 1)) (out.set (gi rest i).toNat (-gi left t)) ((left.set (E0F b n (gi rest i).toNat) (gi left (E0F b n (gi rest i).toNat) + -gi left t)).set (E1F b w n (gi rest i).toNat) (gi left (E1F b w n (gi rest i).toNat) + -gi left t)) := by
  have F := dFo hb hw pb pw hn
  have hmem : gi rest i ∈ rest := by rw [gi_of hi]; exact List.getElem_mem _
  obtain ⟨e, he, hel, het⟩ := h.mem _ hmem
  rw [he] at hmem hin ⊢
  simp only [Int.toNat_natCast] at hin ⊢
  have hmi := take_drop_mem hi h.nd
  rw [he] at hmi
  have hec : (e : Int) ∈ gl (allV b w n) t := (inc_iff hb hw pb pw hn (by omega) ht).2 hin
  have hone := (cnt_one h.nd hmem hec).1 hc
  -- the number of the edge
  have hval : -gi left t = a e := by
    have h1 : Sv n.toNat (E0F b n) (E1F b w n) a t = Sv n.toNat (E0F b n) (E1F b w n) (fun y => gi out y + (if y = e then a e else 0)) t := by
      unfold Sv
      refine smE_congr _ fun y hy => ?_
      by_cases hi2 : incE (E0F b n) (E1F b w n) y t
      · rw [if_pos hi2, if_pos hi2]
        show a y = gi out y + (if y = e then a e else 0)
        by_cases hye : y = e
        · subst hye; rw [if_pos rfl, h.zero y hy hmem]; omega
        · rw [if_neg hye, h.don y hy (fun hm => hye (by have := hone y hm ((inc_iff hb hw pb pw hn (by omega) ht).2 hi2); omega))]; omega
      · rw [if_neg hi2, if_neg hi2]
    rw [hs.sum t ht, Sv_add (a := fun y => gi out y), ← h.sum t ht, Sv_one hel, if_pos hin] at h1
    omega
  have e0 := F.e0 e hel
  have e1 := F.e1 e hel
  have hgo : ∀ y : Nat, gi (out.set e (a e)) y = if e = y ∧ y < n.toNat then a e else gi out y := fun y => by rw [gi_set, h.ol]
  rw [hval]
  refine ⟨?_, fun y hy => h.mem y ((hmi y).1 hy).1, by rw [List.length_set]; exact h.ol, by simp only [List.length_set]; exact h.ll, fun y hy hm => ?_, fun y hy hm => ?_, fun v hv => ?_⟩
  · rw [← List.eraseIdx_eq_take_drop_succ]
    exact h.nd.sublist (List.eraseIdx_sublist _ _)
  · have h1 := (hmi y).1 hm
    rw [hgo, if_neg (by rintro ⟨rfl, _⟩; exact h1.2 rfl)]
    exact h.zero y hy h1.1
  · rw [hgo]
    by_cases hye : e = y
    · subst hye; rw [if_pos ⟨rfl, hy⟩]
    · rw [if_neg (fun h' => hye h'.1)]
      refine h.don y hy fun hr => hm ((hmi y).2 ⟨hr, fun h' => hye (by omega)⟩)
  · have h1 : Sv n.toNat (E0F b n) (E1F b w n) (fun y => gi (out.set e (a e)) y) v = Sv n.toNat (E0F b n) (E1F b w n) (fun y => gi out y + (if y = e then a e else 0)) v := by
      refine Sv_congr fun y hy => ?_
      show gi (out.set e (a e)) y = gi out y + (if y = e then a e else 0)
      rw [hgo]
      by_cases hye : e = y
      · subst hye; rw [if_pos ⟨rfl, hy⟩, if_pos rfl, h.zero e hel hmem]; omega
      · rw [if_neg (fun h' => hye h'.1), if_neg (fun h' => hye h'.symm)]; omega
    rw [h1, Sv_add (a := fun y => gi out y), Sv_one hel, ← h.sum v hv, gi_set, gi_set, inc_if]
    simp only [List.length_set, h.ll]
    by_cases v1 : E1F b w n e = v
    · rw [if_pos ⟨v1, hv⟩, if_neg (show ¬ v = E0F b n e by omega), if_pos v1.symm, v1]
    · rw [if_neg (fun h' => v1 h'.1)]
      by_cases v0 : E0F b n e = v
      · rw [if_pos ⟨v0, hv⟩, if_pos v0.symm, v0]
      · rw [if_neg (fun h' => v0 h'.1), if_neg (fun h' => v0 h'.symm), if_neg (fun h' => v1 h'.symm)]; omega
theorem Cy.leaf (hb : lo16 b) (hw : lo16 w) (pb : ltP b n) (pw : ltP w n) (hn : 1 ≤ n ∧ n ≤ 16) (h : Cy b w n a rest out left) (h0 : 0 < rest.length) :
    ∃ i t, i < rest.length ∧ t < (allV b w n).length ∧ incE (E0F b n) (E1F b w n) (gi rest i).toNat t ∧ cnt rest (gl (allV b w n) t) rest.length = 1 := by
  have F := dFo hb hw pb pw hn
  obtain ⟨e0, q1, q2, q3⟩ := h.mem (gi rest 0) (by rw [gi_of h0]; exact List.getElem_mem _)
  have hV : 0 < (allV b w n).length := by have := F.e1 e0 q2; omega
  obtain ⟨t, e, -, ht, hr, hin, hu⟩ := leaf_ex F n.toNat (Nat.le_refl _) (fun e => (e : Int) ∈ rest) (fun e he => by
    obtain ⟨e', h1, h2, h3⟩ := h.mem _ he
    have : e = e' := by omega
    subst this; exact ⟨h2, h3⟩) ⟨e0, by rw [← q1, gi_of h0]; exact List.getElem_mem _⟩ 0 hV
  obtain ⟨i, hi, hie⟩ := List.getElem_of_mem hr
  obtain ⟨e', h1, h2, h3⟩ := h.mem _ hr
  have hee : e = e' := by omega
  subst hee
  have hec : (e : Int) ∈ gl (allV b w n) t := (inc_iff hb hw pb pw hn (by omega) ht).2 hin
  refine ⟨i, t, hi, ht, by rw [gi_of hi, hie]; simpa using hin, (cnt_one h.nd hr hec).2 fun y hy hyc => ?_⟩
  obtain ⟨e', g1, g2, g3⟩ := h.mem y hy
  subst g1
  have := hu e' hy ((inc_iff hb hw pb pw hn (by omega) ht).1 hyc)
  rw [this]
theorem treeL_mem (hb : lo16 b) (hw : lo16 w) (pb : ltP b n) (pw : ltP w n) (hn : 1 ≤ n ∧ n ≤ 16) (y : Int) : y ∈ treeL b w n ↔ ∃ e : Nat, y = e ∧ e < n.toNat ∧ treE (E0F b n) (E1F b w n) (clF b w n) e := by
  unfold treeL
  rw [collect_mem]
  constructor
  · rintro ⟨e, h1, h2, h3⟩; exact ⟨e, h1, h2, (tree_iff hb hw pb pw hn (by omega)).1 h3⟩
  · rintro ⟨e, h1, h2, h3⟩; exact ⟨e, h1, h2, (tree_iff hb hw pb pw hn (by omega)).2 h3⟩
theorem treeL_pos (hb : lo16 b) (hw : lo16 w) (pb : ltP b n) (pw : ltP w n) (hn : 1 ≤ n ∧ n ≤ 16) : 0 < (treeL b w n).length := by
  have F := dFo hb hw pb pw hn
  have h : (0 : Int) ∈ treeL b w n := by
    refine (treeL_mem hb hw pb pw hn 0).2 ⟨0, rfl, by omega, fun h => ?_⟩
    have h0 := F.e0 0 (by omega)
    have h1 := F.e1 0 (by omega)
    have := (F.z _ _ (by omega) h1.2).1 h
    omega
  exact List.length_pos_of_mem h
theorem gi_rep0 {k j : Nat} : gi (List.replicate k 0) j = 0 := by rw [gi_rep]; split <;> rfl
theorem Cy.init (hb : lo16 b) (hw : lo16 w) (pb : ltP b n) (pw : ltP w n) (hn : 1 ≤ n ∧ n ≤ 16) (hs : SolD b w n x a) (hx : x < n.toNat) (hxt : (x : Int) ∉ treeL b w n) :
    Cy b w n a (treeL b w n) ((List.replicate n.toNat 0).set x 1) (((List.replicate (allV b w n).length 0).set (E0F b n x) 1).set (E1F b w n x) 1) := by
  have F := dFo hb hw pb pw hn
  have hm := treeL_mem hb hw pb pw hn
  have e0 := F.e0 x hx
  have e1 := F.e1 x hx
  have hg : ∀ e : Nat, gi ((List.replicate n.toNat 0).set x 1) e = if e = x then 1 else 0 := fun e => by
    rw [gi_set, gi_rep0, List.length_replicate]
    by_cases h : x = e
    · subst h; rw [if_pos ⟨rfl, hx⟩, if_pos rfl]
    · rw [if_neg (fun h' => h h'.1), if_neg (fun h' => h h'.symm)]
  refine ⟨collect_nd _, fun y hy => (hm y).1 hy, by simp, by simp, fun e he hr => ?_, fun e he hr => ?_, fun v hv => ?_⟩
  · rw [hg, if_neg (by rintro rfl; exact hxt hr)]
  · rw [hg]
    by_cases h : e = x
    · subst h; rw [if_pos rfl, hs.one]
    · rw [if_neg h, hs.off e he (fun h' => hr ((hm _).2 ⟨e, rfl, he, h'⟩)) h]
  · have h1 : Sv n.toNat (E0F b n) (E1F b w n) (fun y => gi ((List.replicate n.toNat 0).set x 1) y) v = Sv n.toNat (E0F b n) (E1F b w n) (fun y => if y = x then 1 else 0) v := Sv_congr fun y _ => hg y
    rw [h1, Sv_one hx, gi_set, gi_set, gi_rep0, inc_if]
    simp only [List.length_set, List.length_replicate]
    by_cases v1 : E1F b w n x = v
    · rw [if_pos ⟨v1, hv⟩, if_neg (show ¬ v = E0F b n x by omega), if_pos v1.symm]
    · rw [if_neg (fun h' => v1 h'.1)]
      by_cases v0 : E0F b n x = v
      · rw [if_pos ⟨v0, hv⟩, if_pos v0.symm]
      · rw [if_neg (fun h' => v0 h'.1), if_neg (fun h' => v0 h'.symm), if_neg (fun h' => v1 h'.symm)]
end
end Go.Proofs.Ytcleiehdddjicaa.Sep

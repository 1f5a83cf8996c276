/- Walks along words in covers. -/
import Derived.Test.YtjcllfkkjagomaaDoorC52
import Derived.Test.YtjcllfkkjagomaaDoorC22
import Derived.Test.YtjcllfkkjagomaaDoorC26
import Derived.Test.YtjcllfkkjagomaaDoorC27
import Derived.Test.YtjcllfkkjagomaaDoorC29
import Derived.Test.YtjcllfkkjagomaaDoorC40
namespace Go.Proofs.YtjcllfkkjagomaaDoor.Sep
open Go.RowKit
set_option linter.unusedVariables false
set_option linter.unusedSimpArgs false
set_option maxRecDepth 20000
set_option maxHeartbeats 1000000

/-! ### Steps -/
def stF (p l : List Int) (m : Int) (s : Int × Int) : Int × Int := (gi p s.1.toNat, (s.2 + gi l s.1.toNat).tmod m)
def stB (p l : List Int) (n m : Int) (s : Int × Int) : Int × Int := (gi (backP p n) s.1.toNat, (s.2 - gi l (gi (backP p n) s.1.toNat).toNat + m).tmod m)
def StOk (n m : Int) (s : Int × Int) : Prop := (0 ≤ s.1 ∧ s.1 < n) ∧ (0 ≤ s.2 ∧ s.2 < m)
/-- What a cover's lists are known to be. -/
structure CvOk (n m : Int) (b w a c : List Int) : Prop where
  hn : 1 ≤ n ∧ n ≤ 16
  hm : 1 ≤ m ∧ m ≤ 16
  lb : lo16 b
  lw : lo16 w
  bt : ltP b n
  wt : ltP w n
  al : (a.length : Int) = n
  av : ∀ k : Nat, (k : Int) < n → 0 ≤ gi a k ∧ gi a k < m
  cl : (c.length : Int) = n
  cv : ∀ k : Nat, (k : Int) < n → 0 ≤ gi c k ∧ gi c k < m
theorem CvOk.of {n m : Int} {b w a c : List Int} (hb : okP b) (hw : okP w) (h : covC n b w m a c = 0) : CvOk n m b w a c := by
  obtain ⟨hd, hm, ⟨hal, hav⟩, hcl, hcv⟩ := covC_0 h
  exact ⟨hd.pb.1, hm, hd.pb.lo hb, hd.pw.lo hw, hd.pb.ltP hb, hd.pw.ltP hw, hal, fun k hk => hav k (by omega), hcl, fun k hk => hcv k (by omega)⟩
theorem stF_ok {n m : Int} {p l : List Int} {s : Int × Int} (hm : 1 ≤ m) (hp : ltP p n) (hv : ∀ k : Nat, (k : Int) < n → 0 ≤ gi l k ∧ gi l k < m) (h : StOk n m s) : StOk n m (stF p l m s) := by
  obtain ⟨⟨h1, h2⟩, h3, h4⟩ := h
  have h5 := hv s.1.toNat (by omega)
  exact ⟨hp s.1.toNat (by omega), Int.tmod_nonneg m (by omega), Int.tmod_lt_of_pos _ (by omega)⟩
theorem stB_ok {n m : Int} {p l : List Int} {s : Int × Int} (hn : 1 ≤ n ∧ n ≤ 16) (hm : 1 ≤ m) (hv : ∀ k : Nat, (k : Int) < n → 0 ≤ gi l k ∧ gi l k < m) (h : StOk n m s) : StOk n m (stB p l n m s) := by
  obtain ⟨⟨h1, h2⟩, h3, h4⟩ := h
  have h6 := backP_lt (p := p) hn s.1.toNat (by omega)
  have h5 := hv (gi (backP p n) s.1.toNat).toNat (by omega)
  exact ⟨h6, Int.tmod_nonneg m (by omega), Int.tmod_lt_of_pos _ (by omega)⟩
section
variable (n m : Int) (b w a c : List Int)
def wk1 (L : Int) (s : Int × Int) : Int × Int :=
  if L = 98 then stF b a m s else if L = 119 then stF w c m s else if L = 66 then stB b a n m s else if L = 87 then stB w c n m s else s
def expL (L : Int) : List Int := if L = 102 then [87, 66] else if L = 70 then [98, 119] else [L]
def wkX (s : Int × Int) (u : List Int) : Nat → Int × Int
  | 0 => s
  | k + 1 => wk1 n m b w a c (gi u k) (wkX s u k)
def wkL (L : Int) (s : Int × Int) : Int × Int := wkX n m b w a c s (expL L) (expL L).length
def wkT (s : Int × Int) (t : List Int) : Nat → Int × Int
  | 0 => s
  | i + 1 => wkL n m b w a c (gi t i) (wkT s t i)
end
section
variable {n m : Int} {b w a c : List Int}
theorem wk1_ok (hc : CvOk n m b w a c) {L : Int} {s : Int × Int} (h : StOk n m s) : StOk n m (wk1 n m b w a c L s) := by
  unfold wk1
  have hm := hc.hm.1
  split
  · exact stF_ok hm hc.bt hc.av h
  split
  · exact stF_ok hm hc.wt hc.cv h
  split
  · exact stB_ok hc.hn hm hc.av h
  split
  · exact stB_ok hc.hn hm hc.cv h
  · exact h
theorem wkX_ok (hc : CvOk n m b w a c) {s : Int × Int} {u : List Int} (h : StOk n m s) : ∀ k, StOk n m (wkX n m b w a c s u k)
  | 0 => h
  | k + 1 => wk1_ok hc (wkX_ok hc h k)
theorem wkT_ok (hc : CvOk n m b w a c) {s : Int × Int} {t : List Int} (h : StOk n m s) : ∀ k, StOk n m (wkT n m b w a c s t k)
  | 0 => h
  | k + 1 => wkX_ok hc (wkT_ok hc h k) _
variable {s : Int × Int} {t : List Int} {i : Nat}
theorem wkT_98 (h : gi t i = 98) : wkT n m b w a c s t (i + 1) = stF b a m (wkT n m b w a c s t i) := by simp only [wkT, wkL, h]; rfl
theorem wkT_119 (h : gi t i = 119) : wkT n m b w a c s t (i + 1) = stF w c m (wkT n m b w a c s t i) := by simp only [wkT, wkL, h]; rfl
theorem wkT_66 (h : gi t i = 66) : wkT n m b w a c s t (i + 1) = stB b a n m (wkT n m b w a c s t i) := by simp only [wkT, wkL, h]; rfl
theorem wkT_87 (h : gi t i = 87) : wkT n m b w a c s t (i + 1) = stB w c n m (wkT n m b w a c s t i) := by simp only [wkT, wkL, h]; rfl
theorem wkT_102 (h : gi t i = 102) : wkT n m b w a c s t (i + 1) = stB b a n m (stB w c n m (wkT n m b w a c s t i)) := by simp only [wkT, wkL, h]; rfl
theorem wkT_70 (h : gi t i = 70) : wkT n m b w a c s t (i + 1) = stF w c m (stF b a m (wkT n m b w a c s t i)) := by simp only [wkT, wkL, h]; rfl
theorem wkT_else (h1 : ¬ gi t i = 98) (h2 : ¬ gi t i = 119) (h3 : ¬ gi t i = 102) (h4 : ¬ gi t i = 66) (h5 : ¬ gi t i = 87) (h6 : ¬ gi t i = 70) : wkT n m b w a c s t (i + 1) = wkT n m b w a c s t i := by
  simp only [wkT, wkL, expL, if_neg h3, if_neg h6]
  show wk1 n m b w a c (gi t i) (wkT n m b w a c s t i) = _
  simp only [wk1, if_neg h1, if_neg h2, if_neg h4, if_neg h5]
end

/-! ### The closures -/
theorem mvs_vi {bs : List Nat} {h : Hp} {k : IntKind} {l : List Int} : mvs bs h (vi k l) = vi k l := by induction l <;> simp_all [vi, mvs, mv]
theorem c_fwd {n m x y : Int} {p l : List Int} (hp : p.length = 16) (hpt : ltP p n) (hn : n ≤ 16) (hl : (l.length : Int) = n) (hm : 1 ≤ m ∧ m ≤ 16) (hv : ∀ k : Nat, (k : Int) < n → 0 ≤ gi l k ∧ gi l k < m) (hx : StOk n m (x, y)) :
    PSpecM Tryd.prog 38 [.agg (vi .u8 p), .sl l.length (vi .i64 l), .ptr 0 0, .ptr 1 0, .pf [.int .i64 m] 0] [(0, 2, 1), (1, 2, 1)] [[.int .i64 y], [.int .i64 x]]
      fun v cs => v = .tup [] ∧ cs = [[.int .i64 (stF p l m (x, y)).2], [.int .i64 (stF p l m (x, y)).1]] := by
  obtain ⟨⟨h1, h2⟩, h3, h4⟩ := hx
  simp only at h1 h2 h3 h4
  have h5 := hv x.toNat (by omega)
  have h6 := hpt x.toNat (by omega)
  refine impl_WalkOf_1_f.m rfl rfl ?_
  simp (disch := first | omega | (simp only [List.length_append, List.length_cons, List.length_nil, List.length_replicate, List.length_set, List.length_take, List.length_drop, vi_len, vb_len, vo_len, vl_len, vn_len]; omega)) only [↓EC, EV, EL, E2, E3, ER, seval, ↓reduceIte, false_imp_iff, impl_WalkOf_1_F, hp]
  rfl
theorem c_bwd {n m x y : Int} {b w p l : List Int} (hb : b.length = 16) (hw : w.length = 16) (hp : lo16 p) (hn : 1 ≤ n ∧ n ≤ 16) (hl : (l.length : Int) = n) (hm : 1 ≤ m ∧ m ≤ 16) (hv : ∀ k : Nat, (k : Int) < n → 0 ≤ gi l k ∧ gi l k < m) (hx : StOk n m (x, y)) :
    PSpecM Tryd.prog 39 [.agg (vi .u8 p), .sl l.length (vi .i64 l), .pf (.int .i64 n :: vi .u8 (b ++ w)) 0, .ptr 1 0, .ptr 0 0, .pf [.int .i64 m] 0] [(0, 2, 1), (1, 2, 1)] [[.int .i64 y], [.int .i64 x]]
      fun v cs => v = .tup [] ∧ cs = [[.int .i64 (stB p l n m (x, y)).2], [.int .i64 (stB p l n m (x, y)).1]] := by
  obtain ⟨⟨h1, h2⟩, h3, h4⟩ := hx
  simp only at h1 h2 h3 h4
  have h6 := backP_lt (p := p) hn x.toNat (by omega)
  have h5 := hv (gi (backP p n) x.toNat).toNat (by omega)
  have hpl := hp.1
  have hk := (backP_lo (p := p) hn).1
  have hcb := c_impl_back hp hn
  change PSpec _ _ _ (fun v => v = .agg (vi .u8 (backP p n))) at hcb
  refine impl_WalkOf_2_f.m rfl rfl ?_
  simp (disch := first | omega | (simp only [List.length_append, List.length_cons, List.length_nil, List.length_replicate, List.length_set, List.length_take, List.length_drop, vi_len, vb_len, vo_len, vl_len, vn_len]; omega)) only [↓EC, EV, EL, E2, E3, ER, seval, ↓reduceIte, false_imp_iff, impl_WalkOf_2_F, hpl, hb, hw]
  refine pcd_v hcb ?_
  (try simp (disch := first | omega | (simp only [List.length_append, List.length_cons, List.length_nil, List.length_replicate, List.length_set, List.length_take, List.length_drop, vi_len, vb_len, vo_len, vl_len, vn_len]; omega)) only [↓EC, EV, EL, E2, E3, ER, seval, ↓reduceIte, false_imp_iff, hpl, hb, hw, hk])
  rfl

/-! ### Spellings -/
def bwf : List UInt8 := [98, 119, 102, 66, 87, 70]
def sprt (x : Int) : Prop := x = 98 ∨ x = 119 ∨ x = 102 ∨ x = 66 ∨ x = 87 ∨ x = 70
instance {x : Int} : Decidable (sprt x) := by unfold sprt; infer_instance
def isSp (s : List UInt8) : Bool := decide (s.length ≤ 60 ∧ ∀ c ∈ s, c ∈ bwf)
theorem sprt_mem {c : UInt8} : c ∈ bwf ↔ sprt (c.toNat : Int) := by
  simp only [bwf, List.mem_cons, List.not_mem_nil, or_false, sprt]
  constructor
  · rintro (rfl | rfl | rfl | rfl | rfl | rfl)
    · exact .inl rfl
    · exact .inr (.inl rfl)
    · exact .inr (.inr (.inl rfl))
    · exact .inr (.inr (.inr (.inl rfl)))
    · exact .inr (.inr (.inr (.inr (.inl rfl))))
    · exact .inr (.inr (.inr (.inr (.inr rfl))))
  · intro h
    have : ∀ n : UInt8, (c.toNat : Int) = n.toNat → c = n := fun n h => UInt8.toNat_inj.1 (by omega)
    rcases h with h | h | h | h | h | h
    · exact .inl (this 98 h)
    · exact .inr (.inl (this 119 h))
    · exact .inr (.inr (.inl (this 102 h)))
    · exact .inr (.inr (.inr (.inl (this 66 h))))
    · exact .inr (.inr (.inr (.inr (.inl (this 87 h)))))
    · exact .inr (.inr (.inr (.inr (.inr (this 70 h)))))
theorem sprt_iff {s : List UInt8} : (∀ c ∈ s, c ∈ bwf) ↔ ∀ i, i < s.length → sprt (gi (ub s) i) := by
  constructor
  · intro h i hi
    rw [← ub_at, ← sprt_mem, List.getD, List.getElem?_eq_getElem hi]
    exact h _ (List.getElem_mem hi)
  · intro h c hc
    obtain ⟨j, h1, h2⟩ := List.getElem_of_mem hc
    have h3 := h j h1
    rw [← ub_at, List.getD, List.getElem?_eq_getElem h1] at h3
    rw [sprt_mem, ← h2]; exact h3
theorem c_impl_isSpelled {s : List UInt8} (hs : s.length ≤ 1048576) : PSpec Tryd.prog 37 [.str s] fun v => v = .bool (isSp s) := by
  refine impl_isSpelled_f.f ?_
  simp (disch := first | omega | (simp only [List.length_append, List.length_cons, List.length_nil, List.length_replicate, List.length_set, List.length_take, List.length_drop, vi_len, vb_len, vo_len, vl_len, vn_len]; omega)) only [↓EC, EV, EL, E2, E3, ER, seval, ↓reduceIte, false_imp_iff, impl_isSpelled_F]
  have ht := c_Trim (s := s) (cs := bwf) hs (by decide) (by decide)
  have hq : (tlT (asT bwf bwf.length) (trT (asT bwf bwf.length) s) = []) ↔ ∀ c ∈ s, c ∈ bwf := by
    rw [trim_nil]; simp only [asT_in]
  generalize tlT (asT bwf bwf.length) (trT (asT bwf bwf.length) s) = t at *
  (refine Split.mk (fun h => ?_) (fun h => ?_) <;> (try simp only [decide_eq_true_eq, decide_eq_false_iff_not, beq_iff_eq, bne_iff_ne, beq_eq_false_iff_ne, bne_eq_false_iff_eq, Bool.not_eq_true', Bool.not_eq_false', Bool.and_eq_true, Bool.or_eq_true, Bool.and_eq_false_iff, Bool.or_eq_false_iff, Int.not_lt, Int.not_le, Bool.false_eq_true, Bool.true_eq_false, false_and, and_false, true_and, and_true, or_false, false_or, or_true, true_or, not_true_eq_false, not_false_eq_true] at h))
  · (try simp (disch := first | omega | (simp only [List.length_append, List.length_cons, List.length_nil, List.length_replicate, List.length_set, List.length_take, List.length_drop, vi_len, vb_len, vo_len, vl_len, vn_len]; omega)) only [↓EC, EV, EL, E2, E3, ER, seval, ↓reduceIte, false_imp_iff])
    refine pcd_v ht ?_
    (try simp (disch := first | omega | (simp only [List.length_append, List.length_cons, List.length_nil, List.length_replicate, List.length_set, List.length_take, List.length_drop, vi_len, vb_len, vo_len, vl_len, vn_len]; omega)) only [↓EC, EV, EL, E2, E3, ER, seval, ↓reduceIte, false_imp_iff])
    have h' : s.length ≤ 60 := by omega
    simp only [isSp, h', true_and, ← hq]
    cases t <;> rfl
  · (try simp (disch := first | omega | (simp only [List.length_append, List.length_cons, List.length_nil, List.length_replicate, List.length_set, List.length_take, List.length_drop, vi_len, vb_len, vo_len, vl_len, vn_len]; omega)) only [↓EC, EV, EL, E2, E3, ER, seval, ↓reduceIte, false_imp_iff])
    have h' : ¬ s.length ≤ 60 := by omega
    simp only [isSp, h', false_and, decide_false]

/-! ### The walk -/
theorem c_impl_WalkOf {n m x y : Int} {b w a c : List Int} {s : List UInt8} (hb : okP b) (hw : okP w) (ha : a.length ≤ 1048576) (hc : c.length ≤ 1048576) (hs : s.length ≤ 1048576) (h0 : covC n b w m a c = 0) (hx : StOk n m (x, y)) (hsp : isSp s = true) :
    PSpec Tryd.prog 12 [vD n b w, .int .i64 m, .sl a.length (vi .i64 a), .sl c.length (vi .i64 c), .int .i64 x, .int .i64 y, .str s] fun v =>
      v = .tup [.own 2 1 2 (vi .i64 [(wkT n m b w a c (x, y) (ub s) s.length).1, (wkT n m b w a c (x, y) (ub s) s.length).2]), .int .i64 0] := by
  have hl := hb.len
  have hk := hw.len
  have hcv := CvOk.of hb hw h0
  obtain ⟨⟨x0, x1⟩, y0, y1⟩ := id hx
  simp only at x0 x1 y0 y1
  refine impl_WalkOf_f.f ?_
  have g1 := c_impl_coverCode (n := n) (m := m) hb hw ha hc
  have g2 := c_impl_isDart (n := n) (x := x) (b := b) (w := w) hl hk
  have d1 : decide (0 ≤ x ∧ x < n) = true := by simp only [decide_eq_true_eq]; omega
  rw [d1] at g2
  unfold vD at g1 g2 ⊢
  simp (disch := first | omega | (simp only [List.length_append, List.length_cons, List.length_nil, List.length_replicate, List.length_set, List.length_take, List.length_drop, vi_len, vb_len, vo_len, vl_len, vn_len]; omega)) only [↓EC, EV, EL, E2, E3, ER, seval, ↓reduceIte, false_imp_iff, impl_WalkOf_F, hl, hk]
  refine pcd_v g1 ?_
  (try simp (disch := first | omega | (simp only [List.length_append, List.length_cons, List.length_nil, List.length_replicate, List.length_set, List.length_take, List.length_drop, vi_len, vb_len, vo_len, vl_len, vn_len]; omega)) only [↓EC, EV, EL, E2, E3, ER, seval, ↓reduceIte, false_imp_iff, hl, hk, h0])
  refine pcd_v g2 ?_
  (try simp (disch := first | omega | (simp only [List.length_append, List.length_cons, List.length_nil, List.length_replicate, List.length_set, List.length_take, List.length_drop, vi_len, vb_len, vo_len, vl_len, vn_len]; omega)) only [↓EC, EV, EL, E2, E3, ER, seval, ↓reduceIte, false_imp_iff, hl, hk])
  (refine Split.mk (fun h => ?_) (fun h => ?_) <;> (try simp only [decide_eq_true_eq, decide_eq_false_iff_not, beq_iff_eq, bne_iff_ne, beq_eq_false_iff_ne, bne_eq_false_iff_eq, Bool.not_eq_true', Bool.not_eq_false', Bool.and_eq_true, Bool.or_eq_true, Bool.and_eq_false_iff, Bool.or_eq_false_iff, Int.not_lt, Int.not_le, Bool.false_eq_true, Bool.true_eq_false, false_and, and_false, true_and, and_true, or_false, false_or, or_true, true_or, not_true_eq_false, not_false_eq_true] at h))
  · omega
  (refine Split.mk (fun h => ?_) (fun h => ?_) <;> (try simp only [decide_eq_true_eq, decide_eq_false_iff_not, beq_iff_eq, bne_iff_ne, beq_eq_false_iff_ne, bne_eq_false_iff_eq, Bool.not_eq_true', Bool.not_eq_false', Bool.and_eq_true, Bool.or_eq_true, Bool.and_eq_false_iff, Bool.or_eq_false_iff, Int.not_lt, Int.not_le, Bool.false_eq_true, Bool.true_eq_false, false_and, and_false, true_and, and_true, or_false, false_or, or_true, true_or, not_true_eq_false, not_false_eq_true] at h))
  · omega
  (try simp (disch := first | omega | (simp only [List.length_append, List.length_cons, List.length_nil, List.length_replicate, List.length_set, List.length_take, List.length_drop, vi_len, vb_len, vo_len, vl_len, vn_len]; omega)) only [↓EC, EV, EL, E2, E3, ER, seval, ↓reduceIte, false_imp_iff, hl, hk])
  refine pcd_v (c_impl_isSpelled hs) ?_
  (try simp (disch := first | omega | (simp only [List.length_append, List.length_cons, List.length_nil, List.length_replicate, List.length_set, List.length_take, List.length_drop, vi_len, vb_len, vo_len, vl_len, vn_len]; omega)) only [↓EC, EV, EL, E2, E3, ER, seval, ↓reduceIte, false_imp_iff, hl, hk, hsp])
  have f1 : isFn Tryd.prog 38 = true := by kernel_rfl
  have f2 : isFn Tryd.prog 39 = true := by kernel_rfl
  have hst := fun i => wkT_ok hcv (t := ub s) hx i
  refine LP_of (σ := Nat) 100000 [(71, 30, 1), (72, 2, 1), (75, 2, 1), (76, 2, 1)] (fun i => [.int .i64 i])
    (fun i => [.int .i64 n :: vi .u8 (b ++ w), [.int .i64 m], [.int .i64 (wkT n m b w a c (x, y) (ub s) i).1], [.int .i64 (wkT n m b w a c (x, y) (ub s) i).2]])
    (fun i => i ≤ s.length) (fun i => s.length - i) 0 (by simp [frameOk, names, lpz, sclp, scv, scvs, vi_nrf, vb_nrf, vt_nrf, v2_nrf, v3_nrf, nrfs, nrf, sc_vi, sc_vb, sc_vt, sc_v2, sc_v3, sc_vo, sc_vl, vo_nrf, vl_nrf, sc_vn, vn_nrf]) (Nat.zero_le _) ?_ ?_
  · simp (disch := first | omega | (simp only [List.length_append, List.length_cons, List.length_nil, List.length_replicate, List.length_set, List.length_take, List.length_drop, vi_len, vb_len, vo_len, vl_len, vn_len]; omega)) only [↓EC, EV, EL, E2, E3, ER, seval, ↓reduceIte, false_imp_iff, ColV_def]
    rfl
  · rintro i h1
    have hi := hst i
    have q1 := fun h => wkT_98 (n := n) (m := m) (b := b) (w := w) (a := a) (c := c) (s := (x, y)) (t := ub s) (i := i) h
    have q2 := fun h => wkT_119 (n := n) (m := m) (b := b) (w := w) (a := a) (c := c) (s := (x, y)) (t := ub s) (i := i) h
    have q3 := fun h => wkT_66 (n := n) (m := m) (b := b) (w := w) (a := a) (c := c) (s := (x, y)) (t := ub s) (i := i) h
    have q4 := fun h => wkT_87 (n := n) (m := m) (b := b) (w := w) (a := a) (c := c) (s := (x, y)) (t := ub s) (i := i) h
    have q5 := fun h => wkT_102 (n := n) (m := m) (b := b) (w := w) (a := a) (c := c) (s := (x, y)) (t := ub s) (i := i) h
    have q6 := fun h => wkT_70 (n := n) (m := m) (b := b) (w := w) (a := a) (c := c) (s := (x, y)) (t := ub s) (i := i) h
    have q7 := wkT_else (n := n) (m := m) (b := b) (w := w) (a := a) (c := c) (s := (x, y)) (t := ub s) (i := i)
    have hnx : ∀ S, wkT n m b w a c (x, y) (ub s) (i + 1) = S → S = wkT n m b w a c (x, y) (ub s) (i + 1) := fun S h => h.symm
    simp (disch := first | omega | (simp only [List.length_append, List.length_cons, List.length_nil, List.length_replicate, List.length_set, List.length_take, List.length_drop, vi_len, vb_len, vo_len, vl_len, vn_len]; omega)) only [↓EC, EV, EL, E2, E3, ER, seval, ↓reduceIte, false_imp_iff, ColV_def, lheap_def]
    (refine Split.mk (fun h => ?_) (fun h => ?_) <;> (try simp only [decide_eq_true_eq, decide_eq_false_iff_not, beq_iff_eq, bne_iff_ne, beq_eq_false_iff_ne, bne_eq_false_iff_eq, Bool.not_eq_true', Bool.not_eq_false', Bool.and_eq_true, Bool.or_eq_true, Bool.and_eq_false_iff, Bool.or_eq_false_iff, Int.not_lt, Int.not_le, Bool.false_eq_true, Bool.true_eq_false, false_and, and_false, true_and, and_true, or_false, false_or, or_true, true_or, not_true_eq_false, not_false_eq_true] at h))
    · generalize wkT n m b w a c (x, y) (ub s) i = T at *
      obtain ⟨u, v⟩ := T
      (try simp (disch := first | omega | (simp only [List.length_append, List.length_cons, List.length_nil, List.length_replicate, List.length_set, List.length_take, List.length_drop, vi_len, vb_len, vo_len, vl_len, vn_len]; omega)) only [↓EC, EV, EL, E2, E3, ER, seval, ↓reduceIte, false_imp_iff, EB, hl, hk, f1, f2, mvs_vi])
      (refine Split.mk (fun h => ?_) (fun h => ?_) <;> (try simp only [decide_eq_true_eq, decide_eq_false_iff_not, beq_iff_eq, bne_iff_ne, beq_eq_false_iff_ne, bne_eq_false_iff_eq, Bool.not_eq_true', Bool.not_eq_false', Bool.and_eq_true, Bool.or_eq_true, Bool.and_eq_false_iff, Bool.or_eq_false_iff, Int.not_lt, Int.not_le, Bool.false_eq_true, Bool.true_eq_false, false_and, and_false, true_and, and_true, or_false, false_or, or_true, true_or, not_true_eq_false, not_false_eq_true] at h))
      · (try simp (disch := first | omega | (simp only [List.length_append, List.length_cons, List.length_nil, List.length_replicate, List.length_set, List.length_take, List.length_drop, vi_len, vb_len, vo_len, vl_len, vn_len]; omega)) only [↓EC, EV, EL, E2, E3, ER, seval, ↓reduceIte, false_imp_iff, EB, hl, hk, f1, f2, mvs_vi])
        refine pcm [76, 75] rfl ?_
        (try simp (disch := first | omega | (simp only [List.length_append, List.length_cons, List.length_nil, List.length_replicate, List.length_set, List.length_take, List.length_drop, vi_len, vb_len, vo_len, vl_len, vn_len]; omega)) only [↓EC, EV, EL, E2, E3, ER, seval, ↓reduceIte, false_imp_iff, EB, hl, hk, f1, f2, mvs_vi])
        refine callM_v (c_fwd hl hcv.bt hcv.hn.2 hcv.al hcv.hm hcv.av hi) ?_
        (try simp (disch := first | omega | (simp only [List.length_append, List.length_cons, List.length_nil, List.length_replicate, List.length_set, List.length_take, List.length_drop, vi_len, vb_len, vo_len, vl_len, vn_len]; omega)) only [↓EC, EV, EL, E2, E3, ER, seval, ↓reduceIte, false_imp_iff, EB, hl, hk, f1, f2, mvs_vi])
        exact ⟨i + 1, by simp, by rw [q1 h], by omega, by omega⟩
      (try simp (disch := first | omega | (simp only [List.length_append, List.length_cons, List.length_nil, List.length_replicate, List.length_set, List.length_take, List.length_drop, vi_len, vb_len, vo_len, vl_len, vn_len]; omega)) only [↓EC, EV, EL, E2, E3, ER, seval, ↓reduceIte, false_imp_iff, EB, hl, hk, f1, f2, mvs_vi])
      (refine Split.mk (fun h => ?_) (fun h => ?_) <;> (try simp only [decide_eq_true_eq, decide_eq_false_iff_not, beq_iff_eq, bne_iff_ne, beq_eq_false_iff_ne, bne_eq_false_iff_eq, Bool.not_eq_true', Bool.not_eq_false', Bool.and_eq_true, Bool.or_eq_true, Bool.and_eq_false_iff, Bool.or_eq_false_iff, Int.not_lt, Int.not_le, Bool.false_eq_true, Bool.true_eq_false, false_and, and_false, true_and, and_true, or_false, false_or, or_true, true_or, not_true_eq_false, not_false_eq_true] at h))
      · (try simp (disch := first | omega | (simp only [List.length_append, List.length_cons, List.length_nil, List.length_replicate, List.length_set, List.length_take, List.length_drop, vi_len, vb_len, vo_len, vl_len, vn_len]; omega)) only [↓EC, EV, EL, E2, E3, ER, seval, ↓reduceIte, false_imp_iff, EB, hl, hk, f1, f2, mvs_vi])
        refine pcm [76, 75] rfl ?_
        (try simp (disch := first | omega | (simp only [List.length_append, List.length_cons, List.length_nil, List.length_replicate, List.length_set, List.length_take, List.length_drop, vi_len, vb_len, vo_len, vl_len, vn_len]; omega)) only [↓EC, EV, EL, E2, E3, ER, seval, ↓reduceIte, false_imp_iff, EB, hl, hk, f1, f2, mvs_vi])
        refine callM_v (c_fwd hk hcv.wt hcv.hn.2 hcv.cl hcv.hm hcv.cv hi) ?_
        (try simp (disch := first | omega | (simp only [List.length_append, List.length_cons, List.length_nil, List.length_replicate, List.length_set, List.length_take, List.length_drop, vi_len, vb_len, vo_len, vl_len, vn_len]; omega)) only [↓EC, EV, EL, E2, E3, ER, seval, ↓reduceIte, false_imp_iff, EB, hl, hk, f1, f2, mvs_vi])
        exact ⟨i + 1, by simp, by rw [q2 h], by omega, by omega⟩
      (try simp (disch := first | omega | (simp only [List.length_append, List.length_cons, List.length_nil, List.length_replicate, List.length_set, List.length_take, List.length_drop, vi_len, vb_len, vo_len, vl_len, vn_len]; omega)) only [↓EC, EV, EL, E2, E3, ER, seval, ↓reduceIte, false_imp_iff, EB, hl, hk, f1, f2, mvs_vi])
      (refine Split.mk (fun h => ?_) (fun h => ?_) <;> (try simp only [decide_eq_true_eq, decide_eq_false_iff_not, beq_iff_eq, bne_iff_ne, beq_eq_false_iff_ne, bne_eq_false_iff_eq, Bool.not_eq_true', Bool.not_eq_false', Bool.and_eq_true, Bool.or_eq_true, Bool.and_eq_false_iff, Bool.or_eq_false_iff, Int.not_lt, Int.not_le, Bool.false_eq_true, Bool.true_eq_false, false_and, and_false, true_and, and_true, or_false, false_or, or_true, true_or, not_true_eq_false, not_false_eq_true] at h))
      · (try simp (disch := first | omega | (simp only [List.length_append, List.length_cons, List.length_nil, List.length_replicate, List.length_set, List.length_take, List.length_drop, vi_len, vb_len, vo_len, vl_len, vn_len]; omega)) only [↓EC, EV, EL, E2, E3, ER, seval, ↓reduceIte, false_imp_iff, EB, hl, hk, f1, f2, mvs_vi])
        refine pcm [76, 75] rfl ?_
        (try simp (disch := first | omega | (simp only [List.length_append, List.length_cons, List.length_nil, List.length_replicate, List.length_set, List.length_take, List.length_drop, vi_len, vb_len, vo_len, vl_len, vn_len]; omega)) only [↓EC, EV, EL, E2, E3, ER, seval, ↓reduceIte, false_imp_iff, EB, hl, hk, f1, f2, mvs_vi])
        refine callM_v (c_bwd hl hk hcv.lw hcv.hn hcv.cl hcv.hm hcv.cv hi) ?_
        have hi2 := stB_ok (p := w) hcv.hn hcv.hm.1 hcv.cv hi
        rw [h] at q5
        have q5 := q5 rfl
        generalize stB w c n m (u, v) = T2 at *
        obtain ⟨u2, v2⟩ := T2
        (try simp (disch := first | omega | (simp only [List.length_append, List.length_cons, List.length_nil, List.length_replicate, List.length_set, List.length_take, List.length_drop, vi_len, vb_len, vo_len, vl_len, vn_len]; omega)) only [↓EC, EV, EL, E2, E3, ER, seval, ↓reduceIte, false_imp_iff, EB, hl, hk, f1, f2, mvs_vi])
        refine pcm [76, 75] rfl ?_
        (try simp (disch := first | omega | (simp only [List.length_append, List.length_cons, List.length_nil, List.length_replicate, List.length_set, List.length_take, List.length_drop, vi_len, vb_len, vo_len, vl_len, vn_len]; omega)) only [↓EC, EV, EL, E2, E3, ER, seval, ↓reduceIte, false_imp_iff, EB, hl, hk, f1, f2, mvs_vi])
        refine callM_v (c_bwd hl hk hcv.lb hcv.hn hcv.al hcv.hm hcv.av hi2) ?_
        (try simp (disch := first | omega | (simp only [List.length_append, List.length_cons, List.length_nil, List.length_replicate, List.length_set, List.length_take, List.length_drop, vi_len, vb_len, vo_len, vl_len, vn_len]; omega)) only [↓EC, EV, EL, E2, E3, ER, seval, ↓reduceIte, false_imp_iff, EB, hl, hk, f1, f2, mvs_vi])
        exact ⟨i + 1, by simp, by rw [q5], by omega, by omega⟩
      (try simp (disch := first | omega | (simp only [List.length_append, List.length_cons, List.length_nil, List.length_replicate, List.length_set, List.length_take, List.length_drop, vi_len, vb_len, vo_len, vl_len, vn_len]; omega)) only [↓EC, EV, EL, E2, E3, ER, seval, ↓reduceIte, false_imp_iff, EB, hl, hk, f1, f2, mvs_vi])
      (refine Split.mk (fun h => ?_) (fun h => ?_) <;> (try simp only [decide_eq_true_eq, decide_eq_false_iff_not, beq_iff_eq, bne_iff_ne, beq_eq_false_iff_ne, bne_eq_false_iff_eq, Bool.not_eq_true', Bool.not_eq_false', Bool.and_eq_true, Bool.or_eq_true, Bool.and_eq_false_iff, Bool.or_eq_false_iff, Int.not_lt, Int.not_le, Bool.false_eq_true, Bool.true_eq_false, false_and, and_false, true_and, and_true, or_false, false_or, or_true, true_or, not_true_eq_false, not_false_eq_true] at h))
      · (try simp (disch := first | omega | (simp only [List.length_append, List.length_cons, List.length_nil, List.length_replicate, List.length_set, List.length_take, List.length_drop, vi_len, vb_len, vo_len, vl_len, vn_len]; omega)) only [↓EC, EV, EL, E2, E3, ER, seval, ↓reduceIte, false_imp_iff, EB, hl, hk, f1, f2, mvs_vi])
        refine pcm [76, 75] rfl ?_
        (try simp (disch := first | omega | (simp only [List.length_append, List.length_cons, List.length_nil, List.length_replicate, List.length_set, List.length_take, List.length_drop, vi_len, vb_len, vo_len, vl_len, vn_len]; omega)) only [↓EC, EV, EL, E2, E3, ER, seval, ↓reduceIte, false_imp_iff, EB, hl, hk, f1, f2, mvs_vi])
        refine callM_v (c_bwd hl hk hcv.lb hcv.hn hcv.al hcv.hm hcv.av hi) ?_
        (try simp (disch := first | omega | (simp only [List.length_append, List.length_cons, List.length_nil, List.length_replicate, List.length_set, List.length_take, List.length_drop, vi_len, vb_len, vo_len, vl_len, vn_len]; omega)) only [↓EC, EV, EL, E2, E3, ER, seval, ↓reduceIte, false_imp_iff, EB, hl, hk, f1, f2, mvs_vi])
        exact ⟨i + 1, by simp, by rw [q3 h], by omega, by omega⟩
      (try simp (disch := first | omega | (simp only [List.length_append, List.length_cons, List.length_nil, List.length_replicate, List.length_set, List.length_take, List.length_drop, vi_len, vb_len, vo_len, vl_len, vn_len]; omega)) only [↓EC, EV, EL, E2, E3, ER, seval, ↓reduceIte, false_imp_iff, EB, hl, hk, f1, f2, mvs_vi])
      (refine Split.mk (fun h => ?_) (fun h => ?_) <;> (try simp only [decide_eq_true_eq, decide_eq_false_iff_not, beq_iff_eq, bne_iff_ne, beq_eq_false_iff_ne, bne_eq_false_iff_eq, Bool.not_eq_true', Bool.not_eq_false', Bool.and_eq_true, Bool.or_eq_true, Bool.and_eq_false_iff, Bool.or_eq_false_iff, Int.not_lt, Int.not_le, Bool.false_eq_true, Bool.true_eq_false, false_and, and_false, true_and, and_true, or_false, false_or, or_true, true_or, not_true_eq_false, not_false_eq_true] at h))
      · (try simp (disch := first | omega | (simp only [List.length_append, List.length_cons, List.length_nil, List.length_replicate, List.length_set, List.length_take, List.length_drop, vi_len, vb_len, vo_len, vl_len, vn_len]; omega)) only [↓EC, EV, EL, E2, E3, ER, seval, ↓reduceIte, false_imp_iff, EB, hl, hk, f1, f2, mvs_vi])
        refine pcm [76, 75] rfl ?_
        (try simp (disch := first | omega | (simp only [List.length_append, List.length_cons, List.length_nil, List.length_replicate, List.length_set, List.length_take, List.length_drop, vi_len, vb_len, vo_len, vl_len, vn_len]; omega)) only [↓EC, EV, EL, E2, E3, ER, seval, ↓reduceIte, false_imp_iff, EB, hl, hk, f1, f2, mvs_vi])
        refine callM_v (c_bwd hl hk hcv.lw hcv.hn hcv.cl hcv.hm hcv.cv hi) ?_
        (try simp (disch := first | omega | (simp only [List.length_append, List.length_cons, List.length_nil, List.length_replicate, List.length_set, List.length_take, List.length_drop, vi_len, vb_len, vo_len, vl_len, vn_len]; omega)) only [↓EC, EV, EL, E2, E3, ER, seval, ↓reduceIte, false_imp_iff, EB, hl, hk, f1, f2, mvs_vi])
        exact ⟨i + 1, by simp, by rw [q4 h], by omega, by omega⟩
      (try simp (disch := first | omega | (simp only [List.length_append, List.length_cons, List.length_nil, List.length_replicate, List.length_set, List.length_take, List.length_drop, vi_len, vb_len, vo_len, vl_len, vn_len]; omega)) only [↓EC, EV, EL, E2, E3, ER, seval, ↓reduceIte, false_imp_iff, EB, hl, hk, f1, f2, mvs_vi])
      (refine Split.mk (fun h => ?_) (fun h => ?_) <;> (try simp only [decide_eq_true_eq, decide_eq_false_iff_not, beq_iff_eq, bne_iff_ne, beq_eq_false_iff_ne, bne_eq_false_iff_eq, Bool.not_eq_true', Bool.not_eq_false', Bool.and_eq_true, Bool.or_eq_true, Bool.and_eq_false_iff, Bool.or_eq_false_iff, Int.not_lt, Int.not_le, Bool.false_eq_true, Bool.true_eq_false, false_and, and_false, true_and, and_true, or_false, false_or, or_true, true_or, not_true_eq_false, not_false_eq_true] at h))
      · (try simp (disch := first | omega | (simp only [List.length_append, List.length_cons, List.length_nil, List.length_replicate, List.length_set, List.length_take, List.length_drop, vi_len, vb_len, vo_len, vl_len, vn_len]; omega)) only [↓EC, EV, EL, E2, E3, ER, seval, ↓reduceIte, false_imp_iff, EB, hl, hk, f1, f2, mvs_vi])
        refine pcm [76, 75] rfl ?_
        (try simp (disch := first | omega | (simp only [List.length_append, List.length_cons, List.length_nil, List.length_replicate, List.length_set, List.length_take, List.length_drop, vi_len, vb_len, vo_len, vl_len, vn_len]; omega)) only [↓EC, EV, EL, E2, E3, ER, seval, ↓reduceIte, false_imp_iff, EB, hl, hk, f1, f2, mvs_vi])
        refine callM_v (c_fwd hl hcv.bt hcv.hn.2 hcv.al hcv.hm hcv.av hi) ?_
        have hi2 := stF_ok (p := b) hcv.hm.1 hcv.bt hcv.av hi
        rw [h] at q6
        have q6 := q6 rfl
        generalize stF b a m (u, v) = T2 at *
        obtain ⟨u2, v2⟩ := T2
        (try simp (disch := first | omega | (simp only [List.length_append, List.length_cons, List.length_nil, List.length_replicate, List.length_set, List.length_take, List.length_drop, vi_len, vb_len, vo_len, vl_len, vn_len]; omega)) only [↓EC, EV, EL, E2, E3, ER, seval, ↓reduceIte, false_imp_iff, EB, hl, hk, f1, f2, mvs_vi])
        refine pcm [76, 75] rfl ?_
        (try simp (disch := first | omega | (simp only [List.length_append, List.length_cons, List.length_nil, List.length_replicate, List.length_set, List.length_take, List.length_drop, vi_len, vb_len, vo_len, vl_len, vn_len]; omega)) only [↓EC, EV, EL, E2, E3, ER, seval, ↓reduceIte, false_imp_iff, EB, hl, hk, f1, f2, mvs_vi])
        refine callM_v (c_fwd hk hcv.wt hcv.hn.2 hcv.cl hcv.hm hcv.cv hi2) ?_
        (try simp (disch := first | omega | (simp only [List.length_append, List.length_cons, List.length_nil, List.length_replicate, List.length_set, List.length_take, List.length_drop, vi_len, vb_len, vo_len, vl_len, vn_len]; omega)) only [↓EC, EV, EL, E2, E3, ER, seval, ↓reduceIte, false_imp_iff, EB, hl, hk, f1, f2, mvs_vi])
        exact ⟨i + 1, by simp, by rw [q6], by omega, by omega⟩
      · (try simp (disch := first | omega | (simp only [List.length_append, List.length_cons, List.length_nil, List.length_replicate, List.length_set, List.length_take, List.length_drop, vi_len, vb_len, vo_len, vl_len, vn_len]; omega)) only [↓EC, EV, EL, E2, E3, ER, seval, ↓reduceIte, false_imp_iff, EB, hl, hk, f1, f2, mvs_vi])
        exact ⟨i + 1, by simp, by rw [q7 (by assumption) (by assumption) (by assumption) (by assumption) (by assumption) (by assumption)], by omega, by omega⟩
    · have : i = s.length := by omega
      subst this
      (try simp (disch := first | omega | (simp only [List.length_append, List.length_cons, List.length_nil, List.length_replicate, List.length_set, List.length_take, List.length_drop, vi_len, vb_len, vo_len, vl_len, vn_len]; omega)) only [↓EC, EV, EL, E2, E3, ER, seval, ↓reduceIte, false_imp_iff])
      rfl

/-! ### The reference -/
theorem c_spec_l03Value {n : Int} {b w : List Int} {s : List UInt8} (hb : lo16 b) (hw : lo16 w) (hn : 1 ≤ n ∧ n ≤ 16) (hs : s.length ≤ 1048576) :
    PSpec Tryd.prog 32 [vD n b w, .str s] fun v => ∃ q : List Int, q.length = 16 ∧ v = .tup [.agg (vi .u8 q), .bool (isSp s)] := by
  have hl := hb.1
  have hk := hw.1
  have hrl : (List.replicate 16 (0 : Int)).length = 16 := by simp
  refine spec_l03Value_f.f ?_
  have g1 := c_spec_l01Face hb hw hn
  have g2 := c_spec_l01Same hn
  change PSpec _ _ _ (fun v => v = .agg (vi .u8 (sameP n))) at g2
  have fl := (backP_lo (p := thenP b w n) hn)
  change lo16 (faceP b w n) at fl
  have fl1 := fl.1
  have sl := sameP_lo hn
  have sl1 := sl.1
  unfold vD at g1 ⊢
  simp (config := { maxSteps := 10000000 }) (disch := first | omega | (simp only [List.length_append, List.length_cons, List.length_nil, List.length_replicate, List.length_set, List.length_take, List.length_drop, vi_len, vb_len, vo_len, vl_len, vn_len]; omega)) only [↓EC, EV, EL, E2, E3, ER, seval, ↓reduceIte, false_imp_iff, spec_l03Value_F, hl, hk]
  (refine Split.mk (fun h => ?_) (fun h => ?_) <;> (try simp only [decide_eq_true_eq, decide_eq_false_iff_not, beq_iff_eq, bne_iff_ne, beq_eq_false_iff_ne, bne_eq_false_iff_eq, Bool.not_eq_true', Bool.not_eq_false', Bool.and_eq_true, Bool.or_eq_true, Bool.and_eq_false_iff, Bool.or_eq_false_iff, Int.not_lt, Int.not_le, Bool.false_eq_true, Bool.true_eq_false, false_and, and_false, true_and, and_true, or_false, false_or, or_true, true_or, not_true_eq_false, not_false_eq_true] at h))
  · (try simp (disch := first | omega | (simp only [List.length_append, List.length_cons, List.length_nil, List.length_replicate, List.length_set, List.length_take, List.length_drop, vi_len, vb_len, vo_len, vl_len, vn_len]; omega)) only [↓EC, EV, EL, E2, E3, ER, seval, ↓reduceIte, false_imp_iff, setV_vv])
    refine ⟨List.replicate 16 0, hrl, ?_⟩
    have : isSp s = false := by
      unfold isSp; rw [decide_eq_false_iff_not]; intro h'; omega
    rw [this]; rfl
  · (try simp (disch := first | omega | (simp only [List.length_append, List.length_cons, List.length_nil, List.length_replicate, List.length_set, List.length_take, List.length_drop, vi_len, vb_len, vo_len, vl_len, vn_len]; omega)) only [↓EC, EV, EL, E2, E3, ER, seval, ↓reduceIte, false_imp_iff, hl, hk])
    refine pcd_v g1 ?_
    (try simp (disch := first | omega | (simp only [List.length_append, List.length_cons, List.length_nil, List.length_replicate, List.length_set, List.length_take, List.length_drop, vi_len, vb_len, vo_len, vl_len, vn_len]; omega)) only [↓EC, EV, EL, E2, E3, ER, seval, ↓reduceIte, false_imp_iff, hl, hk, fl1])
    refine pcd_v g2 ?_
    (try simp (disch := first | omega | (simp only [List.length_append, List.length_cons, List.length_nil, List.length_replicate, List.length_set, List.length_take, List.length_drop, vi_len, vb_len, vo_len, vl_len, vn_len]; omega)) only [↓EC, EV, EL, E2, E3, ER, seval, ↓reduceIte, false_imp_iff, hl, hk, fl1, sl1, setV_vv])
    generalize sameP n = q0 at *
    refine LP_of (σ := Nat × List Int) 100000 [(66, 30, 1), (68, 28, 1), (71, 28, 1), (72, 28, 1)] (fun t => [.int .i64 t.1])
      (fun t => [.int .i64 n :: vi .u8 (b ++ w), vi .u8 (List.replicate 16 0), vi .u8 (faceP b w n), vi .u8 t.2])
      (fun t => t.1 ≤ s.length ∧ lo16 t.2 ∧ ∀ j, j < t.1 → sprt (gi (ub s) j)) (fun t => s.length - t.1) (0, q0) (by simp [frameOk, names, lpz, sclp, scv, scvs, vi_nrf, vb_nrf, vt_nrf, v2_nrf, v3_nrf, nrfs, nrf, sc_vi, sc_vb, sc_vt, sc_v2, sc_v3, sc_vo, sc_vl, vo_nrf, vl_nrf, sc_vn, vn_nrf]) ⟨Nat.zero_le _, sl, fun j hj => absurd hj (Nat.not_lt_zero j)⟩ ?_ ?_
    · simp (disch := first | omega | (simp only [List.length_append, List.length_cons, List.length_nil, List.length_replicate, List.length_set, List.length_take, List.length_drop, vi_len, vb_len, vo_len, vl_len, vn_len]; omega)) only [↓EC, EV, EL, E2, E3, ER, seval, ↓reduceIte, false_imp_iff, ColV_def]
    · rintro ⟨i, q⟩ ⟨h1, h2, h3⟩
      simp only at h1 h2 h3
      have hql := h2.1
      simp (disch := first | omega | (simp only [List.length_append, List.length_cons, List.length_nil, List.length_replicate, List.length_set, List.length_take, List.length_drop, vi_len, vb_len, vo_len, vl_len, vn_len]; omega)) only [↓EC, EV, EL, E2, E3, ER, seval, ↓reduceIte, false_imp_iff, ColV_def, lheap_def]
      (refine Split.mk (fun h => ?_) (fun h => ?_) <;> (try simp only [decide_eq_true_eq, decide_eq_false_iff_not, beq_iff_eq, bne_iff_ne, beq_eq_false_iff_ne, bne_eq_false_iff_eq, Bool.not_eq_true', Bool.not_eq_false', Bool.and_eq_true, Bool.or_eq_true, Bool.and_eq_false_iff, Bool.or_eq_false_iff, Int.not_lt, Int.not_le, Bool.false_eq_true, Bool.true_eq_false, false_and, and_false, true_and, and_true, or_false, false_or, or_true, true_or, not_true_eq_false, not_false_eq_true] at h))
      · have hstep : sprt (gi (ub s) i) → ∀ j, j < i + 1 → sprt (gi (ub s) j) := fun h j hj => by
          by_cases e : j = i
          · subst e; exact h
          · exact h3 j (by omega)
        have key : ∀ p : List Int, lo16 p → PSpec Tryd.prog 58 [.agg (vi .u8 q), .agg (vi .u8 p), .int .i64 n] fun v => v = .agg (vi .u8 (thenP q p n)) := fun p hp => c_spec_l01Then h2 hp hn
        have keyb : ∀ p : List Int, lo16 p → PSpec Tryd.prog 33 [.agg (vi .u8 p), .int .i64 n] fun v => v = .agg (vi .u8 (backP p n)) := fun p hp => c_spec_l01Back hp hn
        have bl : ∀ p : List Int, (backP p n).length = 16 := fun p => (backP_lo (p := p) hn).1
        have tl : ∀ p : List Int, lo16 p → lo16 (thenP q p n) := fun p hp => thenP_lo h2 hp hn
        have tl1 : ∀ p : List Int, lo16 p → (thenP q p n).length = 16 := fun p hp => (tl p hp).1
        have t1 := tl1 _ hb
        have t2 := tl1 _ hw
        have t3 := tl1 _ fl
        have t4 := tl1 _ (backP_lo (p := b) hn)
        have t5 := tl1 _ (backP_lo (p := w) hn)
        have t6 := tl1 _ (backP_lo (p := faceP b w n) hn)
        have u1 := bl b
        have u2 := bl w
        have u3 := bl (faceP b w n)
        by_cases e1 : gi (ub s) i = 98
        · (try simp (disch := first | omega | (simp only [List.length_append, List.length_cons, List.length_nil, List.length_replicate, List.length_set, List.length_take, List.length_drop, vi_len, vb_len, vo_len, vl_len, vn_len]; omega)) only [↓EC, EV, EL, E2, E3, ER, seval, ↓reduceIte, false_imp_iff, EB, hl, hk, hql, fl1, t1, t2, t3, t4, t5, t6, u1, u2, u3, e1, setV_vv])
          refine pcd_v (key _ hb) ?_
          (try simp (disch := first | omega | (simp only [List.length_append, List.length_cons, List.length_nil, List.length_replicate, List.length_set, List.length_take, List.length_drop, vi_len, vb_len, vo_len, vl_len, vn_len]; omega)) only [↓EC, EV, EL, E2, E3, ER, seval, ↓reduceIte, false_imp_iff, EB, hl, hk, hql, fl1, t1, t2, t3, t4, t5, t6, u1, u2, u3, setV_vv])
          exact ⟨(i + 1, thenP q b n), rfl, rfl, ⟨by simp only; omega, tl _ hb, hstep (by rw [e1]; decide)⟩, by simp only; omega⟩
        by_cases e2 : gi (ub s) i = 66
        · (try simp (disch := first | omega | (simp only [List.length_append, List.length_cons, List.length_nil, List.length_replicate, List.length_set, List.length_take, List.length_drop, vi_len, vb_len, vo_len, vl_len, vn_len]; omega)) only [↓EC, EV, EL, E2, E3, ER, seval, ↓reduceIte, false_imp_iff, EB, hl, hk, hql, fl1, t1, t2, t3, t4, t5, t6, u1, u2, u3, e2, setV_vv])
          refine pcd_v (keyb _ hb) ?_
          (try simp (disch := first | omega | (simp only [List.length_append, List.length_cons, List.length_nil, List.length_replicate, List.length_set, List.length_take, List.length_drop, vi_len, vb_len, vo_len, vl_len, vn_len]; omega)) only [↓EC, EV, EL, E2, E3, ER, seval, ↓reduceIte, false_imp_iff, EB, hl, hk, hql, fl1, t1, t2, t3, t4, t5, t6, u1, u2, u3, setV_vv])
          refine pcd_v (key _ (backP_lo hn)) ?_
          (try simp (disch := first | omega | (simp only [List.length_append, List.length_cons, List.length_nil, List.length_replicate, List.length_set, List.length_take, List.length_drop, vi_len, vb_len, vo_len, vl_len, vn_len]; omega)) only [↓EC, EV, EL, E2, E3, ER, seval, ↓reduceIte, false_imp_iff, EB, hl, hk, hql, fl1, t1, t2, t3, t4, t5, t6, u1, u2, u3, setV_vv])
          exact ⟨(i + 1, thenP q (backP b n) n), rfl, rfl, ⟨by simp only; omega, tl _ (backP_lo hn), hstep (by rw [e2]; decide)⟩, by simp only; omega⟩
        by_cases e3 : gi (ub s) i = 119
        · (try simp (disch := first | omega | (simp only [List.length_append, List.length_cons, List.length_nil, List.length_replicate, List.length_set, List.length_take, List.length_drop, vi_len, vb_len, vo_len, vl_len, vn_len]; omega)) only [↓EC, EV, EL, E2, E3, ER, seval, ↓reduceIte, false_imp_iff, EB, hl, hk, hql, fl1, t1, t2, t3, t4, t5, t6, u1, u2, u3, e3, setV_vv])
          refine pcd_v (key _ hw) ?_
          (try simp (disch := first | omega | (simp only [List.length_append, List.length_cons, List.length_nil, List.length_replicate, List.length_set, List.length_take, List.length_drop, vi_len, vb_len, vo_len, vl_len, vn_len]; omega)) only [↓EC, EV, EL, E2, E3, ER, seval, ↓reduceIte, false_imp_iff, EB, hl, hk, hql, fl1, t1, t2, t3, t4, t5, t6, u1, u2, u3, setV_vv])
          exact ⟨(i + 1, thenP q w n), rfl, rfl, ⟨by simp only; omega, tl _ hw, hstep (by rw [e3]; decide)⟩, by simp only; omega⟩
        by_cases e4 : gi (ub s) i = 87
        · (try simp (disch := first | omega | (simp only [List.length_append, List.length_cons, List.length_nil, List.length_replicate, List.length_set, List.length_take, List.length_drop, vi_len, vb_len, vo_len, vl_len, vn_len]; omega)) only [↓EC, EV, EL, E2, E3, ER, seval, ↓reduceIte, false_imp_iff, EB, hl, hk, hql, fl1, t1, t2, t3, t4, t5, t6, u1, u2, u3, e4, setV_vv])
          refine pcd_v (keyb _ hw) ?_
          (try simp (disch := first | omega | (simp only [List.length_append, List.length_cons, List.length_nil, List.length_replicate, List.length_set, List.length_take, List.length_drop, vi_len, vb_len, vo_len, vl_len, vn_len]; omega)) only [↓EC, EV, EL, E2, E3, ER, seval, ↓reduceIte, false_imp_iff, EB, hl, hk, hql, fl1, t1, t2, t3, t4, t5, t6, u1, u2, u3, setV_vv])
          refine pcd_v (key _ (backP_lo hn)) ?_
          (try simp (disch := first | omega | (simp only [List.length_append, List.length_cons, List.length_nil, List.length_replicate, List.length_set, List.length_take, List.length_drop, vi_len, vb_len, vo_len, vl_len, vn_len]; omega)) only [↓EC, EV, EL, E2, E3, ER, seval, ↓reduceIte, false_imp_iff, EB, hl, hk, hql, fl1, t1, t2, t3, t4, t5, t6, u1, u2, u3, setV_vv])
          exact ⟨(i + 1, thenP q (backP w n) n), rfl, rfl, ⟨by simp only; omega, tl _ (backP_lo hn), hstep (by rw [e4]; decide)⟩, by simp only; omega⟩
        by_cases e5 : gi (ub s) i = 102
        · (try simp (disch := first | omega | (simp only [List.length_append, List.length_cons, List.length_nil, List.length_replicate, List.length_set, List.length_take, List.length_drop, vi_len, vb_len, vo_len, vl_len, vn_len]; omega)) only [↓EC, EV, EL, E2, E3, ER, seval, ↓reduceIte, false_imp_iff, EB, hl, hk, hql, fl1, t1, t2, t3, t4, t5, t6, u1, u2, u3, e5, setV_vv])
          refine pcd_v (key _ fl) ?_
          (try simp (disch := first | omega | (simp only [List.length_append, List.length_cons, List.length_nil, List.length_replicate, List.length_set, List.length_take, List.length_drop, vi_len, vb_len, vo_len, vl_len, vn_len]; omega)) only [↓EC, EV, EL, E2, E3, ER, seval, ↓reduceIte, false_imp_iff, EB, hl, hk, hql, fl1, t1, t2, t3, t4, t5, t6, u1, u2, u3, setV_vv])
          exact ⟨(i + 1, thenP q (faceP b w n) n), rfl, rfl, ⟨by simp only; omega, tl _ fl, hstep (by rw [e5]; decide)⟩, by simp only; omega⟩
        by_cases e6 : gi (ub s) i = 70
        · (try simp (disch := first | omega | (simp only [List.length_append, List.length_cons, List.length_nil, List.length_replicate, List.length_set, List.length_take, List.length_drop, vi_len, vb_len, vo_len, vl_len, vn_len]; omega)) only [↓EC, EV, EL, E2, E3, ER, seval, ↓reduceIte, false_imp_iff, EB, hl, hk, hql, fl1, t1, t2, t3, t4, t5, t6, u1, u2, u3, e6, setV_vv])
          refine pcd_v (keyb _ fl) ?_
          (try simp (disch := first | omega | (simp only [List.length_append, List.length_cons, List.length_nil, List.length_replicate, List.length_set, List.length_take, List.length_drop, vi_len, vb_len, vo_len, vl_len, vn_len]; omega)) only [↓EC, EV, EL, E2, E3, ER, seval, ↓reduceIte, false_imp_iff, EB, hl, hk, hql, fl1, t1, t2, t3, t4, t5, t6, u1, u2, u3, setV_vv])
          refine pcd_v (key _ (backP_lo hn)) ?_
          (try simp (disch := first | omega | (simp only [List.length_append, List.length_cons, List.length_nil, List.length_replicate, List.length_set, List.length_take, List.length_drop, vi_len, vb_len, vo_len, vl_len, vn_len]; omega)) only [↓EC, EV, EL, E2, E3, ER, seval, ↓reduceIte, false_imp_iff, EB, hl, hk, hql, fl1, t1, t2, t3, t4, t5, t6, u1, u2, u3, setV_vv])
          exact ⟨(i + 1, thenP q (backP (faceP b w n) n) n), rfl, rfl, ⟨by simp only; omega, tl _ (backP_lo hn), hstep (by rw [e6]; decide)⟩, by simp only; omega⟩
        · have hno : isSp s = false := by
            unfold isSp; rw [decide_eq_false_iff_not]
            rintro ⟨_, h'⟩
            have := sprt_iff.1 h' i (by omega)
            unfold sprt at this
            omega
          (try simp (disch := first | omega | (simp only [List.length_append, List.length_cons, List.length_nil, List.length_replicate, List.length_set, List.length_take, List.length_drop, vi_len, vb_len, vo_len, vl_len, vn_len]; omega)) only [↓EC, EV, EL, E2, E3, ER, seval, ↓reduceIte, false_imp_iff, EB, hl, hk, hql, fl1, t1, t2, t3, t4, t5, t6, u1, u2, u3, e1, e2, e3, e4, e5, e6, setV_vv])
          repeat' first
            | (refine Split.mk (fun h => ?_) (fun h => ?_) <;> (try simp only [decide_eq_true_eq, decide_eq_false_iff_not, beq_iff_eq, bne_iff_ne, beq_eq_false_iff_ne, bne_eq_false_iff_eq, Bool.not_eq_true', Bool.not_eq_false', Bool.and_eq_true, Bool.or_eq_true, Bool.and_eq_false_iff, Bool.or_eq_false_iff, Int.not_lt, Int.not_le, Bool.false_eq_true, Bool.true_eq_false, false_and, and_false, true_and, and_true, or_false, false_or, or_true, true_or, not_true_eq_false, not_false_eq_true] at h))
            | omega
            | contradiction
          all_goals ((try simp (disch := first | omega | (simp only [List.length_append, List.length_cons, List.length_nil, List.length_replicate, List.length_set, List.length_take, List.length_drop, vi_len, vb_len, vo_len, vl_len, vn_len]; omega)) only [↓EC, EV, EL, E2, E3, ER, seval, ↓reduceIte, false_imp_iff, EB, hl, hk, hql, fl1, t1, t2, t3, t4, t5, t6, u1, u2, u3, e1, e2, e3, e4, e5, e6, setV_vv]))
          all_goals first | omega | exact ⟨List.replicate 16 0, hrl, by rw [hno]; rfl⟩ | trace_state
      · (try simp (disch := first | omega | (simp only [List.length_append, List.length_cons, List.length_nil, List.length_replicate, List.length_set, List.length_take, List.length_drop, vi_len, vb_len, vo_len, vl_len, vn_len]; omega)) only [↓EC, EV, EL, E2, E3, ER, seval, ↓reduceIte, false_imp_iff, hql, setV_vv])
        have hyes : isSp s = true := by
          unfold isSp; rw [decide_eq_true_eq]
          exact ⟨by omega, sprt_iff.2 fun j hj => h3 j (by omega)⟩
        exact ⟨q, hql, by rw [hyes]⟩
end Go.Proofs.YtjcllfkkjagomaaDoor.Sep
